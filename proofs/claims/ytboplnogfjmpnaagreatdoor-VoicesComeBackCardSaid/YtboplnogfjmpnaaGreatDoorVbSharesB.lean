/- Shares of a right bill, by tour. Conditions: it is right; the table of the powers of ten stands. -/
import Derived.Test.YtboplnogfjmpnaaGreatDoorVbSharesA
import Derived.Test.YtboplnogfjmpnaaGreatDoorVbNameA
import Derived.Test.YtboplnogfjmpnaaGreatDoorVbApp
set_option linter.unusedSimpArgs false
set_option linter.unusedVariables false
namespace Go.Proofs.YtboplnogfjmpnaaGreatDoor
open Go Go.RowKit

def shareN (c n i : Nat) : Nat := c / n + if i < c % n then 1 else 0
theorem shareN_le (c n i : Nat) : shareN c n i ≤ c + 1 := by
  unfold shareN
  have := Nat.div_le_self c n
  split <;> omega

set_option maxRecDepth 100000 in
theorem share_any (id by_ : ByteArray) (at_ : Int) (c : Nat) (p : Option Addr) (n cap i : Nat) (w : World) (hc : c ≤ 100000000) (hn : 1 ≤ n) (hn' : n ≤ 1000) (hi : i ≤ 1000) :
    Calls Tryz.prog 73 #[.agg #[.string id, .string by_, .int .i64 at_, .int .i64 c, .slice p n cap], .int .i64 i] w fun e w' => e = .returned (.int .i64 (shareN c n i : Nat)) ∧ Ext w w' := by
  have hdv : (c : Int).tdiv n = ((c / n : Nat) : Int) := (Int.ofNat_tdiv c n).symm
  have hmo : (c : Int).tmod n = ((c % n : Nat) : Int) := (Int.ofNat_tmod c n).symm
  have hS : shareN c n i = c / n + if i < c % n then 1 else 0 := rfl
  have hdl := Nat.div_le_self c n
  have hml := Nat.mod_le c n
  obtain ⟨q, hq⟩ : ∃ q, c / n = q := ⟨_, rfl⟩
  obtain ⟨r, hr⟩ : ∃ r, c % n = r := ⟨_, rfl⟩
  rw [hq] at hdv hdl hS
  rw [hr] at hmo hml hS
  replace hS := Lib.hid hS
  clear hq hr
  go_enter Tryz.func73, Tryz.ntmps73
  go_wp2
  all_goals
    go_ret
    exact ⟨ret_int (by rw [hS.out]; first | (rw [if_pos (by assumption)]; simp) | (rw [if_neg (by omega)]; simp)), by (repeat (with_reducible first | assumption | exact Ext.refl _ | refine Ext.drew ?_ | refine Ext.alloc ?_ _ | refine Ext.setCell ?_ (by simp <;> omega) _ | refine Ext.trans ?_ (by assumption)))⟩

def pairC (x : ByteArray × ByteArray) : List Value := [.string x.1, .string x.2]
theorem pairC_len (x : ByteArray × ByteArray) : (pairC x).length = 2 := rfl
def itoaB (n : Int) : ByteArray := ⟨(Lib.itoa n).toArray⟩
def shareP (c n : Nat) (s : ByteArray) (i : Nat) : ByteArray × ByteArray := (s, itoaB (shareN c n i : Nat))
def sharesL (c : Nat) (ls : List ByteArray) : List (ByteArray × ByteArray) := ls.zipIdx.map fun x => shareP c ls.length x.1 x.2
theorem sharesL_at {c : Nat} {ls : List ByteArray} {i : Nat} {s : ByteArray} (h : ls[i]? = some s) : (sharesL c ls)[i]? = some (shareP c ls.length s i) := by
  unfold sharesL
  rw [List.getElem?_map, List.getElem?_zipIdx, h]
  simp
theorem pair_one (x : ByteArray × ByteArray) : ∀ u ∈ pairC x, u.oneCell' = true := by simp [pairC, Value.oneCell']
theorem pairInfo : (Tryz.prog.info? 84).map (fun i => (i.zero, i.size, i.bytes)) = some (some (.agg #[.string ⟨#[]⟩, .string ⟨#[]⟩]), 2, 32) := by kernel_rfl

set_option maxRecDepth 100000 in
set_option maxHeartbeats 1600000 in
theorem shares_ok (x : Paid) (ls : List ByteArray) (B c : Nat) (w : World) (ht : Tab B w) (hc : x.cents = c) (hR : x.Right ls) (hL : Sl 1 strC w x.p x.n ls) :
    Calls Tryz.prog 41 #[.agg #[.string x.id, .string x.by_, .int .i64 x.at_, .int .i64 x.cents, .slice x.p x.n x.c]] w fun e w' =>
      ∃ p' c', e = .returned (.tuple #[.slice p' x.n c', .int .i64 0]) ∧ Sl 2 pairC w' p' x.n (sharesL c ls) ∧ Ext w w' := by
  have hcr := hR.cents
  have hct : 1 ≤ c ∧ c ≤ 100000000 := by
    unfold outB at hcr
    rw [hc] at hcr
    simp at hcr
    omega
  have hfor := hR.for_
  have hl := hL.1
  have hn0 : x.n ≠ 0 := by
    intro h0
    unfold forF at hfor
    rw [if_pos (by omega)] at hfor
    cases hfor
  have hn1 : x.n ≤ 200 := by
    unfold forF at hfor
    rw [if_neg (by omega)] at hfor
    by_cases h : 200 < ls.length
    · rw [if_pos h] at hfor; cases hfor
    · omega
  clear hfor hcr
  obtain ⟨b, off, hp, hb, hE⟩ := hL.2.2 hn0
  have hchk := fun (b cap : Nat) (w' : World) (hB : Blk w' b 82 x.cells) (he : Ext w w') => checkPaid1_ok b cap x ls w' hB hR (hL.ext he)
  unfold Paid.cells at hchk
  obtain ⟨id, by_, at_, cents, p, n, cap⟩ := x
  simp only at hc hl hn0 hn1 hchk hp ⊢
  subst hc
  subst hp
  clear hR hL
  replace hchk := Lib.hid hchk
  replace hl := Lib.hid hl
  go_enter Tryz.func41, Tryz.ntmps41
  go_wp2_with (go_at_call 72; (with_reducible refine Calls.mono (hchk.out _ _ _ (by exact Blk.new' (by simp)) (by exact ((Ext.refl _).alloc _).alloc _)) ?_); rintro e w1 ⟨rfl, hb1⟩; have hX : Blk w1 w.heap.size 82 #[.string id, .string by_, .int .i64 at_, .int .i64 c, .slice (some ⟨b, off, none⟩) n cap] := (by exact Blk.ext (Blk.alloc (Blk.new' rfl) _) hb1); have he1 : Ext w w1 := (by exact ((Ext.refl _).alloc _).alloc _ |>.trans hb1); obtain ⟨s1, f1⟩ := hX.walk)
  clear s1 f1 hb1 hchk
  have hlen : ls.zipIdx.length = n := by rw [List.length_zipIdx]; exact hl.out
  go_loopw [5, 17] (fun v i wr => ∃ k : Nat, k ≤ n ∧ i = .int .i64 k ∧ wr.ownsRow (w.heap.size + 1) 84 2 v k (((sharesL c ls).take k).flatMap pairC) ∧ Blk wr w.heap.size 82 #[.string id, .string by_, .int .i64 at_, .int .i64 c, .slice (some ⟨b, off, none⟩) n cap] ∧ Ext w wr) (fun _ i _ => n - (intOf i).toNat)
  case atStart => exact ⟨0, Nat.zero_le _, rfl, by simpa using World.ownsRow_nil _ _ _ _, hX, he1⟩
  case round =>
    clear hX he1
    obtain ⟨k, hk, rfl, hown, hX, he⟩ := hrel
    have hbw := Nat.lt_of_lt_of_le hb he.size
    obtain ⟨s1, f1⟩ := hX.walk
    by_cases hlt : k < n
    · obtain ⟨s, hx⟩ := getD_some hl.out hlt
      have hcell := (hE.ext he hb).str hx
      replace hx := Lib.hid hx
      have hsh := shareN_le c n k
      go_wp2_with (first
        | (go_at_call 73; (with_reducible refine Calls.mono (share_any id by_ at_ c _ n cap k _ (by omega) (by omega) (by omega) (by omega)) ?_); rintro e w2 ⟨rfl, hb2⟩)
        | (go_at_call 31; (with_reducible refine Calls.mono (itoa_any (shareN c n k : Nat) (by omega) (by omega) B _ (ht.ext (he.trans hb2))) ?_); rintro e w3 ⟨rfl, hb3⟩; have hown3 := own_ext hb3 (own_ext hb2 hown); have he3 := (he.trans hb2).trans hb3; have hX3 := (hX.ext hb2).ext hb3; clear hb2 hb3 hown he hX s1 f1)
        | (at_builtin; go_loud (refine wp_app1 _ (.tmp 22) (.tmp 29) 78 84 2 32 _ rfl rfl Tryz.underlying78 pairInfo rfl (by decide) (by decide) (w.heap.size + 1) _ k _ rfl (hown3.alloc _) w3.heap.size (pairC (shareP c n s k)) rfl rfl (Blk.new' rfl) (pair_one _) (by omega) (by have := he3.size; simp; omega) ?_; intro v' w4 hown4 hgrow4 _)))
      go_roundw
      case rel => exact ⟨k + 1, by omega, by go_num, by rw [take_snocL (sharesL_at hx.out), flat_snoc, hl.out]; exact hown4, (hX3.alloc _).app (hown3.alloc _) (by omega) hgrow4, (he3.alloc _).app (hown3.alloc _) (by omega) hgrow4⟩
      case measure => simp [intOf]; omega
    · obtain rfl : k = n := by omega
      have hfull : (sharesL c ls).take k = sharesL c ls := List.take_of_length_le (by unfold sharesL; rw [List.length_map]; omega)
      rw [hfull] at hown
      obtain ⟨p', c', rfl, hS, -⟩ := sl_of_own pairC_len hown (by decide) (by omega)
      replace hS := Lib.hid hS
      go_wp2
      go_ret2
      exact ⟨p', c', rfl, hS.out, he⟩

end Go.Proofs.YtboplnogfjmpnaaGreatDoor
