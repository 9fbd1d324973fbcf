/- Shares of a right bill, by tour. Conditions: it is right; the table of the powers of ten stands. The facts that all properties ask: they hold. Conditions: the table of the powers of ten stands. The facts of the properties. Conditions: the table of the powers of ten stands. -/
import Derived.Test.YtjggcofjgeiapaaGreatDoorCwJ46
import Derived.Test.YtjggcofjgeiapaaGreatDoorCwJ14
import Derived.Test.YtjggcofjgeiapaaGreatDoorCwJ3
import Derived.Test.YtjggcofjgeiapaaGreatDoorCwJ4
set_option linter.unusedSimpArgs false
set_option linter.unusedVariables false
namespace Go.Proofs.YtjggcofjgeiapaaGreatDoor
open Go Go.RowKit

def shareN (c n i : Nat) : Nat := c / n + if i < c % n then 1 else 0
theorem shareN_le (c n i : Nat) : shareN c n i ≤ c + 1 := by
  unfold shareN
  have := Nat.div_le_self c n
  split <;> omega

set_option maxRecDepth 100000 in
theorem share_any (id by_ : ByteArray) (at_ : Int) (c : Nat) (p : Option Addr) (n cap i : Nat) (w : World) (hc : c ≤ 100000000) (hn : 1 ≤ n) (hn' : n ≤ 1000) (hi : i ≤ 1000) :
    Calls Tryz.prog 115 #[.agg #[.string id, .string by_, .int .i64 at_, .int .i64 c, .slice p n cap], .int .i64 i] w fun e w' => e = .returned (.int .i64 (shareN c n i : Nat)) ∧ Ext w w' := by
  have hdv : (c : Int).tdiv n = ((c / n : Nat) : Int) := (Int.ofNat_tdiv c n).symm
  have hmo : (c : Int).tmod n = ((c % n : Nat) : Int) := (Int.ofNat_tmod c n).symm
  have hS : shareN c n i = c / n + if i < c % n then 1 else 0 := rfl
  have hdl := Nat.div_le_self c n
  have hml := Nat.mod_le c n
  obtain ⟨q, hq⟩ : ∃ q, c / n = q := ⟨_, rfl⟩
  obtain ⟨r, hr⟩ : ∃ r, c % n = r := ⟨_, rfl⟩
  rw [hq] at hdv hdl hS
  rw [hr] at hmo hml hS
  replace hS := Lib.hid hS
  clear hq hr
  go_enter Tryz.func115, Tryz.ntmps115
  go_wp2
  all_goals
    go_ret
    exact ⟨ret_int (by rw [hS.out]; first | (rw [if_pos (by assumption)]; simp) | (rw [if_neg (by omega)]; simp)), by (repeat (with_reducible first | assumption | exact Ext.refl _ | refine Ext.drew ?_ | refine Ext.alloc ?_ _ | refine Ext.setCell ?_ (by simp <;> omega) _ | refine Ext.trans ?_ (by assumption)))⟩

def pairC (x : ByteArray × ByteArray) : List Value := [.string x.1, .string x.2]
theorem pairC_len (x : ByteArray × ByteArray) : (pairC x).length = 2 := rfl
def itoaB (n : Int) : ByteArray := ⟨(Lib.itoa n).toArray⟩
def shareP (c n : Nat) (s : ByteArray) (i : Nat) : ByteArray × ByteArray := (s, itoaB (shareN c n i : Nat))
def sharesL (c : Nat) (ls : List ByteArray) : List (ByteArray × ByteArray) := ls.zipIdx.map fun x => shareP c ls.length x.1 x.2
theorem sharesL_at {c : Nat} {ls : List ByteArray} {i : Nat} {s : ByteArray} (h : ls[i]? = some s) : (sharesL c ls)[i]? = some (shareP c ls.length s i) := by
  unfold sharesL
  rw [List.getElem?_map, List.getElem?_zipIdx, h]
  simp
theorem pair_one (x : ByteArray × ByteArray) : ∀ u ∈ pairC x, u.oneCell' = true := by simp [pairC, Value.oneCell']
theorem pairInfo : (Tryz.prog.info? 57).map (fun i => (i.zero, i.size, i.bytes)) = some (some (.agg #[.string ⟨#[]⟩, .string ⟨#[]⟩]), 2, 32) := by kernel_rfl

set_option maxRecDepth 100000 in
set_option maxHeartbeats 1600000 in
theorem shares_ok (x : Paid) (ls : List ByteArray) (B c : Nat) (w : World) (ht : Tab B w) (hc : x.cents = c) (hR : x.Right ls) (hL : Sl 1 strC w x.p x.n ls) :
    Calls Tryz.prog 54 #[.agg #[.string x.id, .string x.by_, .int .i64 x.at_, .int .i64 x.cents, .slice x.p x.n x.c]] w fun e w' =>
      ∃ p' c', e = .returned (.tuple #[.slice p' x.n c', .int .i64 0]) ∧ Sl 2 pairC w' p' x.n (sharesL c ls) ∧ Ext w w' := by
  have hcr := hR.cents
  have hct : 1 ≤ c ∧ c ≤ 100000000 := by
    unfold outB at hcr
    rw [hc] at hcr
    simp at hcr
    omega
  have hfor := hR.for_
  have hl := hL.1
  have hn0 : x.n ≠ 0 := by
    intro h0
    unfold forF at hfor
    rw [if_pos (by omega)] at hfor
    cases hfor
  have hn1 : x.n ≤ 200 := by
    unfold forF at hfor
    rw [if_neg (by omega)] at hfor
    by_cases h : 200 < ls.length
    · rw [if_pos h] at hfor; cases hfor
    · omega
  clear hfor hcr
  obtain ⟨b, off, hp, hb, hE⟩ := hL.2.2 hn0
  have hchk := fun (b cap : Nat) (w' : World) (hB : Blk w' b 100 x.cells) (he : Ext w w') => checkPaid1_ok b cap x ls w' hB hR (hL.ext he)
  unfold Paid.cells at hchk
  obtain ⟨id, by_, at_, cents, p, n, cap⟩ := x
  simp only at hc hl hn0 hn1 hchk hp ⊢
  subst hc
  subst hp
  clear hR hL
  replace hchk := Lib.hid hchk
  replace hl := Lib.hid hl
  go_enter Tryz.func54, Tryz.ntmps54
  go_wp2_with (go_at_call 114; (with_reducible refine Calls.mono (hchk.out _ _ _ (by exact Blk.new' (by simp)) (by exact ((Ext.refl _).alloc _).alloc _)) ?_); rintro e w1 ⟨rfl, hb1⟩; have hX : Blk w1 w.heap.size 100 #[.string id, .string by_, .int .i64 at_, .int .i64 c, .slice (some ⟨b, off, none⟩) n cap] := (by exact Blk.ext (Blk.alloc (Blk.new' rfl) _) hb1); have he1 : Ext w w1 := (by exact ((Ext.refl _).alloc _).alloc _ |>.trans hb1); obtain ⟨s1, f1⟩ := hX.walk)
  clear s1 f1 hb1 hchk
  have hlen : ls.zipIdx.length = n := by rw [List.length_zipIdx]; exact hl.out
  go_loopw [5, 17] (fun v i wr => ∃ k : Nat, k ≤ n ∧ i = .int .i64 k ∧ wr.ownsRow (w.heap.size + 1) 57 2 v k (((sharesL c ls).take k).flatMap pairC) ∧ Blk wr w.heap.size 100 #[.string id, .string by_, .int .i64 at_, .int .i64 c, .slice (some ⟨b, off, none⟩) n cap] ∧ Ext w wr) (fun _ i _ => n - (intOf i).toNat)
  case atStart => exact ⟨0, Nat.zero_le _, rfl, by simpa using World.ownsRow_nil _ _ _ _, hX, he1⟩
  case round =>
    clear hX he1
    obtain ⟨k, hk, rfl, hown, hX, he⟩ := hrel
    have hbw := Nat.lt_of_lt_of_le hb he.size
    obtain ⟨s1, f1⟩ := hX.walk
    by_cases hlt : k < n
    · obtain ⟨s, hx⟩ := getD_some hl.out hlt
      have hcell := (hE.ext he hb).str hx
      replace hx := Lib.hid hx
      have hsh := shareN_le c n k
      go_wp2_with (first
        | (go_at_call 115; (with_reducible refine Calls.mono (share_any id by_ at_ c _ n cap k _ (by omega) (by omega) (by omega) (by omega)) ?_); rintro e w2 ⟨rfl, hb2⟩)
        | (go_at_call 63; (with_reducible refine Calls.mono (itoa_any (shareN c n k : Nat) (by omega) (by omega) B _ (ht.ext (he.trans hb2))) ?_); rintro e w3 ⟨rfl, hb3⟩; have hown3 := own_ext hb3 (own_ext hb2 hown); have he3 := (he.trans hb2).trans hb3; have hX3 := (hX.ext hb2).ext hb3; clear hb2 hb3 hown he hX s1 f1)
        | (at_builtin; go_loud (refine wp_app1 _ (.tmp 22) (.tmp 29) 51 57 2 32 _ rfl rfl Tryz.underlying51 pairInfo rfl (by decide) (by decide) (w.heap.size + 1) _ k _ rfl (hown3.alloc _) w3.heap.size (pairC (shareP c n s k)) rfl rfl (Blk.new' rfl) (pair_one _) (by omega) (by have := he3.size; simp; omega) ?_; intro v' w4 hown4 hgrow4 _)))
      go_roundw
      case rel => exact ⟨k + 1, by omega, by go_num, by rw [take_snocL (sharesL_at hx.out), flat_snoc, hl.out]; exact hown4, (hX3.alloc _).app (hown3.alloc _) (by omega) hgrow4, (he3.alloc _).app (hown3.alloc _) (by omega) hgrow4⟩
      case measure => simp [intOf]; omega
    · obtain rfl : k = n := by omega
      have hfull : (sharesL c ls).take k = sharesL c ls := List.take_of_length_le (by unfold sharesL; rw [List.length_map]; omega)
      rw [hfull] at hown
      obtain ⟨p', c', rfl, hS, -⟩ := sl_of_own pairC_len hown (by decide) (by omega)
      replace hS := Lib.hid hS
      go_wp2
      go_ret2
      exact ⟨p', c', rfl, hS.out, he⟩

end Go.Proofs.YtjggcofjgeiapaaGreatDoor

namespace Go.Proofs.YtjggcofjgeiapaaGreatDoor
open Go Go.RowKit

theorem comfort_closed (w : World) :
    Calls Tryz.prog 52 #[.agg #[.int .i64 48, .int .i64 67], .agg #[.int .i64 50, .int .i64 64]] w fun e w' => e = .returned (.tuple #[.int .i64 2, .bool true, .int .i64 0]) ∧ Ext w w' :=
  (Comfort_any 48 67 50 64 w).mono fun e w' h => ⟨h.1.trans rfl, h.2⟩

def bB : ByteArray := ⟨#[98]⟩
def aB : ByteArray := ⟨#[97]⟩
def abcL : List ByteArray := [⟨#[97]⟩, ⟨#[98]⟩, ⟨#[99]⟩]
theorem abc_for : forF abcL = 0 := by kernel_rfl
theorem shares_abc : (sharesL 100 abcL)[0]? = some (aB, ⟨#[51, 52]⟩) := by kernel_rfl
theorem shares_closed (g B : Nat) (w : World) (ht : Tab B w) (hB : Blk w g 9 #[.string ⟨#[97]⟩, .string ⟨#[98]⟩, .string ⟨#[99]⟩]) :
    Calls Tryz.prog 54 #[.agg #[.string ⟨#[98]⟩, .string ⟨#[97]⟩, .int .i64 0, .int .i64 100, .slice (some ⟨g, 0, none⟩) 3 3]] w fun e w' =>
      ∃ b off c', e = .returned (.tuple #[.slice (some ⟨b, off, none⟩) 3 c', .int .i64 0]) ∧ b < w'.heap.size ∧ w'.cell? ⟨b, off, none⟩ = some (.string ⟨#[97]⟩) ∧ w'.cell? ⟨b, off + 1, none⟩ = some (.string ⟨#[51, 52]⟩) ∧ Ext w w' := by
  have hR : Paid.Right ⟨bB, aB, 0, (100 : Nat), some ⟨g, 0, none⟩, 3, 3⟩ abcL :=
    ⟨(show keyB bB = true by kernel_rfl), (show keyB aB = true by kernel_rfl), (show bB.size ≤ 1000000000 by decide), (show aB.size ≤ 1000000000 by decide), (show outB 0 0 345686399999 = false by decide), (show outB 100 1 100000000 = false by decide), abc_for, fun i s h => by
      have : s ∈ abcL := List.mem_of_getElem? h
      simp [abcL] at this
      rcases this with rfl | rfl | rfl <;> decide⟩
  have hL : Sl 1 strC w (some ⟨g, 0, none⟩) 3 abcL := ⟨rfl, by decide, fun _ => ⟨g, 0, rfl, hB.lt, fun i x hx j v hv => by
    have hj : j = 0 := by
      have := (List.getElem?_eq_some_iff.1 hv).1
      simp [strC] at this
      omega
    subst hj
    have hi : i < 3 := (List.getElem?_eq_some_iff.1 hx).1
    obtain rfl : v = .string x := by simpa [strC] using hv.symm
    rw [hB.cell]
    obtain rfl | rfl | rfl : i = 0 ∨ i = 1 ∨ i = 2 := by omega
    all_goals simp [abcL] at hx; subst hx; rfl⟩⟩
  refine (shares_ok ⟨bB, aB, 0, (100 : Nat), some ⟨g, 0, none⟩, 3, 3⟩ abcL B 100 w ht rfl hR hL).mono fun e w' h => ?_
  obtain ⟨p, c, rfl, hS, he⟩ := h
  obtain ⟨b, off, rfl, hb, hE⟩ := hS.2.2 (show 3 ≠ 0 by decide)
  have h0 := hE 0 _ shares_abc 0 _ rfl
  have h1 := hE 0 _ shares_abc 1 _ rfl
  exact ⟨b, off, c, rfl, hb, (by simpa using h0 : w'.cell? ⟨b, off, none⟩ = some (.string aB)), by simpa using h1, he⟩

end Go.Proofs.YtjggcofjgeiapaaGreatDoor

namespace Go.Proofs.YtjggcofjgeiapaaGreatDoor
open Go Go.RowKit
set_option maxRecDepth 100000 in
theorem ready_any (B : Nat) (w : World) (ht : Tab B w) :
    Calls Tryz.prog 13 #[] w fun e w' => e = .returned (.bool true) ∧ Ext w w' := by
  go_enter Tryz.func13, Tryz.ntmps13
  go_wp2_with (first
    | (go_at_call 52; refine (comfort_closed _).mono ?_; rintro e w1 ⟨rfl, hb1⟩)
    | (go_at_call 53; refine (name61_any _).mono ?_; rintro e w2 ⟨rfl, hb2⟩; replace hb2 : Ext w w2 := (by exact hb1.trans hb2); clear hb1)
    | (go_at_call 54; refine (shares_closed _ B _ (by exact (ht.ext hb2).ext ((Ext.refl _).alloc _)) (by exact Blk.new' rfl)).mono ?_; rintro e w3 ⟨b, off, c, rfl, hlt, h0, h1, hb3⟩))
  go_ret
  exact ⟨rfl, by exact (hb2.alloc _).trans hb3⟩
end Go.Proofs.YtjggcofjgeiapaaGreatDoor
