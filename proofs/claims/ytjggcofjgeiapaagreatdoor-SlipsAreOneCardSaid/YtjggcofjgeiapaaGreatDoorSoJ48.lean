/- Shares of a right bill, by tour. Conditions: it is right; the table of the powers of ten stands. The facts that all properties ask: they hold. Conditions: the table of the powers of ten stands. The facts of the properties. Conditions: the table of the powers of ten stands. Slips that are merged in any order are one, and say the same: the property answers true. Conditions: the argument is a list of ints that lies in memory; the table of the powers of ten stands. -/
import Derived.Test.YtjggcofjgeiapaaGreatDoorSoJ47
import Derived.Test.YtjggcofjgeiapaaGreatDoorSoJ16
import Derived.Test.YtjggcofjgeiapaaGreatDoorSoJ4
import Derived.Test.YtjggcofjgeiapaaGreatDoorSoJ6
import Derived.Test.YtjggcofjgeiapaaGreatDoorSoMgC
import Derived.Test.YtjggcofjgeiapaaGreatDoorSoLbV
import Derived.Test.YtjggcofjgeiapaaGreatDoorSoLbS
import Derived.Test.YtjggcofjgeiapaaGreatDoorSoJ42
import Derived.Test.YtjggcofjgeiapaaGreatDoorSoJ28
set_option linter.unusedSimpArgs false
set_option linter.unusedVariables false
namespace Go.Proofs.YtjggcofjgeiapaaGreatDoor
open Go Go.RowKit

def shareN (c n i : Nat) : Nat := c / n + if i < c % n then 1 else 0
theorem shareN_le (c n i : Nat) : shareN c n i ≤ c + 1 := by
  unfold shareN
  have := Nat.div_le_self c n
  split <;> omega

set_option maxRecDepth 100000 in
theorem share_any (id by_ : ByteArray) (at_ : Int) (c : Nat) (p : Option Addr) (n cap i : Nat) (w : World) (hc : c ≤ 100000000) (hn : 1 ≤ n) (hn' : n ≤ 1000) (hi : i ≤ 1000) :
    Calls Tryz.prog 115 #[.agg #[.string id, .string by_, .int .i64 at_, .int .i64 c, .slice p n cap], .int .i64 i] w fun e w' => e = .returned (.int .i64 (shareN c n i : Nat)) ∧ Ext w w' := by
  have hdv : (c : Int).tdiv n = ((c / n : Nat) : Int) := (Int.ofNat_tdiv c n).symm
  have hmo : (c : Int).tmod n = ((c % n : Nat) : Int) := (Int.ofNat_tmod c n).symm
  have hS : shareN c n i = c / n + if i < c % n then 1 else 0 := rfl
  have hdl := Nat.div_le_self c n
  have hml := Nat.mod_le c n
  obtain ⟨q, hq⟩ : ∃ q, c / n = q := ⟨_, rfl⟩
  obtain ⟨r, hr⟩ : ∃ r, c % n = r := ⟨_, rfl⟩
  rw [hq] at hdv hdl hS
  rw [hr] at hmo hml hS
  replace hS := Lib.hid hS
  clear hq hr
  go_enter Tryz.func115, Tryz.ntmps115
  go_wp2
  all_goals
    go_ret
    exact ⟨ret_int (by rw [hS.out]; first | (rw [if_pos (by assumption)]; simp) | (rw [if_neg (by omega)]; simp)), by (repeat (with_reducible first | assumption | exact Ext.refl _ | refine Ext.drew ?_ | refine Ext.alloc ?_ _ | refine Ext.setCell ?_ (by simp <;> omega) _ | refine Ext.trans ?_ (by assumption)))⟩

def pairC (x : ByteArray × ByteArray) : List Value := [.string x.1, .string x.2]
theorem pairC_len (x : ByteArray × ByteArray) : (pairC x).length = 2 := rfl
def itoaB (n : Int) : ByteArray := ⟨(Lib.itoa n).toArray⟩
def shareP (c n : Nat) (s : ByteArray) (i : Nat) : ByteArray × ByteArray := (s, itoaB (shareN c n i : Nat))
def sharesL (c : Nat) (ls : List ByteArray) : List (ByteArray × ByteArray) := ls.zipIdx.map fun x => shareP c ls.length x.1 x.2
theorem sharesL_at {c : Nat} {ls : List ByteArray} {i : Nat} {s : ByteArray} (h : ls[i]? = some s) : (sharesL c ls)[i]? = some (shareP c ls.length s i) := by
  unfold sharesL
  rw [List.getElem?_map, List.getElem?_zipIdx, h]
  simp
theorem pair_one (x : ByteArray × ByteArray) : ∀ u ∈ pairC x, u.oneCell' = true := by simp [pairC, Value.oneCell']
theorem pairInfo : (Tryz.prog.info? 57).map (fun i => (i.zero, i.size, i.bytes)) = some (some (.agg #[.string ⟨#[]⟩, .string ⟨#[]⟩]), 2, 32) := by kernel_rfl

set_option maxRecDepth 100000 in
set_option maxHeartbeats 1600000 in
theorem shares_ok (x : Paid) (ls : List ByteArray) (B c : Nat) (w : World) (ht : Tab B w) (hc : x.cents = c) (hR : x.Right ls) (hL : Sl 1 strC w x.p x.n ls) :
    Calls Tryz.prog 54 #[.agg #[.string x.id, .string x.by_, .int .i64 x.at_, .int .i64 x.cents, .slice x.p x.n x.c]] w fun e w' =>
      ∃ p' c', e = .returned (.tuple #[.slice p' x.n c', .int .i64 0]) ∧ Sl 2 pairC w' p' x.n (sharesL c ls) ∧ Ext w w' := by
  have hcr := hR.cents
  have hct : 1 ≤ c ∧ c ≤ 100000000 := by
    unfold outB at hcr
    rw [hc] at hcr
    simp at hcr
    omega
  have hfor := hR.for_
  have hl := hL.1
  have hn0 : x.n ≠ 0 := by
    intro h0
    unfold forF at hfor
    rw [if_pos (by omega)] at hfor
    cases hfor
  have hn1 : x.n ≤ 200 := by
    unfold forF at hfor
    rw [if_neg (by omega)] at hfor
    by_cases h : 200 < ls.length
    · rw [if_pos h] at hfor; cases hfor
    · omega
  clear hfor hcr
  obtain ⟨b, off, hp, hb, hE⟩ := hL.2.2 hn0
  have hchk := fun (b cap : Nat) (w' : World) (hB : Blk w' b 100 x.cells) (he : Ext w w') => checkPaid1_ok b cap x ls w' hB hR (hL.ext he)
  unfold Paid.cells at hchk
  obtain ⟨id, by_, at_, cents, p, n, cap⟩ := x
  simp only at hc hl hn0 hn1 hchk hp ⊢
  subst hc
  subst hp
  clear hR hL
  replace hchk := Lib.hid hchk
  replace hl := Lib.hid hl
  go_enter Tryz.func54, Tryz.ntmps54
  go_wp2_with (go_at_call 114; (with_reducible refine Calls.mono (hchk.out _ _ _ (by exact Blk.new' (by simp)) (by exact ((Ext.refl _).alloc _).alloc _)) ?_); rintro e w1 ⟨rfl, hb1⟩; have hX : Blk w1 w.heap.size 100 #[.string id, .string by_, .int .i64 at_, .int .i64 c, .slice (some ⟨b, off, none⟩) n cap] := (by exact Blk.ext (Blk.alloc (Blk.new' rfl) _) hb1); have he1 : Ext w w1 := (by exact ((Ext.refl _).alloc _).alloc _ |>.trans hb1); obtain ⟨s1, f1⟩ := hX.walk)
  clear s1 f1 hb1 hchk
  have hlen : ls.zipIdx.length = n := by rw [List.length_zipIdx]; exact hl.out
  go_loopw [5, 17] (fun v i wr => ∃ k : Nat, k ≤ n ∧ i = .int .i64 k ∧ wr.ownsRow (w.heap.size + 1) 57 2 v k (((sharesL c ls).take k).flatMap pairC) ∧ Blk wr w.heap.size 100 #[.string id, .string by_, .int .i64 at_, .int .i64 c, .slice (some ⟨b, off, none⟩) n cap] ∧ Ext w wr) (fun _ i _ => n - (intOf i).toNat)
  case atStart => exact ⟨0, Nat.zero_le _, rfl, by simpa using World.ownsRow_nil _ _ _ _, hX, he1⟩
  case round =>
    clear hX he1
    obtain ⟨k, hk, rfl, hown, hX, he⟩ := hrel
    have hbw := Nat.lt_of_lt_of_le hb he.size
    obtain ⟨s1, f1⟩ := hX.walk
    by_cases hlt : k < n
    · obtain ⟨s, hx⟩ := getD_some hl.out hlt
      have hcell := (hE.ext he hb).str hx
      replace hx := Lib.hid hx
      have hsh := shareN_le c n k
      go_wp2_with (first
        | (go_at_call 115; (with_reducible refine Calls.mono (share_any id by_ at_ c _ n cap k _ (by omega) (by omega) (by omega) (by omega)) ?_); rintro e w2 ⟨rfl, hb2⟩)
        | (go_at_call 63; (with_reducible refine Calls.mono (itoa_any (shareN c n k : Nat) (by omega) (by omega) B _ (ht.ext (he.trans hb2))) ?_); rintro e w3 ⟨rfl, hb3⟩; have hown3 := own_ext hb3 (own_ext hb2 hown); have he3 := (he.trans hb2).trans hb3; have hX3 := (hX.ext hb2).ext hb3; clear hb2 hb3 hown he hX s1 f1)
        | (at_builtin; go_loud (refine wp_app1 _ (.tmp 22) (.tmp 29) 51 57 2 32 _ rfl rfl Tryz.underlying51 pairInfo rfl (by decide) (by decide) (w.heap.size + 1) _ k _ rfl (hown3.alloc _) w3.heap.size (pairC (shareP c n s k)) rfl rfl (Blk.new' rfl) (pair_one _) (by omega) (by have := he3.size; simp; omega) ?_; intro v' w4 hown4 hgrow4 _)))
      go_roundw
      case rel => exact ⟨k + 1, by omega, by go_num, by rw [take_snocL (sharesL_at hx.out), flat_snoc, hl.out]; exact hown4, (hX3.alloc _).app (hown3.alloc _) (by omega) hgrow4, (he3.alloc _).app (hown3.alloc _) (by omega) hgrow4⟩
      case measure => simp [intOf]; omega
    · obtain rfl : k = n := by omega
      have hfull : (sharesL c ls).take k = sharesL c ls := List.take_of_length_le (by unfold sharesL; rw [List.length_map]; omega)
      rw [hfull] at hown
      obtain ⟨p', c', rfl, hS, -⟩ := sl_of_own pairC_len hown (by decide) (by omega)
      replace hS := Lib.hid hS
      go_wp2
      go_ret2
      exact ⟨p', c', rfl, hS.out, he⟩

end Go.Proofs.YtjggcofjgeiapaaGreatDoor

namespace Go.Proofs.YtjggcofjgeiapaaGreatDoor
open Go Go.RowKit

theorem comfort_closed (w : World) :
    Calls Tryz.prog 52 #[.agg #[.int .i64 48, .int .i64 67], .agg #[.int .i64 50, .int .i64 64]] w fun e w' => e = .returned (.tuple #[.int .i64 2, .bool true, .int .i64 0]) ∧ Ext w w' :=
  (Comfort_any 48 67 50 64 w).mono fun e w' h => ⟨h.1.trans rfl, h.2⟩

def bB : ByteArray := ⟨#[98]⟩
def aB : ByteArray := ⟨#[97]⟩
def abcL : List ByteArray := [⟨#[97]⟩, ⟨#[98]⟩, ⟨#[99]⟩]
theorem abc_for : forF abcL = 0 := by kernel_rfl
theorem shares_abc : (sharesL 100 abcL)[0]? = some (aB, ⟨#[51, 52]⟩) := by kernel_rfl
theorem shares_closed (g B : Nat) (w : World) (ht : Tab B w) (hB : Blk w g 9 #[.string ⟨#[97]⟩, .string ⟨#[98]⟩, .string ⟨#[99]⟩]) :
    Calls Tryz.prog 54 #[.agg #[.string ⟨#[98]⟩, .string ⟨#[97]⟩, .int .i64 0, .int .i64 100, .slice (some ⟨g, 0, none⟩) 3 3]] w fun e w' =>
      ∃ b off c', e = .returned (.tuple #[.slice (some ⟨b, off, none⟩) 3 c', .int .i64 0]) ∧ b < w'.heap.size ∧ w'.cell? ⟨b, off, none⟩ = some (.string ⟨#[97]⟩) ∧ w'.cell? ⟨b, off + 1, none⟩ = some (.string ⟨#[51, 52]⟩) ∧ Ext w w' := by
  have hR : Paid.Right ⟨bB, aB, 0, (100 : Nat), some ⟨g, 0, none⟩, 3, 3⟩ abcL :=
    ⟨(show keyB bB = true by kernel_rfl), (show keyB aB = true by kernel_rfl), (show bB.size ≤ 1000000000 by decide), (show aB.size ≤ 1000000000 by decide), (show outB 0 0 345686399999 = false by decide), (show outB 100 1 100000000 = false by decide), abc_for, fun i s h => by
      have : s ∈ abcL := List.mem_of_getElem? h
      simp [abcL] at this
      rcases this with rfl | rfl | rfl <;> decide⟩
  have hL : Sl 1 strC w (some ⟨g, 0, none⟩) 3 abcL := ⟨rfl, by decide, fun _ => ⟨g, 0, rfl, hB.lt, fun i x hx j v hv => by
    have hj : j = 0 := by
      have := (List.getElem?_eq_some_iff.1 hv).1
      simp [strC] at this
      omega
    subst hj
    have hi : i < 3 := (List.getElem?_eq_some_iff.1 hx).1
    obtain rfl : v = .string x := by simpa [strC] using hv.symm
    rw [hB.cell]
    obtain rfl | rfl | rfl : i = 0 ∨ i = 1 ∨ i = 2 := by omega
    all_goals simp [abcL] at hx; subst hx; rfl⟩⟩
  refine (shares_ok ⟨bB, aB, 0, (100 : Nat), some ⟨g, 0, none⟩, 3, 3⟩ abcL B 100 w ht rfl hR hL).mono fun e w' h => ?_
  obtain ⟨p, c, rfl, hS, he⟩ := h
  obtain ⟨b, off, rfl, hb, hE⟩ := hS.2.2 (show 3 ≠ 0 by decide)
  have h0 := hE 0 _ shares_abc 0 _ rfl
  have h1 := hE 0 _ shares_abc 1 _ rfl
  exact ⟨b, off, c, rfl, hb, (by simpa using h0 : w'.cell? ⟨b, off, none⟩ = some (.string aB)), by simpa using h1, he⟩

end Go.Proofs.YtjggcofjgeiapaaGreatDoor

namespace Go.Proofs.YtjggcofjgeiapaaGreatDoor
open Go Go.RowKit
set_option maxRecDepth 100000 in
theorem ready_any (B : Nat) (w : World) (ht : Tab B w) :
    Calls Tryz.prog 13 #[] w fun e w' => e = .returned (.bool true) ∧ Ext w w' := by
  go_enter Tryz.func13, Tryz.ntmps13
  go_wp2_with (first
    | (go_at_call 52; refine (comfort_closed _).mono ?_; rintro e w1 ⟨rfl, hb1⟩)
    | (go_at_call 53; refine (name61_any _).mono ?_; rintro e w2 ⟨rfl, hb2⟩; replace hb2 : Ext w w2 := (by exact hb1.trans hb2); clear hb1)
    | (go_at_call 54; refine (shares_closed _ B _ (by exact (ht.ext hb2).ext ((Ext.refl _).alloc _)) (by exact Blk.new' rfl)).mono ?_; rintro e w3 ⟨b, off, c, rfl, hlt, h0, h1, hb3⟩))
  go_ret
  exact ⟨rfl, by exact (hb2.alloc _).trans hb3⟩
end Go.Proofs.YtjggcofjgeiapaaGreatDoor

namespace Go.Proofs.YtjggcofjgeiapaaGreatDoor
open Go Go.RowKit

theorem mrg_right {V A B : List SlipV} (hV : slipsF V = 0) (hA : A.Sublist V) (hB : B.Sublist V) (hab : ∀ x ∈ V, x ∈ A ∨ x ∈ B) {M : List SlipV} {f : Int} (h : MrgV A B M f) : M = V ∧ f = 0 := by
  have hR := slipsF_right hV
  have a0 := slipsF_of (hR.sub hA)
  have b0 := slipsF_of (hR.sub hB)
  obtain ⟨o, ho, hu⟩ := mrg_one hR hA hB hab
  unfold MrgV at h
  rw [if_neg (by simpa using a0), if_neg (by simpa using b0), ho] at h
  obtain ⟨S, h1, h2, h3⟩ := h
  have e := hu S h1 h2
  subst e
  rcases h3 with ⟨-, rfl, rfl⟩ | ⟨h3, -⟩
  · exact ⟨rfl, rfl⟩
  · exact absurd hV h3
theorem StockR.slc {T : List TitleV} {r : LendR} {d : List SlipV} {t : Int} {w w' : World} {e : Ending} (h : StockR T r d t w e w') (hT : T.length ≤ 1000) : ∃ (p : Option Addr) (c : Nat), e = .returned (.tuple #[.slice p T.length c, .int .i64 0]) ∧ Slc 2 lpC w' p T.length c (stockL T (libAt T r d t).1) ∧ Ext w w' := by
  obtain ⟨v, rfl, ho, hx⟩ := h
  obtain ⟨p, c, rfl, hS⟩ := slc_of_own lpC_len ho (by decide) (by omega)
  exact ⟨p, c, rfl, hS, hx⟩
theorem MrgR.slc {A B V : List SlipV} {w w' : World} {e : Ending} (h : MrgR A B w e w') (hV : slipsF V = 0) (hA : A.Sublist V) (hB : B.Sublist V) (hab : ∀ x ∈ V, x ∈ A ∨ x ∈ B) (hl : V.length ≤ 1000) : ∃ (p : Option Addr) (c : Nat), e = .returned (.tuple #[.slice p V.length c, .int .i64 0]) ∧ Slc 7 slipC w' p V.length c V ∧ Ext w w' := by
  obtain ⟨v, M, f, rfl, ho, hv, hx⟩ := h
  obtain ⟨rfl, rfl⟩ := mrg_right hV hA hB hab hv
  obtain ⟨p, c, rfl, hS⟩ := slc_of_own slipC_len ho (by decide) (by omega)
  exact ⟨p, c, rfl, hS, hx⟩
set_option maxRecDepth 100000 in
set_option maxHeartbeats 12800000 in
theorem lawSO_any (B : Nat) (w : World) (p : Option Addr) (n c : Nat) (h : Lst w w.heap.size p n) (ht : Tab B w) :
    Calls Tryz.prog 5 #[.slice p n c] w fun e w' => e = .returned (.bool true) ∧ Ext w w' := by
  have hS0 : Str (w.alloc (.cells #[.slice p n c, .int .i64 0] 25)) w.heap.size 0 := ⟨p, n, c, 0, Nat.le_refl _, Blk.new' rfl, h.low fun j hj => Below.heap_alloc w _ j hj⟩
  clear h
  have hback : ∀ u, ExtS w.heap.size (w.alloc (.cells #[.slice p n c, .int .i64 0] 25)) u → Ext w u := fun u hu => ExtS.back ((Ext.refl w).alloc _) (by simp) hu
  have hW0s : (w.alloc (.cells #[.slice p n c, .int .i64 0] 25)).heap.size = w.heap.size + 1 := by simp
  have hlb := library_any w.heap.size 0 _ (by omega) hS0
  replace hback := Lib.hid hback
  replace hlb := Lib.hid hlb
  replace hW0s := Lib.hid hW0s
  go_enter Tryz.func5, Tryz.ntmps5
  go_upto_region 3 with (go_at_call 9; (with_reducible refine Calls.mono hlb.out ?_); rintro e w1 ⟨p1, n1, c1, T, r, rfl, hn1, hTo, hTl, hTs, hS1, hE1⟩; unfold lendVal)
  have hS1a := hS1.ext ((Ext.refl w1).alloc (.cells (lendC r) 28))
  have hE1a := hE1.alloc (.cells (lendC r) 28)
  have hT1a := hTo.alloc (.cells (lendC r) 28)
  have hR1a : Blk (w1.alloc (.cells (lendC r) 28)) w1.heap.size 28 (lendC r) := Blk.new' rfl
  have hsl : w.heap.size < w1.heap.size := hS1.lt
  have hw1 : w.heap.size + 1 + 2 ≤ w.heap.size + 1 + 2 := Nat.le_refl _
  rw [hW0s.out] at hT1a
  unfold lendC at hS1a hE1a hT1a hR1a
  clear hS0 hS1 hE1 hTo hlb hw1
  generalize (w1.alloc (.cells #[.int .i64 r.days, .int .i64 r.late, .int .i64 r.most, .int .i64 r.each] 28)) = W1 at *
  generalize w1.heap.size = g5 at *
  have hrs := rightSlips_any w.heap.size (0 + 40) W1 (by omega) hS1a
  replace hrs := Lib.hid hrs
  go_upto_region 4 with (first
    | (go_at_call 10; (with_reducible refine Calls.mono hrs.out ?_); rintro e w2 ⟨p2, n2, c2, V, rfl, hn2, hSl2, hpb2, hVl, hVs, hVq, hS2, hE2⟩)
    | (go_at_call 11; have l2 := hS2.lt; refine (pick_in w.heap.size (0 + 40 + 720) _ _ 3 [5, 86400000, 864000000] 5 864000000 _ (by omega) (by simp) (by simp) (by exact hS2.ext (Ext.alloc (Ext.refl _) _)) (by exact Nat.ne_of_gt l2) (by exact Blk.new' rfl) (by decide)).mono ?_; rintro e w3 ⟨t, ht1, ht2, rfl, hS3, hE3⟩))
  subst hVl
  subst hTl
  have hE13 := hE2.trans ((ExtS.refl _ w2).alloc (.cells ([5, 86400000, 864000000].map (Value.int .i64)).toArray 3) |>.trans hE3)
  have hsp2 : ∀ a, p2 = some a → a.block ≠ w.heap.size := fun a ha => by have := hpb2 a ha; have := hS1a.lt; omega
  have hSl3 := (hSl2.ext ((Ext.refl w2).alloc (.cells ([5, 86400000, 864000000].map (Value.int .i64)).toArray 3))).extS hE3 hsp2
  have hT3 := own_extS hE13 (by omega) hT1a
  have hR3 := hR1a.extS (by omega) hE13
  have hE03 := hE1a.trans hE13
  have hto : outB t 0 345686399999 = false := by unfold outB; simp; omega
  clear hE1a hE13 hE2 hE3 hS2 hSl2 hT1a hR1a hrs hpb2 hS1a ht1 ht2
  replace hT3 := Lib.hid hT3
  replace hR3 := Lib.hid hR3
  replace hE03 := Lib.hid hE03
  replace hVs := Lib.hid hVs
  replace hTs := Lib.hid hTs
  have hhs := halfSlips_any w.heap.size (0 + 40 + 720 + 1) p2 V.length c2 V w3 (by omega) (by omega) hS3 hSl3 hsp2
  replace hhs := Lib.hid hhs
  go_upto_region 5 with (go_at_call 20; (with_reducible refine Calls.mono hhs.out ?_); rintro e w4 ⟨pa, pb, na, ca, nb, cb, A, Bl, rfl, hA4, hB4, hna, hnb, hAs, hBs, hAB, -, -, hS4, hE4⟩)
  have hb4 := hback.out w4 (hE03.out.trans hE4)
  have hV4 := hSl3.extS hE4 hsp2
  have hR4 := hR3.out.extS (by omega) hE4
  obtain ⟨p1', c1', e1', hT4⟩ := slc_of_own titleC_len (own_extS hE4 (by omega) hT3.out) (by decide) (by omega)
  cases e1'
  have htb := fun u (hu : Ext w4 u) => ht.ext (hb4.trans hu)
  have hm1 := fun u (hu : Ext w4 u) => (merge_any pa pb na ca nb cb A Bl u (hA4.ext hu) (hB4.ext hu) (fun x hx => hVs.out x (hAs.subset hx)) (fun x hx => hVs.out x (hBs.subset hx)) (by omega) (by omega)).mono fun e w' hh => MrgR.slc hh hVq hAs hBs hAB (by omega)
  have hm2 := fun u (hu : Ext w4 u) => (merge_any pb pa nb cb na ca Bl A u (hB4.ext hu) (hA4.ext hu) (fun x hx => hVs.out x (hBs.subset hx)) (fun x hx => hVs.out x (hAs.subset hx)) (by omega) (by omega)).mono fun e w' hh => MrgR.slc hh hVq hBs hAs (fun x hx => (hAB x hx).symm) (by omega)
  have hlf := fun u (hu : Ext w4 u) => libFault_any p1 T.length c1 T r p2 V.length c2 V u (hT4.ext hu).1 hTs.out (by omega) (hV4.ext hu).1 hVs.out (by omega)
  have hrdy := fun u (hu : Ext w4 u) => ready_any B u (htb u hu)
  have hli := fun (hF : libF T r V = 0) u (hu : Ext w4 u) q d (hq : Slc 7 slipC u q V.length d V) => (stock_any B p1 T.length c1 T r q V.length d V t u ⟨hT4.ext hu, hTs.out, by omega, hq, hVs.out, by omega, hF⟩ hto (htb u hu)).mono fun e w' hh => StockR.slc hh (by omega)
  unfold lendVal at hlf hli
  have hsq : (stockL T (libAt T r V t).1).length = T.length := by unfold stockL; simp
  generalize stockL T (libAt T r V t).1 = Q at *
  have r0 := hR4.cell 0
  have r1 := hR4.cell 1
  have r2 := hR4.cell 2
  have r3 := hR4.cell 3
  have lr := hR4.lt
  replace htb := Lib.hid htb
  replace hm1 := Lib.hid hm1
  replace hm2 := Lib.hid hm2
  replace hlf := Lib.hid hlf
  replace hrdy := Lib.hid hrdy
  replace hli := Lib.hid hli
  replace hV4 := Lib.hid hV4
  clear hE4 hS4 hS3 hA4 hB4 hAB hAs hBs hna hnb hT4 hT3 hR3 hE03 hSl3 hhs hR4 hto hsp2
  go_upto_if 64 with (first
    | (go_at_call 21; (with_reducible refine Calls.mono (hm1.out _ (Ext.refl _)) ?_); rintro e w5 ⟨p5, c5, rfl, hx5, hb5⟩; clear hm1)
    | (go_at_call 21; (with_reducible refine Calls.mono (hm2.out _ hb5) ?_); rintro e w6 ⟨p6, c6, rfl, hx6, hb6⟩; clear hm2)
    | (go_at_call 22; (with_reducible refine Calls.mono (eqSli_any p5 p6 V.length c5 c6 V w6 (hx5.ext hb6) hx6 (by omega)) ?_); rintro e w7 ⟨rfl, hb7⟩; clear hx6)
    | (go_at_call 22; (with_reducible refine Calls.mono (eqSli_any p5 p2 V.length c5 c2 V w7 (hx5.ext (hb6.trans hb7)) (hV4.out.ext ((hb5.trans hb6).trans hb7)) (by omega)) ?_); rintro e w8 ⟨rfl, hb8⟩))
  have hb48 := ((hb5.trans hb6).trans hb7).trans hb8
  have hx8 := hx5.ext ((hb6.trans hb7).trans hb8)
  obtain ⟨wk8, -⟩ := hb48.walk
  have v0 := (wk8 _ _ lr).trans r0
  have v1 := (wk8 _ _ lr).trans r1
  have v2 := (wk8 _ _ lr).trans r2
  have v3 := (wk8 _ _ lr).trans r3
  have lr8 := Nat.lt_of_lt_of_le lr hb48.size
  clear hb5 hb6 hb7 hb8 hx5 wk8 r0 r1 r2 r3
  have hlf8 := hlf.out w8 hb48
  by_cases hF : libF T r V = 0
  · have hst := hli.out hF
    rw [hF] at hlf8
    replace hlf8 := Lib.hid hlf8
    replace hst := Lib.hid hst
    replace hx8 := Lib.hid hx8
    clear hli hlf
    go_wp2_with (first
      | (go_at_call 12; (with_reducible refine Calls.mono hlf8.out ?_); rintro e w9 ⟨rfl, hb9⟩; have hb49 := hb48.trans hb9; obtain ⟨wk9, -⟩ := hb9.walk; have u0 := (wk9 _ _ lr8).trans v0; have u1 := (wk9 _ _ lr8).trans v1; have u2 := (wk9 _ _ lr8).trans v2; have u3 := (wk9 _ _ lr8).trans v3; have lr9 := Nat.lt_of_lt_of_le lr8 hb9.size; clear wk9 v0 v1 v2 v3 hlf8)
      | (go_at_call 18; (with_reducible refine Calls.mono (hst.out _ hb49 p5 c5 (hx8.out.ext hb9)) ?_); rintro e wA ⟨pA, cA, rfl, hQA, hbA⟩; obtain ⟨wkA, -⟩ := hbA.walk; have s0 := (wkA _ _ lr9).trans u0; have s1 := (wkA _ _ lr9).trans u1; have s2 := (wkA _ _ lr9).trans u2; have s3 := (wkA _ _ lr9).trans u3; clear wkA u0 u1 u2 u3 hx8)
      | (go_at_call 18; (with_reducible refine Calls.mono (hst.out _ (hb49.trans hbA) p2 c2 (hV4.out.ext (hb49.trans hbA))) ?_); rintro e wC ⟨pC, cC, rfl, hQC, hbC⟩)
      | (go_at_call 23; (with_reducible refine Calls.mono (eqPairs_any pA pC T.length cA cC Q wC (hQA.ext hbC) hQC (by omega)) ?_); rintro e wD ⟨rfl, hbD⟩; have hb4D := ((hb49.trans hbA).trans hbC).trans hbD)
      | (go_at_call 13; (with_reducible refine Calls.mono (hrdy.out _ hb4D) ?_); rintro e wE ⟨rfl, hbE⟩))
    go_ret
    exact ⟨rfl, (hb4.trans hb4D).trans hbE⟩
  · generalize libF T r V = f at *
    replace hlf8 := Lib.hid hlf8
    clear hli hlf hx8
    go_wp2_with (first
      | (go_at_call 12; (with_reducible refine Calls.mono hlf8.out ?_); rintro e w9 ⟨rfl, hb9⟩; have hb49 := hb48.trans hb9)
      | (go_at_call 13; (with_reducible refine Calls.mono (hrdy.out _ hb49) ?_); rintro e wE ⟨rfl, hbE⟩))
    go_ret
    exact ⟨rfl, (hb4.trans hb49).trans hbE⟩
end Go.Proofs.YtjggcofjgeiapaaGreatDoor
