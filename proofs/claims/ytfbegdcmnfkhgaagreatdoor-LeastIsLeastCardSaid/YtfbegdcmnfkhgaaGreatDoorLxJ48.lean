/- Shares of a right bill, by tour. Conditions: it is right; the table of the powers of ten stands. The facts that all properties ask: they hold. Conditions: the table of the powers of ten stands. The facts of the properties. Conditions: the table of the powers of ten stands. The law that no rows by height hide fewer than the best stands: it answers true. Conditions: the argument is a list of ints that lies in memory; the table of powers. -/
import Derived.Test.YtfbegdcmnfkhgaaGreatDoorLxSharesA
import Derived.Test.YtfbegdcmnfkhgaaGreatDoorLxJ11
import Derived.Test.YtfbegdcmnfkhgaaGreatDoorLxJ2
import Derived.Test.YtfbegdcmnfkhgaaGreatDoorLxJ4
import Derived.Test.YtfbegdcmnfkhgaaGreatDoorLxJ43
import Derived.Test.YtfbegdcmnfkhgaaGreatDoorLxRoE
import Derived.Test.YtfbegdcmnfkhgaaGreatDoorLxBeO
import Derived.Test.YtfbegdcmnfkhgaaGreatDoorLxStX
import Derived.Deep.DeepCutAuto
set_option linter.unusedSimpArgs false
set_option linter.unusedVariables false
namespace Go.Proofs.YtfbegdcmnfkhgaaGreatDoor
open Go Go.RowKit

def shareN (c n i : Nat) : Nat := c / n + if i < c % n then 1 else 0
theorem shareN_le (c n i : Nat) : shareN c n i ≤ c + 1 := by
  unfold shareN
  have := Nat.div_le_self c n
  split <;> omega

set_option maxRecDepth 100000 in
theorem share_any (id by_ : ByteArray) (at_ : Int) (c : Nat) (p : Option Addr) (n cap i : Nat) (w : World) (hc : c ≤ 100000000) (hn : 1 ≤ n) (hn' : n ≤ 1000) (hi : i ≤ 1000) :
    Calls Tryz.prog 104 #[.agg #[.string id, .string by_, .int .i64 at_, .int .i64 c, .slice p n cap], .int .i64 i] w fun e w' => e = .returned (.int .i64 (shareN c n i : Nat)) ∧ Ext w w' := by
  have hdv : (c : Int).tdiv n = ((c / n : Nat) : Int) := (Int.ofNat_tdiv c n).symm
  have hmo : (c : Int).tmod n = ((c % n : Nat) : Int) := (Int.ofNat_tmod c n).symm
  have hS : shareN c n i = c / n + if i < c % n then 1 else 0 := rfl
  have hdl := Nat.div_le_self c n
  have hml := Nat.mod_le c n
  obtain ⟨q, hq⟩ : ∃ q, c / n = q := ⟨_, rfl⟩
  obtain ⟨r, hr⟩ : ∃ r, c % n = r := ⟨_, rfl⟩
  rw [hq] at hdv hdl hS
  rw [hr] at hmo hml hS
  replace hS := Lib.hid hS
  clear hq hr
  go_enter Tryz.func104, Tryz.ntmps104
  go_wp2
  all_goals
    go_ret
    exact ⟨ret_int (by rw [hS.out]; first | (rw [if_pos (by assumption)]; simp) | (rw [if_neg (by omega)]; simp)), by (repeat (with_reducible first | assumption | exact Ext.refl _ | refine Ext.drew ?_ | refine Ext.alloc ?_ _ | refine Ext.setCell ?_ (by simp <;> omega) _ | refine Ext.trans ?_ (by assumption)))⟩

def pairC (x : ByteArray × ByteArray) : List Value := [.string x.1, .string x.2]
theorem pairC_len (x : ByteArray × ByteArray) : (pairC x).length = 2 := rfl
def itoaB (n : Int) : ByteArray := ⟨(Lib.itoa n).toArray⟩
def shareP (c n : Nat) (s : ByteArray) (i : Nat) : ByteArray × ByteArray := (s, itoaB (shareN c n i : Nat))
def sharesL (c : Nat) (ls : List ByteArray) : List (ByteArray × ByteArray) := ls.zipIdx.map fun x => shareP c ls.length x.1 x.2
theorem sharesL_at {c : Nat} {ls : List ByteArray} {i : Nat} {s : ByteArray} (h : ls[i]? = some s) : (sharesL c ls)[i]? = some (shareP c ls.length s i) := by
  unfold sharesL
  rw [List.getElem?_map, List.getElem?_zipIdx, h]
  simp
theorem pair_one (x : ByteArray × ByteArray) : ∀ u ∈ pairC x, u.oneCell' = true := by simp [pairC, Value.oneCell']
theorem pairInfo : (Tryz.prog.info? 114).map (fun i => (i.zero, i.size, i.bytes)) = some (some (.agg #[.string ⟨#[]⟩, .string ⟨#[]⟩]), 2, 32) := by kernel_rfl

set_option maxRecDepth 100000 in
set_option maxHeartbeats 1600000 in
theorem shares_ok (x : Paid) (ls : List ByteArray) (B c : Nat) (w : World) (ht : Tab B w) (hc : x.cents = c) (hR : x.Right ls) (hL : Sl 1 strC w x.p x.n ls) :
    Calls Tryz.prog 68 #[.agg #[.string x.id, .string x.by_, .int .i64 x.at_, .int .i64 x.cents, .slice x.p x.n x.c]] w fun e w' =>
      ∃ p' c', e = .returned (.tuple #[.slice p' x.n c', .int .i64 0]) ∧ Sl 2 pairC w' p' x.n (sharesL c ls) ∧ Ext w w' := by
  have hcr := hR.cents
  have hct : 1 ≤ c ∧ c ≤ 100000000 := by
    unfold outB at hcr
    rw [hc] at hcr
    simp at hcr
    omega
  have hfor := hR.for_
  have hl := hL.1
  have hn0 : x.n ≠ 0 := by
    intro h0
    unfold forF at hfor
    rw [if_pos (by omega)] at hfor
    cases hfor
  have hn1 : x.n ≤ 200 := by
    unfold forF at hfor
    rw [if_neg (by omega)] at hfor
    by_cases h : 200 < ls.length
    · rw [if_pos h] at hfor; cases hfor
    · omega
  clear hfor hcr
  obtain ⟨b, off, hp, hb, hE⟩ := hL.2.2 hn0
  have hchk := fun (b cap : Nat) (w' : World) (hB : Blk w' b 112 x.cells) (he : Ext w w') => checkPaid1_ok b cap x ls w' hB hR (hL.ext he)
  unfold Paid.cells at hchk
  obtain ⟨id, by_, at_, cents, p, n, cap⟩ := x
  simp only at hc hl hn0 hn1 hchk hp ⊢
  subst hc
  subst hp
  clear hR hL
  replace hchk := Lib.hid hchk
  replace hl := Lib.hid hl
  go_enter Tryz.func68, Tryz.ntmps68
  go_wp2_with (go_at_call 103; (with_reducible refine Calls.mono (hchk.out _ _ _ (by exact Blk.new' (by simp)) (by exact ((Ext.refl _).alloc _).alloc _)) ?_); rintro e w1 ⟨rfl, hb1⟩; have hX : Blk w1 w.heap.size 112 #[.string id, .string by_, .int .i64 at_, .int .i64 c, .slice (some ⟨b, off, none⟩) n cap] := (by exact Blk.ext (Blk.alloc (Blk.new' rfl) _) hb1); have he1 : Ext w w1 := (by exact ((Ext.refl _).alloc _).alloc _ |>.trans hb1); obtain ⟨s1, f1⟩ := hX.walk)
  clear s1 f1 hb1 hchk
  have hlen : ls.zipIdx.length = n := by rw [List.length_zipIdx]; exact hl.out
  go_loopw [5, 17] (fun v i wr => ∃ k : Nat, k ≤ n ∧ i = .int .i64 k ∧ wr.ownsRow (w.heap.size + 1) 114 2 v k (((sharesL c ls).take k).flatMap pairC) ∧ Blk wr w.heap.size 112 #[.string id, .string by_, .int .i64 at_, .int .i64 c, .slice (some ⟨b, off, none⟩) n cap] ∧ Ext w wr) (fun _ i _ => n - (intOf i).toNat)
  case atStart => exact ⟨0, Nat.zero_le _, rfl, by simpa using World.ownsRow_nil _ _ _ _, hX, he1⟩
  case round =>
    clear hX he1
    obtain ⟨k, hk, rfl, hown, hX, he⟩ := hrel
    have hbw := Nat.lt_of_lt_of_le hb he.size
    obtain ⟨s1, f1⟩ := hX.walk
    by_cases hlt : k < n
    · obtain ⟨s, hx⟩ := getD_some hl.out hlt
      have hcell := (hE.ext he hb).str hx
      replace hx := Lib.hid hx
      have hsh := shareN_le c n k
      go_wp2_with (first
        | (go_at_call 104; (with_reducible refine Calls.mono (share_any id by_ at_ c _ n cap k _ (by omega) (by omega) (by omega) (by omega)) ?_); rintro e w2 ⟨rfl, hb2⟩)
        | (go_at_call 33; (with_reducible refine Calls.mono (itoa_any (shareN c n k : Nat) (by omega) (by omega) B _ (ht.ext (he.trans hb2))) ?_); rintro e w3 ⟨rfl, hb3⟩; have hown3 := own_ext hb3 (own_ext hb2 hown); have he3 := (he.trans hb2).trans hb3; have hX3 := (hX.ext hb2).ext hb3; clear hb2 hb3 hown he hX s1 f1)
        | (at_builtin; go_loud (refine wp_app1 _ (.tmp 22) (.tmp 29) 108 114 2 32 _ rfl rfl Tryz.underlying108 pairInfo rfl (by decide) (by decide) (w.heap.size + 1) _ k _ rfl (hown3.alloc _) w3.heap.size (pairC (shareP c n s k)) rfl rfl (Blk.new' rfl) (pair_one _) (by omega) (by have := he3.size; simp; omega) ?_; intro v' w4 hown4 hgrow4 _)))
      go_roundw
      case rel => exact ⟨k + 1, by omega, by go_num, by rw [take_snocL (sharesL_at hx.out), flat_snoc, hl.out]; exact hown4, (hX3.alloc _).app (hown3.alloc _) (by omega) hgrow4, (he3.alloc _).app (hown3.alloc _) (by omega) hgrow4⟩
      case measure => simp [intOf]; omega
    · obtain rfl : k = n := by omega
      have hfull : (sharesL c ls).take k = sharesL c ls := List.take_of_length_le (by unfold sharesL; rw [List.length_map]; omega)
      rw [hfull] at hown
      obtain ⟨p', c', rfl, hS, -⟩ := sl_of_own pairC_len hown (by decide) (by omega)
      replace hS := Lib.hid hS
      go_wp2
      go_ret2
      exact ⟨p', c', rfl, hS.out, he⟩

end Go.Proofs.YtfbegdcmnfkhgaaGreatDoor

namespace Go.Proofs.YtfbegdcmnfkhgaaGreatDoor
open Go Go.RowKit

theorem comfort_closed (w : World) :
    Calls Tryz.prog 66 #[.agg #[.int .i64 48, .int .i64 67], .agg #[.int .i64 50, .int .i64 64]] w fun e w' => e = .returned (.tuple #[.int .i64 2, .bool true, .int .i64 0]) ∧ Ext w w' :=
  (Comfort_any 48 67 50 64 w).mono fun e w' h => ⟨h.1.trans rfl, h.2⟩

def bB : ByteArray := ⟨#[98]⟩
def aB : ByteArray := ⟨#[97]⟩
def abcL : List ByteArray := [⟨#[97]⟩, ⟨#[98]⟩, ⟨#[99]⟩]
theorem abc_for : forF abcL = 0 := by kernel_rfl
theorem shares_abc : (sharesL 100 abcL)[0]? = some (aB, ⟨#[51, 52]⟩) := by kernel_rfl
theorem shares_closed (g B : Nat) (w : World) (ht : Tab B w) (hB : Blk w g 9 #[.string ⟨#[97]⟩, .string ⟨#[98]⟩, .string ⟨#[99]⟩]) :
    Calls Tryz.prog 68 #[.agg #[.string ⟨#[98]⟩, .string ⟨#[97]⟩, .int .i64 0, .int .i64 100, .slice (some ⟨g, 0, none⟩) 3 3]] w fun e w' =>
      ∃ b off c', e = .returned (.tuple #[.slice (some ⟨b, off, none⟩) 3 c', .int .i64 0]) ∧ b < w'.heap.size ∧ w'.cell? ⟨b, off, none⟩ = some (.string ⟨#[97]⟩) ∧ w'.cell? ⟨b, off + 1, none⟩ = some (.string ⟨#[51, 52]⟩) ∧ Ext w w' := by
  have hR : Paid.Right ⟨bB, aB, 0, (100 : Nat), some ⟨g, 0, none⟩, 3, 3⟩ abcL :=
    ⟨(show keyB bB = true by kernel_rfl), (show keyB aB = true by kernel_rfl), (show bB.size ≤ 1000000000 by decide), (show aB.size ≤ 1000000000 by decide), (show outB 0 0 345686399999 = false by decide), (show outB 100 1 100000000 = false by decide), abc_for, fun i s h => by
      have : s ∈ abcL := List.mem_of_getElem? h
      simp [abcL] at this
      rcases this with rfl | rfl | rfl <;> decide⟩
  have hL : Sl 1 strC w (some ⟨g, 0, none⟩) 3 abcL := ⟨rfl, by decide, fun _ => ⟨g, 0, rfl, hB.lt, fun i x hx j v hv => by
    have hj : j = 0 := by
      have := (List.getElem?_eq_some_iff.1 hv).1
      simp [strC] at this
      omega
    subst hj
    have hi : i < 3 := (List.getElem?_eq_some_iff.1 hx).1
    obtain rfl : v = .string x := by simpa [strC] using hv.symm
    rw [hB.cell]
    obtain rfl | rfl | rfl : i = 0 ∨ i = 1 ∨ i = 2 := by omega
    all_goals simp [abcL] at hx; subst hx; rfl⟩⟩
  refine (shares_ok ⟨bB, aB, 0, (100 : Nat), some ⟨g, 0, none⟩, 3, 3⟩ abcL B 100 w ht rfl hR hL).mono fun e w' h => ?_
  obtain ⟨p, c, rfl, hS, he⟩ := h
  obtain ⟨b, off, rfl, hb, hE⟩ := hS.2.2 (show 3 ≠ 0 by decide)
  have h0 := hE 0 _ shares_abc 0 _ rfl
  have h1 := hE 0 _ shares_abc 1 _ rfl
  exact ⟨b, off, c, rfl, hb, (by simpa using h0 : w'.cell? ⟨b, off, none⟩ = some (.string aB)), by simpa using h1, he⟩

end Go.Proofs.YtfbegdcmnfkhgaaGreatDoor

namespace Go.Proofs.YtfbegdcmnfkhgaaGreatDoor
open Go Go.RowKit
set_option maxRecDepth 100000 in
theorem ready_any (B : Nat) (w : World) (ht : Tab B w) :
    Calls Tryz.prog 26 #[] w fun e w' => e = .returned (.bool true) ∧ Ext w w' := by
  go_enter Tryz.func26, Tryz.ntmps26
  go_wp2_with (first
    | (go_at_call 66; refine (comfort_closed _).mono ?_; rintro e w1 ⟨rfl, hb1⟩)
    | (go_at_call 67; refine (name61_any _).mono ?_; rintro e w2 ⟨rfl, hb2⟩; replace hb2 : Ext w w2 := (by exact hb1.trans hb2); clear hb1)
    | (go_at_call 68; refine (shares_closed _ B _ (by exact (ht.ext hb2).ext ((Ext.refl _).alloc _)) (by exact Blk.new' rfl)).mono ?_; rintro e w3 ⟨b, off, c, rfl, hlt, h0, h1, hb3⟩))
  go_ret
  exact ⟨rfl, by exact (hb2.alloc _).trans hb3⟩
end Go.Proofs.YtfbegdcmnfkhgaaGreatDoor

namespace Go.Proofs.YtfbegdcmnfkhgaaGreatDoor
open Go Go.RowKit

theorem small_of {P : List PersonV} {wide high : List Int} {S : List StandV} (h : standsF P wide high S = 0) (hP : ∀ x ∈ P, x.Small) : ∀ x ∈ S, x.Small := fun x hx => by
  obtain ⟨a1, ⟨a2, a3⟩, a4, a5⟩ := (standsF_right h).2.2.1 x hx
  have hwo := (standsF_ok h).1.wo
  unfold hasP at a1
  obtain ⟨p, hp, e⟩ := List.any_eq_true.1 a1
  have e2 : p.name = x.name := baL.1 e
  have h7 : wide.getD x.row.toNat 0 ≤ 30 := by
    rw [List.getD_eq_getElem?_getD]
    cases hg : wide[x.row.toNat]? with
    | none => simp
    | some v => simpa using (hwo.2 v (List.mem_of_getElem? hg)).2
  have h8 := hwo.1
  exact ⟨by rw [← e2]; exact (hP p hp).1, by omega, by omega, by omega, by omega⟩

set_option maxRecDepth 100000 in
set_option maxHeartbeats 25600000 in
theorem lawLL_any (B : Nat) (w : World) (p : Option Addr) (n c : Nat) (h : Lst w w.heap.size p n) (ht : Tab B w) :
    Calls Tryz.prog 6 #[.slice p n c] w fun e w' => e = .returned (.bool true) ∧ Ext w w' := by
  have hS0 : Str (w.alloc (.cells #[.slice p n c, .int .i64 0] 25)) w.heap.size 0 := ⟨p, n, c, 0, Nat.le_refl _, Blk.new' rfl, h.low fun j hj => Below.heap_alloc w _ j hj⟩
  have hE0 : Ext w (w.alloc (.cells #[.slice p n c, .int .i64 0] 25)) := (Ext.refl w).alloc _
  clear h
  go_enter Tryz.func6, Tryz.ntmps6
  go_upto_region 3 with (first
    | (go_at_call 7; (with_reducible refine Calls.mono (people12_any w.heap.size 0 4 _ (by omega) (by omega) (by exact hS0)) ?_); rintro e w1 ⟨pp, n, pc, P, rfl, hn4, hP, hpf, hPs, hS1, hE1⟩; obtain rfl : n = P.length := (slcC hP).1)
    | (go_at_call 8; (with_reducible refine Calls.mono (stageOf_any w.heap.size (0 + 40) _ (by omega) (by exact hS1)) ?_); rintro e w2 ⟨wp, wcap, hp, hc, wide, high, rfl, hw4, hh4, hws, hhs, hW, hH, hwf, hhf, hS2, hE2⟩))
  have hpf2 : ∀ a, pp = some a → a.block ≠ w.heap.size := fun a ha e => by have := hpf a ha; simp at this; omega
  have hEa : Ext w2 ((w2.alloc (.cells #[.slice pp P.length pc] 26)).alloc (.cells #[.slice wp wide.length wcap, .slice hp high.length hc] 29)) := ((Ext.refl _).alloc _).alloc _
  have hBP : Blk ((w2.alloc (.cells #[.slice pp P.length pc] 26)).alloc (.cells #[.slice wp wide.length wcap, .slice hp high.length hc] 29)) w2.heap.size 26 #[.slice pp P.length pc] := (Blk.new' rfl).alloc _
  have hBS : Blk ((w2.alloc (.cells #[.slice pp P.length pc] 26)).alloc (.cells #[.slice wp wide.length wcap, .slice hp high.length hc] 29)) (w2.heap.size + 1) 29 #[.slice wp wide.length wcap, .slice hp high.length hc] := Blk.new' (by simp)
  have hM : PsM ((w2.alloc (.cells #[.slice pp P.length pc] 26)).alloc (.cells #[.slice wp wide.length wcap, .slice hp high.length hc] 29)) pp pc P wp wcap wide hp hc high none 0 [] := ⟨(hP.extS hE2 hpf2).ext hEa, hW.ext hEa, hH.ext hEa, Slc.nil _ _ _, hPs, hws, hhs, (fun x hx => by cases hx), by omega, by simp⟩
  have hE : Ext w ((w2.alloc (.cells #[.slice pp P.length pc] 26)).alloc (.cells #[.slice wp wide.length wcap, .slice hp high.length hc] 29)) := (ExtS.back hE0 (Nat.le_refl _) (hE1.trans hE2)).trans hEa
  clear hS0 hE0 hS1 hE1 hP hpf hE2 hS2 hW hH hwf hhf hpf2 hEa hPs
  generalize (w2.alloc (.cells #[.slice pp P.length pc] 26)).alloc (.cells #[.slice wp wide.length wcap, .slice hp high.length hc] 29) = W at *
  generalize w2.heap.size = g at *
  obtain ⟨p0, -⟩ := hBP.walk
  obtain ⟨s0, -⟩ := hBS.walk
  have pl := hBP.lt
  have sl := hBS.lt
  have hf1 := fun u (hu : Ext W u) => faultPeople_any pp P.length pc P u (hM.per.ext hu).1 hM.sP hM.nP
  have hf2 := fun u (hu : Ext W u) => faultStage_any wp wcap hp hc wide high u (hM.wid.ext hu) (hM.hig.ext hu) hM.sw hM.sh
  replace hf1 := Lib.hid hf1
  replace hf2 := Lib.hid hf2
  by_cases hp0 : peopleF P = 0
  rotate_left
  · clear hf2 hM
    go_wp2_with (first
      | (go_at_call 14; (with_reducible refine Calls.mono (hf1.out _ (Ext.refl _)) ?_); rintro e w5 ⟨rfl, hb5⟩)
      | (go_at_call 26; refine (ready_any B _ (by exact ht.ext (hE.trans hb5))).mono ?_; rintro e wz ⟨rfl, hzz⟩))
    go_ret
    exact ⟨rfl, (hE.trans hb5).trans hzz⟩
  by_cases hs0 : stageF wide high = 0
  rotate_left
  · rw [hp0] at hf1
    clear hM
    go_wp2_with (first
      | (go_at_call 14; (with_reducible refine Calls.mono (hf1.out _ (Ext.refl _)) ?_); rintro e w5 ⟨rfl, hb5⟩; clear s0; obtain ⟨s1, -⟩ := (hBS.ext hb5).walk; have sl1 := (hBS.ext hb5).lt)
      | (go_at_call 15; (with_reducible refine Calls.mono (hf2.out _ hb5) ?_); rintro e w6 ⟨rfl, hb6⟩; have E6 := hb5.trans hb6)
      | (go_at_call 26; refine (ready_any B _ (by exact ht.ext (hE.trans E6))).mono ?_; rintro e wz ⟨rfl, hzz⟩))
    go_ret
    exact ⟨rfl, (hE.trans E6).trans hzz⟩
  have hwo := (stageF_ok hs0).1
  have ho : ostF P wide high = 0 := by unfold ostF; rw [if_pos hp0]; exact hs0
  have hrl := fun u (hu : Ext W u) => rleast_any pp pc P hM.nP wp wcap wide hp high.length hc u (hM.wid.ext hu) hwo
  rw [hp0] at hf1
  rw [hs0] at hf2
  by_cases hb0 : bigF P wide = 0
  rotate_left
  · replace hrl := Lib.hid hrl
    replace ho := Lib.hid ho
    replace hs0 := Lib.hid hs0
    replace hp0 := Lib.hid hp0
    clear hM hwo
    go_wp2_with (first
      | (go_at_call 14; (with_reducible refine Calls.mono (hf1.out _ (Ext.refl _)) ?_); rintro e w5 ⟨rfl, hb5⟩; clear s0; obtain ⟨s1, -⟩ := (hBS.ext hb5).walk; have sl1 := (hBS.ext hb5).lt)
      | (go_at_call 15; (with_reducible refine Calls.mono (hf2.out _ hb5) ?_); rintro e w6 ⟨rfl, hb6⟩; have E6 := hb5.trans hb6; clear s1 p0; obtain ⟨s2, -⟩ := (hBS.ext E6).walk; have sl2 := (hBS.ext E6).lt; obtain ⟨p2, -⟩ := (hBP.ext E6).walk; have pl2 := (hBP.ext E6).lt)
      | (go_at_call 16; (with_reducible refine Calls.mono (hrl.out _ E6) ?_); rintro e w7 ⟨rfl, hb7⟩; have E7 := E6.trans hb7)
      | (go_at_call 26; refine (ready_any B _ (by exact ht.ext (hE.trans E7))).mono ?_; rintro e wz ⟨rfl, hzz⟩))
    go_ret
    exact ⟨rfl, (hE.trans E7).trans hzz⟩
  rw [hb0] at hrl
  have hl0 : leastF P wide high = 0 := by unfold leastF; rw [if_pos ho]; exact hb0
  obtain ⟨hpo, -, hho, hwh, -, hff, n7, n12, hpl⟩ := leastF_ok hl0
  obtain ⟨v, T, hR, hv, hTl, hTn, hTo, hTa⟩ := least_val (P := P) (high := high) hwo hpl
  have hle := fun u (hu : Ext W u) => least_any (hM.more hu) hl0 hn4
  have hby := fun u (hu : Ext W u) => byHeightS_any (hM.more hu) ho hff (by omega)
  have hbr := fun MM (h : ByH P MM) => bhL_right ho hpo hwo hff h
  rw [hR] at hbr
  simp only [hR] at hle
  have hrg := fun (M : List StandV) (h1 : M.Perm T) (h2 : M.Pairwise (fun a b => ltV a b = true)) => right_of ho hpo hTl hTn hTo h1 h2
  have hvm := fun (M : List StandV) (h1 : M.Perm T) => (show hidT P wide high M = v by rw [hv]; unfold hidT; rw [hidN_perm h1])
  replace hrl := Lib.hid hrl
  replace hle := Lib.hid hle
  replace hby := Lib.hid hby
  replace hbr := Lib.hid hbr
  replace hrg := Lib.hid hrg
  replace hvm := Lib.hid hvm
  replace hTl := Lib.hid hTl
  replace hM := Lib.hid hM
  clear hpo hho hwh hff n7 n12 hpl hR hv hTn hTo hTa ho hs0 hp0 hb0 hl0 hwo
  go_upto_region 6 with (first
    | (go_at_call 14; (with_reducible refine Calls.mono (hf1.out _ (Ext.refl _)) ?_); rintro e w5 ⟨rfl, hb5⟩; clear s0; obtain ⟨s1, -⟩ := (hBS.ext hb5).walk; have sl1 := (hBS.ext hb5).lt)
    | (go_at_call 15; (with_reducible refine Calls.mono (hf2.out _ hb5) ?_); rintro e w6 ⟨rfl, hb6⟩; have E6 := hb5.trans hb6; clear s1 p0; obtain ⟨s2, -⟩ := (hBS.ext E6).walk; have sl2 := (hBS.ext E6).lt; obtain ⟨p2, -⟩ := (hBP.ext E6).walk; have pl2 := (hBP.ext E6).lt)
    | (go_at_call 16; (with_reducible refine Calls.mono (hrl.out _ E6) ?_); rintro e w7 ⟨rfl, hb7⟩; have E7 := E6.trans hb7; clear s2 p2; obtain ⟨s3, -⟩ := (hBS.ext E7).walk; have sl3 := (hBS.ext E7).lt; obtain ⟨p3, -⟩ := (hBP.ext E7).walk; have pl3 := (hBP.ext E7).lt)
    | (go_at_call 12; (with_reducible refine Calls.mono (hle.out _ E7) ?_); rintro e w8 ⟨q1, c1, M, rfl, hMp, hMs, hQ1, hb8⟩; have E8 := E7.trans hb8; clear s3 p3; obtain ⟨s4, -⟩ := (hBS.ext E8).walk; have sl4 := (hBS.ext E8).lt; obtain ⟨p4, -⟩ := (hBP.ext E8).walk; have pl4 := (hBP.ext E8).lt))
  have hMl : M.length = P.length := by rw [hMp.length_eq]; exact hTl.out
  have hMr := hrg.out M hMp hMs
  have hMv := hvm.out M hMp
  have hMsm := small_of hMr hM.out.sP
  clear hrg hvm hMp hMs hTl hle hrl hf1 hf2
  replace hMr := Lib.hid hMr
  replace hMv := Lib.hid hMv
  replace hMsm := Lib.hid hMsm
  have hMlI : (M.length : Int) = P.length := by omega
  replace hMl := Lib.hid hMl
  go_upto_region 7 with (go_at_call 21; (with_reducible refine Calls.mono (hby.out _ E8) ?_); rintro e w9 ⟨q2, c2, MM, rfl, hBy, hQ2, hb9⟩; have E9 := E8.trans hb9; clear s4 p4; obtain ⟨s5, -⟩ := (hBS.ext E9).walk; have sl5 := (hBS.ext E9).lt; obtain ⟨p5, -⟩ := (hBP.ext E9).walk; have pl5 := (hBP.ext E9).lt)
  obtain ⟨hAl, hAr, hAv⟩ := hbr.out MM hBy
  have hAsm := small_of hAr hM.out.sP
  generalize bhL wide MM wide.length = A at *
  have hM9 := hM.out.more E9
  have hQ1' := hQ1.ext hb9
  have hm12 : M.length ≤ 1000 := by have := hMl.out; omega
  have hPM : PsM w9 pp pc P wp wcap wide hp hc high q1 c1 M := ⟨hM9.per, hM9.wid, hM9.hig, hQ1', hM9.sP, hM9.sw, hM9.sh, hMsm.out, hM9.nP, hm12⟩
  have hPA : PsM w9 pp pc P wp wcap wide hp hc high q2 c2 A := ⟨hM9.per, hM9.wid, hM9.hig, hQ2, hM9.sP, hM9.sw, hM9.sh, hAsm, hM9.nP, by omega⟩
  have hck := checkStands_any pp pc P wp wcap wide hp hc high q1 c1 M w9 hPM
  rw [hMr.out] at hck
  have hh1 := fun u (hu : Ext w9 u) => llHidden_any (hPM.more hu) hMr.out ((hBP.ext E9).ext hu) ((hBS.ext E9).ext hu)
  have hh2 := fun u (hu : Ext w9 u) => llHidden_any (hPA.more hu) hAr ((hBP.ext E9).ext hu) ((hBS.ext E9).ext hu)
  rw [hMv.out] at hh1
  generalize hidT P wide high A = va at *
  replace hck := Lib.hid hck
  replace hh1 := Lib.hid hh1
  replace hh2 := Lib.hid hh2
  clear hPM hPA hM9 hQ1' hQ1 hQ2 hAr hAsm hBy hbr hby hM hMr hMv hMsm
  replace hAl := Lib.hid hAl
  go_wp2_with (first
    | (go_at_call 27; (with_reducible refine Calls.mono hck.out ?_); rintro e x1 ⟨rfl, hx1⟩)
    | (go_at_call 29; (with_reducible refine Calls.mono (hh1.out _ hx1) ?_); rintro e x2 ⟨rfl, hx2⟩; have X2 := hx1.trans hx2)
    | (go_at_call 29; (with_reducible refine Calls.mono (hh2.out _ X2) ?_); rintro e x3 ⟨rfl, hx3⟩; have X3 := X2.trans hx3; have E10 := hE.trans (E9.trans X3))
    | (go_at_call 26; refine (ready_any B _ (by exact ht.ext E10)).mono ?_; rintro e wz ⟨rfl, hzz⟩))
  go_ret
  exact ⟨rfl, E10.trans hzz⟩
end Go.Proofs.YtfbegdcmnfkhgaaGreatDoor
