/- The places of a stage; the document's search finds what the search that leaves off finds: plain mathematics. Conditions: as each theorem says. How many places a stage has, and whether they are enough, by both texts. Conditions: the stage is right. Rows of people by their height: plain mathematics. Conditions: as each theorem says. -/
import Derived.Test.YtfbegdcmnfkhgaaGreatDoorLxJ37
import Derived.Test.YtfbegdcmnfkhgaaGreatDoorLxJ22
import Derived.Test.YtfbegdcmnfkhgaaGreatDoorLxStR
import Derived.Test.YtfbegdcmnfkhgaaGreatDoorLxJ26
set_option linter.unusedSimpArgs false
set_option linter.unusedVariables false
namespace Go.Proofs.YtfbegdcmnfkhgaaGreatDoor
open Go Go.RowKit

def plRow (wide : List Int) (r : Nat) : List StandV := (List.range (wide.getD r 0).toNat).map fun x : Nat => ⟨⟨#[]⟩, r, x⟩
/-- The places of the rows before r, and x places of row r. -/
def plT (wide : List Int) (r x : Nat) : List StandV := ((List.range r).flatMap fun r => plRow wide r) ++ (plRow wide r).take x
def plA (wide : List Int) : List StandV := (List.range wide.length).flatMap fun r => plRow wide r
theorem plRow_len (wide : List Int) (r : Nat) : (plRow wide r).length = (wide.getD r 0).toNat := by simp [plRow]
theorem plT_zero (wide : List Int) : plT wide 0 0 = [] := by simp [plT]
theorem plT_snoc (wide : List Int) {r x : Nat} (h : x < (wide.getD r 0).toNat) : plT wide r (x + 1) = plT wide r x ++ [⟨⟨#[]⟩, r, x⟩] := by
  unfold plT
  have hx : (plRow wide r)[x]? = some ⟨⟨#[]⟩, r, x⟩ := by unfold plRow; rw [List.getElem?_map, List.getElem?_range h]; rfl
  rw [take_snocL hx, List.append_assoc]
theorem plT_row (wide : List Int) (r : Nat) : plT wide r (wide.getD r 0).toNat = plT wide (r + 1) 0 := by
  unfold plT
  rw [List.take_of_length_le (by rw [plRow_len]; exact Nat.le_refl _), List.range_succ, List.flatMap_append]
  simp
theorem plT_all (wide : List Int) : plT wide wide.length 0 = plA wide := by simp [plT, plA]
def sumT (wide : List Int) (k : Nat) : Int := (wide.take k).foldl (· + ·) 0
theorem sumT_succ {wide : List Int} {k : Nat} {v : Int} (h : wide[k]? = some v) : sumT wide (k + 1) = sumT wide k + v := by unfold sumT; rw [take_snocL h, List.foldl_append]; rfl
theorem sumT_bound {wide : List Int} (h : WideOk wide) : ∀ k, k ≤ wide.length → 0 ≤ sumT wide k ∧ sumT wide k ≤ 30 * k ∧ ((plT wide k 0).length : Int) = sumT wide k
  | 0, _ => by simp [sumT, plT]
  | k + 1, hk => by
    obtain ⟨v, hv⟩ := getD_some (rfl : wide.length = wide.length) (show k < wide.length by omega)
    obtain ⟨i1, i2, i3⟩ := sumT_bound h k (by omega)
    obtain ⟨v1, v2⟩ := h.2 v (List.mem_of_getElem? hv)
    rw [sumT_succ hv]
    refine ⟨by omega, by omega, ?_⟩
    rw [← plT_row]
    have e : wide.getD k 0 = v := by rw [List.getD_eq_getElem?_getD, hv]; rfl
    have e2 : (plT wide k v.toNat).length = (plT wide k 0).length + v.toNat := by
      unfold plT
      rw [List.length_append, List.length_append, List.take_of_length_le (by rw [plRow_len, e]; exact Nat.le_refl _), plRow_len, e]
      simp
    rw [e, e2]
    omega
theorem plA_len {wide : List Int} (h : WideOk wide) : ((plA wide).length : Int) = sumT wide wide.length := by rw [← plT_all]; exact (sumT_bound h _ (Nat.le_refl _)).2.2
theorem plA_mem {wide : List Int} {x : StandV} (hx : x ∈ plA wide) : ∃ r p : Nat, r < wide.length ∧ p < (wide.getD r 0).toNat ∧ x = ⟨⟨#[]⟩, r, p⟩ := by
  obtain ⟨r, hr, hx⟩ := List.mem_flatMap.1 hx
  obtain ⟨p, hp, rfl⟩ := List.mem_map.1 hx
  exact ⟨r, p, List.mem_range.1 hr, List.mem_range.1 hp, rfl⟩
theorem plA_on {wide : List Int} (h : WideOk wide) {x : StandV} (hx : x ∈ plA wide) : OnStage wide x := by
  obtain ⟨r, p, hr, hp, rfl⟩ := plA_mem hx
  obtain ⟨v, hv⟩ := getD_some (rfl : wide.length = wide.length) hr
  have e : wide.getD r 0 = v := by rw [List.getD_eq_getElem?_getD, hv]; rfl
  obtain ⟨v1, v2⟩ := h.2 v (List.mem_of_getElem? hv)
  rw [e] at hp
  unfold OnStage
  simp only
  omega
theorem plA_lt (wide : List Int) : (plA wide).Pairwise (fun a b => ltV a b = true) := by
  unfold plA
  rw [List.pairwise_flatMap]
  constructor
  · intro r _
    unfold plRow
    rw [List.pairwise_map]
    exact (List.pairwise_lt_range).imp fun {a b} h => by simp [ltV]; omega
  · refine (List.pairwise_lt_range).imp fun {a b} h => ?_
    intro x hx y hy
    obtain ⟨p, _, rfl⟩ := List.mem_map.1 hx
    obtain ⟨q, _, rfl⟩ := List.mem_map.1 hy
    simp [ltV]
    omega
theorem ltV_notSame {a b : StandV} (h : ltV a b = true) : sameP a b = false := by
  unfold ltV at h
  unfold sameP
  simp at h ⊢
  omega
theorem sameP_symm (a b : StandV) : sameP a b = sameP b a := by unfold sameP; rw [Bool.eq_iff_iff]; simp; omega
theorem plA_apart (wide : List Int) : AllApart (plA wide) := by
  have h := plA_lt wide
  rw [List.pairwise_iff_getElem] at h
  intro i j x y hx hy hs
  obtain ⟨hi, ex⟩ := List.getElem?_eq_some_iff.1 hx
  obtain ⟨hj, ey⟩ := List.getElem?_eq_some_iff.1 hy
  rcases Nat.lt_trichotomy i j with k | k | k
  · have := ltV_notSame (h i j hi hj k)
    rw [ex, ey, hs] at this
    cases this
  · exact k
  · have := ltV_notSame (h j i hj hi k)
    rw [ex, ey, sameP_symm, hs] at this
    cases this
/-- More places than people: one is free. -/
theorem pigeon : ∀ (l T : List StandV), l.Pairwise (fun a b => sameP a b = false) → (∀ x ∈ l, inT T x = true) → l.length ≤ T.length
  | [], _, _, _ => Nat.zero_le _
  | x :: l, T, hl, h => by
    obtain ⟨p1, q1⟩ := List.pairwise_cons.1 hl
    obtain ⟨y, hy, hs⟩ := List.any_eq_true.1 (h x List.mem_cons_self)
    obtain ⟨T1, T2, rfl⟩ := List.append_of_mem hy
    have := pigeon l (T1 ++ T2) q1 fun z hz => by
      have hz2 := h z (List.mem_cons_of_mem _ hz)
      unfold inT at hz2 ⊢
      rw [List.any_append, List.any_cons] at hz2
      rw [List.any_append]
      cases hzy : sameP z y
      · rw [hzy, Bool.false_or] at hz2; exact hz2
      · have h1 := p1 z hz
        have : sameP x z = true := by unfold sameP at *; simp at *; omega
        rw [this] at h1
        cases h1
    rw [List.length_append] at this
    rw [List.length_append, List.length_cons, List.length_cons]
    omega
section
variable {P : List PersonV} {wide high : List Int} {all : List StandV}
/-- What is kept of all that is found. -/
theorem leF_inv {n : Nat} {R Q : List StandV → Prop} (hR : ∀ T x, R T → T.length < n → x ∈ all → inT T x = false → R (nxt P T x)) (hQ : ∀ T, R T → T.length = n → Q T) : ∀ (m : Nat) (T : List StandV) (st : Int × List StandV), R T → T.length + m = n → Q st.2 → Q (leF P wide high all m T st).2
  | 0, T, st, hT, hm, _ => hQ T hT (by omega)
  | m + 1, T, st, hT, hm, hs => by
    rw [← toF_all]
    have key : ∀ i, i ≤ all.length → Q (toF P wide high all m T st i).2 := by
      intro i
      induction i with
      | zero => intro _; exact hs
      | succ i ih =>
        intro hi
        obtain ⟨x, hx⟩ := getD_some (rfl : all.length = all.length) (show i < all.length by omega)
        rw [toF_succ hx]
        unfold stepF
        split
        · exact ih (by omega)
        · rename_i hin
          split
          · exact leF_inv hR hQ m _ _ (hR T x hT (by omega) (List.mem_of_getElem? hx) (by simpa using hin)) (by rw [nxt_len]; omega) (ih (by omega))
          · exact ih (by omega)
    exact key _ (Nat.le_refl _)
theorem leG_le : ∀ (m : Nat) (T : List StandV) (st : Int × List StandV), (leG P wide high all m T st).1 ≤ st.1
  | 0, T, st => by
    unfold leG
    split
    · simp only; omega
    · exact Int.le_refl _
  | m + 1, T, st => by
    have key : ∀ (l : List StandV) (st : Int × List StandV), (l.foldl (fun st x => if inT T x then st else leG P wide high all m (nxt P T x) st) st).1 ≤ st.1 := by
      intro l
      induction l with
      | nil => intro st; exact Int.le_refl _
      | cons x l ih =>
        intro st
        rw [List.foldl_cons]
        refine Int.le_trans (ih _) ?_
        split
        · exact Int.le_refl _
        · exact leG_le m _ st
    exact key all st
/-- With places enough somebody's stands are found. -/
theorem leG_found (hap : all.Pairwise (fun a b => sameP a b = false)) {n : Nat} (hn : n ≤ all.length) : ∀ (m : Nat) (T : List StandV) (st : Int × List StandV), T.length + m = n → (leG P wide high all m T st).1 ≤ n
  | 0, T, st, hm => by
    have hb := hidT_bound P wide high T
    unfold leG
    split
    · simp only; omega
    · omega
  | m + 1, T, st, hm => by
    have hex : ∃ x ∈ all, inT T x = false := by
      refine Classical.byContradiction fun hno => ?_
      have := pigeon all T hap fun x hx => by
        cases h : inT T x
        · exact absurd ⟨x, hx, h⟩ hno
        · rfl
      omega
    obtain ⟨x, hx, hin⟩ := hex
    obtain ⟨l1, l2, e⟩ := List.append_of_mem hx
    have key : ∀ (l : List StandV) (st : Int × List StandV), (l.foldl (fun st x => if inT T x then st else leG P wide high all m (nxt P T x) st) st).1 ≤ st.1 := by
      intro l
      induction l with
      | nil => intro st; exact Int.le_refl _
      | cons x l ih =>
        intro st
        rw [List.foldl_cons]
        refine Int.le_trans (ih _) ?_
        split
        · exact Int.le_refl _
        · exact leG_le m _ st
    have hi := fun st' => leG_found hap hn m (nxt P T x) st' (by rw [nxt_len]; omega)
    have e3 : leG P wide high all (m + 1) T st = all.foldl (fun st x => if inT T x then st else leG P wide high all m (nxt P T x) st) st := rfl
    have e4 : all.foldl (fun st x => if inT T x then st else leG P wide high all m (nxt P T x) st) st = l2.foldl (fun st x => if inT T x then st else leG P wide high all m (nxt P T x) st) (leG P wide high all m (nxt P T x) (l1.foldl (fun st x => if inT T x then st else leG P wide high all m (nxt P T x) st) st)) := by
      have : ∀ (l : List StandV), l = l1 ++ x :: l2 → l.foldl (fun st x => if inT T x then st else leG P wide high all m (nxt P T x) st) st = l2.foldl (fun st x => if inT T x then st else leG P wide high all m (nxt P T x) st) (leG P wide high all m (nxt P T x) (l1.foldl (fun st x => if inT T x then st else leG P wide high all m (nxt P T x) st) st)) := fun l hl => by
        rw [hl, List.foldl_append, List.foldl_cons, hin]
        rfl
      exact this all e
    rw [e3, e4]
    exact Int.le_trans (key l2 _) (hi _)
end
end Go.Proofs.YtfbegdcmnfkhgaaGreatDoor

namespace Go.Proofs.YtfbegdcmnfkhgaaGreatDoor
open Go Go.RowKit

def fullF (P : List PersonV) (wide : List Int) : Int := if sumT wide wide.length < P.length then 12 else 0
def bigF (P : List PersonV) (wide : List Int) : Int := if fullF P wide = 0 then (if 7 < (P.length : Int) ∨ 12 < sumT wide wide.length then 2 else 0) else fullF P wide
set_option maxRecDepth 100000 in
set_option maxHeartbeats 1600000 in
theorem placesOf_any (wp : Option Addr) (wcap : Nat) (wide : List Int) (hp : Option Addr) (hl hc : Nat) (w : World) (h : Slc 1 intC w wp wide.length wcap wide) (hwo : WideOk wide) :
    Calls Tryz.prog 39 #[.agg #[.slice wp wide.length wcap, .slice hp hl hc]] w fun e w' => e = .returned (.int .i64 (sumT wide wide.length)) ∧ Ext w w' := by
  have hE0 : Ext w (w.alloc (.cells #[.slice wp wide.length wcap, .slice hp hl hc] 29)) := (Ext.refl _).alloc _
  have hsb := sumT_bound hwo
  have hw10 := hwo.1
  replace hsb := Lib.hid hsb
  go_enter Tryz.func39, Tryz.ntmps39
  go_wp2
  go_loopw [3, 9] (fun v3 v9 wr => ∃ k : Nat, v3 = .int .i64 (sumT wide k) ∧ v9 = .int .i64 k ∧ k ≤ wide.length ∧ Ext w wr) (fun _ v9 _ => wide.length - (intOf v9).toNat)
  case atStart => exact ⟨0, rfl, rfl, Nat.zero_le _, hE0⟩
  case round =>
    obtain ⟨k, rfl, rfl, hk, hE⟩ := hrel
    by_cases hlt : k < wide.length
    · obtain ⟨x, hx⟩ := getD_some (rfl : wide.length = wide.length) hlt
      have hkI : (k : Int) < wide.length := by omega
      rcases (slcC h).2 with ⟨-, e⟩ | ⟨b, off, rfl, hb, hEl⟩
      · rw [e] at hx; cases hx
      have c0 := (hEl.ext hE hb).int hx
      have lb := Nat.lt_of_lt_of_le hb hE.size
      obtain ⟨v1, v2⟩ := hwo.2 x (List.mem_of_getElem? hx)
      have hs := sumT_succ hx
      obtain ⟨i1, i2, -⟩ := hsb.out k hk
      replace hs := Lib.hid hs
      clear hEl hx
      go_wp2
      go_roundw
      case rel => exact ⟨k + 1, by rw [hs.out], by go_num, by omega, hE⟩
      case measure => simp [intOf]; omega
    · obtain rfl : k = wide.length := by omega
      go_wp2
      go_ret
      exact ⟨rfl, hE⟩
set_option maxRecDepth 100000 in
set_option maxHeartbeats 1600000 in
theorem rfull_any (pp : Option Addr) (pc : Nat) (P : List PersonV) (wp : Option Addr) (wcap : Nat) (wide : List Int) (hp : Option Addr) (hl hc : Nat) (w : World) (h : Slc 1 intC w wp wide.length wcap wide) (hwo : WideOk wide) :
    Calls Tryz.prog 20 #[.slice pp P.length pc, .agg #[.slice wp wide.length wcap, .slice hp hl hc]] w fun e w' => e = .returned (.int .i64 (fullF P wide)) ∧ Ext w w' := by
  have hE0 : Ext w (w.alloc (.cells #[.slice wp wide.length wcap, .slice hp hl hc] 29)) := (Ext.refl _).alloc _
  have hsb := sumT_bound hwo
  have hw10 := hwo.1
  have hF : fullF P wide = if sumT wide wide.length < P.length then 12 else 0 := rfl
  replace hsb := Lib.hid hsb
  replace hF := Lib.hid hF
  go_enter Tryz.func20, Tryz.ntmps20
  go_wp2
  go_loopw [5, 11] (fun v5 v11 wr => ∃ k : Nat, v5 = .int .i64 (sumT wide k) ∧ v11 = .int .i64 k ∧ k ≤ wide.length ∧ Ext w wr) (fun _ v11 _ => wide.length - (intOf v11).toNat)
  case atStart => exact ⟨0, rfl, rfl, Nat.zero_le _, hE0⟩
  case round =>
    obtain ⟨k, rfl, rfl, hk, hE⟩ := hrel
    by_cases hlt : k < wide.length
    · obtain ⟨x, hx⟩ := getD_some (rfl : wide.length = wide.length) hlt
      have hkI : (k : Int) < wide.length := by omega
      rcases (slcC h).2 with ⟨-, e⟩ | ⟨b, off, rfl, hb, hEl⟩
      · rw [e] at hx; cases hx
      have c0 := (hEl.ext hE hb).int hx
      have lb := Nat.lt_of_lt_of_le hb hE.size
      obtain ⟨v1, v2⟩ := hwo.2 x (List.mem_of_getElem? hx)
      have hs := sumT_succ hx
      obtain ⟨i1, i2, -⟩ := hsb.out k hk
      replace hs := Lib.hid hs
      clear hEl hx
      go_wp2
      go_roundw
      case rel => exact ⟨k + 1, by rw [hs.out], by go_num, by omega, hE⟩
      case measure => simp [intOf]; omega
    · obtain rfl : k = wide.length := by omega
      by_cases hf : sumT wide wide.length < P.length
      all_goals
        go_wp2
        go_ret
        exact ⟨ret_int (by rw [hF.out]; simp [hf]), hE⟩
set_option maxRecDepth 100000 in
set_option maxHeartbeats 1600000 in
theorem rleast_any (pp : Option Addr) (pc : Nat) (P : List PersonV) (hP : P.length ≤ 1000) (wp : Option Addr) (wcap : Nat) (wide : List Int) (hp : Option Addr) (hl hc : Nat) (w : World) (h : Slc 1 intC w wp wide.length wcap wide) (hwo : WideOk wide) :
    Calls Tryz.prog 16 #[.slice pp P.length pc, .agg #[.slice wp wide.length wcap, .slice hp hl hc]] w fun e w' => e = .returned (.int .i64 (bigF P wide)) ∧ Ext w w' := by
  have hE0 : Ext w (w.alloc (.cells #[.slice wp wide.length wcap, .slice hp hl hc] 29)) := (Ext.refl _).alloc _
  have hB0 : Blk (w.alloc (.cells #[.slice wp wide.length wcap, .slice hp hl hc] 29)) w.heap.size 29 #[.slice wp wide.length wcap, .slice hp hl hc] := Blk.new' rfl
  have hsb := sumT_bound hwo
  have hw10 := hwo.1
  have hfl := fun u (hu : Ext w u) => rfull_any pp pc P wp wcap wide hp hl hc u (h.ext hu) hwo
  have hF : bigF P wide = if fullF P wide = 0 then (if 7 < (P.length : Int) ∨ 12 < sumT wide wide.length then 2 else 0) else fullF P wide := rfl
  generalize fullF P wide = ff at *
  replace hsb := Lib.hid hsb
  replace hF := Lib.hid hF
  replace hfl := Lib.hid hfl
  by_cases hf0 : ff = 0
  rotate_left
  · go_enter Tryz.func16, Tryz.ntmps16
    go_wp2_with (go_at_call 20; (with_reducible refine Calls.mono (hfl.out _ hE0) ?_); rintro e w1 ⟨rfl, hb1⟩)
    go_ret
    exact ⟨ret_int (by rw [hF.out, if_neg hf0]), hE0.trans hb1⟩
  subst hf0
  go_enter Tryz.func16, Tryz.ntmps16
  go_wp2_with (go_at_call 20; (with_reducible refine Calls.mono (hfl.out _ hE0) ?_); rintro e w1 ⟨rfl, hb1⟩; obtain ⟨y1, -⟩ := (hB0.ext hb1).walk; have bl := (hB0.ext hb1).lt; have E1 := hE0.trans hb1)
  go_loopw [6, 18] (fun v6 v18 wr => ∃ k : Nat, v6 = .int .i64 (sumT wide k) ∧ v18 = .int .i64 k ∧ k ≤ wide.length ∧ Ext w wr) (fun _ v18 _ => wide.length - (intOf v18).toNat)
  case atStart => exact ⟨0, rfl, rfl, Nat.zero_le _, E1⟩
  case round =>
    clear y1 bl
    obtain ⟨k, rfl, rfl, hk, hE⟩ := hrel
    by_cases hlt : k < wide.length
    · obtain ⟨x, hx⟩ := getD_some (rfl : wide.length = wide.length) hlt
      have hkI : (k : Int) < wide.length := by omega
      rcases (slcC h).2 with ⟨-, e⟩ | ⟨b, off, rfl, hb, hEl⟩
      · rw [e] at hx; cases hx
      have c0 := (hEl.ext hE hb).int hx
      have lb := Nat.lt_of_lt_of_le hb hE.size
      obtain ⟨v1, v2⟩ := hwo.2 x (List.mem_of_getElem? hx)
      have hs := sumT_succ hx
      obtain ⟨i1, i2, -⟩ := hsb.out k hk
      replace hs := Lib.hid hs
      clear hEl hx
      go_wp2
      go_roundw
      case rel => exact ⟨k + 1, by rw [hs.out], by go_num, by omega, hE⟩
      case measure => simp [intOf]; omega
    · obtain rfl : k = wide.length := by omega
      have hF2 : bigF P wide = if 7 < (P.length : Int) ∨ 12 < sumT wide wide.length then 2 else 0 := by have := hF.out; simpa using this
      clear hF
      have hF := Lib.hid hF2
      clear hF2
      by_cases h7 : 7 < (P.length : Int)
      · go_wp2
        go_ret
        exact ⟨ret_int (by rw [hF.out, if_pos (.inl h7)]), hE⟩
      · by_cases h12 : 12 < sumT wide wide.length
        · go_wp2
          go_ret
          exact ⟨ret_int (by rw [hF.out, if_pos (.inr h12)]), hE⟩
        · go_wp2
          go_ret
          exact ⟨ret_int (by rw [hF.out, if_neg (by omega)]), hE⟩
set_option maxRecDepth 100000 in
set_option maxHeartbeats 1600000 in
theorem full_any (pp : Option Addr) (pc : Nat) (P : List PersonV) (wp : Option Addr) (wcap : Nat) (wide : List Int) (hp : Option Addr) (hc : Nat) (high : List Int) (w : World) (h : PsM w pp pc P wp wcap wide hp hc high none 0 []) (hwo : ostF P wide high = 0 → WideOk wide) :
    Calls Tryz.prog 38 #[.slice pp P.length pc, .agg #[.slice wp wide.length wcap, .slice hp high.length hc]] w fun e w' => e = .returned (.int .i64 (if ostF P wide high = 0 then fullF P wide else ostF P wide high)) ∧ Ext w w' := by
  have hE0 : Ext w (w.alloc (.cells #[.slice wp wide.length wcap, .slice hp high.length hc] 29)) := (Ext.refl _).alloc _
  have hB0 : Blk (w.alloc (.cells #[.slice wp wide.length wcap, .slice hp high.length hc] 29)) w.heap.size 29 #[.slice wp wide.length wcap, .slice hp high.length hc] := Blk.new' rfl
  have hst := fun u (hu : Ext w u) => stageFault_any pp pc P wp wcap wide hp hc high none 0 [] u (h.more hu)
  generalize ostF P wide high = f at *
  replace hst := Lib.hid hst
  by_cases hf : f = 0
  rotate_left
  · rw [if_neg hf]
    go_enter Tryz.func38, Tryz.ntmps38
    go_wp2_with (go_at_call 69; (with_reducible refine Calls.mono (hst.out _ hE0) ?_); rintro e w1 ⟨rfl, hb1⟩)
    go_ret
    exact ⟨rfl, hE0.trans hb1⟩
  subst hf
  rw [if_pos rfl]
  have hpl := fun u (hu : Ext w u) => placesOf_any wp wcap wide hp high.length hc u (h.wid.ext hu) (hwo rfl)
  have hF : fullF P wide = if sumT wide wide.length < P.length then 12 else 0 := rfl
  generalize sumT wide wide.length = sm at *
  replace hpl := Lib.hid hpl
  replace hF := Lib.hid hF
  by_cases hlt : sm < P.length
  all_goals
    go_enter Tryz.func38, Tryz.ntmps38
    go_wp2_with (first
      | (go_at_call 69; (with_reducible refine Calls.mono (hst.out _ hE0) ?_); rintro e w1 ⟨rfl, hb1⟩; obtain ⟨y1, -⟩ := (hB0.ext hb1).walk; have bl := (hB0.ext hb1).lt; have E1 := hE0.trans hb1)
      | (go_at_call 39; (with_reducible refine Calls.mono (hpl.out _ E1) ?_); rintro e w2 ⟨rfl, hb2⟩))
    go_ret
    exact ⟨ret_int (by rw [hF.out]; simp [hlt]), E1.trans hb2⟩
end Go.Proofs.YtfbegdcmnfkhgaaGreatDoor

namespace Go.Proofs.YtfbegdcmnfkhgaaGreatDoor
open Go Go.RowKit

/-- People in the middle of a row. -/
def rowP (wide : List Int) (r : Nat) (Q : List PersonV) : List StandV := (List.range Q.length).map fun i => ⟨(Q.getD i default).name, r, (wide.getD r 0 - Q.length) / 2 + i⟩
theorem rowP_len (wide : List Int) (r : Nat) (Q : List PersonV) : (rowP wide r Q).length = Q.length := by simp [rowP]
theorem rowP_at {wide : List Int} {r : Nat} {Q : List PersonV} {i : Nat} {x : PersonV} (h : Q[i]? = some x) : (rowP wide r Q)[i]? = some ⟨x.name, r, (wide.getD r 0 - Q.length) / 2 + i⟩ := by
  have hi := (List.getElem?_eq_some_iff.1 h).1
  unfold rowP
  rw [List.getElem?_map, List.getElem?_range hi]
  simp [List.getD_eq_getElem?_getD, h]
/-- How many are left ahead of row r, and how many stand in it. -/
def leftN (wide : List Int) (n : Nat) : Nat → Nat
  | 0 => n
  | r + 1 => leftN wide n r - min (wide.getD r 0).toNat (leftN wide n r)
def takeN (wide : List Int) (n r : Nat) : Nat := min (wide.getD r 0).toNat (leftN wide n r)
theorem leftN_succ (wide : List Int) (n r : Nat) : leftN wide n (r + 1) = leftN wide n r - takeN wide n r := rfl
theorem leftN_le (wide : List Int) (n : Nat) : ∀ r, leftN wide n r ≤ n
  | 0 => Nat.le_refl _
  | r + 1 => by have := leftN_le wide n r; rw [leftN_succ]; omega
theorem takeN_le (wide : List Int) (n r : Nat) : takeN wide n r ≤ leftN wide n r := Nat.min_le_right _ _
theorem takeN_wide (wide : List Int) (n r : Nat) : takeN wide n r ≤ (wide.getD r 0).toNat := Nat.min_le_left _ _
def manyL (wide : List Int) (n k : Nat) : List Int := (List.range k).map fun r => (takeN wide n r : Int)
theorem manyL_len (wide : List Int) (n k : Nat) : (manyL wide n k).length = k := by simp [manyL]
theorem manyL_succ (wide : List Int) (n k : Nat) : manyL wide n (k + 1) = manyL wide n k ++ [(takeN wide n k : Int)] := by simp [manyL, List.range_succ]
theorem manyL_at {wide : List Int} {n k r : Nat} (h : r < k) : (manyL wide n k)[r]? = some (takeN wide n r : Int) := by
  unfold manyL; rw [List.getElem?_map, List.getElem?_range h]; rfl
/-- Those who are left ahead of row r. -/
def restP (wide : List Int) (M : List PersonV) (r : Nat) : List PersonV := M.drop (M.length - leftN wide M.length r)
theorem restP_len (wide : List Int) (M : List PersonV) (r : Nat) : (restP wide M r).length = leftN wide M.length r := by
  unfold restP
  have := leftN_le wide M.length r
  rw [List.length_drop]; omega
theorem restP_zero (wide : List Int) (M : List PersonV) : restP wide M 0 = M := by simp [restP, leftN]
theorem restP_succ (wide : List Int) (M : List PersonV) (r : Nat) : restP wide M (r + 1) = (restP wide M r).drop (takeN wide M.length r) := by
  unfold restP
  have h1 := leftN_le wide M.length r
  have h2 := takeN_le wide M.length r
  rw [List.drop_drop, leftN_succ]
  congr 1
  omega
def headP (wide : List Int) (M : List PersonV) (r : Nat) : List PersonV := (restP wide M r).take (takeN wide M.length r)
theorem headP_len (wide : List Int) (M : List PersonV) (r : Nat) : (headP wide M r).length = takeN wide M.length r := by
  unfold headP
  rw [List.length_take, restP_len]
  exact Nat.min_eq_left (takeN_le _ _ _)
def bhL (wide : List Int) (M : List PersonV) (r : Nat) : List StandV := (List.range r).flatMap fun r => rowP wide r (headP wide M r)
theorem bhL_succ (wide : List Int) (M : List PersonV) (r : Nat) : bhL wide M (r + 1) = bhL wide M r ++ rowP wide r (headP wide M r) := by
  unfold bhL
  rw [List.range_succ, List.flatMap_append]
  simp
theorem bhL_len (wide : List Int) (M : List PersonV) : ∀ r, (bhL wide M r).length = M.length - leftN wide M.length r
  | 0 => by simp [bhL, leftN]
  | r + 1 => by
    rw [bhL_succ, List.length_append, bhL_len wide M r, rowP_len, headP_len, leftN_succ]
    have h1 := leftN_le wide M.length r
    have h2 := takeN_le wide M.length r
    omega
theorem rowP_mem {wide : List Int} {r : Nat} {Q : List PersonV} {x : StandV} (h : x ∈ rowP wide r Q) : ∃ (i : Nat) (y : PersonV), Q[i]? = some y ∧ x = ⟨y.name, r, (wide.getD r 0 - Q.length) / 2 + i⟩ := by
  unfold rowP at h
  obtain ⟨i, hi, rfl⟩ := List.mem_map.1 h
  have hi := List.mem_range.1 hi
  exact ⟨i, Q[i], List.getElem?_eq_getElem hi, by simp [hi]⟩
end Go.Proofs.YtfbegdcmnfkhgaaGreatDoor
