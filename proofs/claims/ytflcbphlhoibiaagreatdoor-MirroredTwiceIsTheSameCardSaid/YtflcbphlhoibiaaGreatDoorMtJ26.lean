/- What is wrong with stands: plain words. Conditions: as each theorem says. Stands the other way round: plain mathematics. Conditions: as each theorem says. Stands with gaps closed: plain mathematics. Conditions: as each theorem says. -/
import Derived.Test.YtflcbphlhoibiaaGreatDoorMtStK
import Derived.Test.YtflcbphlhoibiaaGreatDoorMtStN
set_option linter.unusedSimpArgs false
set_option linter.unusedVariables false
namespace Go.Proofs.YtflcbphlhoibiaaGreatDoor
open Go Go.RowKit

theorem baL {a b : ByteArray} : (a.toList == b.toList) = true ↔ a = b := by
  constructor
  · intro h
    have h4 := eq_of_beq h
    rw [ByteArray.toList_eq, ByteArray.toList_eq] at h4
    cases a; cases b
    simp only at h4 ⊢
    congr 1
    exact Array.toList_inj.1 h4
  · rintro rfl
    simp
def hasP (P : List PersonV) (nm : ByteArray) : Bool := P.any fun x => x.name.toList == nm.toList
theorem hasP_iff {P : List PersonV} {nm : ByteArray} : hasP P nm = true ↔ ∃ x ∈ P, x.name = nm := by
  unfold hasP
  rw [List.any_eq_true]
  exact ⟨fun ⟨x, hx, h⟩ => ⟨x, hx, baL.1 h⟩, fun ⟨x, hx, h⟩ => ⟨x, hx, baL.2 h⟩⟩
theorem hasP_not {P : List PersonV} {nm : ByteArray} (h : ∀ x ∈ P, x.name ≠ nm) : hasP P nm = false := by
  cases hh : hasP P nm
  · rfl
  · obtain ⟨x, hx, e⟩ := hasP_iff.1 hh
    exact absurd e (h x hx)
def dupB : List ByteArray → Bool
  | [] => false
  | x :: l => (l.any fun y => x.toList == y.toList) || dupB l
theorem dupB_iff : ∀ {l : List ByteArray}, dupB l = true ↔ ¬ l.Nodup
  | [] => by simp [dupB]
  | x :: l => by
    have ih := @dupB_iff l
    unfold dupB
    rw [Bool.or_eq_true, List.any_eq_true, ih, List.nodup_cons]
    constructor
    · rintro (⟨y, hy, e⟩ | h)
      · have := baL.1 e; subst this; exact fun h => h.1 hy
      · exact fun h2 => h h2.2
    · intro h
      by_cases hm : x ∈ l
      · exact .inl ⟨x, hm, baL.2 rfl⟩
      · exact .inr fun h2 => h ⟨hm, h2⟩
def cmpV (a b : StandV) : Int := if a.row < b.row then -1 else if b.row < a.row then 1 else if a.place < b.place then -1 else if b.place < a.place then 1 else 0
def chkSta (P : List PersonV) (wide : List Int) (S : List StandV) (i : Nat) : Int :=
  if hasP P (atL default S i).name then (if inB (atL default S i).row 0 (wide.length - 1) && inB (atL default S i).place 0 (wide.getD (atL default S i).row.toNat 0 - 1) then (if 0 < i && decide (0 ≤ cmpV (atL default S (i - 1)) (atL default S i)) then 7 else 0) else 1) else 8
def ostF (P : List PersonV) (wide high : List Int) : Int := if peopleF P = 0 then stageF wide high else peopleF P
def listF (P : List PersonV) (wide : List Int) (S : List StandV) : Int :=
  if P.length < S.length then 2 else if scanF S.length (chkSta P wide S) = 0 then (if dupB (namesS S) then 6 else 0) else scanF S.length (chkSta P wide S)
def standsF (P : List PersonV) (wide high : List Int) (S : List StandV) : Int :=
  if ostF P wide high = 0 then listF P wide S else ostF P wide high

theorem stageF_ok {wide high : List Int} (h : stageF wide high = 0) : WideOk wide ∧ (∀ v ∈ high, 0 ≤ v ∧ v ≤ 5000) ∧ high.length = wide.length ∧ 1 ≤ wide.length ∧ ∀ i x y, high[i]? = some x → high[i + 1]? = some y → x ≤ y := by
  unfold stageF at h
  by_cases h0 : wide.length = 0
  · rw [if_pos h0] at h; cases h
  rw [if_neg h0] at h
  by_cases h1 : 10 < wide.length
  · rw [if_pos h1] at h; cases h
  rw [if_neg h1] at h
  by_cases h2 : high.length ≠ wide.length
  · rw [if_pos h2] at h; cases h
  rw [if_neg h2] at h
  have h2 : high.length = wide.length := Decidable.not_not.1 h2
  have hz := scan_all h
  have hat : ∀ i x y, wide[i]? = some x → high[i]? = some y → (1 ≤ x ∧ x ≤ 30) ∧ (0 ≤ y ∧ y ≤ 5000) ∧ (0 < i → atL 0 high (i - 1) ≤ y) := by
    intro i x y hx hy
    have h3 := hz i (List.getElem?_eq_some_iff.1 hx).1
    unfold chkRow at h3
    rw [atL_of hx, atL_of hy] at h3
    cases k1 : inB x 1 30
    · rw [k1] at h3; simp at h3
    cases k2 : inB y 0 5000
    · rw [k1, k2] at h3; simp at h3
    refine ⟨inB_iff.1 k1, inB_iff.1 k2, fun hi => ?_⟩
    rw [k1, k2] at h3
    by_cases k3 : y < atL 0 high (i - 1)
    · simp [hi, k3] at h3
    · omega
  have both : ∀ i, i < wide.length → ∃ x y, wide[i]? = some x ∧ high[i]? = some y := fun i hi => ⟨_, _, List.getElem?_eq_getElem hi, List.getElem?_eq_getElem (by omega)⟩
  refine ⟨⟨by omega, fun v hv => ?_⟩, fun v hv => ?_, h2, by omega, fun i x y hx hy => ?_⟩
  · obtain ⟨i, hi, e⟩ := List.getElem_of_mem hv
    obtain ⟨x, y, hx, hy⟩ := both i hi
    have hx2 : wide[i]? = some v := by rw [List.getElem?_eq_getElem hi, e]
    exact (hat i v y hx2 hy).1
  · obtain ⟨i, hi, e⟩ := List.getElem_of_mem hv
    obtain ⟨x, y, hx, hy⟩ := both i (by omega)
    have hy2 : high[i]? = some v := by rw [List.getElem?_eq_getElem hi, e]
    exact (hat i x v hx hy2).2.1
  · obtain ⟨u, v, hu, hv⟩ := both (i + 1) (by have := (List.getElem?_eq_some_iff.1 hy).1; omega)
    have := (hat (i + 1) u y hu hy).2.2 (by omega)
    rwa [Nat.add_sub_cancel, atL_of hx] at this
theorem ostF_ok {P : List PersonV} {wide high : List Int} (h : ostF P wide high = 0) : peopleF P = 0 ∧ stageF wide high = 0 := by
  unfold ostF at h
  by_cases h0 : peopleF P = 0
  · rw [if_pos h0] at h; exact ⟨h0, h⟩
  · rw [if_neg h0] at h; exact absurd h h0
theorem standsF_ok {P : List PersonV} {wide high : List Int} {S : List StandV} (h : standsF P wide high S = 0) : StandsOk P wide high S ∧ 1 ≤ wide.length ∧ (∀ v ∈ high, v ≤ 5000) ∧ (namesS S).Nodup := by
  unfold standsF at h
  by_cases h0 : ostF P wide high = 0
  rotate_left
  · rw [if_neg h0] at h; exact absurd h h0
  rw [if_pos h0] at h
  obtain ⟨hp, hs⟩ := ostF_ok h0
  have hpo := peopleF_ok hp
  obtain ⟨hw, hh, hwh, h1, -⟩ := stageF_ok hs
  unfold listF at h
  by_cases h2 : P.length < S.length
  · rw [if_pos h2] at h; cases h
  rw [if_neg h2] at h
  by_cases h3 : scanF S.length (chkSta P wide S) = 0
  rotate_left
  · rw [if_neg h3] at h; exact absurd h h3
  rw [if_pos h3] at h
  have hd : dupB (namesS S) = false := by
    cases hh : dupB (namesS S)
    · rfl
    · rw [hh] at h; cases h
  have hz := scan_all h3
  have hat : ∀ (i : Nat) (x : StandV), S[i]? = some x → hasP P x.name = true ∧ (0 ≤ x.row ∧ x.row ≤ wide.length - 1) ∧ 0 ≤ x.place ∧ x.place ≤ wide.getD x.row.toNat 0 - 1 := by
    intro i x hx
    have h4 := hz i (List.getElem?_eq_some_iff.1 hx).1
    unfold chkSta at h4
    rw [atL_of hx] at h4
    cases k0 : hasP P x.name
    · rw [k0] at h4; simp at h4
    cases k1 : inB x.row 0 (wide.length - 1)
    · rw [k0, k1] at h4; simp at h4
    cases k2 : inB x.place 0 (wide.getD x.row.toNat 0 - 1)
    · rw [k0, k1, k2] at h4; simp at h4
    exact ⟨rfl, inB_iff.1 k1, inB_iff.1 k2⟩
  have hmem : ∀ x ∈ S, ∃ i, S[i]? = some x := fun x hx => let ⟨i, hi, e⟩ := List.getElem_of_mem hx; ⟨i, by rw [List.getElem?_eq_getElem hi, e]⟩
  have hpl := hpo.len
  refine ⟨⟨hpo, hw, fun v hv => ?_, hwh, by omega, fun x hx => ?_, fun x hx => ?_⟩, h1, fun v hv => (hh v hv).2, ?_⟩
  · have := hh v hv; omega
  · obtain ⟨i, hi⟩ := hmem x hx
    obtain ⟨-, h5, h6⟩ := hat i x hi
    have h7 : wide.getD x.row.toNat 0 ≤ 30 := by
      rw [List.getD_eq_getElem?_getD]
      cases hg : wide[x.row.toNat]? with
      | none => simp
      | some v => simpa using (hw.2 v (List.mem_of_getElem? hg)).2
    exact ⟨h5.1, by omega, h6.1, by omega⟩
  · obtain ⟨i, hi⟩ := hmem x hx
    obtain ⟨q, hq, e⟩ := hasP_iff.1 (hat i x hi).1
    obtain ⟨k, hk, e2⟩ := List.getElem_of_mem hq
    exact ⟨k, q, by rw [List.getElem?_eq_getElem hk, e2], e⟩
  · exact Classical.not_not.1 fun hn => by rw [dupB_iff.2 hn] at hd; cases hd
end Go.Proofs.YtflcbphlhoibiaaGreatDoor

namespace Go.Proofs.YtflcbphlhoibiaaGreatDoor
open Go

def mirS (wide : List Int) (x : StandV) : StandV := ⟨x.name, x.row, wide.getD x.row.toNat 0 - 1 - x.place⟩
section
variable {P : List PersonV} {wide high : List Int}
theorem mir_mir (x : StandV) : mirS wide (mirS wide x) = x := by
  unfold mirS
  cases x
  simp only [StandV.mk.injEq, true_and]
  omega
theorem mir_pos (x : StandV) : posS wide (mirS wide x) = -posS wide x := by
  unfold posS mirS
  simp only
  omega
theorem mir_near (a b : StandV) : nearS wide (mirS wide a) (mirS wide b) = nearS wide a b := by
  unfold nearS
  rw [mir_pos, mir_pos]
  unfold inB
  exact decide_eq_decide.2 (by omega)
theorem mir_hides (a b : StandV) : hidesS P wide high (mirS wide a) (mirS wide b) = hidesS P wide high a b := by
  unfold hidesS beforeS
  rw [mir_near]
  rfl
/-- How many pairs there are. -/
theorem hiddenL_len (S : List StandV) : (hiddenL P wide high S).length = (S.flatMap fun b => S.filter fun a => hidesS P wide high a b).length := by
  unfold hiddenL
  rw [List.length_flatMap, List.length_flatMap]
  congr 1
  exact List.map_congr_left fun b _ => by rw [List.length_map]
theorem hiddenL_perm {S T : List StandV} (h : S.Perm T) : (hiddenL P wide high S).length = (hiddenL P wide high T).length := by
  rw [hiddenL_len, hiddenL_len, List.length_flatMap, List.length_flatMap]
  have h1 : S.map (fun b => (S.filter fun a => hidesS P wide high a b).length) = S.map (fun b => (T.filter fun a => hidesS P wide high a b).length) :=
    List.map_congr_left fun b _ => (h.filter _).length_eq
  rw [h1]
  exact (h.map _).sum_nat
theorem hiddenL_mir (S : List StandV) : (hiddenL P wide high (S.map (mirS wide))).length = (hiddenL P wide high S).length := by
  rw [hiddenL_len, hiddenL_len, List.length_flatMap, List.length_flatMap, List.map_map]
  congr 1
  refine List.map_congr_left fun b _ => ?_
  simp only [Function.comp_apply]
  rw [List.filter_map, List.length_map]
  congr 1
  exact List.filter_congr fun a _ => by simp only [Function.comp_apply]; exact mir_hides a b
end
/-- Ordered by row, and by place in a row. -/
def ltV (a b : StandV) : Bool := decide (a.row < b.row) || (decide (a.row = b.row) && decide (a.place < b.place))
theorem ltV_cmp (a b : StandV) : ltV a b = decide (cmpV a b < 0) := by
  unfold ltV cmpV
  by_cases h1 : a.row < b.row
  · simp [h1]
  · by_cases h2 : b.row < a.row
    · have h3 : ¬ a.row = b.row := by omega
      simp [h1, h2, h3]
    · have h3 : a.row = b.row := by omega
      by_cases h4 : a.place < b.place
      · simp [h3, h4]
      · by_cases h5 : b.place < a.place <;> simp [h3, h4, h5]
theorem ltV_irrefl (a : StandV) : ltV a a = false := by unfold ltV; simp
theorem ltV_trans {a b c : StandV} (h1 : ltV a b = true) (h2 : ltV b c = true) : ltV a c = true := by
  unfold ltV at *
  simp at *
  omega
/-- Two lists in strict order that hold the same are the same. -/
theorem sorted_same : ∀ {S T : List StandV}, S.Pairwise (fun a b => ltV a b = true) → T.Pairwise (fun a b => ltV a b = true) → S.Perm T → S = T
  | [], T, _, _, h => h.nil_eq
  | a :: S, [], _, _, h => by have := h.length_eq; simp at this
  | a :: S, b :: T, h1, h2, h => by
    have hab : a = b := by
      have ha : a ∈ b :: T := h.subset List.mem_cons_self
      have hb : b ∈ a :: S := h.symm.subset List.mem_cons_self
      rcases List.mem_cons.1 ha with e | e
      · exact e
      · rcases List.mem_cons.1 hb with e2 | e2
        · exact e2.symm
        · have k1 := (List.pairwise_cons.1 h2).1 a e
          have k2 := (List.pairwise_cons.1 h1).1 b e2
          have := ltV_trans k1 k2
          rw [ltV_irrefl] at this
          cases this
    subst hab
    rw [sorted_same (List.pairwise_cons.1 h1).2 (List.pairwise_cons.1 h2).2 h.cons_inv]
end Go.Proofs.YtflcbphlhoibiaaGreatDoor

namespace Go.Proofs.YtflcbphlhoibiaaGreatDoor
open Go

theorem cmp_lt {a b : StandV} : cmpV a b < 0 ↔ ltV a b = true := by rw [ltV_cmp]; simp
theorem rise_pair {S : List StandV} (h : ∀ i x y, S[i]? = some x → S[i + 1]? = some y → ltV x y = true) : S.Pairwise (fun a b => ltV a b = true) := by
  rw [List.pairwise_iff_getElem]
  have hstep : ∀ (d i : Nat) (x y : StandV), S[i]? = some x → S[i + 1 + d]? = some y → ltV x y = true := by
    intro d
    induction d with
    | zero => exact fun i x y hx hy => h i x y hx hy
    | succ d ih =>
      intro i x y hx hy
      have hl := (List.getElem?_eq_some_iff.1 hy).1
      have hz : S[i + 1 + d]? = some S[i + 1 + d] := List.getElem?_eq_getElem (by omega)
      exact ltV_trans (ih i x _ hx hz) (h (i + 1 + d) _ y hz (by rw [← hy]; congr 1))
  intro i j hi hj hij
  obtain ⟨d, rfl⟩ : ∃ d, j = i + 1 + d := ⟨j - (i + 1), by omega⟩
  exact hstep d i _ _ (List.getElem?_eq_getElem hi) (List.getElem?_eq_getElem hj)
/-- Right stands are in strict order. -/
theorem stands_sorted {P : List PersonV} {wide : List Int} {S : List StandV} (h : scanF S.length (chkSta P wide S) = 0) : S.Pairwise (fun a b => ltV a b = true) := by
  refine rise_pair fun i x y hx hy => ?_
  have h4 := scan_all h (i + 1) (List.getElem?_eq_some_iff.1 hy).1
  unfold chkSta at h4
  rw [atL_of hy] at h4
  cases k0 : hasP P y.name
  · rw [k0] at h4; simp at h4
  cases k1 : inB y.row 0 (wide.length - 1)
  · rw [k0, k1] at h4; simp at h4
  cases k2 : inB y.place 0 (wide.getD y.row.toNat 0 - 1)
  · rw [k0, k1, k2] at h4; simp at h4
  rw [k0, k1, k2, Nat.add_sub_cancel, atL_of hx] at h4
  rw [← cmp_lt]
  by_cases k3 : 0 ≤ cmpV x y
  · simp [k3] at h4
  · omega
/-- How many of those who are gone stood in front of a place, in its row. -/
def cntG (S : List StandV) (g : StandV → Bool) (x : StandV) : Nat := (S.filter fun z => g z && (decide (z.row = x.row) && decide (z.place < x.place))).length
def closeS (S : List StandV) (g : StandV → Bool) (x : StandV) : StandV := ⟨x.name, x.row, x.place - cntG S g x⟩
def closeL (S : List StandV) (g : StandV → Bool) : List StandV := (S.filter fun x => !g x).map (closeS S g)

/-- Numbers that rise strictly from a on, below b. -/
theorem rise_len : ∀ (l : List Int) (a b : Int), l.Pairwise (· < ·) → (∀ v ∈ l, a ≤ v ∧ v < b) → a ≤ b → (l.length : Int) ≤ b - a
  | [], a, b, _, _, h => by simp; omega
  | v :: l, a, b, hp, hb, h => by
    obtain ⟨h1, h2⟩ := List.pairwise_cons.1 hp
    have hv := hb v List.mem_cons_self
    have := rise_len l (v + 1) b h2 (fun u hu => ⟨by have := h1 u hu; omega, (hb u (List.mem_cons_of_mem _ hu)).2⟩) (by omega)
    rw [List.length_cons]
    omega
theorem row_rise {S : List StandV} (hs : S.Pairwise (fun a b => ltV a b = true)) (p : StandV → Bool) {r : Int} (hr : ∀ z ∈ S, p z = true → z.row = r) : ((S.filter p).map (·.place)).Pairwise (· < ·) := by
  rw [List.pairwise_map]
  refine (List.Pairwise.filter p hs).imp_of_mem fun {a b} ha hb hab => ?_
  obtain ⟨a1, a2⟩ := List.mem_filter.1 ha
  obtain ⟨b1, b2⟩ := List.mem_filter.1 hb
  have e1 := hr a a1 a2
  have e2 := hr b b1 b2
  unfold ltV at hab
  simp at hab
  omega
theorem cnt_le {S : List StandV} (hs : S.Pairwise (fun a b => ltV a b = true)) (h0 : ∀ z ∈ S, 0 ≤ z.place) (g : StandV → Bool) {x : StandV} (hx : x ∈ S) : (cntG S g x : Int) ≤ x.place := by
  have h1 := row_rise hs (fun z => g z && (decide (z.row = x.row) && decide (z.place < x.place))) (r := x.row) (fun z _ hz => by simp at hz; exact hz.2.1)
  have h2 := rise_len _ 0 x.place h1 (fun v hv => by
    obtain ⟨z, hz, rfl⟩ := List.mem_map.1 hv
    obtain ⟨z1, z2⟩ := List.mem_filter.1 hz
    simp at z2
    exact ⟨h0 z z1, z2.2.2⟩) (h0 x hx)
  rw [List.length_map] at h2
  simpa [cntG] using h2
/-- Who stands behind somebody in a row stays behind them. -/
theorem cnt_step {S : List StandV} (hs : S.Pairwise (fun a b => ltV a b = true)) (g : StandV → Bool) {x y : StandV} (hx : x ∈ S) (hgx : g x = false) (hr : x.row = y.row) (hxy : x.place < y.place) : x.place - cntG S g x < y.place - cntG S g y := by
  have hsplit : cntG S g y = cntG S g x + (S.filter fun z => g z && (decide (z.row = y.row) && (decide (x.place ≤ z.place) && decide (z.place < y.place)))).length := by
    unfold cntG
    clear hs hx
    induction S with
    | nil => rfl
    | cons z l ih =>
      rw [List.filter_cons, List.filter_cons, List.filter_cons]
      cases hg : g z
      · simpa using ih
      · by_cases h1 : z.row = y.row
        · by_cases h2 : z.place < x.place
          · have h3 : z.place < y.place := by omega
            have h4 : ¬ x.place ≤ z.place := by omega
            simp [h1, hr, h2, h3, h4] at ih ⊢
            omega
          · have h4 : x.place ≤ z.place := by omega
            by_cases h3 : z.place < y.place <;> simp [h1, hr, h2, h3, h4] at ih ⊢ <;> omega
        · have h5 : ¬ z.row = x.row := by omega
          simp [h1, h5] at ih ⊢
          exact ih
  have hmid : ((S.filter fun z => g z && (decide (z.row = y.row) && (decide (x.place ≤ z.place) && decide (z.place < y.place)))).length : Int) ≤ y.place - (x.place + 1) := by
    have h1 := row_rise hs (fun z => g z && (decide (z.row = y.row) && (decide (x.place ≤ z.place) && decide (z.place < y.place)))) (r := y.row) (fun z _ hz => by simp at hz; exact hz.2.1)
    have h2 := rise_len _ (x.place + 1) y.place h1 (fun v hv => by
      obtain ⟨z, hz, rfl⟩ := List.mem_map.1 hv
      obtain ⟨z1, z2⟩ := List.mem_filter.1 hz
      simp at z2
      refine ⟨?_, z2.2.2.2⟩
      rcases Int.lt_or_eq_of_le z2.2.2.1 with h | h
      · omega
      · exfalso
        have hne : z ≠ x := fun e => by rw [e, hgx] at z2; simp at z2
        have hlt : ltV z x = true ∨ ltV x z = true := by
          obtain ⟨i, hi, ei⟩ := List.getElem_of_mem z1
          obtain ⟨j, hj, ej⟩ := List.getElem_of_mem hx
          rw [List.pairwise_iff_getElem] at hs
          rcases Nat.lt_trichotomy i j with h5 | h5 | h5
          · exact .inl (ei ▸ ej ▸ hs i j hi hj h5)
          · subst h5; exact absurd (ei.symm.trans ej) hne
          · exact .inr (ei ▸ ej ▸ hs j i hj hi h5)
        unfold ltV at hlt
        simp at hlt
        omega) (by omega)
    rw [List.length_map] at h2
    exact h2
  omega
theorem closed_sorted {S : List StandV} (hs : S.Pairwise (fun a b => ltV a b = true)) (g : StandV → Bool) : (closeL S g).Pairwise (fun a b => ltV a b = true) := by
  unfold closeL
  rw [List.pairwise_map]
  refine (List.Pairwise.filter _ hs).imp_of_mem fun {a b} ha hb hab => ?_
  obtain ⟨a1, a2⟩ := List.mem_filter.1 ha
  simp at a2
  unfold ltV at hab ⊢
  unfold closeS
  simp at hab ⊢
  rcases hab with h | ⟨h1, h2⟩
  · exact .inl h
  · exact .inr ⟨h1, cnt_step hs g a1 a2 h1 h2⟩
end Go.Proofs.YtflcbphlhoibiaaGreatDoor
