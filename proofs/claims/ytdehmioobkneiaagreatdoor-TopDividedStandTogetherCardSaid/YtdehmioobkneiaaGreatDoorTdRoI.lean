/- People by sections: plain mathematics, and rows of people in rows of their own. Conditions: as each theorem says. -/
import Derived.Test.YtdehmioobkneiaaGreatDoorTdJ40
import Derived.Test.YtdehmioobkneiaaGreatDoorTdJ35
import Derived.Test.YtdehmioobkneiaaGreatDoorTdJ38
import Derived.Test.YtdehmioobkneiaaGreatDoorTdJ39
set_option linter.unusedSimpArgs false
set_option linter.unusedVariables false
namespace Go.Proofs.YtdehmioobkneiaaGreatDoor
open Go Go.RowKit
def grpS (nm : ByteArray) (M : List PersonV) : List PersonV := M.filter fun x => x.sect.toList == nm.toList
def grpsL (O : List ByteArray) (M : List PersonV) : List (List PersonV) := O.map fun nm => grpS nm M
def lensL (G : List (List PersonV)) : List Int := G.map fun g => (g.length : Int)
theorem grpsL_len (O : List ByteArray) (M : List PersonV) : (grpsL O M).length = O.length := by simp [grpsL]
theorem lensL_len (G : List (List PersonV)) : (lensL G).length = G.length := by simp [lensL]
theorem lensL_at {G : List (List PersonV)} {i : Nat} {g : List PersonV} (h : G[i]? = some g) : (lensL G)[i]? = some (g.length : Int) := by unfold lensL; rw [List.getElem?_map, h]; rfl
theorem lensL_set (G : List (List PersonV)) (i : Nat) (g : List PersonV) : lensL (G.set i g) = (lensL G).set i (g.length : Int) := by unfold lensL; rw [List.map_set]
theorem lensL_nonneg (G : List (List PersonV)) : ∀ a ∈ lensL G, 0 ≤ a := by
  intro a ha
  obtain ⟨g, _, rfl⟩ := List.mem_map.1 ha
  omega
theorem grps_nil (O : List ByteArray) : grpsL O [] = List.replicate O.length [] := by
  unfold grpsL grpS
  induction O with
  | nil => rfl
  | cons a O ih => rw [List.map_cons, ih]; rfl
theorem grps_snoc {O : List ByteArray} (hn : O.Nodup) {M : List PersonV} {j i : Nat} {x : PersonV} (hx : M[j]? = some x) (hi : O[i]? = some x.sect) :
    grpsL O (M.take (j + 1)) = (grpsL O (M.take j)).set i (grpS x.sect (M.take j) ++ [x]) ∧ (grpsL O (M.take j))[i]? = some (grpS x.sect (M.take j)) := by
  constructor
  · rw [take_snocL hx]
    refine List.ext_getElem? fun d => ?_
    rw [List.getElem?_set]
    unfold grpsL
    by_cases hd : i = d
    · subst hd
      have hil := (List.getElem?_eq_some_iff.1 hi).1
      rw [if_pos rfl, List.getElem?_map, hi, List.length_map, if_pos hil]
      simp [grpS, List.filter_append]
    · rw [if_neg hd, List.getElem?_map, List.getElem?_map]
      cases ho : O[d]? with
      | none => rfl
      | some nm =>
        have hne : (x.sect.toList == nm.toList) = false := by
          cases h : (x.sect.toList == nm.toList)
          · rfl
          · have e := baL.1 h
            rw [← e] at ho
            exact absurd ((List.getElem?_inj (List.getElem?_eq_some_iff.1 hi).1 hn).1 (hi.trans ho.symm)) hd
        simp only [grpS, List.filter_append, List.filter_cons, hne, Option.map_some]
        simp
  · unfold grpsL
    rw [List.getElem?_map, hi]
    rfl
theorem grps_sum {O : List ByteArray} (hn : O.Nodup) {M : List PersonV} (hM : ∀ x ∈ M, x.sect ∈ O) : ∀ j, j ≤ M.length → (lensL (grpsL O (M.take j))).sum = j
  | 0, _ => by
    rw [List.take_zero, grps_nil]
    have : ∀ k : Nat, (lensL (List.replicate k ([] : List PersonV))).sum = 0 := fun k => by
      induction k with
      | zero => rfl
      | succ k ih => rw [List.replicate_succ]; unfold lensL at *; rw [List.map_cons, List.sum_cons, ih]; rfl
    exact this _
  | j + 1, hj => by
    have ih := grps_sum hn hM j (by omega)
    obtain ⟨x, hx⟩ := getD_some (rfl : M.length = M.length) (show j < M.length by omega)
    obtain ⟨i, hil, hi⟩ := List.getElem_of_mem (hM x (List.mem_of_getElem? hx))
    have hi2 : O[i]? = some x.sect := by rw [List.getElem?_eq_getElem hil, hi]
    obtain ⟨g1, g2⟩ := grps_snoc hn hx hi2
    rw [g1, lensL_set, sum_set _ (lensL_at g2), ih]
    simp
    omega
def nextG (G : List (List PersonV)) (T : List Int) : List (List PersonV) := (List.range G.length).map fun i => (G.getD i []).drop (T.getD i 0).toNat
def headG (G : List (List PersonV)) (T : List Int) (k : Nat) : List PersonV := (List.range k).flatMap fun i => (G.getD i []).take (T.getD i 0).toNat
theorem nextG_len (G : List (List PersonV)) (T : List Int) : (nextG G T).length = G.length := by simp [nextG]
theorem nextG_at {G : List (List PersonV)} {T : List Int} {i : Nat} {g : List PersonV} {t : Int} (h : G[i]? = some g) (ht : T[i]? = some t) : (nextG G T)[i]? = some (g.drop t.toNat) := by
  have hi := (List.getElem?_eq_some_iff.1 h).1
  unfold nextG
  rw [List.getElem?_map, List.getElem?_range hi]
  simp [h, ht]
theorem headG_succ {G : List (List PersonV)} {T : List Int} {i : Nat} {g : List PersonV} {t : Int} (h : G[i]? = some g) (ht : T[i]? = some t) : headG G T (i + 1) = headG G T i ++ g.take t.toNat := by
  unfold headG
  rw [List.range_succ, List.flatMap_append]
  simp [h, ht]
theorem headG_len {G : List (List PersonV)} {T : List Int} (hl : T.length = G.length) (hT : ∀ (k : Nat) (s : Int), T[k]? = some s → 0 ≤ s ∧ ∃ y : Int, (lensL G)[k]? = some y ∧ s ≤ y) : ∀ k, k ≤ G.length → ((headG G T k).length : Int) = (T.take k).sum
  | 0, _ => by simp [headG]
  | k + 1, hk => by
    have ih := headG_len hl hT k (by omega)
    obtain ⟨g, hg⟩ := getD_some (rfl : G.length = G.length) (show k < G.length by omega)
    obtain ⟨t, ht⟩ := getD_some hl (show k < G.length by omega)
    obtain ⟨t0, y, hy, hty⟩ := hT k t ht
    rw [lensL_at hg] at hy
    have e : (g.length : Int) = y := by simpa using hy
    rw [headG_succ hg ht, List.length_append, List.length_take, sum_snoc ht, ← ih]
    omega
/-- The shares of row r, and who is left ahead of it. -/
def secG (wide : List Int) (n : Nat) (A : List Int) (G0 : List (List PersonV)) : Nat → List (List PersonV)
  | 0 => G0
  | r + 1 => nextG (secG wide n A G0 r) (if takeN wide n r = 0 then [] else shrL (takeN wide n r) A (lensL (secG wide n A G0 r)))
section
variable (wide : List Int) (n : Nat) (A : List Int) (G0 : List (List PersonV))
def secT (r : Nat) : List Int := if takeN wide n r = 0 then [] else shrL (takeN wide n r) A (lensL (secG wide n A G0 r))
theorem secG_succ (r : Nat) : secG wide n A G0 (r + 1) = nextG (secG wide n A G0 r) (secT wide n A G0 r) := rfl
theorem secG_len : ∀ r, (secG wide n A G0 r).length = G0.length
  | 0 => rfl
  | r + 1 => by rw [secG_succ, nextG_len, secG_len r]
def secQ (r : Nat) : List PersonV := headG (secG wide n A G0 r) (secT wide n A G0 r) G0.length
def bsL (r : Nat) : List StandV := (List.range r).flatMap fun r => rowP wide r (secQ wide n A G0 r)
theorem bsL_succ (r : Nat) : bsL wide n A G0 (r + 1) = bsL wide n A G0 r ++ rowP wide r (secQ wide n A G0 r) := by
  unfold bsL
  rw [List.range_succ, List.flatMap_append]
  simp
variable {wide n A G0}
theorem secQ_zero {r : Nat} (h : takeN wide n r = 0) : secQ wide n A G0 r = [] := by
  unfold secQ secT headG
  rw [if_pos h]
  simp
theorem leftN_zero (hwo : WideOk wide) {r : Nat} (hr : r < wide.length) (h : takeN wide n r = 0) : leftN wide n r = 0 := by
  obtain ⟨v, hv⟩ := getD_some (rfl : wide.length = wide.length) hr
  obtain ⟨v1, v2⟩ := hwo.2 v (List.mem_of_getElem? hv)
  have e : wide.getD r 0 = v := by rw [List.getD_eq_getElem?_getD, hv]; rfl
  unfold takeN at h
  rw [e] at h
  omega
theorem bsL_rest (hwo : WideOk wide) {r : Nat} (h : leftN wide n r = 0) : ∀ m, bsL wide n A G0 (r + m) = bsL wide n A G0 r ∧ leftN wide n (r + m) = 0
  | 0 => ⟨rfl, h⟩
  | m + 1 => by
    obtain ⟨i1, i2⟩ := bsL_rest hwo h m
    have h0 : takeN wide n (r + m) = 0 := by have := takeN_le wide n (r + m); omega
    refine ⟨?_, by rw [show r + (m + 1) = r + m + 1 by omega, leftN_succ]; omega⟩
    rw [show r + (m + 1) = r + m + 1 by omega, bsL_succ, i1, secQ_zero h0]
    simp [rowP]
/-- Behind a row without anybody nobody stands. -/
theorem bsL_end (hwo : WideOk wide) {r : Nat} (hr : r < wide.length) (h : takeN wide n r = 0) : bsL wide n A G0 wide.length = bsL wide n A G0 r := by
  have := (bsL_rest (A := A) (G0 := G0) hwo (leftN_zero hwo hr h) (wide.length - r)).1
  rw [show r + (wide.length - r) = wide.length by omega] at this
  exact this
/-- What is needed of the sizes. -/
structure SecOk (A : List Int) (G0 : List (List PersonV)) : Prop where
  a0 : ∀ a ∈ A, 0 ≤ a
  s0 : 0 < A.sum
  len : G0.length = A.length
theorem SecOk.sh (h : SecOk A G0) (r : Nat) : ShOk (takeN wide n r) A (lensL (secG wide n A G0 r)) :=
  ⟨by omega, h.a0, h.s0, lensL_nonneg _, by rw [lensL_len, secG_len, h.len]⟩
theorem SecOk.q_len (h : SecOk A G0) (r : Nat) : (secQ wide n A G0 r).length ≤ takeN wide n r := by
  by_cases h0 : takeN wide n r = 0
  · rw [secQ_zero h0]; simp
  · obtain ⟨s1, s2, s3⟩ := (h.sh (wide := wide) (n := n) r).sh
    have hT : secT wide n A G0 r = shrL (takeN wide n r) A (lensL (secG wide n A G0 r)) := by unfold secT; rw [if_neg h0]
    have hl : (secT wide n A G0 r).length = (secG wide n A G0 r).length := by rw [hT, s1, secG_len, h.len]
    have := headG_len (G := secG wide n A G0 r) (T := secT wide n A G0 r) hl (by rw [hT]; exact s3) G0.length (by rw [secG_len]; exact Nat.le_refl _)
    unfold secQ
    have e : (secT wide n A G0 r).take G0.length = secT wide n A G0 r := List.take_of_length_le (by rw [hl, secG_len]; exact Nat.le_refl _)
    rw [e, hT] at this
    rw [hT]
    omega
theorem SecOk.b_len (h : SecOk A G0) : ∀ r, (bsL wide n A G0 r).length ≤ n - leftN wide n r
  | 0 => by simp [bsL, leftN]
  | r + 1 => by
    have ih := h.b_len r
    have hq := h.q_len (wide := wide) (n := n) r
    have h1 := leftN_le wide n r
    have h2 := takeN_le wide n r
    rw [bsL_succ, List.length_append, rowP_len, leftN_succ]
    omega
end
theorem bsL_bound {wide : List Int} {n : Nat} {A : List Int} {G0 : List (List PersonV)} (hwo : WideOk wide) (h : n ≠ 0 → SecOk A G0) (r : Nat) : (bsL wide n A G0 r).length ≤ n := by
  by_cases h0 : n = 0
  · have := (bsL_rest (A := A) (G0 := G0) hwo (r := 0) (show leftN wide n 0 = 0 by simp [leftN, h0]) r).1
    rw [Nat.zero_add] at this
    rw [this]
    simp [bsL]
  · have := (h h0).b_len (wide := wide) (n := n) r
    omega
set_option maxRecDepth 100000 in
set_option maxHeartbeats 1600000 in
theorem indexS2_any (p : Option Addr) (n c : Nat) (G : List ByteArray) (nm : ByteArray) (w : World) (h : Slc 1 strC w p n c G) (hn : n ≤ 1000) :
    Calls Tryz.prog 15 #[.slice p n c, .string nm] w fun e w' => ∃ i : Int, e = .returned (.int .i64 i) ∧ ((i = -1 ∧ nm ∉ G) ∨ ∃ k : Nat, i = k ∧ G[k]? = some nm) ∧ Ext w w' := by
  obtain ⟨hl, hp⟩ := slcC h
  subst hl
  replace hp := Lib.hid hp; clear h
  go_enter Tryz.func15, Tryz.ntmps15
  go_wp2
  go_loopw [8] (fun i wr => ∃ k : Nat, k ≤ G.length ∧ i = .int .i64 k ∧ nm ∉ G.take k ∧ Ext w wr) (fun i _ => G.length - (intOf i).toNat)
  case atStart => exact ⟨0, Nat.zero_le _, rfl, by simp, Ext.refl _⟩
  case round =>
    obtain ⟨k, hk, rfl, hno, hE⟩ := hrel
    by_cases hlt : k < G.length
    · obtain ⟨x, hx⟩ := getD_some (rfl : G.length = G.length) hlt
      rcases hp.out with ⟨-, e⟩ | ⟨b1, o1, rfl, hb1, hE1⟩
      · rw [e] at hx; cases hx
      have c1 := (hE1.ext hE hb1).str hx
      have l1 := Nat.lt_of_lt_of_le hb1 hE.size
      have hkI : (k : Int) < G.length := by omega
      have htk := take_snocL hx
      replace hx := Lib.hid hx; replace hno := Lib.hid hno; replace htk := Lib.hid htk; clear hE1
      cases hq : (nm.toList == x.toList)
      · have hne : nm ≠ x := fun e => by rw [baL.2 e] at hq; cases hq
        go_wp2
        go_roundw
        case rel => exact ⟨k + 1, by omega, by go_num, by rw [htk.out]; simp only [List.mem_append, List.mem_singleton, not_or]; exact ⟨hno.out, hne⟩, hE⟩
        case measure => simp [intOf]; omega
      · have hne : nm = x := baL.1 hq
        go_wp2
        go_ret
        exact ⟨k, rfl, .inr ⟨k, rfl, by rw [hne]; exact hx.out⟩, hE⟩
    · obtain rfl : k = G.length := by omega
      rw [List.take_length] at hno
      replace hno := Lib.hid hno
      go_wp2
      go_ret
      exact ⟨-1, rfl, .inl ⟨rfl, hno.out⟩, hE⟩
/-- A row of lists of people in memory, each list in a row of its own. -/
structure OutQ (w0 w : World) (og bs : Nat) (rows : List (List PersonV)) (vs : List Value) : Prop where
  ext : Ext w0 w
  low : w0.heap.size ≤ og ∧ og < bs
  len : vs.length = rows.length
  blk : Blk w og 36 vs.toArray
  own : ∀ (b : Nat) (v : Value) (r : List PersonV), vs[b]? = some v → rows[b]? = some r → w.ownsRow bs 42 3 v r.length (r.flatMap perC)
  far : ∀ (b c : Nat) (u v : Value), b ≠ c → vs[b]? = some u → vs[c]? = some v → ∀ j, u.ownBlock = some j → v.ownBlock ≠ some j
section
variable {w0 w : World} {og bs : Nat} {rows : List (List PersonV)} {vs : List Value}
theorem OutQ.more (h : OutQ w0 w og bs rows vs) {w' : World} (he : Ext w w') : OutQ w0 w' og bs rows vs :=
  ⟨h.ext.trans he, h.low, h.len, h.blk.ext he, fun b v r hv hr => own_ext he (h.own b v r hv hr), h.far⟩
theorem OutQ.at_ (h : OutQ w0 w og bs rows vs) {b : Nat} {r : List PersonV} (hr : rows[b]? = some r) : ∃ p c, vs[b]? = some (.slice p r.length c) ∧ w.cell? ⟨og, b, none⟩ = some (.slice p r.length c) ∧ w.ownsRow bs 42 3 (.slice p r.length c) r.length (r.flatMap perC) := by
  have hb := (List.getElem?_eq_some_iff.1 hr).1
  have hbv : b < vs.length := by rw [h.len]; exact hb
  have hv : vs[b]? = some vs[b] := List.getElem?_eq_getElem hbv
  have ho := h.own b _ r hv hr
  have e : ∃ p c, vs[b] = .slice p r.length c := by
    rcases ho.2 with ⟨h1, h2⟩ | ⟨g, cap, cur, h1, _⟩
    · exact ⟨none, 0, by rw [h1, h2]⟩
    · exact ⟨_, cap, h1⟩
  obtain ⟨p, c, e⟩ := e
  rw [e] at hv ho
  refine ⟨p, c, hv, ?_, ho⟩
  rw [h.blk.cell b]
  simpa using hv
theorem OutQ.app (h : OutQ w0 w og bs rows vs) {b : Nat} {r : List PersonV} {p : Option Addr} {c : Nat} (hr : rows[b]? = some r) (hv : vs[b]? = some (.slice p r.length c)) {w' : World} {b' c' : Nat} {s : PersonV}
    (h1 : w'.ownsRow bs 42 3 (.slice (some ⟨b', 0, none⟩) (r.length + 1) c') (r.length + 1) (r.flatMap perC ++ perC s)) (hg : w.grownBy w' (Value.slice p r.length c).ownBlock) (hb : w.heap.size ≤ b' ∨ p = some ⟨b', 0, none⟩) :
    OutQ w0 (w'.setCell ⟨og, b, none⟩ (.slice (some ⟨b', 0, none⟩) (r.length + 1) c')) og bs (rows.set b (r ++ [s])) (vs.set b (.slice (some ⟨b', 0, none⟩) (r.length + 1) c')) := by
  have hlow := h.low
  have ho := h.own b _ r hv hr
  have hB : Blk w' og 36 vs.toArray := (hg.block og h.blk.lt fun e => own_no ho h.blk (by decide) e.symm).trans h.blk
  have hk := grown_set w' ⟨og, b, none⟩ (.slice (some ⟨b', 0, none⟩) (r.length + 1) c')
  have hbl := (List.getElem?_eq_some_iff.1 hv).1
  have hbr := (List.getElem?_eq_some_iff.1 hr).1
  have other : ∀ d u, d ≠ b → vs[d]? = some u → ∀ j, u.ownBlock = some j → j ≠ b' := fun d u hd hu j hj e => by
    subst e
    have hdl : d < rows.length := by rw [← h.len]; exact (List.getElem?_eq_some_iff.1 hu).1
    have hlt := ((h.own d u _ hu (List.getElem?_eq_getElem hdl)).lt j hj).2
    rcases hb with hb | hb
    · omega
    · subst hb
      exact h.far d b u _ hd hu hv j hj rfl
  refine ⟨(h.ext.grown hg fun k e => Nat.le_trans hlow.1 (Nat.le_trans (Nat.le_of_lt hlow.2) (ho.lt k e).1)).setCell (p := ⟨og, b, none⟩) hlow.1 _, hlow, by rw [List.length_set, List.length_set]; exact h.len, ?_, fun d u r' hu hr' => ?_, fun d e u v hde hu hv2 j hj => ?_⟩
  · have := hB.set_ b (.slice (some ⟨b', 0, none⟩) (r.length + 1) c')
    simpa using this
  · rw [List.getElem?_set] at hu hr'
    by_cases hd : b = d
    · subst hd
      rw [if_pos rfl, if_pos hbl] at hu
      rw [if_pos rfl, if_pos hbr] at hr'
      cases hu
      cases hr'
      rw [List.length_append, List.length_singleton, flat_snoc]
      exact h1.kept hk (.inr (own_no h1 hB (by decide)))
    · rw [if_neg hd] at hu hr'
      have ho2 := h.own d u r' hu hr'
      have ho3 : w'.ownsRow bs 42 3 u r'.length (r'.flatMap perC) := ho2.kept hg (by
        cases hj : u.ownBlock with
        | none => exact .inl rfl
        | some j => exact .inr fun e => h.far d b u _ (fun e2 => hd e2.symm) hu hv j hj e.symm)
      exact ho3.kept hk (.inr (own_no ho3 hB (by decide)))
  · rw [List.getElem?_set] at hu hv2
    by_cases hd : b = d
    · subst hd
      rw [if_pos rfl, if_pos hbl] at hu
      cases hu
      rw [if_neg hde] at hv2
      intro e2
      exact other e v (fun e3 => hde e3.symm) hv2 j e2 (by simpa [Value.ownBlock] using hj.symm)
    · rw [if_neg hd] at hu
      by_cases he : b = e
      · subst he
        rw [if_pos rfl, if_pos hbl] at hv2
        cases hv2
        intro e2
        exact other d u (fun e3 => hd e3.symm) hu j hj (by simpa [Value.ownBlock] using e2.symm)
      · rw [if_neg he] at hv2
        exact h.far d e u v hde hu hv2 j hj
end
/-- Another block is changed. -/
theorem OutQ.aside {w0 w : World} {og bs : Nat} {rows : List (List PersonV)} {vs : List Value} (h : OutQ w0 w og bs rows vs) {g : Nat} (h1 : g ≠ og) (h2 : w0.heap.size ≤ g) {t : TypeId} {cs : Array Value} (hB : Blk w g t cs) (ht : t ≠ 42) (i : Nat) (u : Value) : OutQ w0 (w.setCell ⟨g, i, none⟩ u) og bs rows vs :=
  ⟨h.ext.setCell (p := ⟨g, i, none⟩) h2 _, h.low, h.len, h.blk.far (p := ⟨g, i, none⟩) (fun e => h1 e.symm) _, fun b v r hv hr => (h.own b v r hv hr).kept (grown_set w ⟨g, i, none⟩ u) (.inr (own_no (h.own b v r hv hr) hB ht)), h.far⟩
/-- A new row of empty lists. -/
theorem OutQ.made {w0 w' : World} {og bs most : Nat} (hE : Ext w0 w') (h0 : w0.heap.size ≤ og) (h1 : og < bs) (h : Blk w' og 36 (List.replicate most (Value.slice none 0 0)).toArray) : OutQ w0 w' og bs (List.replicate most []) (List.replicate most (.slice none 0 0)) := by
  refine ⟨hE, ⟨h0, h1⟩, by simp, h, fun b v r hv hr => ?_, fun b c u v _ hu _ j hj => ?_⟩
  · rw [List.getElem?_replicate] at hv hr
    by_cases hb : b < most
    · rw [if_pos hb] at hv hr
      cases hv
      cases hr
      exact World.ownsRow_nil _ _ _ _
    · rw [if_neg hb] at hv
      cases hv
  · rw [List.getElem?_replicate] at hu
    split at hu
    · cases hu
      cases hj
    · cases hu
theorem cellPpl : (Tryz.prog.info? 36).map (fun i => (i.zero, i.size, i.bytes)) = some (some (.slice none 0 0), 1, 24) := by kernel_rfl
theorem make_ppl (n : Nat) (hn : n ≤ 1000) (u : World) : (Instr.makeSlice 100 (.int .i64 (n : Int)) (.int .i64 (n : Int))).run Tryz.prog u = .ok (.slice (some ⟨u.heap.size, 0, none⟩) n n) (u.alloc (.cells (List.replicate n (Value.slice none 0 0)).toArray 36)) := by
  obtain ⟨i0, hi, hz0, hz1, hz2⟩ := info_parts cellPpl
  have := run_make (P := Tryz.prog) u 100 36 i0 (.slice none 0 0) Tryz.underlying100 hi hz0 .i64 .i64 (n : Int) (n : Int) (by omega) (by omega) (by rw [hz2]; omega) (by omega)
  have hvs : madeCells #[Value.slice none 0 0] n = (List.replicate n (Value.slice none 0 0)).toArray := by
    apply Array.ext
    · simp [size_madeCells]
    · intro i h1 h2
      simp [madeCells, Nat.mod_one]
  rw [this, hz1, Int.toNat_natCast, Nat.mul_one, show (Value.slice none 0 0).cells = #[Value.slice none 0 0] from rfl, hvs]
/-- All stands but two blocks. -/
def ExtQ (F b : Nat) (w w' : World) : Prop := w'.os = w.os ∧ w'.tape = w.tape ∧ w'.output = w.output ∧ w.heap.size ≤ w'.heap.size ∧ ∀ k, k < w.heap.size → k ≠ F → k ≠ b → w'.heap[k]? = w.heap[k]?
theorem ExtQ.refl (F b : Nat) (w : World) : ExtQ F b w w := ⟨rfl, rfl, rfl, Nat.le_refl _, fun _ _ _ _ => rfl⟩
theorem ExtQ.trans {F b : Nat} {u v w : World} (h : ExtQ F b u v) (k : ExtQ F b v w) : ExtQ F b u w :=
  ⟨k.1.trans h.1, k.2.1.trans h.2.1, k.2.2.1.trans h.2.2.1, Nat.le_trans h.2.2.2.1 k.2.2.2.1, fun i hi h1 h2 => (k.2.2.2.2 i (Nat.lt_of_lt_of_le hi h.2.2.2.1) h1 h2).trans (h.2.2.2.2 i hi h1 h2)⟩
theorem Ext.extQ {F b : Nat} {u v : World} (h : Ext u v) : ExtQ F b u v := ⟨h.os, h.tape, h.output, h.size, fun k hk _ _ => h.block k hk⟩
theorem ExtQ.ext {F b : Nat} {u v w : World} (h : ExtQ F b u v) (k : Ext v w) : ExtQ F b u w := h.trans k.extQ
theorem ExtQ.set {F b : Nat} {u v : World} (h : ExtQ F b u v) {p : Addr} (hp : p.block = F ∨ p.block = b) (x : Value) : ExtQ F b u (v.setCell p x) := by
  refine h.trans ⟨rfl, rfl, rfl, by simp, fun k hk h1 h2 => ?_⟩
  exact (grown_set v p x).block k hk fun e => by
    have : k = p.block := by simpa using e
    rcases hp with hp | hp
    · exact h1 (this.trans hp)
    · exact h2 (this.trans hp)
theorem ExtQ.grown {F b : Nat} {u v w : World} {r : Option Nat} (h : ExtQ F b u v) (k : v.grownBy w r) (hr : ∀ j, r = some j → u.heap.size ≤ j) : ExtQ F b u w :=
  ⟨k.os.trans h.1, k.tape.trans h.2.1, k.output.trans h.2.2.1, Nat.le_trans h.2.2.2.1 k.size, fun i hi h1 h2 => (k.block i (Nat.lt_of_lt_of_le hi h.2.2.2.1) fun e => by have := hr i e.symm; omega).trans (h.2.2.2.2 i hi h1 h2)⟩
theorem ExtQ.back {F b : Nat} {u v w : World} (h : Ext u v) (h1 : u.heap.size ≤ F) (h2 : u.heap.size ≤ b) (k : ExtQ F b v w) : Ext u w :=
  ⟨k.1.trans h.os, k.2.1.trans h.tape, k.2.2.1.trans h.output, Nat.le_trans h.size k.2.2.2.1, fun i hi => (k.2.2.2.2 i (Nat.lt_of_lt_of_le hi h.size) (by omega) (by omega)).trans (h.block i hi)⟩
theorem Blk.extQ {F b : Nat} {w w' : World} {g : Nat} {t : TypeId} {cs : Array Value} (h : Blk w g t cs) (h1 : g ≠ F) (h2 : g ≠ b) (he : ExtQ F b w w') : Blk w' g t cs := (he.2.2.2.2 g h.lt h1 h2).trans h
theorem Slc.extQ {α : Type} {k : Nat} {enc : α → List Value} {w w' : World} {F b : Nat} {p : Option Addr} {n c : Nat} {xs : List α} (h : Slc k enc w p n c xs) (he : ExtQ F b w w') (hp : ∀ a, p = some a → a.block ≠ F ∧ a.block ≠ b) : Slc k enc w' p n c xs := by
  obtain ⟨⟨h1, h2, h3⟩, h4, h5, h6⟩ := h
  refine ⟨⟨h1, h2, fun hn => ?_⟩, h4, h5, fun a ha => let ⟨b, off, e, hb⟩ := h6 a ha; ⟨b, off, e, Nat.lt_of_lt_of_le hb he.2.2.2.1⟩⟩
  obtain ⟨b, off, rfl, hb, hE⟩ := h3 hn
  obtain ⟨n1, n2⟩ := hp _ rfl
  exact ⟨b, off, rfl, Nat.lt_of_lt_of_le hb he.2.2.2.1, fun i x hx j v hv => (World.cell?_of_block (w := w) (he.2.2.2.2 b hb n1 n2)).trans (hE i x hx j v hv)⟩
end Go.Proofs.YtdehmioobkneiaaGreatDoor
