/- Steps of the call's own in memory, while they grow; the first step that is not less. Conditions: as each theorem says. -/
import Derived.Test.YtapjekpjekdlkaaGreatDoorRTsB
import Derived.Test.YtapjekpjekdlkaaGreatDoorRMeJ
import Derived.Test.YtapjekpjekdlkaaGreatDoorRMeL
import Derived.Test.YtapjekpjekdlkaaGreatDoorRJ8
set_option linter.unusedSimpArgs false
set_option linter.unusedVariables false
namespace Go.Proofs.YtapjekpjekdlkaaGreatDoor
open Go Go.RowKit

/-- Steps with their places: each row of choices has a block of its own. -/
structure StG (w : World) (base : Nat) (v : Value) (R : List StpR) (X : List StepV) : Prop where
  len : R.length = X.length
  own : w.ownsRow base 41 2 v X.length (R.flatMap stpC)
  ch : ∀ (i : Nat) (x : StepV), X[i]? = some x → ∃ (g d : Nat), R[i]? = some ⟨x.size, some ⟨g, 0, none⟩, x.cs.length, d⟩ ∧ w.ownsRow base 27 4 (.slice (some ⟨g, 0, none⟩) x.cs.length d) x.cs.length (x.cs.flatMap i4C)
  ne : ∀ (i j : Nat) (r s : StpR), i ≠ j → R[i]? = some r → R[j]? = some s → r.p ≠ s.p
theorem stp_one (r : StpR) : ∀ u ∈ stpC r, u.oneCell' = true := by simp [stpC, Value.oneCell']
theorem StG.one {w : World} {base : Nat} {v : Value} {R : List StpR} {X : List StepV} (_ : StG w base v R X) : ∀ u ∈ R.flatMap stpC, u.oneCell' = true := fun u hu => by
  obtain ⟨r, -, hr⟩ := List.mem_flatMap.1 hu
  exact stp_one r u hr
theorem StG.nil (w : World) (base : Nat) : StG w base (.slice none 0 0) [] [] :=
  ⟨rfl, World.ownsRow_nil _ _ _ _, (fun i x hx => by cases hx), fun i j r s _ hr => by cases hr⟩
theorem StG.ext {w w' : World} {base : Nat} {v : Value} {R : List StpR} {X : List StepV} (h : StG w base v R X) (he : Ext w w') : StG w' base v R X :=
  ⟨h.len, own_ext he h.own, fun i x hx => let ⟨g, d, a, b⟩ := h.ch i x hx; ⟨g, d, a, own_ext he b⟩, h.ne⟩
theorem StG.extS {w w' : World} {base s : Nat} {v : Value} {R : List StpR} {X : List StepV} (h : StG w base v R X) (hs : s < base) (he : ExtS s w w') : StG w' base v R X :=
  ⟨h.len, own_extS he hs h.own, fun i x hx => let ⟨g, d, a, b⟩ := h.ch i x hx; ⟨g, d, a, own_extS he hs b⟩, h.ne⟩
/-- A row of another kind grows. -/
theorem StG.other {w w' : World} {base g t : Nat} {v : Value} {R : List StpR} {X : List StepV} {cs : Array Value} (h : StG w base v R X) (hB : Blk w g t cs) (h1 : t ≠ 41) (h2 : t ≠ 27) (hg : w.grownBy w' (some g)) : StG w' base v R X :=
  ⟨h.len, h.own.kept hg (.inr (own_no h.own hB h1)), fun i x hx => let ⟨g', d, a, b⟩ := h.ch i x hx; ⟨g', d, a, b.kept hg (.inr (own_no b hB h2))⟩, h.ne⟩
theorem StG.stpM {w : World} {base : Nat} {v : Value} {R : List StpR} {X : List StepV} (h : StG w base v R X) (hn : X.length ≤ 1000) (hs : ∀ x ∈ X, x.cs.length ≤ 1000) : ∃ (p : Option Addr) (c : Nat), v = .slice p X.length c ∧ StpM w p X.length c X := by
  obtain ⟨p, c, rfl, hS⟩ := slc_of_own stpC_len h.own (by decide) (by omega)
  refine ⟨p, c, rfl, R, h.len, hS, fun i x hx => ?_⟩
  obtain ⟨g, d, a, b⟩ := h.ch i x hx
  have := hs x (List.mem_of_getElem? hx)
  obtain ⟨p', c', e, hS'⟩ := slc_of_own i4C_len b (by decide) (by omega)
  cases e
  exact ⟨_, a, rfl, rfl, hS'⟩
theorem StG.keep {w w' : World} {base : Nat} {v : Value} {R : List StpR} {X : List StepV} (h : StG w base v R X) (hg : w.grownBy w' v.ownBlock) {x : StepV} {g d : Nat} (hb : w.ownsRow base 27 4 (.slice (some ⟨g, 0, none⟩) x.cs.length d) x.cs.length (x.cs.flatMap i4C)) : w'.ownsRow base 27 4 (.slice (some ⟨g, 0, none⟩) x.cs.length d) x.cs.length (x.cs.flatMap i4C) := by
  refine hb.kept hg (.inr fun e => ?_)
  rcases h.own.2 with ⟨rfl, -⟩ | ⟨g', cap, cur, rfl, -, hB, -⟩
  · cases e
  · exact own_no hb hB (by decide) e
theorem StG.fresh {w : World} {base : Nat} {v : Value} {R : List StpR} {X : List StepV} (h : StG w base v R X) {g : Nat} (hg : w.heap.size ≤ g) : ∀ r ∈ R, r.p ≠ some ⟨g, 0, none⟩ := fun r hr e => by
  obtain ⟨i, hi⟩ := List.mem_iff_getElem?.1 hr
  obtain ⟨x, hx⟩ := getD_some h.len.symm (List.getElem?_eq_some_iff.1 hi).1
  obtain ⟨g', d, a, b⟩ := h.ch i x hx
  rw [hi] at a
  cases a
  have := (b.lt g' rfl).2
  cases e
  omega
theorem StG.app {w w' : World} {base gI d : Nat} {v v' : Value} {R : List StpR} {X : List StepV} {x : StepV} (h : StG w base v R X) (hg : w.grownBy w' v.ownBlock)
    (ho : w'.ownsRow base 41 2 v' (X.length + 1) (R.flatMap stpC ++ stpC ⟨x.size, some ⟨gI, 0, none⟩, x.cs.length, d⟩)) (hc : w.ownsRow base 27 4 (.slice (some ⟨gI, 0, none⟩) x.cs.length d) x.cs.length (x.cs.flatMap i4C)) (hf : ∀ r ∈ R, r.p ≠ some ⟨gI, 0, none⟩) :
    StG w' base v' (R ++ [⟨x.size, some ⟨gI, 0, none⟩, x.cs.length, d⟩]) (X ++ [x]) := by
  refine ⟨by rw [List.length_append, List.length_append, h.len]; rfl, by rw [List.length_append, List.length_singleton, List.flatMap_append]; simpa using ho, fun i y hy => ?_, fun i j r s hij hr hs => ?_⟩
  · have hi := (List.getElem?_eq_some_iff.1 hy).1
    rw [List.length_append, List.length_singleton] at hi
    rcases Nat.lt_or_ge i X.length with h1 | h1
    · rw [List.getElem?_append_left h1] at hy
      obtain ⟨g, d', a, b⟩ := h.ch i y hy
      exact ⟨g, d', by rw [List.getElem?_append_left (by rw [h.len]; exact h1)]; exact a, h.keep hg b⟩
    · rw [List.getElem?_append_right h1, show i - X.length = 0 by omega] at hy
      cases hy
      exact ⟨gI, d, by rw [List.getElem?_append_right (by rw [h.len]; exact h1), h.len, show i - X.length = 0 by omega]; rfl, h.keep hg hc⟩
  · have hi := (List.getElem?_eq_some_iff.1 hr).1
    have hj := (List.getElem?_eq_some_iff.1 hs).1
    rw [List.length_append, List.length_singleton] at hi hj
    rcases Nat.lt_or_ge i R.length with h1 | h1
    · rw [List.getElem?_append_left h1] at hr
      rcases Nat.lt_or_ge j R.length with h2 | h2
      · rw [List.getElem?_append_left h2] at hs
        exact h.ne i j r s hij hr hs
      · rw [List.getElem?_append_right h2, show j - R.length = 0 by omega] at hs
        cases hs
        exact hf r (List.mem_of_getElem? hr)
    · rw [List.getElem?_append_right h1, show i - R.length = 0 by omega] at hr
      cases hr
      rw [List.getElem?_append_left (by omega)] at hs
      exact fun e => hf s (List.mem_of_getElem? hs) e.symm
theorem flat_take (R : List StpR) : ∀ k, (R.flatMap stpC).take (k * 2) = (R.take k).flatMap stpC := by
  induction R with
  | nil => intro k; simp
  | cons r R ih =>
    intro k
    cases k with
    | zero => simp
    | succ k =>
      rw [show (k + 1) * 2 = k * 2 + 1 + 1 by omega]
      show List.take (k * 2 + 1 + 1) (_ :: _ :: R.flatMap stpC) = _ :: _ :: (R.take k).flatMap stpC
      rw [List.take_succ_cons, List.take_succ_cons, ih]
theorem flat_drop (R : List StpR) : ∀ k, (R.flatMap stpC).drop (k * 2) = (R.drop k).flatMap stpC := by
  induction R with
  | nil => intro k; simp
  | cons r R ih =>
    intro k
    cases k with
    | zero => simp
    | succ k =>
      rw [show (k + 1) * 2 = k * 2 + 1 + 1 by omega]
      show List.drop (k * 2 + 1 + 1) (_ :: _ :: R.flatMap stpC) = (R.drop k).flatMap stpC
      rw [List.drop_succ_cons, List.drop_succ_cons, ih]
/-- Where an element stood ahead of an insertion. -/
theorem ins_at {α : Type} {L : List α} {k : Nat} {y : α} (hk : k ≤ L.length) (i : Nat) : (L.take k ++ y :: L.drop k)[i]? = if i < k then L[i]? else if i = k then some y else L[i - 1]? := by
  by_cases h1 : i < k
  · rw [if_pos h1, List.getElem?_append_left (by rw [List.length_take]; omega), List.getElem?_take, if_pos h1]
  · rw [if_neg h1, List.getElem?_append_right (by rw [List.length_take]; omega), List.length_take, Nat.min_eq_left hk]
    by_cases h2 : i = k
    · subst h2; rw [if_pos rfl, Nat.sub_self]; rfl
    · rw [if_neg h2, show i - k = (i - 1 - k) + 1 by omega, List.getElem?_cons_succ, List.getElem?_drop, show k + (i - 1 - k) = i - 1 by omega]
theorem StG.ins {w w' : World} {base gI d k : Nat} {v v' : Value} {R : List StpR} {X : List StepV} {x : StepV} (h : StG w base v R X) (hg : w.grownBy w' v.ownBlock) (hk : k ≤ X.length)
    (ho : w'.ownsRow base 41 2 v' (X.length + 1) ((R.flatMap stpC).take (k * 2) ++ stpC ⟨x.size, some ⟨gI, 0, none⟩, x.cs.length, d⟩ ++ (R.flatMap stpC).drop (k * 2))) (hc : w.ownsRow base 27 4 (.slice (some ⟨gI, 0, none⟩) x.cs.length d) x.cs.length (x.cs.flatMap i4C)) (hf : ∀ r ∈ R, r.p ≠ some ⟨gI, 0, none⟩) :
    StG w' base v' (R.take k ++ ⟨x.size, some ⟨gI, 0, none⟩, x.cs.length, d⟩ :: R.drop k) (X.take k ++ x :: X.drop k) := by
  have hl := h.len
  have hXl : (X.take k ++ x :: X.drop k).length = X.length + 1 := by simp only [List.length_append, List.length_take, List.length_cons, List.length_drop]; omega
  refine ⟨by simp only [List.length_append, List.length_take, List.length_cons, List.length_drop]; omega, ?_, fun i y hy => ?_, fun i j r s hij hr hs => ?_⟩
  · rw [hXl, List.flatMap_append, List.flatMap_cons, ← flat_take, ← flat_drop, ← List.append_assoc]
    exact ho
  · rw [ins_at hk] at hy
    rw [ins_at (by omega)]
    split at hy
    · rename_i h1
      obtain ⟨g, d', a, b⟩ := h.ch i y hy
      exact ⟨g, d', by rw [if_pos h1]; exact a, h.keep hg b⟩
    · rename_i h1
      rw [if_neg h1]
      split at hy
      · rename_i h2
        cases hy
        exact ⟨gI, d, by rw [if_pos h2], h.keep hg hc⟩
      · rename_i h2
        obtain ⟨g, d', a, b⟩ := h.ch (i - 1) y hy
        exact ⟨g, d', by rw [if_neg h2]; exact a, h.keep hg b⟩
  · rw [ins_at (by omega)] at hr hs
    split at hr
    · split at hs
      · exact h.ne i j r s hij hr hs
      · split at hs
        · cases hs
          exact hf r (List.mem_of_getElem? hr)
        · exact h.ne i (j - 1) r s (by omega) hr hs
    · split at hr
      · cases hr
        split at hs
        · exact fun e => hf s (List.mem_of_getElem? hs) e.symm
        · split at hs
          · omega
          · exact fun e => hf s (List.mem_of_getElem? hs) e.symm
      · split at hs
        · exact h.ne (i - 1) j r s (by omega) hr hs
        · split at hs
          · cases hs
            exact hf r (List.mem_of_getElem? hr)
          · exact h.ne (i - 1) (j - 1) r s (by omega) hr hs
theorem own_blk {w : World} {base k g n c m : Nat} {e : TypeId} {xs : List Value} (h : w.ownsRow base e k (.slice (some ⟨g, 0, none⟩) n c) m xs) : ∃ cur, Blk w g e cur := by
  rcases h.2 with ⟨h1, -⟩ | ⟨g', cap, cur, h1, -, hB, -⟩
  · cases h1
  · cases h1; exact ⟨cur, hB⟩
/-- A further choice of a step. -/
theorem StG.more {w w1 : World} {base gv cv gk dk g' d' k : Nat} {R : List StpR} {X : List StepV} {x : StepV} {c : I4} (h : StG w base (.slice (some ⟨gv, 0, none⟩) X.length cv) R X) (hx : X[k]? = some x) (hr : R[k]? = some ⟨x.size, some ⟨gk, 0, none⟩, x.cs.length, dk⟩)
    (hg : w.grownBy w1 (some gk)) (hk : w.ownsRow base 27 4 (.slice (some ⟨gk, 0, none⟩) x.cs.length dk) x.cs.length (x.cs.flatMap i4C)) (hn : w1.ownsRow base 27 4 (.slice (some ⟨g', 0, none⟩) (x.cs.length + 1) d') (x.cs.length + 1) (x.cs.flatMap i4C ++ i4C c)) (hp : w.heap.size ≤ g' ∨ g' = gk) :
    StG (w1.setCell ⟨gv, k * 2 + 1, none⟩ (.slice (some ⟨g', 0, none⟩) (x.cs.length + 1) d')) base (.slice (some ⟨gv, 0, none⟩) X.length cv) (R.set k ⟨x.size, some ⟨g', 0, none⟩, x.cs.length + 1, d'⟩) (X.set k ⟨x.size, x.cs ++ [c]⟩) := by
  have hkl := (List.getElem?_eq_some_iff.1 hx).1
  have hkR := (List.getElem?_eq_some_iff.1 hr).1
  obtain ⟨ck, hBk⟩ := own_blk hk
  have hv1 := h.own.kept hg (.inr (own_no h.own hBk (by decide)))
  obtain ⟨cv', hBv⟩ := own_blk hv1
  have hset := own_set1 stpC_len hv1 (⟨x.size, some ⟨g', 0, none⟩, x.cs.length + 1, d'⟩ : StpR) hr 1 (by decide) (.slice (some ⟨g', 0, none⟩) (x.cs.length + 1) d') rfl
  have hcl : (x.cs ++ [c]).length = x.cs.length + 1 := by rw [List.length_append]; rfl
  have hcf : (x.cs ++ [c]).flatMap i4C = x.cs.flatMap i4C ++ i4C c := by rw [List.flatMap_append]; simp
  have hst : ∀ (n m d : Nat) (xs : List Value), w1.ownsRow base 27 4 (.slice (some ⟨n, 0, none⟩) m d) m xs → (w1.setCell ⟨gv, k * 2 + 1, none⟩ (.slice (some ⟨g', 0, none⟩) (x.cs.length + 1) d')).ownsRow base 27 4 (.slice (some ⟨n, 0, none⟩) m d) m xs := fun n m d xs ho => own_setI ho hBv (by decide) _ _
  refine ⟨by rw [List.length_set, List.length_set]; exact h.len, by rw [List.length_set]; exact hset, fun i y hy => ?_, fun i j r s hij hri hsj => ?_⟩
  · rw [List.getElem?_set] at hy
    by_cases e : k = i
    · subst e
      rw [if_pos rfl, if_pos hkl] at hy
      cases hy
      exact ⟨g', d', by rw [List.getElem?_set_self hkR, hcl], by rw [hcl, hcf]; exact hst _ _ _ _ hn⟩
    · rw [if_neg e] at hy
      obtain ⟨g, d, a, b⟩ := h.ch i y hy
      refine ⟨g, d, by rw [List.getElem?_set, if_neg e]; exact a, hst _ _ _ _ (b.kept hg (.inr fun e2 => ?_))⟩
      have e3 : g = gk := by simpa [Value.ownBlock] using e2
      subst e3
      exact h.ne i k _ _ (fun e4 => e e4.symm) a hr rfl
  · have hold : ∀ j s, j ≠ k → R[j]? = some s → s.p ≠ some ⟨g', 0, none⟩ := fun j s hjk hs e => by
      obtain ⟨y, hy⟩ := getD_some h.len.symm (List.getElem?_eq_some_iff.1 hs).1
      obtain ⟨g, d, a, b⟩ := h.ch j y hy
      rw [hs] at a
      cases a
      rcases hp with h1 | h1
      · have := (b.lt g rfl).2
        cases e
        omega
      · subst h1
        exact h.ne j k _ _ hjk hs hr e
    rw [List.getElem?_set] at hri hsj
    by_cases e1 : k = i
    · subst e1
      rw [if_pos rfl, if_pos hkR] at hri
      cases hri
      rw [if_neg (fun e => hij e)] at hsj
      exact fun e => hold j s (fun e4 => hij e4.symm) hsj e.symm
    · rw [if_neg e1] at hri
      by_cases e2 : k = j
      · subst e2
        rw [if_pos rfl, if_pos hkR] at hsj
        cases hsj
        exact hold i r (fun e4 => e1 e4.symm) hri
      · rw [if_neg e2] at hsj
        exact h.ne i j r s hij hri hsj

/-- The first step that is not less. -/
theorem geIdx_any {w : World} {p : Option Addr} {n c : Nat} {X : List StepV} (h : StpM w p n c X) (hn : n ≤ 1000000) (d : Int) {f : Nat} {lb : Array Value} (hp : PredBelow Tryz.prog f lb (fun s : StpR => .agg (stpC s).toArray) (fun s => decide (d ≤ s.size)) w) (eg : ∀ args w, (callFunc f args).run Tryz.prog w = .ok (.enter f args) w) :
    Calls Tryz.prog 9 #[.slice p n c, .func (.func f) #[] lb] w fun e w' => Ext w w' ∧ (((∀ x ∈ X, x.size < d) ∧ e = .returned (.int .i64 (-1))) ∨ ∃ (k : Nat) (x : StepV), X[k]? = some x ∧ d ≤ x.size ∧ (∀ i y, i < k → X[i]? = some y → y.size < d) ∧ e = .returned (.int .i64 (k : Int))) := by
  have hl := h.len
  rcases h.form with ⟨rfl, e⟩ | ⟨b, off, rfl, hb⟩
  · subst e
    have h0 : n = 0 := by rw [← hl]; rfl
    subst h0
    exact (idxStep_nil c _ _).mono fun e w' ⟨he, hE⟩ => ⟨hE, .inl ⟨(fun x hx => by cases hx), he⟩⟩
  · obtain ⟨R, h1, h2, h3⟩ := h
    obtain ⟨-, ⟨e, _⟩ | ⟨b', o', e, _, hEl⟩⟩ := slcC h2
    · cases e
    cases e
    have hRn : R.length = n := by omega
    have this := AnyQ.slices_IndexFunc Tryz.lqiStep 2 Tryz.isAgg41 Tryz.sizeOf41 stpC stpC_len (fun s => decide (d ≤ s.size)) f lb eg b off n c R w hp (by omega) (by omega) hb (fun j hj i v hi => hEl j _ (by rw [List.getElem?_eq_getElem hj, getElem!_pos R j hj]) i v hi)
    rw [List.take_of_length_le (by omega)] at this
    unfold Lib.idxBy at this
    refine this.mono fun e w' ⟨he, hE⟩ => ⟨hE, ?_⟩
    rcases idx_first (fun s : StpR => decide (d ≤ s.size)) default R 0 with ⟨q1, q2⟩ | ⟨k, s, hs, hd, hj, q⟩
    · rw [q1] at he
      refine .inl ⟨fun x hx => ?_, he⟩
      obtain ⟨i, hi⟩ := List.mem_iff_getElem?.1 hx
      obtain ⟨s, a, a1, -⟩ := h3 i x hi
      have := of_decide_eq_false (q2 i s a)
      omega
    · rw [q, Nat.zero_add] at he
      obtain ⟨x, hx⟩ := getD_some h1.symm (List.getElem?_eq_some_iff.1 hs).1
      obtain ⟨s', a, a1, -⟩ := h3 k x hx
      rw [hs] at a
      cases a
      refine .inr ⟨k, x, hx, by rw [← a1]; exact of_decide_eq_true hd, fun j y hjk hy => ?_, he⟩
      obtain ⟨s', b, b1, -⟩ := h3 j y hy
      have := of_decide_eq_false (hj j s' hjk b)
      omega
set_option maxRecDepth 100000 in
set_option maxHeartbeats 1600000 in
theorem gePred {w : World} {g : Nat} {d : Int} (h : Blk w g 3 #[.int .i64 d]) :
    PredBelow Tryz.prog 10 #[.pointer (some ⟨g, 0, none⟩)] (fun s : StpR => .agg (stpC s).toArray) (fun s => decide (d ≤ s.size)) w := fun W s hb => by
  have hE : Ext w W := hb
  show Calls Tryz.prog 10 #[.agg #[.int .i64 s.size, .slice s.p s.n s.c], .pointer (some ⟨g, 0, none⟩)] W _
  have hE1 : Ext W (W.alloc (.cells #[.int .i64 s.size, .slice s.p s.n s.c] 41)) := (Ext.refl _).alloc _
  have hX : Blk (W.alloc (.cells #[.int .i64 s.size, .slice s.p s.n s.c] 41)) W.heap.size 41 #[.int .i64 s.size, .slice s.p s.n s.c] := Blk.new' rfl
  have hB := (h.ext hE).ext hE1
  have hE2 := hE.trans hE1
  go_enter Tryz.func10, Tryz.ntmps10
  go_upto_region 1 with fail
  generalize W.alloc (.cells #[.int .i64 s.size, .slice s.p s.n s.c] 41) = W1 at *
  obtain ⟨y1, -⟩ := hX.walk
  have y2 := hX.lt
  obtain ⟨y3, -⟩ := hB.walk
  have y4 := hB.lt
  go_wp2
  go_ret
  exact ⟨by simp only []; by_cases hq9 : d ≤ s.size <;> simp [hq9], hE2⟩
end Go.Proofs.YtapjekpjekdlkaaGreatDoor
