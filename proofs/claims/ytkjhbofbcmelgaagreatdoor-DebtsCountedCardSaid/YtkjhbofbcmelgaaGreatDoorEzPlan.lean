/- A region that draws its order: quiet operations are taken first, the loud ones come up alone. Conditions: the static look over the plan; the class H and the step E. -/
import Derived.WalkKit
import Derived.Still
import Derived.Deep.Draws
import Derived.KernelRfl
set_option linter.unusedSimpArgs false
set_option linter.unusedVariables false
namespace Go.Proofs.YtkjhbofbcmelgaaGreatDoor
open Go Go.RowKit
theorem sIA {α : Type _} (l : List α) (i : Nat) (a : α) : l.toArray.setIfInBounds i a = (l.set i a).toArray := List.setIfInBounds_toArray l i a
theorem sCS {α : Type _} {x : α} {xs : List α} {i : Nat} {a : α} : (x :: xs).set (i + 1) a = x :: xs.set i a := List.set_cons_succ
theorem sCZ {α : Type _} {x : α} {xs : List α} {a : α} : (x :: xs).set 0 a = a :: xs := List.set_cons_zero
def pT (a : Act) (n : Nat) (v : Value) : Act := Act.put a (some n) v
theorem cK {α : Type _} {c : Prop} {E : α → α → Prop} : ∀ w w' : α, c → E w w' → c := fun _ _ h _ => h
section
variable {P : Program} {ops : Array Oper} {md : Region.Mode} {Q : Exit → Act → World → Prop} {H : World → Prop} {E : World → World → Prop}
/-- What a quiet operation may do: one value, and a small step of the world. -/
def quietTo (P : Program) (E : World → World → Prop) (w : World) (v : Value) : Result Next → Prop
 | .ok (.value u) w' => E w w' ∧ u = v
 | .ok .skip w' => E w w' ∧ v = undef
 | .ok (.enter f args) w' => Calls P f args w' (fun e w'' => e = .returned v ∧ E w w'')
 | _ => False
def qT {P : Program} {E : World → World → Prop} {w : World} {v : Value} (a : Act) {o : Oper} {u : World} {Q : Program} : Prop := quietTo P E w v (Sem.run Q (execOp (Act.eval a) o) u)
def calmAt (P : Program) (H : World → Prop) (E : World → World → Prop) (o : Oper) (a : Act) (v : Value) : Prop :=
 ∀ w, H w → quietTo P E w v ((execOp a.eval o).run P w)
def CalmIn (P : Program) (ops : Array Oper) (H : World → Prop) (E : World → World → Prop) (o : Oper) (v : Value) (a : Act) : Prop :=
 (Region.wanted o (yielded ops a.tmps) = true ∧ calmAt P H E o a v) ∨ (Region.wanted o (yielded ops a.tmps) = false ∧ v = undef)
theorem CalmIn.of_same {o : Oper} {v : Value} {a a' : Act} (hy : CalmIn P ops H E o v a) (he : execOp a'.eval o = execOp a.eval o)
 (hw : Region.wanted o (yielded ops a'.tmps) = Region.wanted o (yielded ops a.tmps)) : CalmIn P ops H E o v a' := by
 unfold CalmIn calmAt at *
 rw [he, hw]
 exact hy
/-- 'listed' holds, with an operation, all that it waits for. -/
def closedL (md : Region.Mode) (ops : Array Oper) (listed : Array Bool) : Prop :=
 ∀ (j : Nat) (o : Oper), ops[j]? = some o → listed.getD j false = true → ∀ e ∈ o.after, Region.binds md e = true → listed.getD e.on false = true
/-- Operation i comes ahead of operation j, by the edges. -/
def ancB (md : Region.Mode) (ops : Array Oper) (i : Nat) : Nat → Nat → Bool
 | 0, _ => false
 | fuel + 1, j => match ops[j]? with
   | none => false
   | some o => o.after.any fun e => Region.binds md e && (e.on == i || ancB md ops i fuel e.on)
theorem listed_of_anc {listed : Array Bool} (hc : closedL md ops listed) {i : Nat} : ∀ (fuel j : Nat) (o : Oper), ops[j]? = some o →
 (∀ e ∈ o.after, Region.binds md e = true → listed.getD e.on false = true) → ancB md ops i fuel j = true → listed.getD i false = true
 | 0, _, _, _, _, h => by simp [ancB] at h
 | fuel + 1, j, o, ho, hall, h => by
   simp only [ancB, ho] at h
   obtain ⟨e, he, hb⟩ := Array.any_eq_true'.1 h
   simp only [Bool.and_eq_true, Bool.or_eq_true, beq_iff_eq] at hb
   obtain ⟨hb, h2⟩ := hb
   have hl := hall e he hb
   rcases h2 with h2 | h2
   ·rw [← h2]; exact hl
   ·cases hk : ops[e.on]? with
    | none => cases fuel <;> simp [ancB, hk] at h2
    | some ok => exact listed_of_anc hc fuel e.on ok hk (fun e' he' hb' => hc e.on ok hk hl e' he' hb') h2
theorem closedL_set {listed : Array Bool} (hc : closedL md ops listed) {i : Nat} (hi : i ∈ Region.ready md ops listed) : closedL md ops (listed.setIfInBounds i true) := by
 intro j o ho hj e he hb
 obtain ⟨_, oi, hoi, hall⟩ := mem_ready.1 hi
 by_cases hij : i = j
 ·subst hij
  obtain rfl : oi = o := Option.some.inj (hoi.symm.trans ho)
  exact getD_set_true (hall e he hb)
 ·rw [getD_set_ne false hij] at hj
  exact getD_set_true (hc j o ho hj e he hb)
/-- Whatever order is picked, each round behind small steps of the world. T: the tail: behind it nothing quiet is left. -/
def wpE (P : Program) (md : Region.Mode) (ops : Array Oper) (Q : Exit → Act → World → Prop) (H : World → Prop) (E : World → World → Prop) (T : List Nat) : Nat → Array Bool → Act → World → Prop
 | 0, listed, a, w => ∀ w', E w w' → Region.ready md ops listed = [] ∧ Q .normal a w'
 | fuel + 1, listed, a, w => ∀ w', E w w' → (Region.ready md ops listed = [] → Q .normal a w') ∧
    ∀ i ∈ Region.ready md ops listed, wpOp P ops Q i (fun a'' w'' => (i ∈ T ∧ wpAny P md ops Q fuel (listed.setIfInBounds i true) a'' w'') ∨
     (i ∉ T ∧ H w'' ∧ wpE P md ops Q H E T fuel (listed.setIfInBounds i true) a'' w'')) a w'
theorem wpAny_of_wpE {T : List Nat} (hr : ∀ w, E w w) : ∀ (fuel : Nat) (listed : Array Bool) (a : Act) (w : World), wpE P md ops Q H E T fuel listed a w → wpAny P md ops Q fuel listed a w
 | 0, _, _, w, h => h w (hr w)
 | fuel + 1, _, _, w, h => ⟨(h w (hr w)).1, fun i hi => wpOp_mono (fun a' w' h' => h'.elim (fun h1 => h1.2) fun h1 => wpAny_of_wpE hr fuel _ a' w' h1.2.2) ((h w (hr w)).2 i hi)⟩
theorem wpE_closed {T : List Nat} (ht : ∀ a b c, E a b → E b c → E a c) {fuel : Nat} {listed : Array Bool} {a : Act} {w w1 : World} (h : wpE P md ops Q H E T fuel listed a w) (he : E w w1) : wpE P md ops Q H E T fuel listed a w1 := by
 cases fuel with
 | zero => exact fun w' h' => h w' (ht _ _ _ he h')
 | succ fuel => exact fun w' h' => h w' (ht _ _ _ he h')
theorem wpOp_of_calm {i : Nat} {oi : Oper} {v : Value} {a : Act} {w : World} {K : Act → World → Prop} (hi : ops[i]? = some oi) (hr : ∀ w, E w w) (hH : H w) (hy : CalmIn P ops H E oi v a)
 (h : ∀ w', E w w' → K (a.put oi.dst v) w') : wpOp P ops Q i K a w := by
 unfold wpOp
 simp only [hi]
 rcases hy with ⟨hw, hv⟩ | ⟨hw, rfl⟩
 ·simp only [hw, if_true]
  refine .inl ?_
  have h3 := hv w hH
  unfold Oper.wp
  generalize (execOp a.eval oi).run P w = r at *
  cases r with
  | ok n w' =>
    cases n <;> simp only [quietTo] at h3 <;> simp only [Oper.upon]
    case value u =>
     obtain ⟨e1, e2⟩ := h3
     rw [e2]
     exact h _ e1
    case skip =>
     obtain ⟨e1, e2⟩ := h3
     rw [← e2]
     exact h _ e1
    case enter f args => exact h3.mono fun e w'' ⟨he, hw''⟩ => by subst he; exact h _ hw''
  | halt x w' => simp only [quietTo] at h3
 ·simp only [hw, Bool.false_eq_true, if_false]
  exact h _ (hr w)
theorem wpOp_apart {i j : Nat} {oi oj : Oper} {v : Value} (hj : ops[j]? = some oj) (hap : oi.apart ops oj = true)
 (hsi : ∀ cs b, oi.op ≠ .select cs b) (hsj : ∀ cs b, oj.op ≠ .select cs b)
 (hQ : ∀ c a w, Q (.panic c) (a.put oi.dst v) w → Q (.panic c) a w) {K : Act → World → Prop} {a : Act} {w : World}
 (hy : CalmIn P ops H E oi v a) (h : wpOp P ops Q j K (a.put oi.dst v) w) :
 wpOp P ops Q j (fun a' w' => CalmIn P ops H E oi v a' ∧ K (a'.put oi.dst v) w') a w := by
 have _ := i
 obtain ⟨h1, h2, h3⟩ := Oper.apart_spec hap
 have keep : ∀ (a : Act), CalmIn P ops H E oi v a → ∀ u, CalmIn P ops H E oi v (a.put oj.dst u) := fun a hy u =>
  hy.of_same (execOp_put oi hsi a oj.dst u h3) (wanted_put oi a oj.dst u h3)
 have keepD : ∀ d, CalmIn P ops H E oi v { a with defers := d :: a.defers } := fun d => hy.of_same rfl rfl
 unfold wpOp at *
 simp only [hj] at *
 rw [wanted_put oj a oi.dst v h1] at h
 split
 ·rename_i hw
  simp only [hw, if_true] at h
  rcases h with h | ⟨hasks, hlets⟩
  case inr => exact .inr ⟨by unfold Oper.asks at *; rw [execOp_put oj hsj a oi.dst v h1] at hasks; exact hasks, hlets⟩
  refine .inl ?_
  unfold Oper.wp at *
  rw [execOp_put oj hsj a oi.dst v h1] at h
  generalize (execOp a.eval oj).run P w = r at *
  cases r with
  | ok n w' =>
    cases n <;> simp only [Oper.upon] at h ⊢
    case value u => exact ⟨keep a hy u, by rw [← Act.put_comm a v u h2]; exact h⟩
    case skip => exact ⟨keep a hy _, by rw [← Act.put_comm a v undef h2]; exact h⟩
    case defer d =>
     refine ⟨keep _ (keepD d) _, ?_⟩
     rw [← Act.put_comm _ v undef h2, ← Act.put_defers]
     exact h
    case enter f args =>
     refine Calls.mono h fun e w'' he => ?_
     cases e with
     | returned u => exact ⟨keep a hy u, by rw [← Act.put_comm a v u h2]; exact he⟩
     | panicked c => exact hQ _ _ _ he
     | outgrown => exact he
    case row row args => exact Rows.mono h fun u w'' he => ⟨keep a hy u, by rw [← Act.put_comm a v u h2]; exact he⟩
  | halt x w' =>
    cases x <;> simp only [Oper.upon] at h ⊢
    case panic u => exact hQ _ _ _ h
 ·rename_i hw
  simp only [hw] at h
  exact ⟨keep a hy _, by rw [← Act.put_comm a v undef h2]; exact h⟩
theorem wpE_first {i : Nat} {oi : Oper} {v : Value} {T : List Nat} {F : Nat} (hr : ∀ w, E w w) (ht : ∀ a b c, E a b → E b c → E a c) (hH : ∀ w w', H w → E w w' → H w')
 (hi : ops[i]? = some oi) (hsel : ∀ (j : Nat) (o : Oper) cs b, ops[j]? = some o → o.op ≠ .select cs b) (hT : ∀ t ∈ T, t ≠ i ∧ ancB md ops i F t = true)
 (hQ : ∀ c a w, Q (.panic c) (a.put oi.dst v) w → Q (.panic c) a w) :
 ∀ (fuel : Nat) (listed : Array Bool) (a : Act) (w : World),
  (∀ j oj, ops[j]? = some oj → j ≠ i → listed.getD j true = false → (∀ e ∈ oj.after, Region.binds md e = true → e.on ≠ i) → oi.apart ops oj = true) →
  closedL md ops listed → i ∈ Region.ready md ops listed → CalmIn P ops H E oi v a → H w →
  wpE P md ops Q H E T fuel (listed.setIfInBounds i true) (a.put oi.dst v) w → wpE P md ops Q H E T (fuel + 1) listed a w := by
 have hiT : i ∉ T := fun h => (hT i h).1 rfl
 intro fuel
 induction fuel with
 | zero =>
   intro listed a w _ _ hr' hy hw HH w' he
   refine ⟨fun h => (by rw [h] at hr'; cases hr'), fun j hj => ?_⟩
   by_cases hji : j = i
   ·subst hji
    exact wpOp_of_calm hi hr (hH _ _ hw he) hy fun w2 h2 => .inr ⟨hiT, hH _ _ (hH _ _ hw he) h2, wpE_closed ht (wpE_closed ht HH he) h2⟩
   ·have := ready_mono hj hji
    rw [(HH w (hr w)).1] at this
    cases this
 | succ fuel ih =>
   intro listed a w hfree hcl hr' hy hw HH w' he
   refine ⟨fun h => (by rw [h] at hr'; cases hr'), fun j hj => ?_⟩
   by_cases hji : j = i
   ·subst hji
    exact wpOp_of_calm hi hr (hH _ _ hw he) hy fun w2 h2 => .inr ⟨hiT, hH _ _ (hH _ _ hw he) h2, wpE_closed ht (wpE_closed ht HH he) h2⟩
   ·have h1 := (HH w' he).2 j (ready_mono hj hji)
    obtain ⟨hjun, oj, hoj, hall⟩ := mem_ready.1 hj
    have hiun : listed.getD i false = false := by
     have h0 := (mem_ready.1 hr').1
     rcases Nat.lt_or_ge i listed.size with h' | h'
     ·simpa [h'] using h0
     ·simp [Array.getElem?_eq_none h']
    have hjT : j ∉ T := fun h => by
     have := listed_of_anc hcl F j oj hoj hall (hT j h).2
     rw [hiun] at this
     cases this
    have hnot : ∀ e ∈ oj.after, Region.binds md e = true → e.on ≠ i := fun e he hb heq => by
     have h1 := hall e he hb
     rw [heq, hiun] at h1
     cases h1
    have h2 := wpOp_apart (i := i) hoj (hfree j oj hoj hji hjun hnot) (fun cs b => hsel i oi cs b hi) (fun cs b => hsel j oj cs b hoj) hQ hy h1
    have hfree' : ∀ k ok, ops[k]? = some ok → k ≠ i → (listed.setIfInBounds j true).getD k true = false →
     (∀ e ∈ ok.after, Region.binds md e = true → e.on ≠ i) → oi.apart ops ok = true := fun k ok hk hki hun hno => by
     refine hfree k ok hk hki ?_ hno
     by_cases hjk : j = k
     ·subst hjk; exact hjun
     ·rw [getD_set_ne true hjk] at hun; exact hun
    refine wpOp_mono (fun a' w2 h3 => ?_) h2
    rcases h3.2 with h4 | h4
    ·exact absurd h4.1 hjT
    ·refine .inr ⟨hjT, h4.2.1, ih (listed.setIfInBounds j true) a' w2 hfree' (closedL_set hcl hj) (ready_mono hr' (Ne.symm hji)) h3.1 h4.2.1 ?_⟩
     rw [Array.setIfInBounds_comm _ _ hji]
     exact h4.2.2
/-- The static look over a plan: each index with 'true' (quiet: taken first) or 'false' (loud: it alone is ready); then the tail, forced, behind all that is quiet. -/
def planB (md : Region.Mode) (ops : Array Oper) (T : List Nat) : List (Nat × Bool) → Array Bool → Bool
 | [], listed => tailB T listed
 | (i, true) :: rest, listed => Region.free md ops listed i && (Region.ready md ops listed).contains i && T.all (fun t => t != i && ancB md ops i ops.size t) && planB md ops T rest (listed.setIfInBounds i true)
 | (i, false) :: rest, listed => (Region.ready md ops listed == [i]) && !T.contains i && planB md ops T rest (listed.setIfInBounds i true)
where
 tailB : List Nat → Array Bool → Bool
 | [], listed => (Region.ready md ops listed).isEmpty
 | t :: rest, listed => (Region.ready md ops listed == [t]) && tailB rest (listed.setIfInBounds t true)
/-- The walk along a plan. -/
def wpPlan (P : Program) (ops : Array Oper) (Q : Exit → Act → World → Prop) (H : World → Prop) (E : World → World → Prop) (tail : List Oper) : List (Nat × Bool) → Act → World → Prop
 | [], a, w => ∀ w', E w w' → H w' → wpList P ops Q tail a w'
 | (i, true) :: rest, a, w => ∃ o v, ops[i]? = some o ∧ CalmIn P ops H E o v a ∧ (∀ c a w, Q (.panic c) (a.put o.dst v) w → Q (.panic c) a w) ∧ wpPlan P ops Q H E tail rest (a.put o.dst v) w
 | (i, false) :: rest, a, w => ∀ w', E w w' → H w' → wpOp P ops Q i (fun a' w'' => H w'' ∧ wpPlan P ops Q H E tail rest a' w'') a w'
theorem wpOp_of_list {i : Nat} {o : Oper} {rest : List Oper} {a : Act} {w : World} (hi : ops[i]? = some o) (h : wpList P ops Q (o :: rest) a w) : wpOp P ops Q i (wpList P ops Q rest) a w := by
 unfold wpOp
 simp only [hi]
 exact h
theorem wpAny_of_tail : ∀ (T : List Nat) (lits : List Oper) (listed : Array Bool) (a : Act) (w : World), T.map (fun t => ops[t]?) = lits.map some → planB.tailB md ops T listed = true →
 wpList P ops Q lits a w → wpAny P md ops Q T.length listed a w
 | [],[], listed, a, w, _, hB, h => by
   simp only [planB.tailB, List.isEmpty_iff] at hB
   exact ⟨hB, h⟩
 | [], _ :: _, _, _, _, hm, _, _ => by simp at hm
 | _ :: _, [], _, _, _, hm, _, _ => by simp at hm
 | t :: T, o :: lits, listed, a, w, hm, hB, h => by
   simp only [List.map_cons, List.cons.injEq] at hm
   simp only [planB.tailB, Bool.and_eq_true, beq_iff_eq] at hB
   refine ⟨fun h0 => (by rw [hB.1] at h0; cases h0), fun j hj => ?_⟩
   rw [hB.1] at hj
   obtain rfl : j = t := by simpa using hj
   exact wpOp_mono (fun a' w' h' => wpAny_of_tail T lits _ a' w' hm.2 hB.2 h') (wpOp_of_list hm.1 h)
theorem wpE_of_plan {T : List Nat} {lits : List Oper} (hr : ∀ w, E w w) (ht : ∀ a b c, E a b → E b c → E a c) (hH : ∀ w w', H w → E w w' → H w') (hs : Region.noSelect ops = true) (hm : T.map (fun t => ops[t]?) = lits.map some) :
 ∀ (plan : List (Nat × Bool)) (listed : Array Bool) (a : Act) (w : World), planB md ops T plan listed = true → closedL md ops listed → H w → wpPlan P ops Q H E lits plan a w → wpE P md ops Q H E T (plan.length + T.length) listed a w
 | [], listed, a, w, hB, hcl, hw, h => by
   simp only [planB] at hB
   match T, lits, hm, hB, h with
   | [],[], _, hB, h =>
     simp only [planB.tailB, List.isEmpty_iff] at hB
     exact fun w' he => ⟨hB, h w' he (hH _ _ hw he)⟩
   | [], _ :: _, hm, _, _ => simp at hm
   | _ :: _, [], hm, _, _ => simp at hm
   | t :: T, o :: lits, hm, hB, h =>
     simp only [List.map_cons, List.cons.injEq] at hm
     simp only [planB.tailB, Bool.and_eq_true, beq_iff_eq] at hB
     rw [List.length_nil, Nat.zero_add, List.length_cons]
     intro w' he
     refine ⟨fun h0 => (by rw [hB.1] at h0; cases h0), fun j hj => ?_⟩
     rw [hB.1] at hj
     obtain rfl : j = t := by simpa using hj
     exact wpOp_mono (fun a' w2 h' => .inl ⟨List.mem_cons_self, wpAny_of_tail T lits _ a' w2 hm.2 hB.2 h'⟩) (wpOp_of_list hm.1 (h w' he (hH _ _ hw he)))
 | (i, true) :: rest, listed, a, w, hB, hcl, hw, h => by
   simp only [planB, Bool.and_eq_true, List.all_eq_true, bne_iff_ne] at hB
   obtain ⟨⟨⟨hf, hc⟩, hT⟩, hB⟩ := hB
   obtain ⟨o, v, hi, hy, hQ, hK⟩ := h
   have hc' : i ∈ Region.ready md ops listed := by simpa using hc
   have := wpE_first hr ht hH hi (Region.noSelect_spec hs) hT hQ (rest.length + T.length) listed a w (Region.free_spec hi hf) hcl hc' hy hw (wpE_of_plan hr ht hH hs hm rest _ _ _ hB (closedL_set hcl hc') hw hK)
   rw [List.length_cons, Nat.add_right_comm]
   exact this
 | (i, false) :: rest, listed, a, w, hB, hcl, hw, h => by
   simp only [planB, Bool.and_eq_true, beq_iff_eq, Bool.not_eq_true', List.contains_eq_mem, decide_eq_false_iff_not] at hB
   obtain ⟨⟨hrd, hiT⟩, hB⟩ := hB
   rw [List.length_cons, Nat.add_right_comm]
   intro w' he
   refine ⟨fun h0 => (by rw [hrd] at h0; cases h0), fun j hj => ?_⟩
   have hj' := hj
   rw [hrd] at hj
   obtain rfl : j = i := by simpa using hj
   exact wpOp_mono (fun a' w2 h3 => .inr ⟨hiT, h3.1, wpE_of_plan hr ht hH hs hm rest _ _ _ hB (closedL_set hcl hj') h3.1 h3.2⟩) (h w' he (hH _ _ hw he))
theorem closedL_none (n : Nat) : closedL md ops (Array.replicate n false) := by
 intro j o _ hj
 simp only [Array.getD_eq_getD_getElem?, Array.getElem?_replicate] at hj
 split at hj <;> simp at hj
/-- A region that draws its order, by a plan. -/
theorem wp_region_plan {id : Nat} {l lits : List Oper} {a : Act} {w : World} (plan : List (Nat × Bool)) (T : List Nat) (H : World → Prop) (E : World → World → Prop) (hm : P.follows .mixedOrders = true)
 (hs : (Region.noSelect l.toArray && (plan.length + T.length == l.length) && planB .any l.toArray T plan (Array.replicate l.length false)) = true) (hl : T.map (fun t => l.toArray[t]?) = lits.map some)
 (hr : ∀ w, E w w) (ht : ∀ a b c, E a b → E b c → E a c) (hH : ∀ w w', H w → E w w' → H w') (hw : H w.drew)
 (h : wpPlan P l.toArray Q H E lits plan a w.drew) : (Code.region id l.toArray true).wp P Q a w := by
 simp only [Bool.and_eq_true, beq_iff_eq] at hs
 obtain ⟨⟨hs, hn⟩, hB⟩ := hs
 refine wp_region_any hm ?_
 refine wpAny_of_wpE (H := H) (E := E) (T := T) hr _ _ _ _ ?_
 have := wpE_of_plan hr ht hH hs hl plan _ a _ hB (closedL_none _) hw h
 rw [hn] at this
 simpa using this
/-- The same where the tail is the operations from the n-th on. -/
theorem wp_region_planS {id : Nat} {l : List Oper} {a : Act} {w : World} (plan : List (Nat × Bool)) (n : Nat) (H : World → Prop) (E : World → World → Prop) (hm : P.follows .mixedOrders = true)
 (hs : (Region.noSelect l.toArray && (plan.length + (List.range' n (l.length - n)).length == l.length) && planB .any l.toArray (List.range' n (l.length - n)) plan (Array.replicate l.length false)) = true)
 (hr : ∀ w, E w w) (ht : ∀ a b c, E a b → E b c → E a c) (hH : ∀ w w', H w → E w w' → H w') (hw : H w.drew)
 (h : wpPlan P l.toArray Q H E (l.drop n) plan a w.drew) : (Code.region id l.toArray true).wp P Q a w := by
 refine wp_region_plan plan _ H E hm hs ?_ hr ht hH hw h
 refine List.ext_getElem? fun k => ?_
 simp only [List.getElem?_map, List.getElem?_drop]
 by_cases hk : n + k < l.length
 ·have h1 : (List.range' n (l.length - n))[k]? = some (n + k) := by rw [List.getElem?_range' (by omega)]; simp
  rw [h1]
  simp [hk]
 ·rw [List.getElem?_eq_none (by simp; omega), List.getElem?_eq_none (by omega)]
  rfl
theorem plan_nil {tail : List Oper} {a : Act} {w : World} (h : ∀ w', E w w' → H w' → wpList P ops Q tail a w') : wpPlan P ops Q H E tail [] a w := h
/-- A quiet operation that is wanted. -/
theorem plan_quiet {tail : List Oper} {i : Nat} {rest : List (Nat × Bool)} {a : Act} {w : World} {o : Oper} (hi : ops.toList[i]? = some o) (hw : Region.wanted o (yielded ops a.tmps) = true)
 (hQ : ∀ v c a w, Q (.panic c) (a.put o.dst v) w → Q (.panic c) a w)
 (h : ∃ v, (∀ w, H w → quietTo P E w v ((execOp a.eval o).run P w)) ∧ wpPlan P ops Q H E tail rest (a.put o.dst v) w) : wpPlan P ops Q H E tail ((i, true) :: rest) a w :=
 let ⟨v, hc, h⟩ := h
 ⟨o, v, by simpa using hi, .inl ⟨hw, hc⟩, hQ v, h⟩
/-- A quiet operation that is passed over. -/
theorem plan_skip {tail : List Oper} {i : Nat} {rest : List (Nat × Bool)} {a : Act} {w : World} {o : Oper} (hi : ops.toList[i]? = some o) (hw : Region.wanted o (yielded ops a.tmps) = false)
 (hQ : ∀ v c a w, Q (.panic c) (a.put o.dst v) w → Q (.panic c) a w)
 (h : wpPlan P ops Q H E tail rest (a.put o.dst undef) w) : wpPlan P ops Q H E tail ((i, true) :: rest) a w :=
 ⟨o, undef, by simpa using hi, .inr ⟨hw, rfl⟩, hQ undef, h⟩
end
end Go.Proofs.YtkjhbofbcmelgaaGreatDoor
