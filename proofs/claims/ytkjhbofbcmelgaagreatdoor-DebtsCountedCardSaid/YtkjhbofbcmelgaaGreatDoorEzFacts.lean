/- A region that draws its order: each operation ahead of the tail leaves a fact; whatever the order, all facts hold behind it. Conditions: the static look over the region (facB); each operation's step. -/
import Derived.Test.YtkjhbofbcmelgaaGreatDoorEzPlan
set_option linter.unusedSimpArgs false
set_option linter.unusedVariables false
namespace Go.Proofs.YtkjhbofbcmelgaaGreatDoor
open Go Go.RowKit
def upd (x : Nat → Value) (j : Nat) (v : Value) : Nat → Value := fun k => if k = j then v else x k
def restr (L : List Nat) (x : Nat → Value) : Nat → Value := fun k => if L.contains k then x k else undef
def blkOf : Value → Nat
 | .pointer (some a) => a.block
 | .slice (some a) _ _ => a.block
 | _ => 0
theorem restr_hit {L : List Nat} {x : Nat → Value} {k : Nat} (h : L.contains k = true) : restr L x k = x k := by unfold restr; rw [if_pos h]
theorem restr_miss {L : List Nat} {x : Nat → Value} {k : Nat} (h : L.contains k = false) : restr L x k = undef := by unfold restr; rw [h]; rfl
theorem restr_restr {L M : List Nat} (x : Nat → Value) (h : ∀ k, L.contains k = true → M.contains k = true) : restr L (restr M x) = restr L x := by
 funext k
 cases hk : L.contains k with
 | true => rw [restr_hit hk, restr_hit hk, restr_hit (h k hk)]
 | false => rw [restr_miss hk, restr_miss hk]
theorem upd_restr {L : List Nat} {j : Nat} (x : Nat → Value) (v : Value) (h : L.contains j = false) : upd (restr L x) j v = restr (j :: L) (upd x j v) := by
 funext k
 by_cases hk : k = j
 ·subst hk
  rw [restr_hit (by simp)]
  simp [upd]
 ·have hc : (j :: L).contains k = L.contains k := by simp [List.contains_cons, hk]
  cases hL : L.contains k with
  | true => rw [restr_hit (by rw [hc]; exact hL)]; simp [upd, hk, restr_hit hL]
  | false => rw [restr_miss (by rw [hc]; exact hL)]; simp [upd, hk, restr_miss hL]
theorem restr_upd {L : List Nat} {j : Nat} (x : Nat → Value) (v : Value) (h : L.contains j = false) : restr L (upd x j v) = restr L x := by
 funext k
 cases hL : L.contains k with
 | true =>
   have : k ≠ j := by intro e; subst e; rw [h] at hL; cases hL
   rw [restr_hit hL, restr_hit hL]; simp [upd, this]
 | false => rw [restr_miss hL, restr_miss hL]
structure Fct where
 A : List Nat
 loud : Bool
 fresh : Bool
 F : (Nat → Value) → World → Prop
 pre : World → Prop
 post : World → Prop
def Fct.holds (f : Fct) (j : Nat) (x : Nat → Value) (w : World) : Prop := f.F (restr (j :: f.A) x) w
/-- The slots with the values of some operations. -/
def putsL (ops : Array Oper) (x : Nat → Value) (a : Act) : List Nat → Act
 | [] => a
 | k :: l => (putsL ops x a l).put ((ops[k]?).bind (·.dst)) (x k)
theorem putsL_congr {ops : Array Oper} {x y : Nat → Value} {a : Act} : ∀ (l : List Nat), (∀ k ∈ l, x k = y k) → putsL ops x a l = putsL ops y a l
 | [], _ => rfl
 | k :: l, h => by
   simp only [putsL]
   rw [putsL_congr l fun i hi => h i (List.mem_cons_of_mem _ hi), h k List.mem_cons_self]
theorem putsL_defers {ops : Array Oper} {x : Nat → Value} {a : Act} : ∀ (l : List Nat), (putsL ops x a l).defers = a.defers
 | [] => rfl
 | k :: l => by
   simp only [putsL, Act.put]
   split <;> simp [putsL_defers l]
theorem putsL_size {ops : Array Oper} {x : Nat → Value} {a : Act} : ∀ (l : List Nat), (putsL ops x a l).tmps.size = a.tmps.size
 | [] => rfl
 | k :: l => by
   simp only [putsL, Act.put]
   split <;> simp [putsL_size l]
theorem putsL_miss {ops : Array Oper} {x : Nat → Value} {a : Act} {t : Nat} : ∀ (l : List Nat), (∀ k ∈ l, (ops[k]?).bind (·.dst) ≠ some t) → (putsL ops x a l).tmps[t]? = a.tmps[t]?
 | [], _ => rfl
 | k :: l, h => by
   have ih := putsL_miss (x := x) (a := a) (t := t) l fun i hi => h i (List.mem_cons_of_mem _ hi)
   have hk := h k List.mem_cons_self
   simp only [putsL, Act.put]
   split
   ·rename_i d hd
    rw [hd] at hk
    have : d ≠ t := fun e => hk (by rw [e])
    rw [Array.getElem?_setIfInBounds_ne this]; exact ih
   ·exact ih
theorem putsL_hit {ops : Array Oper} {x : Nat → Value} {a : Act} {t k : Nat} (hk : (ops[k]?).bind (·.dst) = some t) (ht : t < a.tmps.size) : ∀ (l : List Nat), k ∈ l → (∀ i ∈ l, (ops[i]?).bind (·.dst) = some t → i = k) →
 (putsL ops x a l).tmps[t]? = some (x k)
 | i :: l, hm, hd => by
   by_cases hi : (ops[i]?).bind (·.dst) = some t
   ·have : i = k := hd i List.mem_cons_self hi
    subst this
    simp only [putsL, Act.put, hi]
    rw [Array.getElem?_setIfInBounds_self_of_lt]
    rw [putsL_size]; exact ht
   ·have hml : k ∈ l := by
     rcases List.mem_cons.1 hm with e | e
     ·exact absurd (e ▸ hk) hi
     ·exact e
    have ih := putsL_hit (x := x) hk ht l hml fun i hi => hd i (List.mem_cons_of_mem _ hi)
    simp only [putsL, Act.put]
    split
    ·rename_i d hd'
     have : d ≠ t := fun e => hi (by rw [hd', e])
     rw [Array.getElem?_setIfInBounds_ne this]; exact ih
    ·exact ih
/-- What an operation comes to. -/
def outc (P : Program) (G : Value → World → Prop) : Result Next → Prop
 | .ok (.value v) w' => G v w'
 | .ok .skip w' => G undef w'
 | .ok (.enter f args) w' => Calls P f args w' fun e w'' => ∃ v, e = .returned v ∧ G v w''
 | .ok (.row r args) w' => Rows P r args w' G
 | _ => False
theorem outc_mono {P : Program} {G G' : Value → World → Prop} (h : ∀ v w, G v w → G' v w) : ∀ {r : Result Next}, outc P G r → outc P G' r := by
 intro r hr
 cases r with
 | ok n w' =>
   cases n <;> simp only [outc] at hr ⊢
   case value u => exact h _ _ hr
   case skip => exact h _ _ hr
   case enter f args => exact hr.mono fun e w'' ⟨v, he, hh⟩ => ⟨v, he, h _ _ hh⟩
   case row r args => exact Rows.mono hr fun v w'' hh => h _ _ hh
 | halt x w' => simp only [outc] at hr
theorem wpOp_of_outc {P : Program} {ops : Array Oper} {Q : Exit → Act → World → Prop} {j : Nat} {o : Oper} {a : Act} {w : World} {G : Value → World → Prop} {K : Act → World → Prop} (hj : ops[j]? = some o)
 (h : Region.wanted o (yielded ops a.tmps) = true → outc P G ((execOp a.eval o).run P w)) (h2 : Region.wanted o (yielded ops a.tmps) = false → G undef w)
 (hK : ∀ v w', G v w' → K (a.put o.dst v) w') : wpOp P ops Q j K a w := by
 unfold wpOp
 simp only [hj]
 cases hw : Region.wanted o (yielded ops a.tmps) with
 | true =>
   rw [if_pos rfl]
   refine .inl ?_
   have h3 := h hw
   unfold Oper.wp
   generalize (execOp a.eval o).run P w = r at *
   cases r with
   | ok n w' =>
     cases n <;> simp only [outc] at h3 <;> simp only [Oper.upon]
     case value u => exact hK _ _ h3
     case skip => exact hK _ _ h3
     case enter f args => exact h3.mono fun e w'' ⟨v, he, hg⟩ => by subst he; exact hK _ _ hg
     case row r args => exact Rows.mono h3 fun v w'' hg => hK _ _ hg
   | halt x w' => simp only [outc] at h3
 | false =>
   simp only [Bool.false_eq_true, if_false]
   exact hK _ _ (h2 hw)
def cnt (p : Nat → Bool) : Nat → Nat
 | 0 => 0
 | m + 1 => cnt p m + if p m then 1 else 0
theorem cnt_same {p q : Nat → Bool} : ∀ (m : Nat), (∀ k, k < m → p k = q k) → cnt p m = cnt q m
 | 0, _ => rfl
 | m + 1, h => by simp only [cnt]; rw [cnt_same m fun k hk => h k (by omega), h m (by omega)]
theorem cnt_flip {p q : Nat → Bool} {j : Nat} (hp : p j = true) (hq : q j = false) (h : ∀ k, k ≠ j → q k = p k) : ∀ (m : Nat), j < m → cnt p m = cnt q m + 1
 | m + 1, hj => by
   simp only [cnt]
   by_cases e : j = m
   ·subst e
    rw [cnt_same (p := p) (q := q) j fun k hk => (h k (by omega)).symm, hp, hq]
    simp
   ·rw [cnt_flip hp hq h m (by omega), h m (Ne.symm e)]
    omega
theorem cnt_zero {p : Nat → Bool} : ∀ (m : Nat), cnt p m = 0 → ∀ k, k < m → p k = false
 | m + 1, h, k, hk => by
   simp only [cnt] at h
   by_cases e : k = m
   ·subst e
    cases hp : p k with
    | false => rfl
    | true => rw [hp] at h; simp at h
   ·exact cnt_zero m (by omega) k (by omega)
/-- The static look: m operations ahead of the tail; As: whose facts each one may use; Ls: which are loud. -/
def facB (ops : Array Oper) (m : Nat) (As : List (List Nat)) (Ls : List Bool) (PL : List Nat) : Bool :=
 Region.noSelect ops && decide (m ≤ ops.size) && decide (As.length = m) &&
 (List.range ops.size).all (fun j => match ops[j]? with
   | some o => o.after.all fun e => !Region.binds .any e || decide (e.on < j)
   | none => true) &&
 (List.range m).all (fun j =>
   (As.getD j []).all (fun k => decide (k < j) && ancB .any ops k ops.size j && (As.getD k []).all fun i => (As.getD j []).contains i) &&
   (match ops[j]? with
     | some o => (o.looksAt ops).all fun t => (List.range m).all fun k => (ops[k]?).bind (·.dst) != some t || k == j || (As.getD j []).contains k || ancB .any ops j ops.size k
     | none => true) &&
   (List.range m).all (fun k => k == j || (match (ops[j]?).bind (·.dst) with
     | some d => (ops[k]?).bind (·.dst) != some d
     | none => true)) &&
   (List.range j).all (fun k => !(Ls.getD k false) || !(Ls.getD j false) || ancB .any ops k ops.size j) &&
   (PL.contains j || (List.range' m (ops.size - m)).all (fun t => ancB .any ops j ops.size t))) &&
 planB.tailB .any ops (List.range' m (ops.size - m)) (Array.replicate m true ++ Array.replicate (ops.size - m) false)
section
variable {P : Program} {ops : Array Oper} {Q : Exit → Act → World → Prop} {m : Nat} {fs : Nat → Fct} {a0 : Act} {w0 : World} {E Eq : World → World → Prop} {C0 : World → Prop}
def Fct.good (f : Fct) (j : Nat) (E Eq : World → World → Prop) (s : Nat → Value) (w : World) (v : Value) (w' : World) : Prop :=
 (if f.loud then E w w' ∧ f.post w' else Eq w w') ∧ f.F (upd s j v) w' ∧ (f.fresh = true → w.heap.size ≤ blkOf v ∧ blkOf v < w'.heap.size)
def condOp (P : Program) (ops : Array Oper) (fs : Nat → Fct) (a0 : Act) (w0 : World) (E Eq : World → World → Prop) (j : Nat) : Prop :=
 ∀ s w, E w0 w → (∀ k ∈ (fs j).A, (fs k).holds k s w) → ((fs j).loud = true → (fs j).pre w) → ∀ o, ops[j]? = some o →
  (Region.wanted o (yielded ops (putsL ops s a0 (fs j).A).tmps) = true → outc P ((fs j).good j E Eq s w) ((execOp (putsL ops s a0 (fs j).A).eval o).run P w)) ∧
  (Region.wanted o (yielded ops (putsL ops s a0 (fs j).A).tmps) = false → (fs j).good j E Eq s w undef w)
/-- The chain of the loud ones. -/
def chainOk (m : Nat) (fs : Nat → Fct) (C0 : World → Prop) : Prop :=
 ∀ j, j < m → (fs j).loud = true → ((∀ k, k < j → (fs k).loud = false) ∧ (fs j).pre = C0) ∨ (∃ i, i < j ∧ (fs i).loud = true ∧ (∀ k, i < k → k < j → (fs k).loud = false) ∧ (fs j).pre = (fs i).post)
structure FInv (ops : Array Oper) (m : Nat) (fs : Nat → Fct) (a0 : Act) (w0 : World) (E : World → World → Prop) (C0 : World → Prop) (listed : Array Bool) (b : Act) (w : World) (x : Nat → Value) (cur : Option Nat) : Prop where
 size : listed.size = ops.size
 tail : ∀ t, m ≤ t → listed.getD t false = false
 closed : closedL .any ops listed
 bsize : b.tmps.size = a0.tmps.size
 bdef : b.defers = a0.defers
 hit : ∀ k, k < m → listed.getD k false = true → ∀ d, (ops[k]?).bind (·.dst) = some d → d < a0.tmps.size → b.tmps[d]? = some (x k)
 miss : ∀ t, (∀ k, k < m → listed.getD k false = true → (ops[k]?).bind (·.dst) ≠ some t) → b.tmps[t]? = a0.tmps[t]?
 ext : E w0 w
 facts : ∀ k, k < m → listed.getD k false = true → (fs k).holds k x w
 curr : (cur = none ∧ (∀ k, k < m → listed.getD k false = true → (fs k).loud = false) ∧ C0 w) ∨ (∃ i, cur = some i ∧ i < m ∧ listed.getD i false = true ∧ (fs i).loud = true ∧ (∀ k, k < m → listed.getD k false = true → (fs k).loud = true → k ≤ i) ∧ (fs i).post w)
 old : ∀ k, k < m → listed.getD k false = true → (fs k).fresh = true → w0.heap.size ≤ blkOf (x k) ∧ blkOf (x k) < w.heap.size
 apart : ∀ j k, j < m → k < m → j ≠ k → listed.getD j false = true → listed.getD k false = true → (fs j).fresh = true → (fs k).fresh = true → blkOf (x j) ≠ blkOf (x k)
/-- What is known behind all. -/
def lastOf (m : Nat) (fs : Nat → Fct) (C0 : World → Prop) : Nat → World → Prop
 | 0 => C0
 | k + 1 => if (fs k).loud then (fs k).post else lastOf m fs C0 k
theorem getD_bool {l : Array Bool} {k : Nat} (h : k < l.size) : l.getD k true = l.getD k false := by simp [h]
theorem finv_look {As : List (List Nat)} {Ls : List Bool} {PL : List Nat} (hB : facB ops m As Ls PL = true) (hA : ∀ j, j < m → (fs j).A = As.getD j [])
 {listed : Array Bool} {b : Act} {w : World} {x : Nat → Value} {cur : Option Nat} (I : FInv ops m fs a0 w0 E C0 listed b w x cur) {i : Nat} {oi : Oper} (hoi : ops[i]? = some oi) (hi : i ∈ Region.ready .any ops listed) (himl : i < m) :
 execOp b.eval oi = execOp (putsL ops (restr (fs i).A x) a0 (fs i).A).eval oi ∧ Region.wanted oi (yielded ops b.tmps) = Region.wanted oi (yielded ops (putsL ops (restr (fs i).A x) a0 (fs i).A).tmps) := by
 simp only [facB, Bool.and_eq_true, List.all_eq_true, List.mem_range, decide_eq_true_eq, Bool.or_eq_true, Bool.not_eq_true', bne_iff_ne, beq_iff_eq] at hB
 obtain ⟨⟨⟨⟨⟨hsel, hmn⟩, hAl⟩, hedge⟩, hper⟩, htail⟩ := hB
 have hsz' := I.size
 obtain ⟨hiun, oi', hoi', hpre⟩ := mem_ready.1 hi
 obtain rfl : oi = oi' := Option.some.inj (hoi.symm.trans hoi')
 clear hoi'
 have hio : i < ops.size := (Array.getElem?_eq_some_iff.1 hoi).1
 have hilf : listed.getD i false = false := by rw [← getD_bool (by omega)]; exact hiun
 have hAi : ∀ k, k ∈ (fs i).A → k < m ∧ k ≠ i ∧ listed.getD k false = true ∧ (∀ q, q ∈ (fs k).A → q ∈ (fs i).A) := fun k hk => by
  rw [hA i himl] at hk
  have h1 := (hper i himl).1.1.1.1 k hk
  obtain ⟨⟨hki, hka⟩, hks⟩ := h1
  have hkm : k < m := by omega
  refine ⟨hkm, by omega, listed_of_anc I.closed _ i oi hoi hpre hka, fun q hq => ?_⟩
  rw [hA k hkm] at hq
  rw [hA i himl]
  have := hks q hq
  simpa using this
 have hiA : (fs i).A.contains i = false := by
  cases h : (fs i).A.contains i with
  | false => rfl
  | true => exact absurd rfl (hAi i (by simpa using h)).2.1
 -- the act that the condition speaks of, and the one that is there, look alike to this operation
 have hlook : ∀ t, t ∈ oi.looksAt ops → b.tmps[t]? = (putsL ops x a0 (fs i).A).tmps[t]? := fun t htl => by
  have hl := (hper i himl).1.1.1.2
  rw [hoi] at hl
  simp only [List.all_eq_true, List.mem_range, Bool.or_eq_true, bne_iff_ne, beq_iff_eq] at hl
  by_cases hexk : ∃ k, k < m ∧ listed.getD k false = true ∧ (ops[k]?).bind (·.dst) = some t
  ·obtain ⟨k, hkm, hkl, hkd⟩ := hexk
   have h1 := hl t htl k hkm
   have hki : k ≠ i := fun e => by subst e; rw [hkl] at hilf; cases hilf
   have hkA : k ∈ (fs i).A := by
    rcases h1 with ((h1 | h1) | h1) | h1
    ·exact absurd hkd h1
    ·exact absurd h1 hki
    ·rw [hA i himl]; simpa using h1
    ·have hko : k < ops.size := by omega
     have := listed_of_anc I.closed _ k ops[k] (by simp [hko]) (fun e he hb => I.closed k ops[k] (by simp [hko]) hkl e he hb) h1
     rw [hilf] at this; cases this
   by_cases hlt : t < a0.tmps.size
   ·rw [I.hit k hkm hkl t hkd hlt]
    refine (putsL_hit hkd hlt _ hkA fun q hq hqd => ?_).symm
    by_cases e : q = k
    ·exact e
    ·have hqm := (hAi q hq).1
     have := ((hper k hkm).1.1.2 q hqm).resolve_left e
     rw [hkd] at this
     simp only [bne_iff_ne] at this
     exact absurd hqd this
   ·have g0 : a0.tmps.size ≤ t := Nat.le_of_not_lt hlt
    have g1 : b.tmps.size ≤ t := by rw [I.bsize]; exact g0
    have g2 : (putsL ops x a0 (fs i).A).tmps.size ≤ t := by rw [putsL_size]; exact g0
    rw [Array.getElem?_eq_none g1, Array.getElem?_eq_none g2]
  ·have hno : ∀ k, k < m → listed.getD k false = true → (ops[k]?).bind (·.dst) ≠ some t := fun k hk hkl h => hexk ⟨k, hk, hkl, h⟩
   rw [I.miss t hno, putsL_miss _ fun k hk => hno k (hAi k hk).1 (hAi k hk).2.2.1]
 have hsx : putsL ops (restr (fs i).A x) a0 (fs i).A = putsL ops x a0 (fs i).A := putsL_congr _ fun k hk => restr_hit (by simpa using hk)
 have hexec : execOp b.eval oi = execOp (putsL ops (restr (fs i).A x) a0 (fs i).A).eval oi := by
  rw [hsx]
  refine execOp_congr oi (fun cs bb => Region.noSelect_spec hsel i oi cs bb hoi) fun y hy => ?_
  cases y with
  | tmp t =>
    have := hlook t (List.mem_append_left _ (List.mem_filterMap.2 ⟨.tmp t, by simpa using hy, rfl⟩))
    simp [Act.eval, this]
  | _ => rfl
 have hwant : Region.wanted oi (yielded ops b.tmps) = Region.wanted oi (yielded ops (putsL ops (restr (fs i).A x) a0 (fs i).A).tmps) := by
  rw [hsx]
  unfold Region.wanted
  cases hg : oi.guard with
  | none => rfl
  | some gw =>
    obtain ⟨g, want⟩ := gw
    have : yielded ops b.tmps g = yielded ops (putsL ops x a0 (fs i).A).tmps g := by
     unfold yielded
     cases htt : (ops[g]?).bind (·.dst) with
     | none => rfl
     | some t =>
       have := hlook t (List.mem_append_right _ (by simp [hg, htt]))
       simp [this]
    simp only [this]
 exact ⟨hexec, hwant⟩
theorem finv_step {As : List (List Nat)} {Ls : List Bool} {PL : List Nat} (hB : facB ops m As Ls PL = true) (hA : ∀ j, j < m → (fs j).A = As.getD j []) (hLs : ∀ j, j < m → (fs j).loud = Ls.getD j false)
 (ht : ∀ a b c, E a b → E b c → E a c) (hle : ∀ a b, Eq a b → E a b) (hsz : ∀ a b, E a b → a.heap.size ≤ b.heap.size)
 (hst : ∀ j, j < m → ∀ x w w', (fs j).F x w → E w w' → (fs j).F x w') (hps : ∀ j, j < m → (fs j).loud = true → ∀ w w', (fs j).post w → Eq w w' → (fs j).post w') (hC0 : ∀ w w', C0 w → Eq w w' → C0 w')
 (hch : chainOk m fs C0) (hc : ∀ j, j < m → condOp P ops fs a0 w0 E Eq j)
 {listed : Array Bool} {b : Act} {w : World} {x : Nat → Value} {cur : Option Nat} (I : FInv ops m fs a0 w0 E C0 listed b w x cur) {i : Nat} {oi : Oper} (hoi : ops[i]? = some oi) (hi : i ∈ Region.ready .any ops listed) (himl : i < m) :
 (Region.wanted oi (yielded ops b.tmps) = true → outc P (fun v w' => ∃ cur', FInv ops m fs a0 w0 E C0 (listed.setIfInBounds i true) (b.put oi.dst v) w' (upd x i v) cur') ((execOp b.eval oi).run P w)) ∧
 (Region.wanted oi (yielded ops b.tmps) = false → ∃ cur', FInv ops m fs a0 w0 E C0 (listed.setIfInBounds i true) (b.put oi.dst undef) w (upd x i undef) cur') := by
 simp only [facB, Bool.and_eq_true, List.all_eq_true, List.mem_range, decide_eq_true_eq, Bool.or_eq_true, Bool.not_eq_true', bne_iff_ne, beq_iff_eq] at hB
 obtain ⟨⟨⟨⟨⟨hsel, hmn⟩, hAl⟩, hedge⟩, hper⟩, htail⟩ := hB
 have hsz' := I.size
 obtain ⟨hiun, oi', hoi', hpre⟩ := mem_ready.1 hi
 obtain rfl : oi = oi' := Option.some.inj (hoi.symm.trans hoi')
 clear hoi'
 have hio : i < ops.size := (Array.getElem?_eq_some_iff.1 hoi).1
 have hilf : listed.getD i false = false := by rw [← getD_bool (by omega)]; exact hiun
 have hAi : ∀ k, k ∈ (fs i).A → k < m ∧ k ≠ i ∧ listed.getD k false = true ∧ (∀ q, q ∈ (fs k).A → q ∈ (fs i).A) := fun k hk => by
  rw [hA i himl] at hk
  have h1 := (hper i himl).1.1.1.1 k hk
  obtain ⟨⟨hki, hka⟩, hks⟩ := h1
  have hkm : k < m := by omega
  refine ⟨hkm, by omega, listed_of_anc I.closed _ i oi hoi hpre hka, fun q hq => ?_⟩
  rw [hA k hkm] at hq
  rw [hA i himl]
  have := hks q hq
  simpa using this
 have hiA : (fs i).A.contains i = false := by
  cases h : (fs i).A.contains i with
  | false => rfl
  | true => exact absurd rfl (hAi i (by simpa using h)).2.1
 -- the act that the condition speaks of, and the one that is there, look alike to this operation
 have hlook : ∀ t, t ∈ oi.looksAt ops → b.tmps[t]? = (putsL ops x a0 (fs i).A).tmps[t]? := fun t htl => by
  have hl := (hper i himl).1.1.1.2
  rw [hoi] at hl
  simp only [List.all_eq_true, List.mem_range, Bool.or_eq_true, bne_iff_ne, beq_iff_eq] at hl
  by_cases hexk : ∃ k, k < m ∧ listed.getD k false = true ∧ (ops[k]?).bind (·.dst) = some t
  ·obtain ⟨k, hkm, hkl, hkd⟩ := hexk
   have h1 := hl t htl k hkm
   have hki : k ≠ i := fun e => by subst e; rw [hkl] at hilf; cases hilf
   have hkA : k ∈ (fs i).A := by
    rcases h1 with ((h1 | h1) | h1) | h1
    ·exact absurd hkd h1
    ·exact absurd h1 hki
    ·rw [hA i himl]; simpa using h1
    ·have hko : k < ops.size := by omega
     have := listed_of_anc I.closed _ k ops[k] (by simp [hko]) (fun e he hb => I.closed k ops[k] (by simp [hko]) hkl e he hb) h1
     rw [hilf] at this; cases this
   by_cases hlt : t < a0.tmps.size
   ·rw [I.hit k hkm hkl t hkd hlt]
    refine (putsL_hit hkd hlt _ hkA fun q hq hqd => ?_).symm
    by_cases e : q = k
    ·exact e
    ·have hqm := (hAi q hq).1
     have := ((hper k hkm).1.1.2 q hqm).resolve_left e
     rw [hkd] at this
     simp only [bne_iff_ne] at this
     exact absurd hqd this
   ·have g0 : a0.tmps.size ≤ t := Nat.le_of_not_lt hlt
    have g1 : b.tmps.size ≤ t := by rw [I.bsize]; exact g0
    have g2 : (putsL ops x a0 (fs i).A).tmps.size ≤ t := by rw [putsL_size]; exact g0
    rw [Array.getElem?_eq_none g1, Array.getElem?_eq_none g2]
  ·have hno : ∀ k, k < m → listed.getD k false = true → (ops[k]?).bind (·.dst) ≠ some t := fun k hk hkl h => hexk ⟨k, hk, hkl, h⟩
   rw [I.miss t hno, putsL_miss _ fun k hk => hno k (hAi k hk).1 (hAi k hk).2.2.1]
 have hsx : putsL ops (restr (fs i).A x) a0 (fs i).A = putsL ops x a0 (fs i).A := putsL_congr _ fun k hk => restr_hit (by simpa using hk)
 have hexec : execOp b.eval oi = execOp (putsL ops (restr (fs i).A x) a0 (fs i).A).eval oi := by
  rw [hsx]
  refine execOp_congr oi (fun cs bb => Region.noSelect_spec hsel i oi cs bb hoi) fun y hy => ?_
  cases y with
  | tmp t =>
    have := hlook t (List.mem_append_left _ (List.mem_filterMap.2 ⟨.tmp t, by simpa using hy, rfl⟩))
    simp [Act.eval, this]
  | _ => rfl
 have hwant : Region.wanted oi (yielded ops b.tmps) = Region.wanted oi (yielded ops (putsL ops (restr (fs i).A x) a0 (fs i).A).tmps) := by
  rw [hsx]
  unfold Region.wanted
  cases hg : oi.guard with
  | none => rfl
  | some gw =>
    obtain ⟨g, want⟩ := gw
    have : yielded ops b.tmps g = yielded ops (putsL ops x a0 (fs i).A).tmps g := by
     unfold yielded
     cases htt : (ops[g]?).bind (·.dst) with
     | none => rfl
     | some t =>
       have := hlook t (List.mem_append_right _ (by simp [hg, htt]))
       simp [this]
    simp only [this]
 have hcond := hc i himl (restr (fs i).A x) w I.ext (fun k hk => by
  unfold Fct.holds
  rw [restr_restr x fun q hq => ?_]
  ·exact I.facts k (hAi k hk).1 (hAi k hk).2.2.1
  ·rcases (by simpa using hq : q = k ∨ q ∈ (fs k).A) with e | e
   ·subst e; simpa using hk
   ·simpa using (hAi k hk).2.2.2 q e) (fun hl => by
  -- the chain
  have hmax : ∀ k, k < m → (fs k).loud = true → (k < i → listed.getD k false = true) ∧ (i < k → listed.getD k false = false) := fun k hk hkl => by
   constructor
   ·intro hki
    have h1 := (hper i himl).1.2 k hki
    rw [← hLs k hk, ← hLs i himl, hkl, hl] at h1
    simp only [Bool.true_eq_false, false_or] at h1
    exact listed_of_anc I.closed _ i oi hoi hpre h1
   ·intro hik
    have h1 := (hper k hk).1.2 i hik
    rw [← hLs k hk, ← hLs i himl, hkl, hl] at h1
    simp only [Bool.true_eq_false, false_or] at h1
    cases hlk : listed.getD k false with
    | false => rfl
    | true =>
      have hko : k < ops.size := by omega
      have := listed_of_anc I.closed _ k ops[k] (by simp [hko]) (fun e he hb => I.closed k ops[k] (by simp [hko]) hlk e he hb) h1
      rw [hilf] at this; cases this
  rcases hch i himl hl with ⟨hnone, hpe⟩ | ⟨q, hqi, hql, hbetween, hpe⟩
  ·rw [hpe]
   rcases I.curr with ⟨_, _, hcw⟩ | ⟨q, _, hqm, hqls, hql, _, _⟩
   ·exact hcw
   ·exfalso
    rcases Nat.lt_trichotomy q i with h | h | h
    ·have := hnone q h; rw [this] at hql; cases hql
    ·subst h; rw [hqls] at hilf; cases hilf
    ·have := (hmax q hqm hql).2 h; rw [this] at hqls; cases hqls
  ·rw [hpe]
   have hqm : q < m := by omega
   have hqls := (hmax q hqm hql).1 hqi
   rcases I.curr with ⟨_, hno, _⟩ | ⟨r, _, hrm, hrls, hrl, hrmax, hrp⟩
   ·have := hno q hqm hqls; rw [this] at hql; cases hql
   ·have h1 := hrmax q hqm hqls hql
    have h2 : r < i := by
     rcases Nat.lt_trichotomy r i with h | h | h
     ·exact h
     ·subst h; rw [hrls] at hilf; cases hilf
     ·have := (hmax r hrm hrl).2 h; rw [this] at hrls; cases hrls
    by_cases e : q = r
    ·subst e; exact hrp
    ·have := hbetween r (by omega) h2; rw [this] at hrl; cases hrl) oi hoi
 rw [← hexec, ← hwant] at hcond
 suffices key : ∀ v w', (fs i).good i E Eq (restr (fs i).A x) w v w' → ∃ cur', FInv ops m fs a0 w0 E C0 (listed.setIfInBounds i true) (b.put oi.dst v) w' (upd x i v) cur' from
  ⟨fun h => outc_mono key (hcond.1 h), fun h => key _ _ (hcond.2 h)⟩
 intro v w' hgood
 obtain ⟨hg1, hg2, hg3⟩ := hgood
 have hEw : E w w' := by
  split at hg1
  ·exact hg1.1
  ·exact hle _ _ hg1
 have hset : ∀ k, (listed.setIfInBounds i true).getD k false = if k = i then true else listed.getD k false := fun k => by
  by_cases e : k = i
  ·subst e; simp [hio, hsz']
  ·rw [if_neg e, getD_set_ne false (Ne.symm e)]
 have hlisted : ∀ k, (listed.setIfInBounds i true).getD k false = true → k = i ∨ (k ≠ i ∧ listed.getD k false = true) := fun k hk => by
  rw [hset k] at hk
  by_cases e : k = i
  ·exact .inl e
  ·rw [if_neg e] at hk; exact .inr ⟨e, hk⟩
 have hnotin : ∀ k, k < m → listed.getD k false = true → (k :: (fs k).A).contains i = false := fun k hk hkl => by
  cases h : (k :: (fs k).A).contains i with
  | false => rfl
  | true =>
    exfalso
    rcases (by simpa using h : i = k ∨ i ∈ (fs k).A) with e | e
    ·subst e; rw [hkl] at hilf; cases hilf
    ·rw [hA k hk] at e
     have h1 := (hper k hk).1.1.1.1 i e
     have hko : k < ops.size := by omega
     have := listed_of_anc I.closed _ k ops[k] (by simp [hko]) (fun e he hb => I.closed k ops[k] (by simp [hko]) hkl e he hb) h1.1.2
     rw [hilf] at this; cases this
 have hxi : ∀ k, k ≠ i → upd x i v k = x k := fun k hk => by simp [upd, hk]
 have hputs : (b.put oi.dst v).tmps.size = b.tmps.size := by unfold Act.put; split <;> simp
 have hInv : FInv ops m fs a0 w0 E C0 (listed.setIfInBounds i true) (b.put oi.dst v) w' (upd x i v) (if (fs i).loud then some i else cur) := by
  refine ⟨by simpa using hsz', fun t htm => ?_, closedL_set I.closed hi, by rw [hputs, I.bsize], ?_, fun k hkm hkl d hkd hdlt => ?_, fun t hno => ?_, ht _ _ _ I.ext hEw, fun k hkm hkl => ?_, ?_, fun k hkm hkl hkf => ?_, fun j k hjm hkm hjk hjl hkl hjf hkf => ?_⟩
  ·rw [hset t, if_neg (by omega)]; exact I.tail t htm
  ·unfold Act.put; split <;> exact I.bdef
  ·rcases hlisted k hkl with e | ⟨e, hkl'⟩
   ·subst e
    have : oi.dst = some d := by rw [hoi] at hkd; exact hkd
    simp only [Act.put, this]
    rw [Array.getElem?_setIfInBounds_self_of_lt (by rw [I.bsize]; exact hdlt)]
    simp [upd]
   ·have hne : oi.dst ≠ some d := fun h => by
     have := ((hper k hkm).1.1.2 i himl).resolve_left (Ne.symm e)
     rw [hkd] at this
     simp only [bne_iff_ne] at this
     exact this (by rw [hoi]; exact h)
    rw [hxi k e, ← I.hit k hkm hkl' d hkd hdlt]
    unfold Act.put
    split
    ·rename_i d' hd'
     exact Array.getElem?_setIfInBounds_ne fun e' => hne (by rw [hd', e'])
    ·rfl
  ·have h1 : oi.dst ≠ some t := fun h => hno i himl (by rw [hset i, if_pos rfl]) (by rw [hoi]; exact h)
   have h2 : b.tmps[t]? = a0.tmps[t]? := I.miss t fun k hk hkl => hno k hk (by rw [hset k]; split <;> simp [hkl])
   rw [← h2]
   unfold Act.put
   split
   ·rename_i d' hd'
    exact Array.getElem?_setIfInBounds_ne fun e' => h1 (by rw [hd', e'])
   ·rfl
  ·rcases hlisted k hkl with e | ⟨e, hkl'⟩
   ·subst e
    unfold Fct.holds
    rw [← upd_restr x v hiA]
    exact hg2
   ·unfold Fct.holds
    rw [restr_upd x v (hnotin k hkm hkl')]
    exact hst k hkm _ _ _ (I.facts k hkm hkl') hEw
  ·cases hl : (fs i).loud with
   | true =>
     rw [hl] at hg1
     simp only [if_true] at hg1
     refine .inr ⟨i, by simp, himl, by rw [hset i, if_pos rfl], hl, fun k hk hkl hkloud => ?_, hg1.2⟩
     rcases hlisted k hkl with e | ⟨e, hkl'⟩
     ·omega
     ·rcases Nat.lt_trichotomy k i with h | h | h
      ·omega
      ·omega
      ·exfalso
       have h1 := (hper k hk).1.2 i h
       rw [← hLs k hk, ← hLs i himl, hkloud, hl] at h1
       simp only [Bool.true_eq_false, false_or] at h1
       have hko : k < ops.size := by omega
       have := listed_of_anc I.closed _ k ops[k] (by simp [hko]) (fun e he hb => I.closed k ops[k] (by simp [hko]) hkl' e he hb) h1
       rw [hilf] at this; cases this
   | false =>
     rw [hl] at hg1
     simp only [Bool.false_eq_true, if_false] at hg1
     rcases I.curr with ⟨h1, h2, h3⟩ | ⟨q, h1, hqm, hqls, hql, hqmax, hqp⟩
     ·refine .inl ⟨by simp [h1], fun k hk hkl => ?_, hC0 _ _ h3 hg1⟩
      rcases hlisted k hkl with e | ⟨e, hkl'⟩
      ·subst e; exact hl
      ·exact h2 k hk hkl'
     ·refine .inr ⟨q, by simp [h1], hqm, by rw [hset q]; split <;> simp [hqls], hql, fun k hk hkl hkloud => ?_, hps q hqm hql _ _ hqp hg1⟩
      rcases hlisted k hkl with e | ⟨e, hkl'⟩
      ·subst e; rw [hkloud] at hl; cases hl
      ·exact hqmax k hk hkl' hkloud
  ·have hsw := hsz _ _ hEw
   rcases hlisted k hkl with e | ⟨e, hkl'⟩
   ·subst e
    have h1 := hg3 hkf
    have h2 := hsz _ _ I.ext
    have : upd x k v k = v := by simp [upd]
    rw [this]
    omega
   ·rw [hxi k e]
    have := I.old k hkm hkl' hkf
    omega
  ·rcases hlisted j hjl with e | ⟨e, hjl'⟩
   ·subst e
    rcases hlisted k hkl with e' | ⟨e', hkl'⟩
    ·exact absurd e'.symm hjk
    ·rw [hxi k e']
     have h1 := hg3 hjf
     have h2 := I.old k hkm hkl' hkf
     have : upd x j v j = v := by simp [upd]
     rw [this]
     omega
   ·rw [hxi j e]
    rcases hlisted k hkl with e' | ⟨e', hkl'⟩
    ·subst e'
     have h1 := hg3 hkf
     have h2 := I.old j hjm hjl' hjf
     have : upd x k v k = v := by simp [upd]
     rw [this]
     omega
    ·rw [hxi k e']
     exact I.apart j k hjm hkm hjk hjl' hkl' hjf hkf
 exact ⟨_, hInv⟩
theorem facts_core {T lits : List Nat} {tl : List Oper} (As : List (List Nat)) (Ls : List Bool) (PL : List Nat) (hB : facB ops m As Ls PL = true) (hA : ∀ j, j < m → (fs j).A = As.getD j []) (hLs : ∀ j, j < m → (fs j).loud = Ls.getD j false)
 (hT : T = List.range' m (ops.size - m)) (hm : T.map (fun t => ops[t]?) = tl.map some) (_ : lits = T)
 (hr : ∀ w, Eq w w) (ht : ∀ a b c, E a b → E b c → E a c) (hle : ∀ a b, Eq a b → E a b) (hsz : ∀ a b, E a b → a.heap.size ≤ b.heap.size)
 (hst : ∀ j, j < m → ∀ x w w', (fs j).F x w → E w w' → (fs j).F x w') (hps : ∀ j, j < m → (fs j).loud = true → ∀ w w', (fs j).post w → Eq w w' → (fs j).post w') (hC0 : ∀ w w', C0 w → Eq w w' → C0 w')
 (hch : chainOk m fs C0) (hc : ∀ j, j < m → condOp P ops fs a0 w0 E Eq j)
 (hfin : ∀ x w, E w0 w → (∀ k, k < m → (fs k).holds k x w) → lastOf m fs C0 m w → (∀ k, k < m → (fs k).fresh = true → w0.heap.size ≤ blkOf (x k) ∧ blkOf (x k) < w.heap.size) →
   (∀ j k, j < m → k < m → j ≠ k → (fs j).fresh = true → (fs k).fresh = true → blkOf (x j) ≠ blkOf (x k)) → wpList P ops Q tl (putsL ops x a0 (List.range m).reverse) w) :
 ∀ (u : Nat) (listed : Array Bool) (b : Act) (w : World) (x : Nat → Value) (cur : Option Nat), FInv ops m fs a0 w0 E C0 listed b w x cur → (∀ k, k ∈ PL → listed.getD k false = true) → cnt (fun k => !(listed.getD k false)) m = u → wpAny P .any ops Q (u + T.length) listed b w := by
 have hB' := hB
 simp only [facB, Bool.and_eq_true, List.all_eq_true, List.mem_range, decide_eq_true_eq, Bool.or_eq_true, Bool.not_eq_true', bne_iff_ne, beq_iff_eq] at hB
 obtain ⟨⟨⟨⟨⟨hsel, hmn⟩, hAl⟩, hedge⟩, hper⟩, htail⟩ := hB
 intro u
 induction u with
 | zero =>
   intro listed b w x cur I hPL hu
   have hall : ∀ k, k < m → listed.getD k false = true := fun k hk => by
    have := cnt_zero m hu k hk
    simpa using this
   have hlist : listed = Array.replicate m true ++ Array.replicate (ops.size - m) false := by
    apply Array.ext_getElem?
    intro i
    have hsz := I.size
    by_cases hi : i < m
    ·have h1 := hall i hi
     have h2 : i < listed.size := by omega
     rw [Array.getElem?_append_left (by simp; omega)]
     simp [h2] at h1
     simp [h2, h1, hi]
    ·by_cases hn : i < ops.size
     ·have h1 := I.tail i (by omega)
      have h2 : i < listed.size := by omega
      rw [Array.getElem?_append_right (by simp; omega)]
      simp [h2] at h1
      have h3 : i - m < ops.size - m := by omega
      simp [h2, h1, h3]
     ·rw [Array.getElem?_eq_none (by omega), Array.getElem?_eq_none (by simp; omega)]
   have hlast : lastOf m fs C0 m w := by
    have key : ∀ n, n ≤ m → (∀ k, k < m → (fs k).loud = true → k < n) → ((∀ k, k < m → (fs k).loud = false) ∧ C0 w ∨ ∃ i, i < m ∧ (fs i).loud = true ∧ (∀ k, k < m → (fs k).loud = true → k ≤ i) ∧ (fs i).post w) → lastOf m fs C0 n w := by
     intro n
     induction n with
     | zero =>
       intro _ hno hcur
       rcases hcur with ⟨_, h⟩ | ⟨i, hi, hl, _, _⟩
       ·exact h
       ·exact absurd (hno i hi hl) (by omega)
     | succ n ih =>
       intro hn hno hcur
       simp only [lastOf]
       cases hl : (fs n).loud with
       | true =>
         rw [if_pos rfl]
         rcases hcur with ⟨h, _⟩ | ⟨i, hi, hli, hmax, hp⟩
         ·rw [h n (by omega)] at hl; cases hl
         ·have h1 := hmax n (by omega) hl
          have h2 := hno i hi hli
          obtain rfl : i = n := by omega
          exact hp
       | false =>
         simp only [Bool.false_eq_true, if_false]
         refine ih (by omega) (fun k hk hkl => ?_) hcur
         have h1 := hno k hk hkl
         by_cases e : k = n
         ·subst e; rw [hkl] at hl; cases hl
         ·omega
    refine key m (Nat.le_refl _) (fun k hk _ => hk) ?_
    rcases I.curr with ⟨_, h1, h2⟩ | ⟨i, _, hi, _, hli, hmax, hp⟩
    ·exact .inl ⟨fun k hk => h1 k hk (hall k hk), h2⟩
    ·exact .inr ⟨i, hi, hli, fun k hk hkl => hmax k hk (hall k hk) hkl, hp⟩
   have hb : b = putsL ops x a0 (List.range m).reverse := by
    have hd := I.bdef
    have hs := I.bsize
    have hh := I.hit
    have hmi := I.miss
    obtain ⟨bt, bd⟩ := b
    simp only at hd hs hh hmi
    have e1 : bt = (putsL ops x a0 (List.range m).reverse).tmps := by
     apply Array.ext_getElem?
     intro t
     by_cases hex : ∃ k, k < m ∧ (ops[k]?).bind (·.dst) = some t
     ·obtain ⟨k, hk, hkd⟩ := hex
      by_cases hlt : t < a0.tmps.size
      ·rw [hh k hk (hall k hk) t hkd hlt]
       refine (putsL_hit hkd hlt _ (by simpa using hk) fun i hi hid => ?_).symm
       have hi' : i < m := by simpa using hi
       by_cases e : i = k
       ·exact e
       ·have := ((hper k hk).1.1.2 i hi').resolve_left e
        rw [hkd] at this
        simp only [bne_iff_ne] at this
        exact absurd hid this
      ·rw [Array.getElem?_eq_none (by omega), Array.getElem?_eq_none (by rw [putsL_size]; omega)]
     ·have hno : ∀ k, k < m → (ops[k]?).bind (·.dst) ≠ some t := fun k hk h => hex ⟨k, hk, h⟩
      rw [hmi t fun k hk _ => hno k hk, putsL_miss _ fun k hk => hno k (by simpa using hk)]
    have e2 : bd = (putsL ops x a0 (List.range m).reverse).defers := by rw [putsL_defers]; exact hd
    cases hp : putsL ops x a0 (List.range m).reverse with
    | mk pt pd => rw [hp] at e1 e2; rw [e1, e2]
   have hfin' := hfin x w I.ext (fun k hk => I.facts k hk (hall k hk)) hlast (fun k hk hf => I.old k hk (hall k hk) hf) (fun j k hj hk hjk hfj hfk => I.apart j k hj hk hjk (hall j hj) (hall k hk) hfj hfk)
   rw [← hb] at hfin'
   rw [Nat.zero_add]
   exact wpAny_of_tail T tl listed b w hm (by rw [hlist, hT]; exact htail) hfin'
 | succ u ih =>
   intro listed b w x cur I hPL hu
   rw [Nat.add_right_comm]
   have hsz' := I.size
   have hex : ∃ j, j < m ∧ listed.getD j false = false := by
    apply Classical.byContradiction
    intro hno
    have : cnt (fun k => !(listed.getD k false)) m = 0 := by
     have h0 : ∀ n, n ≤ m → cnt (fun k => !(listed.getD k false)) n = 0 := by
      intro n
      induction n with
      | zero => intro _; rfl
      | succ n ihn =>
        intro hn
        simp only [cnt]
        rw [ihn (by omega)]
        have hl : listed.getD n false = true := by
         apply Classical.byContradiction
         intro hl
         exact hno ⟨n, by omega, by simpa using hl⟩
        simp only [hl]; rfl
     exact h0 m (Nat.le_refl _)
    omega
   have hready : ∃ j, j ∈ Region.ready .any ops listed := by
    have hmin : ∃ j, j < m ∧ listed.getD j false = false ∧ ∀ i, i < j → listed.getD i false = true := by
     obtain ⟨j, hj, hjl⟩ := hex
     revert hj hjl
     induction j using Nat.strongRecOn with
     | ind j ihj =>
       intro hj hjl
       by_cases hh : ∃ i, i < j ∧ listed.getD i false = false
       ·obtain ⟨i, hi, hil⟩ := hh
        exact ihj i hi (by omega) hil
       ·refine ⟨j, hj, hjl, fun i hi => ?_⟩
        cases hl : listed.getD i false with
        | true => rfl
        | false => exact absurd ⟨i, hi, hl⟩ hh
    obtain ⟨j, hj, hjl, hlow⟩ := hmin
    have hjo : j < ops.size := by omega
    refine ⟨j, mem_ready.2 ⟨by rw [getD_bool (by omega)]; exact hjl, ops[j], by simp [hjo], fun e he hb => ?_⟩⟩
    have := hedge j hjo
    simp only [Array.getElem?_eq_getElem hjo] at this
    have := Array.all_eq_true_iff_forall_mem.1 this e he
    simp only [hb, Bool.not_true, Bool.false_or, decide_eq_true_eq] at this
    exact hlow _ this
   refine ⟨fun h0 => ?_, fun i hi => ?_⟩
   ·obtain ⟨j, hj⟩ := hready
    rw [h0] at hj; cases hj
   have hi' := hi
   obtain ⟨hiun, oi, hoi, hpre⟩ := mem_ready.1 hi
   have hio : i < ops.size := (Array.getElem?_eq_some_iff.1 hoi).1
   have hilf : listed.getD i false = false := by rw [← getD_bool (by omega)]; exact hiun
   have himl : i < m := by
    rcases Nat.lt_or_ge i m with h | h
    ·exact h
    ·obtain ⟨j, hj, hjl⟩ := hex
     have h1 := ((hper j hj).2.resolve_left fun h => by
      have := hPL j (by simpa using h)
      rw [hjl] at this; cases this) i (by rw [List.mem_range'_1]; omega)
     have := listed_of_anc I.closed _ i oi hoi hpre h1
     rw [hjl] at this; cases this
   have hfs := finv_step hB' hA hLs ht hle hsz hst hps hC0 hch hc I hoi hi himl
   refine wpOp_of_outc hoi hfs.1 hfs.2 fun v w' ⟨cur', hInv⟩ => ?_
   have hset : ∀ k, (listed.setIfInBounds i true).getD k false = if k = i then true else listed.getD k false := fun k => by
    by_cases e : k = i
    ·subst e; simp [hio, hsz']
    ·rw [if_neg e, getD_set_ne false (Ne.symm e)]
   refine ih _ _ _ _ _ hInv (fun k hk => by rw [hset k]; split <;> simp [hPL k hk]) ?_
   have := cnt_flip (p := fun k => !(listed.getD k false)) (q := fun k => !((listed.setIfInBounds i true).getD k false)) (j := i) (by simp only [hilf]; rfl) (by simp only [hset i]; simp) (fun k hk => by simp only [hset k, if_neg hk]) m himl
   omega
end
end Go.Proofs.YtkjhbofbcmelgaaGreatDoor
