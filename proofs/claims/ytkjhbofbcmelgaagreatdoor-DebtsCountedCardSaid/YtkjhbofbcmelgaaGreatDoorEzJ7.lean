/- A region that draws its order, by facts: operations that only reckon on slots may come behind the tail's; they are taken as soon as they are ready. Conditions: the static look (facB, lateB). The walk along a region by facts: one operation after the other, in the text's order. Conditions: as each theorem says. -/
import Derived.Test.YtkjhbofbcmelgaaGreatDoorEzFacts
import Derived.Test.YtkjhbofbcmelgaaGreatDoorEzJ2
set_option linter.unusedSimpArgs false
set_option linter.unusedVariables false
namespace Go.Proofs.YtkjhbofbcmelgaaGreatDoor
open Go Go.RowKit
section
variable {P : Program} {ops : Array Oper} {Q : Exit → Act → World → Prop}
def pureTo (w : World) (v : Value) : Result Next → Prop
 | .ok (.value u) w' => w = w' ∧ u = v
 | .ok .skip w' => w = w' ∧ v = undef
 | _ => False
def ancArr (ops : Array Oper) (i : Nat) : Array Bool := ((List.range ops.size).map fun k => ancB .any ops k ops.size i).toArray
def lateB (ops : Array Oper) (m : Nat) (LP : List Nat) : Bool :=
 LP.all fun i => Region.free .any ops (ancArr ops i) i && decide (i < m)
theorem wpE_of_any : ∀ (fuel : Nat) (listed : Array Bool) (a : Act) (w : World), wpAny P .any ops Q fuel listed a w → wpE P .any ops Q (fun _ => True) Eq [] fuel listed a w
 | 0, _, _, _, h => fun w' he => he ▸ h
 | fuel + 1, _, _, _, h => fun w' he => by
   subst he
   exact ⟨h.1, fun i hi => wpOp_mono (fun a' w'' h' => .inr ⟨by simp, trivial, wpE_of_any fuel _ a' w'' h'⟩) (h.2 i hi)⟩
theorem pure_first {i : Nat} {oi : Oper} {v : Value} (hs : Region.noSelect ops = true) (hi : ops[i]? = some oi) (hQ : ∀ c a w, Q (.panic c) (a.put oi.dst v) w → Q (.panic c) a w)
 {fuel : Nat} {listed : Array Bool} {a : Act} {w : World} (hf : ∀ j oj, ops[j]? = some oj → j ≠ i → listed.getD j true = false → (∀ e ∈ oj.after, Region.binds .any e = true → e.on ≠ i) → oi.apart ops oj = true) (hcl : closedL .any ops listed) (hr : i ∈ Region.ready .any ops listed)
 (hw : Region.wanted oi (yielded ops a.tmps) = true) (hy : ∀ w, pureTo w v ((execOp a.eval oi).run P w)) (h : wpAny P .any ops Q fuel (listed.setIfInBounds i true) (a.put oi.dst v) w) : wpAny P .any ops Q (fuel + 1) listed a w := by
 refine wpAny_of_wpE (H := fun _ => True) (E := Eq) (T := []) (fun _ => rfl) _ _ _ _ ?_
 refine wpE_first (F := 0) (v := v) (fun _ => rfl) (fun _ _ _ => Eq.trans) (fun _ _ _ _ => trivial) hi (Region.noSelect_spec hs) (fun t ht => by cases ht) hQ fuel listed a w hf hcl hr (.inl ⟨hw, fun w' _ => ?_⟩) trivial (wpE_of_any _ _ _ _ h)
 have h1 := hy w'
 revert h1
 cases (execOp a.eval oi).run P w' with
 | ok n w2 => cases n <;> simp [pureTo, quietTo]
 | halt x w2 => simp [pureTo]
variable {a0 : Act} {w0 : World} {E Eq' : World → World → Prop} {C0 : World → Prop} {tl : List Oper} {m : Nat} {fs : Nat → Fct}
/-- Of an operation that may come late: it only reckons on slots. -/
def pureOp (P : Program) (ops : Array Oper) (Q : Exit → Act → World → Prop) (fs : Nat → Fct) (a0 : Act) (w0 : World) (E : World → World → Prop) (j : Nat) : Prop :=
 ∀ s w, E w0 w → (∀ k ∈ (fs j).A, (fs k).holds k s w) → ∀ o, ops[j]? = some o →
  Region.wanted o (yielded ops (putsL ops s a0 (fs j).A).tmps) = true ∧ ∃ v, (∀ w', pureTo w' v ((execOp (putsL ops s a0 (fs j).A).eval o).run P w')) ∧ ∀ c b w, Q (.panic c) (b.put o.dst v) w → Q (.panic c) b w
theorem facts_late {T : List Nat} (As : List (List Nat)) (Ls : List Bool) (LP : List Nat) (hB : facB ops m As Ls LP = true) (hlB : lateB ops m LP = true) (hA : ∀ j, j < m → (fs j).A = As.getD j []) (hLs : ∀ j, j < m → (fs j).loud = Ls.getD j false)
 (hT : T = List.range' m (ops.size - m)) (hm : T.map (fun t => ops[t]?) = tl.map some)
 (hr : ∀ w, Eq' w w) (ht : ∀ a b c, E a b → E b c → E a c) (hle : ∀ a b, Eq' a b → E a b) (hsz : ∀ a b, E a b → a.heap.size ≤ b.heap.size)
 (hst : ∀ j, j < m → ∀ x w w', (fs j).F x w → E w w' → (fs j).F x w') (hps : ∀ j, j < m → (fs j).loud = true → ∀ w w', (fs j).post w → Eq' w w' → (fs j).post w') (hC0 : ∀ w w', C0 w → Eq' w w' → C0 w')
 (hch : chainOk m fs C0) (hc : ∀ j, j < m → condOp P ops fs a0 w0 E Eq' j) (hp : ∀ j ∈ LP, pureOp P ops Q fs a0 w0 E j)
 (hfin : ∀ x w, E w0 w → (∀ k, k < m → (fs k).holds k x w) → lastOf m fs C0 m w → (∀ k, k < m → (fs k).fresh = true → w0.heap.size ≤ blkOf (x k) ∧ blkOf (x k) < w.heap.size) →
   (∀ j k, j < m → k < m → j ≠ k → (fs j).fresh = true → (fs k).fresh = true → blkOf (x j) ≠ blkOf (x k)) → wpList P ops Q tl (putsL ops x a0 (List.range m).reverse) w) :
 ∀ (u : Nat) (listed : Array Bool) (b : Act) (w : World) (x : Nat → Value) (cur : Option Nat), FInv ops m fs a0 w0 E C0 listed b w x cur → cnt (fun k => !(listed.getD k false)) m = u → wpAny P .any ops Q (u + T.length) listed b w := by
 have hB' := hB
 simp only [facB, Bool.and_eq_true, List.all_eq_true, List.mem_range, decide_eq_true_eq, Bool.or_eq_true, Bool.not_eq_true', bne_iff_ne, beq_iff_eq] at hB
 obtain ⟨⟨⟨⟨⟨hsel, hmn⟩, hAl⟩, hedge⟩, hper⟩, htail⟩ := hB
 simp only [lateB, List.all_eq_true, Bool.and_eq_true, decide_eq_true_eq] at hlB
 intro u
 induction u with
 | zero =>
   intro listed b w x cur I hu
   have hall : ∀ k, k < m → listed.getD k false = true := fun k hk => by
    have := cnt_zero m hu k hk
    simpa using this
   exact facts_core (lits := T) As Ls LP hB' hA hLs hT hm rfl hr ht hle hsz hst hps hC0 hch hc hfin 0 listed b w x cur I (fun k hk => hall k (hlB k hk).2) hu
 | succ u ih =>
   intro listed b w x cur I hu
   rw [Nat.add_right_comm]
   have hsz' := I.size
   have hset : ∀ i, i < m → ∀ k, (listed.setIfInBounds i true).getD k false = if k = i then true else listed.getD k false := fun i hi k => by
    by_cases e : k = i
    ·subst e; simp [show k < ops.size by omega, hsz']
    ·rw [if_neg e, getD_set_ne false (Ne.symm e)]
   have hcnt : ∀ i, i < m → listed.getD i false = false → cnt (fun k => !((listed.setIfInBounds i true).getD k false)) m = u := fun i hi hil => by
    have := cnt_flip (p := fun k => !(listed.getD k false)) (q := fun k => !((listed.setIfInBounds i true).getD k false)) (j := i) (by simp only [hil]; rfl) (by simp only [hset i hi]; simp) (fun k hk => by simp only [hset i hi k, if_neg hk]) m hi
    omega
   by_cases hlate : ∃ j, j ∈ LP ∧ j ∈ Region.ready .any ops listed
   ·obtain ⟨j, hjL, hjr⟩ := hlate
    obtain ⟨hjun, oj, hoj, hpre⟩ := mem_ready.1 hjr
    have hjm := (hlB j hjL).2
    have hjl : listed.getD j false = false := by rw [← getD_bool (by omega)]; exact hjun
    have hAj : ∀ k, k ∈ (fs j).A → k < m ∧ k ≠ j ∧ listed.getD k false = true ∧ (∀ q, q ∈ (fs k).A → q ∈ (fs j).A) := fun k hk => by
     rw [hA j hjm] at hk
     have h1 := (hper j hjm).1.1.1.1 k hk
     obtain ⟨⟨hki, hka⟩, hks⟩ := h1
     have hkm : k < m := by omega
     refine ⟨hkm, by omega, listed_of_anc I.closed _ j oj hoj hpre hka, fun q hq => ?_⟩
     rw [hA k hkm] at hq
     rw [hA j hjm]
     have := hks q hq
     simpa using this
    have hfs := finv_look hB' hA I hoj hjr hjm
    obtain ⟨hwant, v, hy, hQ⟩ := hp j hjL (restr (fs j).A x) w I.ext (fun k hk => by
     unfold Fct.holds
     rw [restr_restr x fun q hq => ?_]
     ·exact I.facts k (hAj k hk).1 (hAj k hk).2.2.1
     ·rcases (by simpa using hq : q = k ∨ q ∈ (fs k).A) with e | e
      ·subst e; simpa using hk
      ·simpa using (hAj k hk).2.2.2 q e) oj hoj
    rw [← hfs.1] at hy
    rw [← hfs.2] at hwant
    have hstep := (finv_step hB' hA hLs ht hle hsz hst hps hC0 hch hc I hoj hjr hjm).1 hwant
    have hInv : ∃ cur', FInv ops m fs a0 w0 E C0 (listed.setIfInBounds j true) (b.put oj.dst v) w (upd x j v) cur' := by
     have h1 := hy w
     revert h1 hstep
     cases (execOp b.eval oj).run P w with
     | ok n w2 =>
       cases n <;> simp only [pureTo, outc] <;> intro h2 h1
       case value u => obtain ⟨rfl, rfl⟩ := h1; exact h2
       case skip => obtain ⟨rfl, rfl⟩ := h1; exact h2
       all_goals exact h1.elim
     | halt x w2 => simp [pureTo]
    obtain ⟨cur', hInv⟩ := hInv
    refine pure_first hsel hoj hQ (fun k ok hk hkj hun hno => ?_) I.closed hjr hwant hy (ih _ _ _ _ _ hInv (hcnt j hjm hjl))
    have hko := (Array.getElem?_eq_some_iff.1 hk).1
    refine Region.free_spec hoj (hlB j hjL).1 k ok hk hkj ?_ hno
    have e1 : (ancArr ops j).getD k true = ancB .any ops k ops.size j := by
     unfold ancArr
     simp [hko]
    rw [e1]
    cases h : ancB .any ops k ops.size j with
    | false => rfl
    | true =>
      have h2 := listed_of_anc I.closed _ j oj hoj hpre h
      rw [getD_bool (by omega), h2] at hun
      cases hun
   ·have hex : ∃ j, j < m ∧ listed.getD j false = false := by
     apply Classical.byContradiction
     intro hno
     have : cnt (fun k => !(listed.getD k false)) m = 0 := by
      have h0 : ∀ n, n ≤ m → cnt (fun k => !(listed.getD k false)) n = 0 := by
       intro n
       induction n with
       | zero => intro _; rfl
       | succ n ihn =>
         intro hn
         simp only [cnt]
         rw [ihn (by omega)]
         have hl : listed.getD n false = true := by
          apply Classical.byContradiction
          intro hl
          exact hno ⟨n, by omega, by simpa using hl⟩
         simp only [hl]; rfl
      exact h0 m (Nat.le_refl _)
     omega
    have hmin : ∃ j, j < m ∧ listed.getD j false = false ∧ ∀ i, i < j → listed.getD i false = true := by
     obtain ⟨j, hj, hjl⟩ := hex
     revert hj hjl
     induction j using Nat.strongRecOn with
     | ind j ihj =>
       intro hj hjl
       by_cases hh : ∃ i, i < j ∧ listed.getD i false = false
       ·obtain ⟨i, hi, hil⟩ := hh
        exact ihj i hi (by omega) hil
       ·refine ⟨j, hj, hjl, fun i hi => ?_⟩
        cases hl : listed.getD i false with
        | true => rfl
        | false => exact absurd ⟨i, hi, hl⟩ hh
    obtain ⟨j, hj, hjl, hlow⟩ := hmin
    have hjo : j < ops.size := by omega
    have hjr : j ∈ Region.ready .any ops listed := mem_ready.2 ⟨by rw [getD_bool (by omega)]; exact hjl, ops[j], by simp [hjo], fun e he hb => by
     have := hedge j hjo
     simp only [Array.getElem?_eq_getElem hjo] at this
     have := Array.all_eq_true_iff_forall_mem.1 this e he
     simp only [hb, Bool.not_true, Bool.false_or, decide_eq_true_eq] at this
     exact hlow _ this⟩
    refine ⟨fun h0 => (by rw [h0] at hjr; cases hjr), fun i hi => ?_⟩
    obtain ⟨hiun, oi, hoi, hpre⟩ := mem_ready.1 hi
    have hio : i < ops.size := (Array.getElem?_eq_some_iff.1 hoi).1
    have hilf : listed.getD i false = false := by rw [← getD_bool (by omega)]; exact hiun
    have himl : i < m := by
     rcases Nat.lt_or_ge i m with h | h
     ·exact h
     ·have h1 := ((hper j hj).2.resolve_left fun h => hlate ⟨j, by simpa using h, hjr⟩) i (by rw [List.mem_range'_1]; omega)
      have := listed_of_anc I.closed _ i oi hoi hpre h1
      rw [hjl] at this; cases this
    have hfs := finv_step hB' hA hLs ht hle hsz hst hps hC0 hch hc I hoi hi himl
    refine wpOp_of_outc hoi hfs.1 hfs.2 fun v w' ⟨cur', hInv⟩ => ?_
    exact ih _ _ _ _ _ hInv (hcnt i himl hilf)
end
end Go.Proofs.YtkjhbofbcmelgaaGreatDoor
namespace Go.Proofs.YtkjhbofbcmelgaaGreatDoor
open Go Go.RowKit
instance : Inhabited Fct := ⟨⟨[], false, false, fun _ _ => True, fun _ => True, fun _ => True⟩⟩
def getF (rev : List Fct) (k : Nat) : Fct := (rev[rev.length - 1 - k]?).getD default
def factsOn (rev : List Fct) (s : Nat → Value) (w : World) : List Nat → Prop
 | [] => True
 | k :: A => (getF rev k).holds k s w ∧ factsOn rev s w A
theorem factsOn_iff {rev : List Fct} {s : Nat → Value} {w : World} : ∀ {A : List Nat}, factsOn rev s w A ↔ ∀ k ∈ A, (getF rev k).holds k s w
 | [] => by simp [factsOn]
 | k :: A => by simp [factsOn, factsOn_iff (A := A)]
theorem getF_cons {f : Fct} {rev : List Fct} {k : Nat} (h : k < rev.length) : getF (f :: rev) k = getF rev k := by
 unfold getF
 have e : (f :: rev).length - 1 - k = (rev.length - 1 - k) + 1 := by simp; omega
 rw [e]; rfl
theorem getF_head {f : Fct} {rev : List Fct} : getF (f :: rev) rev.length = f := by
 unfold getF
 have e : (f :: rev).length - 1 - rev.length = 0 := by simp
 rw [e]; rfl
section
variable {P : Program} {ops : Array Oper} {Q : Exit → Act → World → Prop} {a0 : Act} {w0 : World} {E Eq : World → World → Prop} {C0 : World → Prop} {tl : List Oper} {LP : List Nat}
def stepOk (P : Program) (ops : Array Oper) (a0 : Act) (w0 : World) (E Eq : World → World → Prop) (rev : List Fct) (f : Fct) : Prop :=
 ∀ s w, E w0 w → factsOn rev s w f.A → (f.loud = true → f.pre w) → ∀ o, ops[rev.length]? = some o →
  (Region.wanted o (yielded ops (putsL ops s a0 f.A).tmps) = true → outc P (f.good rev.length E Eq s w) ((execOp (putsL ops s a0 f.A).eval o).run P w)) ∧
  (Region.wanted o (yielded ops (putsL ops s a0 f.A).tmps) = false → f.good rev.length E Eq s w undef w)
def pureOk (P : Program) (ops : Array Oper) (Q : Exit → Act → World → Prop) (a0 : Act) (w0 : World) (E : World → World → Prop) (rev : List Fct) (A : List Nat) : Prop :=
 ∀ s w, E w0 w → factsOn rev s w A → ∀ o, ops[rev.length]? = some o →
  Region.wanted o (yielded ops (putsL ops s a0 A).tmps) = true ∧ ∃ v, (∀ w', pureTo w' v ((execOp (putsL ops s a0 A).eval o).run P w')) ∧ ∀ c b w, Q (.panic c) (b.put o.dst v) w → Q (.panic c) b w
/-- The walk. LP: the operations that may come late. -/
def wpF (P : Program) (ops : Array Oper) (Q : Exit → Act → World → Prop) (a0 : Act) (w0 : World) (E Eq : World → World → Prop) (tl : List Oper) (LP : List Nat) : List (List Nat × Bool × Bool) → List Fct → (World → Prop) → Prop
 | [], rev, C => ∀ x w, E w0 w → factsOn rev x w (List.range rev.length) → C w →
    (∀ k, k < rev.length → (getF rev k).fresh = true → w0.heap.size ≤ blkOf (x k) ∧ blkOf (x k) < w.heap.size) →
    (∀ j k, j < rev.length → k < rev.length → j ≠ k → (getF rev j).fresh = true → (getF rev k).fresh = true → blkOf (x j) ≠ blkOf (x k)) →
    wpList P ops Q tl (putsL ops x a0 (List.range rev.length).reverse) w
 | (A, loud, fresh) :: rest, rev, C => ∃ F C', (∀ x w w', F x w → E w w' → F x w') ∧ (loud = false → C' = C) ∧ (∀ w w', C' w → Eq w w' → C' w') ∧
     stepOk P ops a0 w0 E Eq rev ⟨A, loud, fresh, F, C, C'⟩ ∧ (LP.contains rev.length = true → pureOk P ops Q a0 w0 E rev A) ∧ wpF P ops Q a0 w0 E Eq tl LP rest (⟨A, loud, fresh, F, C, C'⟩ :: rev) C'
structure Valid (P : Program) (ops : Array Oper) (Q : Exit → Act → World → Prop) (LP : List Nat) (a0 : Act) (w0 : World) (E Eq : World → World → Prop) (C0 : World → Prop) (rev : List Fct) (C : World → Prop) : Prop where
 stable : ∀ j, j < rev.length → ∀ x w w', (getF rev j).F x w → E w w' → (getF rev j).F x w'
 post : ∀ j, j < rev.length → (getF rev j).loud = true → ∀ w w', (getF rev j).post w → Eq w w' → (getF rev j).post w'
 low : ∀ j, j < rev.length → ∀ k ∈ (getF rev j).A, k < j
 chain : chainOk rev.length (getF rev) C0
 cond : ∀ j, j < rev.length → condOp P ops (getF rev) a0 w0 E Eq j
 pure : ∀ j, j < rev.length → LP.contains j = true → pureOp P ops Q (getF rev) a0 w0 E j
 last : lastOf rev.length (getF rev) C0 rev.length = C
 stC : ∀ w w', C w → Eq w w' → C w'
theorem lastOf_congr {m m' : Nat} {fs gs : Nat → Fct} : ∀ (n : Nat), (∀ k, k < n → fs k = gs k) → lastOf m fs C0 n = lastOf m' gs C0 n
 | 0, _ => rfl
 | n + 1, h => by
   simp only [lastOf]
   rw [h n (by omega), lastOf_congr n fun k hk => h k (by omega)]
theorem lastOf_spec {m : Nat} {fs : Nat → Fct} : ∀ (n : Nat), ((∀ k, k < n → (fs k).loud = false) ∧ lastOf m fs C0 n = C0) ∨ (∃ i, i < n ∧ (fs i).loud = true ∧ (∀ k, i < k → k < n → (fs k).loud = false) ∧ lastOf m fs C0 n = (fs i).post)
 | 0 => .inl ⟨fun k hk => by omega, rfl⟩
 | n + 1 => by
   simp only [lastOf]
   cases hl : (fs n).loud with
   | true => exact .inr ⟨n, by omega, hl, fun k h1 h2 => by omega, by simp⟩
   | false =>
     simp only [Bool.false_eq_true, if_false]
     rcases lastOf_spec (m := m) (fs := fs) n with ⟨h1, h2⟩ | ⟨i, hi, hli, hb, hp⟩
     ·refine .inl ⟨fun k hk => ?_, h2⟩
      by_cases e : k = n
      ·subst e; exact hl
      ·exact h1 k (by omega)
     ·refine .inr ⟨i, by omega, hli, fun k h1 h2 => ?_, hp⟩
      by_cases e : k = n
      ·subst e; exact hl
      ·exact hb k h1 (by omega)
theorem Valid.nil (h : ∀ w w', C0 w → Eq w w' → C0 w') : Valid P ops Q LP a0 w0 E Eq C0 [] C0 :=
 ⟨fun j hj => by simp at hj, fun j hj => by simp at hj, fun j hj => by simp at hj, fun j hj => by simp at hj, fun j hj => by simp at hj, fun j hj => by simp at hj, rfl, h⟩
theorem Valid.cons {rev : List Fct} {C C' : World → Prop} {A : List Nat} {loud fresh : Bool} {F : (Nat → Value) → World → Prop} (h : Valid P ops Q LP a0 w0 E Eq C0 rev C) (hA : ∀ k ∈ A, k < rev.length)
 (hst : ∀ x w w', F x w → E w w' → F x w') (hl : loud = false → C' = C) (hC' : ∀ w w', C' w → Eq w w' → C' w') (hs : stepOk P ops a0 w0 E Eq rev ⟨A, loud, fresh, F, C, C'⟩) (hpu : LP.contains rev.length = true → pureOk P ops Q a0 w0 E rev A) :
 Valid P ops Q LP a0 w0 E Eq C0 (⟨A, loud, fresh, F, C, C'⟩ :: rev) C' := by
 have hlen : (⟨A, loud, fresh, F, C, C'⟩ :: rev : List Fct).length = rev.length + 1 := rfl
 have hg : ∀ k, k < rev.length → getF (⟨A, loud, fresh, F, C, C'⟩ :: rev) k = getF rev k := fun k hk => getF_cons hk
 have hh : getF (⟨A, loud, fresh, F, C, C'⟩ :: rev) rev.length = ⟨A, loud, fresh, F, C, C'⟩ := getF_head
 refine ⟨fun j hj => ?_, fun j hj => ?_, fun j hj => ?_, fun j hj => ?_, fun j hj => ?_, fun j hj => ?_, ?_, hC'⟩
 ·rcases Nat.lt_or_ge j rev.length with h1 | h1
  ·rw [hg j h1]; exact h.stable j h1
  ·obtain rfl : j = rev.length := by omega
   rw [hh]; exact hst
 ·rcases Nat.lt_or_ge j rev.length with h1 | h1
  ·rw [hg j h1]; exact h.post j h1
  ·obtain rfl : j = rev.length := by omega
   rw [hh]; exact fun _ => hC'
 ·rcases Nat.lt_or_ge j rev.length with h1 | h1
  ·rw [hg j h1]; exact h.low j h1
  ·obtain rfl : j = rev.length := by omega
   rw [hh]; exact hA
 ·intro hjl
  rcases Nat.lt_or_ge j rev.length with h1 | h1
  ·rw [hg j h1] at hjl ⊢
   rcases h.chain j h1 hjl with ⟨h2, h3⟩ | ⟨i, hi, h2, h3, h4⟩
   ·exact .inl ⟨fun k hk => by rw [hg k (by omega)]; exact h2 k hk, h3⟩
   ·exact .inr ⟨i, hi, by rw [hg i (by omega)]; exact h2, fun k hk1 hk2 => by rw [hg k (by omega)]; exact h3 k hk1 hk2, by rw [hg i (by omega)]; exact h4⟩
  ·obtain rfl : j = rev.length := by omega
   rw [hh]
   rcases lastOf_spec (C0 := C0) (m := rev.length) (fs := getF rev) rev.length with ⟨h2, h3⟩ | ⟨i, hi, h2, h3, h4⟩
   ·exact .inl ⟨fun k hk => by rw [hg k hk]; exact h2 k hk, by rw [← h3]; exact h.last.symm⟩
   ·exact .inr ⟨i, hi, by rw [hg i hi]; exact h2, fun k hk1 hk2 => by rw [hg k hk2]; exact h3 k hk1 hk2, by rw [hg i hi, ← h4]; exact h.last.symm⟩
 ·rcases Nat.lt_or_ge j rev.length with h1 | h1
  ·intro s w hE hf hp
   rw [hg j h1] at hf hp ⊢
   refine h.cond j h1 s w hE (fun k hk => ?_) hp
   have := hf k hk
   rw [hg k (by have := h.low j h1 k hk; omega)] at this
   exact this
  ·obtain rfl : j = rev.length := by omega
   intro s w hE hf hp
   rw [hh] at hf hp ⊢
   refine hs s w hE (factsOn_iff.2 fun k hk => ?_) hp
   have := hf k hk
   rw [hg k (hA k hk)] at this
   exact this
 ·intro hjL s w hE hf
  rcases Nat.lt_or_ge j rev.length with h1 | h1
  ·rw [hg j h1] at hf ⊢
   refine h.pure j h1 hjL s w hE fun k hk => ?_
   have := hf k hk
   rw [hg k (by have := h.low j h1 k hk; omega)] at this
   exact this
  ·obtain rfl : j = rev.length := by omega
   rw [hh] at hf ⊢
   refine hpu hjL s w hE (factsOn_iff.2 fun k hk => ?_)
   have := hf k hk
   rw [hg k (hA k hk)] at this
   exact this
 ·rw [hlen]
  simp only [lastOf]
  rw [hh]
  split
  ·rfl
  ·rename_i hl'
   exact ((lastOf_congr _ hg).trans h.last).trans (hl (by simpa using hl')).symm
theorem facts_walk {T : List Nat} (m : Nat) (As : List (List Nat)) (Ls : List Bool) (hB : facB ops m As Ls LP = true) (hlB : lateB ops m LP = true) (hT : T = List.range' m (ops.size - m)) (hm : T.map (fun t => ops[t]?) = tl.map some)
 (hr : ∀ w, Eq w w) (ht : ∀ a b c, E a b → E b c → E a c) (hle : ∀ a b, Eq a b → E a b) (hsz : ∀ a b, E a b → a.heap.size ≤ b.heap.size) (hC0 : ∀ w w', C0 w → Eq w w' → C0 w') (hE0 : E w0 w0) (hw0 : C0 w0) :
 ∀ (todo : List (List Nat × Bool × Bool)) (rev : List Fct) (C : World → Prop), Valid P ops Q LP a0 w0 E Eq C0 rev C → rev.length + todo.length = m → (∀ j, j < rev.length → (getF rev j).A = As.getD j [] ∧ (getF rev j).loud = Ls.getD j false) →
  (∀ j, j < todo.length → (todo.getD j ([],false,false)).1 = As.getD (rev.length + j) [] ∧ (todo.getD j ([],false,false)).2.1 = Ls.getD (rev.length + j) false) →
  wpF P ops Q a0 w0 E Eq tl LP todo rev C → wpAny P .any ops Q ops.size (Array.replicate ops.size false) a0 w0
 | [], rev, C, hV, hn, hAL, _, h => by
   have hm' : rev.length = m := by simpa using hn
   subst hm'
   have hmn : rev.length ≤ ops.size := by
    simp only [facB, Bool.and_eq_true, decide_eq_true_eq] at hB
    exact hB.1.1.1.1.2
   have hlate : ∀ j ∈ LP, j < rev.length := fun j hj => by
    simp only [lateB, List.all_eq_true, Bool.and_eq_true, decide_eq_true_eq] at hlB
    exact (hlB j hj).2
   have hnone : ∀ k, (Array.replicate ops.size false).getD k false = false := fun k => by
    simp only [Array.getD_eq_getD_getElem?, Array.getElem?_replicate]
    split <;> rfl
   have := facts_late (P := P) (Q := Q) (fs := getF rev) (a0 := a0) (w0 := w0) (E := E) (Eq' := Eq) (C0 := C0) As Ls LP hB hlB (fun j hj => (hAL j hj).1) (fun j hj => (hAL j hj).2) hT hm hr ht hle hsz hV.stable hV.post hC0 hV.chain hV.cond (fun j hj => hV.pure j (hlate j hj) (by simpa using hj))
    (fun x w hE hf hl hfr hap => h x w hE (factsOn_iff.2 fun k hk => hf k (by simpa using hk)) (by rw [← hV.last]; exact hl) hfr hap)
    rev.length (Array.replicate ops.size false) a0 w0 (fun _ => undef) none
    ⟨by simp, fun t _ => hnone t, closedL_none _, rfl, rfl, fun k _ hk => (by rw [hnone k] at hk; cases hk), fun t _ => rfl, hE0, fun k _ hk => (by rw [hnone k] at hk; cases hk),
     .inl ⟨rfl, fun k _ hk => (by rw [hnone k] at hk; cases hk), hw0⟩, fun k _ hk => (by rw [hnone k] at hk; cases hk), fun j k _ _ _ hj => (by rw [hnone j] at hj; cases hj)⟩ 
    (by
      have : ∀ n, cnt (fun k => !((Array.replicate ops.size false).getD k false)) n = n := by
       intro n
       induction n with
       | zero => rfl
       | succ n ih => simp only [cnt]; rw [ih]; simp only [hnone n]; rfl
      exact this _)
   rw [hT] at this
   simp only [List.length_range'] at this
   rw [show rev.length + (ops.size - rev.length) = ops.size by omega] at this
   exact this
 | (A, loud, fresh) :: rest, rev, C, hV, hn, hAL, htodo, h => by
   obtain ⟨F, C', hst, hl, hC', hs, hpu, hrest⟩ := h
   have h0 := htodo 0 (by simp)
   simp only [List.getD_cons_zero, Nat.add_zero] at h0
   have hlow : ∀ k ∈ A, k < rev.length := fun k hk => by
    simp only [facB, Bool.and_eq_true, List.all_eq_true, List.mem_range, decide_eq_true_eq] at hB
    have hlt : rev.length < m := by simp at hn; omega
    have := (hB.1.2 rev.length hlt).1.1.1.1 k (by rw [← h0.1]; exact hk)
    exact this.1.1
   refine facts_walk m As Ls hB hlB hT hm hr ht hle hsz hC0 hE0 hw0 rest _ C' (hV.cons hlow hst hl hC' hs hpu) (by simp at hn ⊢; omega) (fun j hj => ?_) (fun j hj => ?_) hrest
   ·rcases Nat.lt_or_ge j rev.length with h1 | h1
    ·rw [getF_cons h1]; exact hAL j h1
    ·obtain rfl : j = rev.length := by simp at hj; omega
     rw [getF_head]; exact h0
   ·have := htodo (j + 1) (by simp; omega)
    simp only [List.getD_cons_succ] at this
    rw [show (⟨A, loud, fresh, F, C, C'⟩ :: rev : List Fct).length + j = rev.length + (j + 1) by simp; omega]
    exact this
/-- A region that draws its order, by facts. 'todo': for each operation ahead of the tail: whose facts it uses; whether it is loud; whether it makes a block. -/
theorem wp_region_facts {id : Nat} {l : List Oper} {a : Act} {w : World} (LP : List Nat) (todo : List (List Nat × Bool × Bool)) (E Eq : World → World → Prop) (C0 : World → Prop) (hmx : P.follows .mixedOrders = true)
 (hB : (facB l.toArray todo.length (todo.map (·.1)) (todo.map (·.2.1)) LP && lateB l.toArray todo.length LP) = true)
 (hr : ∀ w, Eq w w) (ht : ∀ a b c, E a b → E b c → E a c) (hle : ∀ a b, Eq a b → E a b) (hsz : ∀ a b, E a b → a.heap.size ≤ b.heap.size) (hC0 : ∀ w w', C0 w → Eq w w' → C0 w') (hw0 : C0 w.drew)
 (h : wpF P l.toArray Q a w.drew E Eq (l.drop todo.length) LP todo [] C0) : (Code.region id l.toArray true).wp P Q a w := by
 simp only [Bool.and_eq_true] at hB
 refine wp_region_any hmx ?_
 refine facts_walk (T := List.range' todo.length (l.toArray.size - todo.length)) (C0 := C0) (w0 := w.drew) todo.length _ _ hB.1 hB.2 rfl ?_ hr ht hle hsz hC0 (hle _ _ (hr _)) hw0 todo [] C0 (Valid.nil hC0) (by simp) (fun j hj => by simp at hj) (fun j hj => ?_) h
 ·refine List.ext_getElem? fun k => ?_
  simp only [List.getElem?_map, List.getElem?_drop, List.size_toArray]
  by_cases hk : todo.length + k < l.length
  ·have h1 : (List.range' todo.length (l.length - todo.length))[k]? = some (todo.length + k) := by rw [List.getElem?_range' (by omega)]; simp
   rw [h1]
   simp [hk]
  ·rw [List.getElem?_eq_none (by simp; omega), List.getElem?_eq_none (by omega)]
   rfl
 ·simp [List.getD_eq_getElem?_getD, hj]
variable {A : List Nat} {rest : List (List Nat × Bool × Bool)} {rev : List Fct} {C : World → Prop}
theorem fac_nil (h : ∀ x w, E w0 w → factsOn rev x w (List.range rev.length) → C w →
      (∀ k, k < rev.length → (getF rev k).fresh = true → w0.heap.size ≤ blkOf (x k) ∧ blkOf (x k) < w.heap.size) →
      (∀ j k, j < rev.length → k < rev.length → j ≠ k → (getF rev j).fresh = true → (getF rev k).fresh = true → blkOf (x j) ≠ blkOf (x k)) →
      wpList P ops Q tl (putsL ops x a0 (List.range rev.length).reverse) w) : wpF P ops Q a0 w0 E Eq tl LP [] rev C := h
/-- Any operation, its fact typed. -/
theorem fac_any (j : Nat) (hj : rev.length = j) (hlp : LP.contains j = false) {fresh : Bool} {o : Oper} (hi : ops.toList[j]? = some o) (hst : ∀ w w', C w → Eq w w' → C w')
 (h : ∃ F : (Nat → Value) → World → Prop, (∀ s w, E w0 w → factsOn rev s w A → Region.wanted o (yielded ops (putsL ops s a0 A).tmps) = true ∧
   outc P (fun v w' => Eq w w' ∧ F (upd s j v) w' ∧ (fresh = true → w.heap.size ≤ blkOf v ∧ blkOf v < w'.heap.size)) ((execOp (putsL ops s a0 A).eval o).run P w)) ∧
   (∀ x w w', F x w → E w w' → F x w') ∧ wpF P ops Q a0 w0 E Eq tl LP rest (⟨A, false, fresh, F, C, C⟩ :: rev) C) : wpF P ops Q a0 w0 E Eq tl LP ((A, false, fresh) :: rest) rev C := by
 subst hj
 obtain ⟨F, h1, h2, h3⟩ := h
 refine ⟨F, C, h2, fun _ => rfl, hst, fun s w hE hf _ o' ho' => ?_, fun hh => (by rw [hlp] at hh; cases hh), h3⟩
 obtain rfl : o = o' := Option.some.inj (by rw [← ho', ← hi]; simp)
 obtain ⟨hw, hx⟩ := h1 s w hE hf
 refine ⟨fun _ => outc_mono (fun v w' h => ⟨by simpa using h.1, h.2.1, h.2.2⟩) hx, fun hw' => ?_⟩
 rw [hw] at hw'
 cases hw'
theorem restr_self_holds {f : Fct} {k : Nat} {A : List Nat} {s : Nat → Value} {w : World} (h : ∀ q, (k :: f.A).contains q = true → A.contains q = true) : f.holds k (restr A s) w ↔ f.holds k s w := by
 unfold Fct.holds
 rw [restr_restr s h]
/-- An operation whose value is known. -/
theorem fac_quiet (j : Nat) (hj : rev.length = j) (hlp : LP.contains j = false) {o : Oper} (hi : ops.toList[j]? = some o) (hst : ∀ w w', C w → Eq w w' → C w') (hA : A.contains j = false) (hsub : A.all (fun k => (getF rev k).A.all fun q => A.contains q) = true)
 (h : ∃ v : (Nat → Value) → Value, (∀ s w, E w0 w → factsOn rev s w A → Region.wanted o (yielded ops (putsL ops s a0 A).tmps) = true ∧ quietTo P Eq w (v s) ((execOp (putsL ops s a0 A).eval o).run P w)) ∧
   wpF P ops Q a0 w0 E Eq tl LP rest (⟨A, false, false, fun s _ => s j = v (restr A s), C, C⟩ :: rev) C) : wpF P ops Q a0 w0 E Eq tl LP ((A,false,false) :: rest) rev C := by
 subst hj
 obtain ⟨v, h1, h3⟩ := h
 refine ⟨_, C, fun _ _ _ h _ => h, fun _ => rfl, hst, fun s w hE hf _ o' ho' => ?_, fun hh => (by rw [hlp] at hh; cases hh), h3⟩
 obtain rfl : o = o' := Option.some.inj (by rw [← ho', ← hi]; simp)
 simp only at hf
 have hf' : factsOn rev (restr A s) w A := by
  rw [factsOn_iff] at hf ⊢
  intro k hk
  refine (restr_self_holds fun q hq => ?_).2 (hf k hk)
  rcases (by simpa using hq : q = k ∨ q ∈ (getF rev k).A) with e | e
  ·subst e; simpa using hk
  ·have := List.all_eq_true.1 hsub k hk
   exact List.all_eq_true.1 this q e
 obtain ⟨hw, hx⟩ := h1 (restr A s) w hE hf'
 have hp : putsL ops (restr A s) a0 A = putsL ops s a0 A := putsL_congr _ fun k hk => restr_hit (by simpa using hk)
 rw [hp] at hw hx
 refine ⟨fun _ => ?_, fun hw' => by simp only at hw'; rw [hw] at hw'; cases hw'⟩
 simp only at hx ⊢
 have hv : ∀ u, (upd s rev.length u) rev.length = v (restr A (upd s rev.length u)) ↔ u = v (restr A s) := fun u => by
  rw [restr_upd s u hA]; simp [upd]
 have hgood : ∀ u w', Eq w w' → u = v (restr A s) → Fct.good ⟨A, false, false, fun s _ => s rev.length = v (restr A s), C, C⟩ rev.length E Eq s w u w' := fun u w' he hu => by
  refine ⟨by simpa using he, (hv u).2 hu, fun hh => (by cases hh)⟩
 generalize (execOp (putsL ops s a0 A).eval o).run P w = r at *
 cases r with
 | ok n w' =>
   cases n <;> simp only [quietTo] at hx <;> simp only [outc]
   case value u => exact hgood _ _ hx.1 hx.2
   case skip => exact hgood _ _ hx.1 hx.2.symm
   case enter f args => exact hx.mono fun e w'' ⟨he, hw''⟩ => ⟨_, he, hgood _ _ hw'' rfl⟩
 | halt x w' => simp only [quietTo] at hx
/-- An operation that only reckons on slots, and may come late. -/
theorem fac_late (j : Nat) (hj : rev.length = j) {o : Oper} (hi : ops.toList[j]? = some o) (hr : ∀ w, Eq w w) (hst : ∀ w w', C w → Eq w w' → C w') (hA : A.contains j = false) (hsub : A.all (fun k => (getF rev k).A.all fun q => A.contains q) = true) (hQ : ∀ v c b w, Q (.panic c) (b.put o.dst v) w → Q (.panic c) b w)
 (h : ∃ v : (Nat → Value) → Value, (∀ s w, E w0 w → factsOn rev s w A → Region.wanted o (yielded ops (putsL ops s a0 A).tmps) = true ∧ ∀ w', pureTo w' (v s) ((execOp (putsL ops s a0 A).eval o).run P w')) ∧
   wpF P ops Q a0 w0 E Eq tl LP rest (⟨A, false, false, fun s _ => s j = v (restr A s), C, C⟩ :: rev) C) : wpF P ops Q a0 w0 E Eq tl LP ((A,false,false) :: rest) rev C := by
 subst hj
 obtain ⟨v, h1, h3⟩ := h
 have key : ∀ s, (∃ w, E w0 w ∧ factsOn rev s w A) → v (restr A s) = v s := fun s ⟨w, hE, hf⟩ => by
  have hf' : factsOn rev (restr A s) w A := factsOn_iff.2 fun k hk => by
   have h4 := factsOn_iff.1 hf k hk
   refine (restr_self_holds fun q hq => ?_).2 h4
   rcases (by simpa using hq : q = k ∨ q ∈ (getF rev k).A) with e | e
   ·subst e; simpa using hk
   ·have h5 := List.all_eq_true.1 hsub k hk
    exact List.all_eq_true.1 h5 q e
  have a1 := (h1 s w hE hf).2 w
  have a2 := (h1 (restr A s) w hE hf').2 w
  rw [putsL_congr (x := restr A s) (y := s) A fun k hk => restr_hit (by simpa using hk)] at a2
  revert a1 a2
  cases (execOp (putsL ops s a0 A).eval o).run P w with
  | ok n w2 =>
    cases n <;> simp only [pureTo] <;> intro a1 a2
    case value u => rw [← a1.2, ← a2.2]
    case skip => rw [a1.2, a2.2]
    all_goals exact a1.elim
  | halt x w2 => intro a1; exact a1.elim
 refine ⟨_, C, fun _ _ _ h _ => h, fun _ => rfl, hst, fun s w hE hf _ o' ho' => ?_, fun _ s w hE hf o' ho' => ?_, h3⟩
 ·obtain rfl : o = o' := Option.some.inj (by rw [← ho', ← hi]; simp)
  obtain ⟨hw, hx⟩ := h1 s w hE hf
  refine ⟨fun _ => ?_, fun hw' => by rw [hw] at hw'; cases hw'⟩
  have h4 := hx w
  have e1 : upd s rev.length (v s) rev.length = v s := by simp [upd]
  have e2 : v (restr A (upd s rev.length (v s))) = v s := by rw [restr_upd s (v s) hA, key s ⟨w, hE, hf⟩]
  revert h4
  cases (execOp (putsL ops s a0 A).eval o).run P w with
  | ok n w2 =>
    cases n <;> simp only [pureTo, outc] <;> intro h4
    case value u =>
     obtain ⟨rfl, rfl⟩ := h4
     exact ⟨by simpa using hr _, by show upd s rev.length (v s) rev.length = v (restr A (upd s rev.length (v s))); rw [e1, e2], fun h => by cases h⟩
    case skip =>
     obtain ⟨rfl, h5⟩ := h4
     rw [h5] at e1 e2
     exact ⟨by simpa using hr _, by show upd s rev.length undef rev.length = v (restr A (upd s rev.length undef)); rw [e1, e2], fun h => by cases h⟩
    all_goals exact h4.elim
  | halt x w2 => intro h4; exact h4.elim
 ·obtain rfl : o = o' := Option.some.inj (by rw [← ho', ← hi]; simp)
  obtain ⟨hw, hx⟩ := h1 s w hE hf
  exact ⟨hw, _, hx, hQ _⟩
/-- An operation that is passed over. -/
theorem fac_skip (j : Nat) (hj : rev.length = j) (hlp : LP.contains j = false) {o : Oper} (hi : ops.toList[j]? = some o) (hst : ∀ w w', C w → Eq w w' → C w') (hr : ∀ w, Eq w w)
 (hw : ∀ s w, E w0 w → factsOn rev s w A → Region.wanted o (yielded ops (putsL ops s a0 A).tmps) = false)
 (h : wpF P ops Q a0 w0 E Eq tl LP rest (⟨A, false, false, fun s _ => s j = undef, C, C⟩ :: rev) C) : wpF P ops Q a0 w0 E Eq tl LP ((A,false,false) :: rest) rev C := by
 subst hj
 refine ⟨_, C, fun _ _ _ h _ => h, fun _ => rfl, hst, fun s w hE hf _ o' ho' => ?_, fun hh => (by rw [hlp] at hh; cases hh), h⟩
 obtain rfl : o = o' := Option.some.inj (by rw [← ho', ← hi]; simp)
 refine ⟨fun hw' => (by rw [hw s w hE hf] at hw'; cases hw'), fun _ => ⟨by simpa using hr w, by simp [upd], fun hh => (by cases hh)⟩⟩
/-- A block of the region's own. -/
def FreshP (v : Value) (w0 w : World) (t : TypeId) (cs : Array Value) : Prop := ∃ g, v = .pointer (some ⟨g, 0, none⟩) ∧ w0.heap.size ≤ g ∧ Blk w g t cs
def FreshS (v : Value) (w0 w : World) (t : TypeId) (cs : Array Value) (n c : Nat) : Prop := ∃ g, v = .slice (some ⟨g, 0, none⟩) n c ∧ w0.heap.size ≤ g ∧ Blk w g t cs
def boxTo (w : World) (t : TypeId) (cs : Array Value) : Result Next → Prop
 | .ok (.value u) w' => u = .pointer (some ⟨w.heap.size, 0, none⟩) ∧ w' = w.alloc (.cells cs t)
 | _ => False
def rowTo (w : World) (t : TypeId) (cs : Array Value) (n c : Nat) : Result Next → Prop
 | .ok (.value u) w' => u = .slice (some ⟨w.heap.size, 0, none⟩) n c ∧ w' = w.alloc (.cells cs t)
 | _ => False
end
section
variable {P : Program} {ops : Array Oper} {Q : Exit → Act → World → Prop} {a0 : Act} {w0 : World} {E : World → World → Prop} {tl : List Oper} {A : List Nat} {rest : List (List Nat × Bool × Bool)} {rev : List Fct} {C : World → Prop} {LP : List Nat}
theorem fac_box (j : Nat) (hj : rev.length = j) (hlp : LP.contains j = false) {o : Oper} (hi : ops.toList[j]? = some o) (hst : ∀ w w', C w → Ext w w' → C w') (hsz : ∀ a b, E a b → a.heap.size ≤ b.heap.size) (hE : ∀ w w' g t cs, E w w' → w0.heap.size ≤ g → Blk w g t cs → Blk w' g t cs)
 (h : ∃ (t : TypeId) (cs : Array Value), (∀ s w, E w0 w → factsOn rev s w A → Region.wanted o (yielded ops (putsL ops s a0 A).tmps) = true ∧ boxTo w t cs ((execOp (putsL ops s a0 A).eval o).run P w)) ∧
   wpF P ops Q a0 w0 E Ext tl LP rest (⟨A, false, true, fun s w => FreshP (s j) w0 w t cs, C, C⟩ :: rev) C) : wpF P ops Q a0 w0 E Ext tl LP ((A, false, true) :: rest) rev C := by
 subst hj
 obtain ⟨t, cs, h1, h3⟩ := h
 refine fac_any _ rfl hlp hi hst ⟨_, fun s w he hf => ?_, fun x w w' ⟨g, hg, hlt, hb⟩ he => ⟨g, hg, hlt, hE _ _ _ _ _ he hlt hb⟩, h3⟩
 obtain ⟨hw, hx⟩ := h1 s w he hf
 refine ⟨hw, ?_⟩
 generalize (execOp (putsL ops s a0 A).eval o).run P w = r at *
 cases r with
 | ok n w' =>
   cases n <;> simp only [boxTo] at hx
   case value u =>
    obtain ⟨rfl, rfl⟩ := hx
    refine ⟨(Ext.refl _).alloc _, ⟨_, by simp [upd], hsz _ _ he, Blk.new' rfl⟩, fun _ => ⟨Nat.le_refl _, by simp [blkOf]⟩⟩
 | halt x w' => simp only [boxTo] at hx
theorem fac_row (j : Nat) (hj : rev.length = j) (hlp : LP.contains j = false) {o : Oper} (hi : ops.toList[j]? = some o) (hst : ∀ w w', C w → Ext w w' → C w') (hsz : ∀ a b, E a b → a.heap.size ≤ b.heap.size) (hE : ∀ w w' g t cs, E w w' → w0.heap.size ≤ g → Blk w g t cs → Blk w' g t cs)
 (h : ∃ (t : TypeId) (cs : Array Value) (n c : Nat), (∀ s w, E w0 w → factsOn rev s w A → Region.wanted o (yielded ops (putsL ops s a0 A).tmps) = true ∧ rowTo w t cs n c ((execOp (putsL ops s a0 A).eval o).run P w)) ∧
   wpF P ops Q a0 w0 E Ext tl LP rest (⟨A, false, true, fun s w => FreshS (s j) w0 w t cs n c, C, C⟩ :: rev) C) : wpF P ops Q a0 w0 E Ext tl LP ((A, false, true) :: rest) rev C := by
 subst hj
 obtain ⟨t, cs, n, c, h1, h3⟩ := h
 refine fac_any _ rfl hlp hi hst ⟨_, fun s w he hf => ?_, fun x w w' ⟨g, hg, hlt, hb⟩ he => ⟨g, hg, hlt, hE _ _ _ _ _ he hlt hb⟩, h3⟩
 obtain ⟨hw, hx⟩ := h1 s w he hf
 refine ⟨hw, ?_⟩
 generalize (execOp (putsL ops s a0 A).eval o).run P w = r at *
 cases r with
 | ok n w' =>
   cases n <;> simp only [rowTo] at hx
   case value u =>
    obtain ⟨rfl, rfl⟩ := hx
    refine ⟨(Ext.refl _).alloc _, ⟨_, by simp [upd], hsz _ _ he, Blk.new' rfl⟩, fun _ => ⟨Nat.le_refl _, by simp [blkOf]⟩⟩
 | halt x w' => simp only [rowTo] at hx
/-- An operation whose value hangs on a block of the region's own. -/
theorem fac_via (j : Nat) (hj : rev.length = j) (hlp : LP.contains j = false) {Eq : World → World → Prop} {o : Oper} (i : Nat) (sh : Nat → Value) (hinj : ∀ g g', sh g = sh g' → g = g') (hij : i ≠ j) (hi : ops.toList[j]? = some o) (hst : ∀ w w', C w → Eq w w' → C w')
 (hex : ∀ s w, factsOn rev s w A → ∃ g, s i = sh g)
 (h : ∃ r : Nat → Value, (∀ s w g, E w0 w → factsOn rev s w A → s i = sh g → Region.wanted o (yielded ops (putsL ops s a0 A).tmps) = true ∧ quietTo P Eq w (r g) ((execOp (putsL ops s a0 A).eval o).run P w)) ∧
   wpF P ops Q a0 w0 E Eq tl LP rest (⟨A, false, false, fun s _ => ∀ g, s i = sh g → s j = r g, C, C⟩ :: rev) C) : wpF P ops Q a0 w0 E Eq tl LP ((A,false,false) :: rest) rev C := by
 subst hj
 obtain ⟨r, h1, h3⟩ := h
 refine fac_any _ rfl hlp hi hst ⟨_, fun s w he hf => ?_, fun x w w' h _ => h, h3⟩
 obtain ⟨g, hg⟩ := hex s w hf
 obtain ⟨hw, hx⟩ := h1 s w g he hf hg
 refine ⟨hw, ?_⟩
 have hgood : ∀ u w', Eq w w' → u = r g → Eq w w' ∧ (∀ g', upd s rev.length u i = sh g' → upd s rev.length u rev.length = r g') ∧ (false = true → w.heap.size ≤ blkOf u ∧ blkOf u < w'.heap.size) := fun u w' he hu => by
  refine ⟨he, fun g' hg' => ?_, fun hh => (by cases hh)⟩
  have e1 : upd s rev.length u i = s i := by simp [upd, hij]
  rw [e1, hg] at hg'
  have := hinj _ _ hg'
  subst this
  simp [upd, hu]
 generalize (execOp (putsL ops s a0 A).eval o).run P w = q at *
 cases q with
 | ok n w' =>
   cases n <;> simp only [quietTo] at hx <;> simp only [outc]
   case value u => exact hgood _ _ hx.1 hx.2
   case skip => exact hgood _ _ hx.1 hx.2.symm
   case enter f args => exact hx.mono fun e w'' ⟨he, hw''⟩ => ⟨_, he, hgood _ _ hw'' rfl⟩
 | halt x w' => simp only [quietTo] at hx
/-- A loud operation: the chain goes on. -/
theorem fac_loud (j : Nat) (hj : rev.length = j) (hlp : LP.contains j = false) {Eq : World → World → Prop} {o : Oper} (hi : ops.toList[j]? = some o)
 (h : ∃ (F : (Nat → Value) → World → Prop) (C' : World → Prop), (∀ s w, E w0 w → factsOn rev s w A → C w → Region.wanted o (yielded ops (putsL ops s a0 A).tmps) = true ∧
   outc P (fun v w' => (E w w' ∧ C' w') ∧ F (upd s j v) w') ((execOp (putsL ops s a0 A).eval o).run P w)) ∧
   (∀ x w w', F x w → E w w' → F x w') ∧ (∀ w w', C' w → Eq w w' → C' w') ∧ wpF P ops Q a0 w0 E Eq tl LP rest (⟨A, true, false, F, C, C'⟩ :: rev) C') : wpF P ops Q a0 w0 E Eq tl LP ((A, true, false) :: rest) rev C := by
 subst hj
 obtain ⟨F, C', h1, h2, hC', h3⟩ := h
 refine ⟨F, C', h2, fun hh => (by cases hh), hC', fun s w hE hf hp o' ho' => ?_, fun hh => (by rw [hlp] at hh; cases hh), h3⟩
 obtain rfl : o = o' := Option.some.inj (by rw [← ho', ← hi]; simp)
 obtain ⟨hw, hx⟩ := h1 s w hE hf (hp rfl)
 refine ⟨fun _ => outc_mono (fun v w' h => ⟨by simpa using h.1, h.2, fun hh => (by cases hh)⟩) hx, fun hw' => ?_⟩
 simp only at hw'
 rw [hw] at hw'
 cases hw'
end
theorem fq : type_of% @fac_quiet := @fac_quiet
end Go.Proofs.YtkjhbofbcmelgaaGreatDoor
