/- A region that draws its order, by facts: operations that only reckon on slots may come behind the tail's; they are taken as soon as they are ready. Conditions: the static look (facB, lateB). -/
import Derived.Test.YtkjhbofbcmelgaaGreatDoorFzFacts
set_option linter.unusedSimpArgs false
set_option linter.unusedVariables false
namespace Go.Proofs.YtkjhbofbcmelgaaGreatDoor
open Go Go.RowKit
section
variable {P : Program} {ops : Array Oper} {Q : Exit → Act → World → Prop}
def pureTo (w : World) (v : Value) : Result Next → Prop
 | .ok (.value u) w' => w = w' ∧ u = v
 | .ok .skip w' => w = w' ∧ v = undef
 | _ => False
def ancArr (ops : Array Oper) (i : Nat) : Array Bool := ((List.range ops.size).map fun k => ancB .any ops k ops.size i).toArray
def lateB (ops : Array Oper) (m : Nat) (LP : List Nat) : Bool :=
 LP.all fun i => Region.free .any ops (ancArr ops i) i && decide (i < m)
theorem wpE_of_any : ∀ (fuel : Nat) (listed : Array Bool) (a : Act) (w : World), wpAny P .any ops Q fuel listed a w → wpE P .any ops Q (fun _ => True) Eq [] fuel listed a w
 | 0, _, _, _, h => fun w' he => he ▸ h
 | fuel + 1, _, _, _, h => fun w' he => by
   subst he
   exact ⟨h.1, fun i hi => wpOp_mono (fun a' w'' h' => .inr ⟨by simp, trivial, wpE_of_any fuel _ a' w'' h'⟩) (h.2 i hi)⟩
theorem pure_first {i : Nat} {oi : Oper} {v : Value} (hs : Region.noSelect ops = true) (hi : ops[i]? = some oi) (hQ : ∀ c a w, Q (.panic c) (a.put oi.dst v) w → Q (.panic c) a w)
 {fuel : Nat} {listed : Array Bool} {a : Act} {w : World} (hf : ∀ j oj, ops[j]? = some oj → j ≠ i → listed.getD j true = false → (∀ e ∈ oj.after, Region.binds .any e = true → e.on ≠ i) → oi.apart ops oj = true) (hcl : closedL .any ops listed) (hr : i ∈ Region.ready .any ops listed)
 (hw : Region.wanted oi (yielded ops a.tmps) = true) (hy : ∀ w, pureTo w v ((execOp a.eval oi).run P w)) (h : wpAny P .any ops Q fuel (listed.setIfInBounds i true) (a.put oi.dst v) w) : wpAny P .any ops Q (fuel + 1) listed a w := by
 refine wpAny_of_wpE (H := fun _ => True) (E := Eq) (T := []) (fun _ => rfl) _ _ _ _ ?_
 refine wpE_first (F := 0) (v := v) (fun _ => rfl) (fun _ _ _ => Eq.trans) (fun _ _ _ _ => trivial) hi (Region.noSelect_spec hs) (fun t ht => by cases ht) hQ fuel listed a w hf hcl hr (.inl ⟨hw, fun w' _ => ?_⟩) trivial (wpE_of_any _ _ _ _ h)
 have h1 := hy w'
 revert h1
 cases (execOp a.eval oi).run P w' with
 | ok n w2 => cases n <;> simp [pureTo, quietTo]
 | halt x w2 => simp [pureTo]
variable {a0 : Act} {w0 : World} {E Eq' : World → World → Prop} {C0 : World → Prop} {tl : List Oper} {m : Nat} {fs : Nat → Fct}
/-- Of an operation that may come late: it only reckons on slots. -/
def pureOp (P : Program) (ops : Array Oper) (Q : Exit → Act → World → Prop) (fs : Nat → Fct) (a0 : Act) (w0 : World) (E : World → World → Prop) (j : Nat) : Prop :=
 ∀ s w, E w0 w → (∀ k ∈ (fs j).A, (fs k).holds k s w) → ∀ o, ops[j]? = some o →
  Region.wanted o (yielded ops (putsL ops s a0 (fs j).A).tmps) = true ∧ ∃ v, (∀ w', pureTo w' v ((execOp (putsL ops s a0 (fs j).A).eval o).run P w')) ∧ ∀ c b w, Q (.panic c) (b.put o.dst v) w → Q (.panic c) b w
theorem facts_late {T : List Nat} (As : List (List Nat)) (Ls : List Bool) (LP : List Nat) (hB : facB ops m As Ls LP = true) (hlB : lateB ops m LP = true) (hA : ∀ j, j < m → (fs j).A = As.getD j []) (hLs : ∀ j, j < m → (fs j).loud = Ls.getD j false)
 (hT : T = List.range' m (ops.size - m)) (hm : T.map (fun t => ops[t]?) = tl.map some)
 (hr : ∀ w, Eq' w w) (ht : ∀ a b c, E a b → E b c → E a c) (hle : ∀ a b, Eq' a b → E a b) (hsz : ∀ a b, E a b → a.heap.size ≤ b.heap.size)
 (hst : ∀ j, j < m → ∀ x w w', (fs j).F x w → E w w' → (fs j).F x w') (hps : ∀ j, j < m → (fs j).loud = true → ∀ w w', (fs j).post w → Eq' w w' → (fs j).post w') (hC0 : ∀ w w', C0 w → Eq' w w' → C0 w')
 (hch : chainOk m fs C0) (hc : ∀ j, j < m → condOp P ops fs a0 w0 E Eq' j) (hp : ∀ j ∈ LP, pureOp P ops Q fs a0 w0 E j)
 (hfin : ∀ x w, E w0 w → (∀ k, k < m → (fs k).holds k x w) → lastOf m fs C0 m w → (∀ k, k < m → (fs k).fresh = true → w0.heap.size ≤ blkOf (x k) ∧ blkOf (x k) < w.heap.size) →
   (∀ j k, j < m → k < m → j ≠ k → (fs j).fresh = true → (fs k).fresh = true → blkOf (x j) ≠ blkOf (x k)) → wpList P ops Q tl (putsL ops x a0 (List.range m).reverse) w) :
 ∀ (u : Nat) (listed : Array Bool) (b : Act) (w : World) (x : Nat → Value) (cur : Option Nat), FInv ops m fs a0 w0 E C0 listed b w x cur → cnt (fun k => !(listed.getD k false)) m = u → wpAny P .any ops Q (u + T.length) listed b w := by
 have hB' := hB
 simp only [facB, Bool.and_eq_true, List.all_eq_true, List.mem_range, decide_eq_true_eq, Bool.or_eq_true, Bool.not_eq_true', bne_iff_ne, beq_iff_eq] at hB
 obtain ⟨⟨⟨⟨⟨hsel, hmn⟩, hAl⟩, hedge⟩, hper⟩, htail⟩ := hB
 simp only [lateB, List.all_eq_true, Bool.and_eq_true, decide_eq_true_eq] at hlB
 intro u
 induction u with
 | zero =>
   intro listed b w x cur I hu
   have hall : ∀ k, k < m → listed.getD k false = true := fun k hk => by
    have := cnt_zero m hu k hk
    simpa using this
   exact facts_core (lits := T) As Ls LP hB' hA hLs hT hm rfl hr ht hle hsz hst hps hC0 hch hc hfin 0 listed b w x cur I (fun k hk => hall k (hlB k hk).2) hu
 | succ u ih =>
   intro listed b w x cur I hu
   rw [Nat.add_right_comm]
   have hsz' := I.size
   have hset : ∀ i, i < m → ∀ k, (listed.setIfInBounds i true).getD k false = if k = i then true else listed.getD k false := fun i hi k => by
    by_cases e : k = i
    ·subst e; simp [show k < ops.size by omega, hsz']
    ·rw [if_neg e, getD_set_ne false (Ne.symm e)]
   have hcnt : ∀ i, i < m → listed.getD i false = false → cnt (fun k => !((listed.setIfInBounds i true).getD k false)) m = u := fun i hi hil => by
    have := cnt_flip (p := fun k => !(listed.getD k false)) (q := fun k => !((listed.setIfInBounds i true).getD k false)) (j := i) (by simp only [hil]; rfl) (by simp only [hset i hi]; simp) (fun k hk => by simp only [hset i hi k, if_neg hk]) m hi
    omega
   by_cases hlate : ∃ j, j ∈ LP ∧ j ∈ Region.ready .any ops listed
   ·obtain ⟨j, hjL, hjr⟩ := hlate
    obtain ⟨hjun, oj, hoj, hpre⟩ := mem_ready.1 hjr
    have hjm := (hlB j hjL).2
    have hjl : listed.getD j false = false := by rw [← getD_bool (by omega)]; exact hjun
    have hAj : ∀ k, k ∈ (fs j).A → k < m ∧ k ≠ j ∧ listed.getD k false = true ∧ (∀ q, q ∈ (fs k).A → q ∈ (fs j).A) := fun k hk => by
     rw [hA j hjm] at hk
     have h1 := (hper j hjm).1.1.1.1 k hk
     obtain ⟨⟨hki, hka⟩, hks⟩ := h1
     have hkm : k < m := by omega
     refine ⟨hkm, by omega, listed_of_anc I.closed _ j oj hoj hpre hka, fun q hq => ?_⟩
     rw [hA k hkm] at hq
     rw [hA j hjm]
     have := hks q hq
     simpa using this
    have hfs := finv_look hB' hA I hoj hjr hjm
    obtain ⟨hwant, v, hy, hQ⟩ := hp j hjL (restr (fs j).A x) w I.ext (fun k hk => by
     unfold Fct.holds
     rw [restr_restr x fun q hq => ?_]
     ·exact I.facts k (hAj k hk).1 (hAj k hk).2.2.1
     ·rcases (by simpa using hq : q = k ∨ q ∈ (fs k).A) with e | e
      ·subst e; simpa using hk
      ·simpa using (hAj k hk).2.2.2 q e) oj hoj
    rw [← hfs.1] at hy
    rw [← hfs.2] at hwant
    have hstep := (finv_step hB' hA hLs ht hle hsz hst hps hC0 hch hc I hoj hjr hjm).1 hwant
    have hInv : ∃ cur', FInv ops m fs a0 w0 E C0 (listed.setIfInBounds j true) (b.put oj.dst v) w (upd x j v) cur' := by
     have h1 := hy w
     revert h1 hstep
     cases (execOp b.eval oj).run P w with
     | ok n w2 =>
       cases n <;> simp only [pureTo, outc] <;> intro h2 h1
       case value u => obtain ⟨rfl, rfl⟩ := h1; exact h2
       case skip => obtain ⟨rfl, rfl⟩ := h1; exact h2
       all_goals exact h1.elim
     | halt x w2 => simp [pureTo]
    obtain ⟨cur', hInv⟩ := hInv
    refine pure_first hsel hoj hQ (fun k ok hk hkj hun hno => ?_) I.closed hjr hwant hy (ih _ _ _ _ _ hInv (hcnt j hjm hjl))
    have hko := (Array.getElem?_eq_some_iff.1 hk).1
    refine Region.free_spec hoj (hlB j hjL).1 k ok hk hkj ?_ hno
    have e1 : (ancArr ops j).getD k true = ancB .any ops k ops.size j := by
     unfold ancArr
     simp [hko]
    rw [e1]
    cases h : ancB .any ops k ops.size j with
    | false => rfl
    | true =>
      have h2 := listed_of_anc I.closed _ j oj hoj hpre h
      rw [getD_bool (by omega), h2] at hun
      cases hun
   ·have hex : ∃ j, j < m ∧ listed.getD j false = false := by
     apply Classical.byContradiction
     intro hno
     have : cnt (fun k => !(listed.getD k false)) m = 0 := by
      have h0 : ∀ n, n ≤ m → cnt (fun k => !(listed.getD k false)) n = 0 := by
       intro n
       induction n with
       | zero => intro _; rfl
       | succ n ihn =>
         intro hn
         simp only [cnt]
         rw [ihn (by omega)]
         have hl : listed.getD n false = true := by
          apply Classical.byContradiction
          intro hl
          exact hno ⟨n, by omega, by simpa using hl⟩
         simp only [hl]; rfl
      exact h0 m (Nat.le_refl _)
     omega
    have hmin : ∃ j, j < m ∧ listed.getD j false = false ∧ ∀ i, i < j → listed.getD i false = true := by
     obtain ⟨j, hj, hjl⟩ := hex
     revert hj hjl
     induction j using Nat.strongRecOn with
     | ind j ihj =>
       intro hj hjl
       by_cases hh : ∃ i, i < j ∧ listed.getD i false = false
       ·obtain ⟨i, hi, hil⟩ := hh
        exact ihj i hi (by omega) hil
       ·refine ⟨j, hj, hjl, fun i hi => ?_⟩
        cases hl : listed.getD i false with
        | true => rfl
        | false => exact absurd ⟨i, hi, hl⟩ hh
    obtain ⟨j, hj, hjl, hlow⟩ := hmin
    have hjo : j < ops.size := by omega
    have hjr : j ∈ Region.ready .any ops listed := mem_ready.2 ⟨by rw [getD_bool (by omega)]; exact hjl, ops[j], by simp [hjo], fun e he hb => by
     have := hedge j hjo
     simp only [Array.getElem?_eq_getElem hjo] at this
     have := Array.all_eq_true_iff_forall_mem.1 this e he
     simp only [hb, Bool.not_true, Bool.false_or, decide_eq_true_eq] at this
     exact hlow _ this⟩
    refine ⟨fun h0 => (by rw [h0] at hjr; cases hjr), fun i hi => ?_⟩
    obtain ⟨hiun, oi, hoi, hpre⟩ := mem_ready.1 hi
    have hio : i < ops.size := (Array.getElem?_eq_some_iff.1 hoi).1
    have hilf : listed.getD i false = false := by rw [← getD_bool (by omega)]; exact hiun
    have himl : i < m := by
     rcases Nat.lt_or_ge i m with h | h
     ·exact h
     ·have h1 := ((hper j hj).2.resolve_left fun h => hlate ⟨j, by simpa using h, hjr⟩) i (by rw [List.mem_range'_1]; omega)
      have := listed_of_anc I.closed _ i oi hoi hpre h1
      rw [hjl] at this; cases this
    have hfs := finv_step hB' hA hLs ht hle hsz hst hps hC0 hch hc I hoi hi himl
    refine wpOp_of_outc hoi hfs.1 hfs.2 fun v w' ⟨cur', hInv⟩ => ?_
    exact ih _ _ _ _ _ hInv (hcnt i himl hilf)
end
end Go.Proofs.YtkjhbofbcmelgaaGreatDoor
