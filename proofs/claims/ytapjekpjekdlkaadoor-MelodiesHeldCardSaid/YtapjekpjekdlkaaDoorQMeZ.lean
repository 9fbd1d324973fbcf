/- The document's search for held choices, walked. Conditions: its variables, steps and notes lie in memory; steps and notes are right. -/
import Derived.Test.YtapjekpjekdlkaaDoorQMfC
import Derived.Test.YtapjekpjekdlkaaDoorQJ42
set_option linter.unusedSimpArgs false
set_option linter.unusedVariables false
namespace Go.Proofs.YtapjekpjekdlkaaDoor
open Go Go.RowKit

theorem clone_intH {α : Type} {enc : α → List Value} (val : α → Int) (henc : ∀ x, enc x = [.int .i64 (val x)]) (p : Option Addr) (n c : Nat) (xs : List α) (w : World) (h : Slc 1 enc w p n c xs) (hn : n ≤ 1000) :
    Calls Tryd.prog 40 #[.slice p n c] w fun e w' => ∃ p' c', e = .returned (.slice p' n c') ∧ w'.ownsRow w.heap.size 3 1 (.slice p' n c') n (xs.flatMap enc) ∧ Ext w w' := by
  have hfl : ∀ l : List α, (l.map val).map (Value.int .i64) = l.flatMap enc := fun l => by
    induction l with
    | nil => rfl
    | cons x l ih => rw [List.flatMap_cons, ← ih, henc]; rfl
  obtain ⟨hl, ⟨rfl, rfl⟩ | ⟨b, off, rfl, hb, hE⟩⟩ := slcC h
  · subst hl
    refine (Tryd.slices_Clone_int_nil 0 c w).mono fun e w' ⟨he, hw⟩ => ?_
    subst hw
    exact ⟨none, 0, he, World.ownsRow_nil _ _ _ _, Ext.refl _⟩
  · refine (Tryd.slices_Clone_int b off n c (xs.map val) w (by rw [List.length_map]; omega) (by omega) (fun j hj => ?_)).mono fun e w' ⟨v', he, ho, hne, hb'⟩ => ?_
    · rw [List.length_map] at hj
      have hx : xs[j]? = some xs[j] := List.getElem?_eq_getElem hj
      have := hE j _ hx 0 (.int .i64 (val xs[j])) (by rw [henc]; rfl)
      rw [List.getD_eq_getElem?_getD, List.getElem?_map, hx]
      simpa using this
    · rw [List.take_of_length_le (by rw [List.length_map]; omega), hfl] at ho
      rcases ho.2 with ⟨h1, _⟩ | ⟨g, cap, cur, h1, _⟩
      · exact absurd h1 hne
      · subst h1
        exact ⟨_, _, he, ho, hb'⟩

/-- All that was there stands, but for two cells. -/
def ExtH (F b : Nat) (w w' : World) : Prop := w'.os = w.os ∧ w'.tape = w.tape ∧ w'.output = w.output ∧ w.heap.size ≤ w'.heap.size ∧ ∀ k, k < w.heap.size → k ≠ F → k ≠ b → w'.heap[k]? = w.heap[k]?
theorem ExtH.refl (F b : Nat) (w : World) : ExtH F b w w := ⟨rfl, rfl, rfl, Nat.le_refl _, fun _ _ _ _ => rfl⟩
theorem ExtH.trans {F b : Nat} {u v w : World} (h : ExtH F b u v) (k : ExtH F b v w) : ExtH F b u w :=
  ⟨k.1.trans h.1, k.2.1.trans h.2.1, k.2.2.1.trans h.2.2.1, Nat.le_trans h.2.2.2.1 k.2.2.2.1, fun i hi h1 h2 => (k.2.2.2.2 i (Nat.lt_of_lt_of_le hi h.2.2.2.1) h1 h2).trans (h.2.2.2.2 i hi h1 h2)⟩
theorem Ext.extH {F b : Nat} {u v : World} (h : Ext u v) : ExtH F b u v := ⟨h.os, h.tape, h.output, h.size, fun k hk _ _ => h.block k hk⟩
theorem ExtH.ext {F b : Nat} {u v w : World} (h : ExtH F b u v) (k : Ext v w) : ExtH F b u w := h.trans k.extH
theorem ExtH.set {F b : Nat} {u v : World} (h : ExtH F b u v) {p : Addr} (hp : p.block = F ∨ p.block = b) (x : Value) : ExtH F b u (v.setCell p x) := by
  refine ⟨h.1, h.2.1, h.2.2.1, by simpa using h.2.2.2.1, fun k hk h1 h2 => ?_⟩
  rw [Below.heap_setCell v p x k (by omega)]
  exact h.2.2.2.2 k hk h1 h2
theorem Blk.extH {F b : Nat} {w w' : World} {g : Nat} {t : TypeId} {cs : Array Value} (h : Blk w g t cs) (h1 : g ≠ F) (h2 : g ≠ b) (he : ExtH F b w w') : Blk w' g t cs := (he.2.2.2.2 g h.lt h1 h2).trans h
theorem ExtH.cell {F b : Nat} {w w' : World} (he : ExtH F b w w') {g : Nat} (hg : g < w.heap.size) (h1 : g ≠ F) (h2 : g ≠ b) (o : Nat) : w'.cell? ⟨g, o, none⟩ = w.cell? ⟨g, o, none⟩ := World.cell?_of_block (w := w) (he.2.2.2.2 g hg h1 h2)
theorem Slc.extH {α : Type} {k : Nat} {enc : α → List Value} {w w' : World} {F b : Nat} {p : Option Addr} {n c : Nat} {xs : List α} (h : Slc k enc w p n c xs) (he : ExtH F b w w') (hp : ∀ a, p = some a → a.block ≠ F ∧ a.block ≠ b) : Slc k enc w' p n c xs := by
  obtain ⟨⟨h1, h2, h3⟩, h4, h5, h6⟩ := h
  refine ⟨⟨h1, h2, fun hn => ?_⟩, h4, h5, fun a ha => let ⟨b, off, e, hb⟩ := h6 a ha; ⟨b, off, e, Nat.lt_of_lt_of_le hb he.2.2.2.1⟩⟩
  obtain ⟨g, off, rfl, hb, hE⟩ := h3 hn
  obtain ⟨q1, q2⟩ := hp _ rfl
  exact ⟨g, off, rfl, Nat.lt_of_lt_of_le hb he.2.2.2.1, fun i x hx j v hv => (he.cell hb q1 q2 _).trans (hE i x hx j v hv)⟩

def fewV : Option (List Nat × Nat) → Int
  | none => -1
  | some s => (s.2 : Int)
def bestT : Option (List Nat × Nat) → List Nat
  | none => []
  | some s => s.1
/-- The variables of the search. -/
structure HelM (w0 : World) (z bn be bf bb bl bt : Nat) (st : Option (List Nat × Nat)) (w : World) : Prop where
  ext : Ext w0 w
  few : Blk w bf 3 #[.int .i64 (fewV st)]
  best : ∃ (q : Option Addr) (d : Nat), Blk w bb 22 #[.slice q (bestT st).length d] ∧ Slc 1 chC w q (bestT st).length d (bestT st) ∧ ∀ a, q = some a → z ≤ a.block
  fn : Blk w bt 78 #[.func (.func 39) #[] #[.pointer (some ⟨bn, 0, none⟩), .pointer (some ⟨be, 0, none⟩), .pointer (some ⟨bf, 0, none⟩), .pointer (some ⟨bb, 0, none⟩), .pointer (some ⟨bl, 0, none⟩), .pointer (some ⟨bt, 0, none⟩)]]
  low : w0.heap.size ≤ bf ∧ w0.heap.size ≤ bb
  lt : bf < z ∧ bb < z ∧ bt < z
  ne : bf ≠ bb ∧ bf ≠ bt ∧ bb ≠ bt
  size : z ≤ w.heap.size
section
variable {w0 w w' : World} {z bn be bf bb bl bt : Nat} {st : Option (List Nat × Nat)}
theorem HelM.more (h : HelM w0 z bn be bf bb bl bt st w) (he : Ext w w') : HelM w0 z bn be bf bb bl bt st w' :=
  ⟨h.ext.trans he, h.few.ext he, let ⟨q, d, a, b, c⟩ := h.best; ⟨q, d, a.ext he, b.ext he, c⟩, h.fn.ext he, h.low, h.lt, h.ne, Nat.le_trans h.size he.size⟩
theorem HelM.leaf (h : HelM w0 z bn be bf bb bl bt st w) {tk : List Nat} {gp : Option Addr} {gc k : Nat} (ht : Slc 1 chC w gp tk.length gc tk) (hz : ∀ a, gp = some a → z ≤ a.block) :
    HelM w0 z bn be bf bb bl bt (some (tk, k)) ((w.setCell ⟨bb, 0, none⟩ (.slice gp tk.length gc)).setCell ⟨bf, 0, none⟩ (.int .i64 k)) := by
  obtain ⟨n1, n2, n3⟩ := h.ne
  obtain ⟨l1, l2, l3⟩ := h.lt
  obtain ⟨q, d, hb, -, -⟩ := h.best
  have he : ExtH bf bb w ((w.setCell ⟨bb, 0, none⟩ (.slice gp tk.length gc)).setCell ⟨bf, 0, none⟩ (.int .i64 k)) := ((ExtH.refl bf bb w).set (.inr rfl) _).set (.inl rfl) _
  refine ⟨(h.ext.setCell (p := ⟨bb, 0, none⟩) h.low.2 _).setCell (p := ⟨bf, 0, none⟩) h.low.1 _, ?_, ⟨gp, gc, ?_, ht.extH he fun a ha => by have := hz a ha; omega, hz⟩, h.fn.extH (fun e => n2 e.symm) (fun e => n3 e.symm) he, h.low, h.lt, h.ne, by simpa using h.size⟩
  · exact (h.few.far (p := ⟨bb, 0, none⟩) n1 _).set_ 0 _
  · exact (hb.set_ 0 _).far (p := ⟨bf, 0, none⟩) (fun e => n1 e.symm) _
end
theorem held_fault {e : I4} {cs : List (List I4)} {tk : List Nat} {i : I4} {n : Nat} {st : Option (List Nat × Nat)} (h : rightB i = false) : heldF e cs tk i n st = st := by
  cases cs with
  | nil => unfold heldF; rw [if_neg (by rw [h]; decide)]
  | cons c cs => unfold heldF; rw [if_neg (by rw [h]; decide)]
theorem held_cons {e : I4} {c : List I4} {cs : List (List I4)} {tk : List Nat} {i : I4} {n : Nat} {st : Option (List Nat × Nat)} (h : rightB i = true) : heldF e (c :: cs) tk i n st = (List.range c.length).foldl (fun st k => heldF e cs (tk ++ [k]) (addI i (c.getD k zeroI)) (n + min k 1) st) st := by
  rw [heldF, if_pos h]
theorem held_new {e i : I4} {tk : List Nat} {n : Nat} {st : Option (List Nat × Nat)} (h : rightB i = true) (hi : i = e) (hf : fewV st < 0 ∨ (n : Int) < fewV st) : heldF e [] tk i n st = some (tk, n) := by
  unfold heldF
  rw [if_pos h, if_pos]
  refine ⟨hi, fun x hx => ?_⟩
  cases st with
  | none => cases hx
  | some s =>
    change (s.2 : Int) < 0 ∨ (n : Int) < (s.2 : Int) at hf
    cases hx
    show n < s.2
    omega
theorem held_old {e i : I4} {tk : List Nat} {n : Nat} {st : Option (List Nat × Nat)} (h : rightB i = true) (hf : i ≠ e ∨ (¬ fewV st < 0 ∧ ¬ (n : Int) < fewV st)) : heldF e [] tk i n st = st := by
  unfold heldF
  rw [if_pos h, if_neg]
  rintro ⟨h1, h2⟩
  rcases hf with hf | ⟨hf, hg⟩
  · exact hf h1
  · cases st with
    | none => exact hf (by decide)
    | some s =>
      have h3 : n < s.2 := h2 _ rfl
      change ¬ (n : Int) < (s.2 : Int) at hg
      omega
set_option maxRecDepth 100000 in
theorem truth_anyH (b : Bool) (w : World) : Calls Tryd.prog 41 #[.bool b] w fun e w' => e = .returned (.int .i64 (if b then 1 else 0)) ∧ Ext w w' := by
  cases b
  all_goals
    go_enter Tryd.func41, Tryd.ntmps41
    go_wp2
    go_ret
    exact ⟨rfl, Ext.refl _⟩
def HelR (w0 : World) (z bn be bf bb bl bt : Nat) (w : World) (r : Option (List Nat × Nat)) (e : Ending) (w' : World) : Prop :=
  e = .returned (.tuple #[]) ∧ ExtH bf bb w w' ∧ HelM w0 z bn be bf bb bl bt r w'

set_option maxRecDepth 100000 in
set_option maxHeartbeats 12800000 in
theorem held_try {w0 : World} {z bn be bf bb bl bt : Nat} {p : Option Addr} {n c : Nat} {X : List StepV} (hX : StpM w0 p n c X) {np : Option Addr} {nc : Nat} {m : List Int} (hm : Slc 1 intC w0 np m.length nc m) (hbn : Blk w0 bn 22 #[.slice np m.length nc]) {e : I4} (hbe : Blk w0 be 30 #[.int .i64 e.a, .int .i64 e.b, .int .i64 e.c, .int .i64 e.d]) (hbl : Blk w0 bl 26 #[.slice p n c]) (h0 : melF X m = 0) (hm10 : m.length ≤ 10) :
    ∀ (cs : List (List I4)) (tk : List Nat) (x : I4) (k : Nat) (st : Option (List Nat × Nat)) (w : World) (gp : Option Addr) (gc : Nat), (melC X m).drop tk.length = cs → tk.length ≤ (melC X m).length → k ≤ tk.length → HelM w0 z bn be bf bb bl bt st w → Slc 1 chC w gp tk.length gc tk → (∀ a, gp = some a → z ≤ a.block) →
      Calls Tryd.prog 39 #[.slice gp tk.length gc, .agg #[.int .i64 x.a, .int .i64 x.b, .int .i64 x.c, .int .i64 x.d], .int .i64 (k : Int), .pointer (some ⟨bn, 0, none⟩), .pointer (some ⟨be, 0, none⟩), .pointer (some ⟨bf, 0, none⟩), .pointer (some ⟨bb, 0, none⟩), .pointer (some ⟨bl, 0, none⟩), .pointer (some ⟨bt, 0, none⟩)] w (HelR w0 z bn be bf bb bl bt w (heldF e cs tk x k st)) := by
  obtain ⟨hm0, -, hmr, hfd⟩ := mel_rest h0
  have hs0 := mel_steps h0
  have hCR := (melC_right (m := m) hs0).1
  have hCl : (melC X m).length = m.length - 1 := melC_len X m
  have hCk : ∀ k, k < m.length - 1 → ∃ y, findX X (gapAt m k) = some y ∧ (melC X m)[k]? = some y.cs := fun k hk => by
    obtain ⟨y, hy1, hy2⟩ := hfd k (by omega)
    exact ⟨y, hy1, melC_at (by omega) hy1⟩
  intro cs
  induction cs with
  | nil =>
    intro tk x k st w gp gc hdr htk hkt h ht hgz
    have htl : tk.length = (melC X m).length := by
      have h1 := congrArg List.length hdr
      rw [List.length_drop, List.length_nil] at h1
      omega
    have hif := fun u => intervalFault_any x u
    have hW : Blk (w.alloc (.cells #[.int .i64 x.a, .int .i64 x.b, .int .i64 x.c, .int .i64 x.d] 30)) w.heap.size 30 #[.int .i64 x.a, .int .i64 x.b, .int .i64 x.c, .int .i64 x.d] := Blk.new' rfl
    have hEw : Ext w (w.alloc (.cells #[.int .i64 x.a, .int .i64 x.b, .int .i64 x.c, .int .i64 x.d] 30)) := (Ext.refl _).alloc _
    by_cases hr : rightB x = true
    · have hf0 : faultI x = 0 := by unfold faultI; rw [hr]; rfl
      simp only [hf0] at hif
      have hmI : (tk.length : Int) + 1 = (m.length : Int) := by omega
      clear htl hdr
      replace hif := Lib.hid hif
      go_enter Tryd.func39, Tryd.ntmps39
      go_upto_region 2 with (go_at_call 14; go_loud ((with_reducible refine Calls.mono (hif.out _) ?_); rintro e w1 ⟨rfl, hb1⟩))
      have hE1 := hEw.trans hb1
      have hh := h.more hE1
      have hW1 := hW.ext hb1
      have ht1 := ht.ext hE1
      clear hW hEw hb1 h ht
      generalize w.heap.size = gA at *
      obtain ⟨y1, -⟩ := (hbn.ext hh.ext).walk
      have y1l := (hbn.ext hh.ext).lt
      obtain ⟨y2, -⟩ := (hbe.ext hh.ext).walk
      have y2l := (hbe.ext hh.ext).lt
      obtain ⟨y3, y3f⟩ := hh.few.walk
      have y3l := hh.few.lt
      obtain ⟨q, d, hbb, hSq, hqz⟩ := hh.best
      obtain ⟨y4, y4f⟩ := hbb.walk
      have y4l := hbb.lt
      obtain ⟨y5, -⟩ := hW1.walk
      have y5l := hW1.lt
      have hne1 := hh.ne.1
      have hne2 : bb ≠ bf := fun e => hne1 e.symm
      by_cases hxe : x = e
      · subst hxe
        by_cases hf1 : fewV st < 0
        · have hfin := held_new (tk := tk) (n := k) (st := st) hr rfl (.inl hf1)
          rw [hfin]
          have hl := hh.leaf (k := k) ht1 hgz
          have hE2 : ExtH bf bb w ((w1.setCell ⟨bb, 0, none⟩ (.slice gp tk.length gc)).setCell ⟨bf, 0, none⟩ (.int .i64 k)) := (hE1.extH.set (.inr rfl) _).set (.inl rfl) _
          replace hl := Lib.hid hl
          replace hfin := Lib.hid hfin
          clear hh hSq hqz
          go_wp2
          go_end0
          exact ⟨rfl, hE2, by rw [hfin.out]; exact hl.out⟩
        · by_cases hf2 : (k : Int) < fewV st
          · have hfin := held_new (tk := tk) (n := k) (st := st) hr rfl (.inr hf2)
            rw [hfin]
            have hl := hh.leaf (k := k) ht1 hgz
            have hE2 : ExtH bf bb w ((w1.setCell ⟨bb, 0, none⟩ (.slice gp tk.length gc)).setCell ⟨bf, 0, none⟩ (.int .i64 k)) := (hE1.extH.set (.inr rfl) _).set (.inl rfl) _
            replace hl := Lib.hid hl
            replace hfin := Lib.hid hfin
            clear hh hSq hqz
            go_wp2
            go_end0
            exact ⟨rfl, hE2, by rw [hfin.out]; exact hl.out⟩
          · have hfin := Lib.hid (held_old (e := x) (tk := tk) (n := k) (st := st) hr (.inr ⟨hf1, hf2⟩))
            have hE2 : ExtH bf bb w w1 := hE1.extH
            replace hh := Lib.hid hh
            go_wp2
            go_end0
            exact ⟨rfl, hE2, by rw [hfin.out]; exact hh.out⟩
      · have hfin := Lib.hid (held_old (e := e) (tk := tk) (n := k) (st := st) hr (.inl hxe))
        have hE2 : ExtH bf bb w w1 := hE1.extH
        replace hh := Lib.hid hh
        have hxe4 : ¬ (x.a = e.a ∧ x.b = e.b ∧ x.c = e.c ∧ x.d = e.d) := fun h => hxe (I4.eq h.1 h.2.1 h.2.2.1 h.2.2.2)
        go_wp2
        all_goals
          go_end0
          exact ⟨rfl, hE2, by rw [hfin.out]; exact hh.out⟩
    · have hrf : rightB x = false := by simpa using hr
      have hf0 : faultI x = 1 := by unfold faultI; rw [hrf]; rfl
      simp only [hf0] at hif
      rw [held_fault hrf]
      replace hif := Lib.hid hif
      replace h := Lib.hid h
      go_enter Tryd.func39, Tryd.ntmps39
      go_wp2_with (go_at_call 14; go_loud ((with_reducible refine Calls.mono (hif.out _) ?_); rintro e w1 ⟨rfl, hb1⟩))
      go_end0
      exact ⟨rfl, (hEw.trans hb1).extH, h.out.more (hEw.trans hb1)⟩
  | cons row cs ih =>
    intro tk x k st w gp gc hdr htk hkt h ht hgz
    have hlt : tk.length < (melC X m).length := by
      have h1 := congrArg List.length hdr
      rw [List.length_drop, List.length_cons] at h1
      omega
    have hif := fun u => intervalFault_any x u
    have hW : Blk (w.alloc (.cells #[.int .i64 x.a, .int .i64 x.b, .int .i64 x.c, .int .i64 x.d] 30)) w.heap.size 30 #[.int .i64 x.a, .int .i64 x.b, .int .i64 x.c, .int .i64 x.d] := Blk.new' rfl
    have hEw : Ext w (w.alloc (.cells #[.int .i64 x.a, .int .i64 x.b, .int .i64 x.c, .int .i64 x.d] 30)) := (Ext.refl _).alloc _
    by_cases hr : rightB x = true
    · have hf0 : faultI x = 0 := by unfold faultI; rw [hr]; rfl
      simp only [hf0] at hif
      have hmB : (((tk.length : Int) + 1) == (m.length : Int)) = false := beq_false_of_ne (by omega)
      have hltI : (tk.length : Int) + 1 < m.length := by omega
      have hltI2 : (tk.length : Int) < m.length := by omega
      have hdd : row :: cs = (melC X m).drop tk.length := hdr.symm
      obtain ⟨y, hfx, hck⟩ := hCk tk.length (by omega)
      have hrow : row = y.cs ∧ (melC X m).drop (tk.length + 1) = cs := by
        obtain ⟨h2, h3⟩ := List.getElem?_eq_some_iff.1 hck
        rw [List.drop_eq_getElem_cons h2, h3, List.cons.injEq] at hdd
        exact ⟨hdd.1, hdd.2.symm⟩
      obtain ⟨rfl, hdr2⟩ := hrow
      have hcl4 : y.cs.length ≤ 4 := (melC_right (m := m) hs0).2 _ (List.mem_of_getElem? hck)
      have hrr : ∀ u ∈ y.cs, rightB u = true := fun u hu => hCR _ (List.mem_of_getElem? hck) u hu
      obtain ⟨a, ha⟩ := getD_some (rfl : m.length = m.length) (show tk.length + 1 < m.length by omega)
      obtain ⟨b, hb⟩ := getD_some (rfl : m.length = m.length) (show tk.length < m.length by omega)
      have hga := gap_of ha hb
      obtain ⟨-, ⟨-, e9⟩ | ⟨nb, noff, rfl, hnb, hEl⟩⟩ := slcC hm
      · rw [e9] at hm0; simp at hm0
      have ra := hmr a (List.mem_of_getElem? ha)
      have rb := hmr b (List.mem_of_getElem? hb)
      have hcho : ∀ u, Ext w0 u → Calls Tryd.prog 26 #[.slice p n c, .int .i64 (a - b)] u fun e w' => ∃ q d, e = .returned (.slice q y.cs.length d) ∧ Slc 4 i4C w0 q y.cs.length d y.cs ∧ Ext u w' := fun u hu => (choicesOf_from hX hu (a - b)).mono fun e w' ⟨h1, h2⟩ => by
        rw [← hga] at h2
        rcases h2 with ⟨h2, -⟩ | ⟨x, q, d, h2, hS, h3⟩
        · rw [hfx] at h2; cases h2
        · rw [hfx] at h2; cases h2; exact ⟨q, d, h3, hS, h1⟩
      have hfold := held_cons (e := e) (c := y.cs) (cs := cs) (tk := tk) (n := k) (st := st) hr
      rw [hfold]
      have hca : ∀ u, Ext w0 u → u.cell? ⟨nb, noff + (tk.length + 1), none⟩ = some (.int .i64 a) := fun u hu => by
        have := (hEl.ext hu hnb) (tk.length + 1) a ha 0 _ rfl
        simpa only [Nat.mul_one, Nat.add_zero] using this
      have hcb : ∀ u, Ext w0 u → u.cell? ⟨nb, noff + tk.length, none⟩ = some (.int .i64 b) := fun u hu => by
        have := (hEl.ext hu hnb) tk.length b hb 0 _ rfl
        simpa only [Nat.mul_one, Nat.add_zero] using this
      replace hif := Lib.hid hif
      replace hcho := Lib.hid hcho
      replace hrr := Lib.hid hrr
      replace ih := Lib.hid ih
      replace hdr2 := Lib.hid hdr2
      clear hfold hck hfx ha hb hga hdd hdr hEl
      generalize y.cs = cl at *
      obtain ⟨F9, hF9⟩ : ∃ F : Option (List Nat × Nat) → Nat → Option (List Nat × Nat), (fun st j => heldF e cs (tk ++ [j]) (addI x (cl.getD j zeroI)) (k + min j 1) st) = F := ⟨_, rfl⟩
      rw [hF9]
      have hFv := fun st j => congrFun (congrFun hF9 st) j
      replace hFv := Lib.hid hFv
      clear hF9
      go_enter Tryd.func39, Tryd.ntmps39
      go_upto_region 2 with (go_at_call 14; go_loud ((with_reducible refine Calls.mono (hif.out _) ?_); rintro e w1 ⟨rfl, hb1⟩))
      have hE1 := hEw.trans hb1
      have hh := h.more hE1
      have hW1 := hW.ext hb1
      have ht1 := ht.ext hE1
      have hgAz : z ≤ w.heap.size := h.size
      clear hW hEw hb1 h ht hif
      generalize w.heap.size = gA at *
      have hwn := hbn.ext hh.ext
      have hwl := hbl.ext hh.ext
      have hwx := hh.ext
      obtain ⟨y1, -⟩ := hwn.walk
      have y1l := hwn.lt
      have lq := Nat.lt_of_lt_of_le hnb hwx.size
      replace hh := Lib.hid hh
      go_upto_region 6 with fail
      refine wp_region_facts [13] [([], false, false), ([], false, false), ([], false, false), ([1, 2], false, false), ([1, 2, 3], false, false), ([], false, false), ([], false, false), ([6], false, false), ([5, 6, 7], false, false), ([5, 6, 7, 8], false, false), ([1, 2, 3, 4, 5, 6, 7, 8, 9], false, false), ([0, 1, 2, 3, 4, 5, 6, 7, 8, 9, 10], false, false), ([0, 1, 2, 3, 4, 5, 6, 7, 8, 9, 10, 11], false, false), ([], false, false)] (Ext) Ext (fun _ => True) (by kernel_rfl) (by kernel_rfl) Ext.refl (fun _ _ _ => Ext.trans) (fun _ _ h => h) (fun _ _ h => h.size) (fun _ _ h _ => h) trivial ?_
      dsimp only [List.length_cons, List.length_nil, List.drop_succ_cons, List.drop_zero, List.drop_nil]
      refine fac_quiet 0 rfl rfl rfl (fun _ _ h _ => h) rfl rfl ?_
      apply Exists.intro
      refine ⟨fun sv w' hw' hfa => ?_, ?_⟩
      · have hk9 := (Ext.refl w1).drew.trans hw'; have z1 := hca _ (hwx.trans hk9); have z2 := hcb _ (hwx.trans hk9); have lq9 := Nat.lt_of_lt_of_le lq hk9.size; obtain ⟨y6, -⟩ := (hwn.ext hk9).walk; obtain ⟨y7, -⟩ := (hwl.ext hk9).walk
        refine ⟨rfl, ?_⟩
        simp only [putsL]
        change quietTo _ _ _ _ (Sem.run _ (execOp (Act.eval _) _) _)
        try simp only [Act.put, List.setIfInBounds_toArray, List.set_cons_succ, List.set_cons_zero]
        simp [go_sem, quietTo, Ext.refl, ↓IntWalk.iteOmega, y7]
        all_goals try simp (disch := omega) only [IntWalk.i64_in]
        all_goals first
          | rfl
      refine fac_quiet 1 rfl rfl rfl (fun _ _ h _ => h) rfl rfl ?_
      apply Exists.intro
      refine ⟨fun sv w' hw' hfa => ?_, ?_⟩
      · have hk9 := (Ext.refl w1).drew.trans hw'; have z1 := hca _ (hwx.trans hk9); have z2 := hcb _ (hwx.trans hk9); have lq9 := Nat.lt_of_lt_of_le lq hk9.size; obtain ⟨y6, -⟩ := (hwn.ext hk9).walk; obtain ⟨y7, -⟩ := (hwl.ext hk9).walk
        refine ⟨rfl, ?_⟩
        simp only [putsL]
        change quietTo _ _ _ _ (Sem.run _ (execOp (Act.eval _) _) _)
        try simp only [Act.put, List.setIfInBounds_toArray, List.set_cons_succ, List.set_cons_zero]
        simp [go_sem, quietTo, Ext.refl, ↓IntWalk.iteOmega, y6]
        all_goals try simp (disch := omega) only [IntWalk.i64_in]
        all_goals first
          | rfl
      refine fac_quiet 2 rfl rfl rfl (fun _ _ h _ => h) rfl rfl ?_
      apply Exists.intro
      refine ⟨fun sv w' hw' hfa => ?_, ?_⟩
      · refine ⟨rfl, ?_⟩
        simp only [putsL]
        change quietTo _ _ _ _ (Sem.run _ (execOp (Act.eval _) _) _)
        try simp only [Act.put, List.setIfInBounds_toArray, List.set_cons_succ, List.set_cons_zero]
        simp [go_sem, quietTo, Ext.refl]
        all_goals first
          | rfl
      refine fac_quiet 3 rfl rfl rfl (fun _ _ h _ => h) rfl rfl ?_
      apply Exists.intro
      refine ⟨fun sv w' hw' hfa => ?_, ?_⟩
      · obtain ⟨f1, f2, -⟩ := hfa
        replace f1 : sv 1 = _ := f1
        try dsimp only at f1
        replace f2 : sv 2 = _ := f2
        try dsimp only at f2
        have hk9 := (Ext.refl w1).drew.trans hw'; have z1 := hca _ (hwx.trans hk9); have z2 := hcb _ (hwx.trans hk9); have lq9 := Nat.lt_of_lt_of_le lq hk9.size; obtain ⟨y6, -⟩ := (hwn.ext hk9).walk; obtain ⟨y7, -⟩ := (hwl.ext hk9).walk
        refine ⟨rfl, ?_⟩
        simp only [putsL]
        change quietTo _ _ _ _ (Sem.run _ (execOp (Act.eval (Act.put (Act.put _ (some 41) (sv 2)) (some 40) (sv 1))) _) _)
        try simp only [Act.put, List.setIfInBounds_toArray, List.set_cons_succ, List.set_cons_zero]
        simp [go_sem, quietTo, Ext.refl, ↓IntWalk.iteOmega, f1, f2, hltI]
        all_goals try simp (disch := omega) only [IntWalk.i64_in]
        all_goals first
          | rfl
      refine fac_quiet 4 rfl rfl rfl (fun _ _ h _ => h) rfl rfl ?_
      apply Exists.intro
      refine ⟨fun sv w' hw' hfa => ?_, ?_⟩
      · obtain ⟨_, _, f3, -⟩ := hfa
        replace f3 : sv 3 = _ := f3
        try dsimp only at f3
        have hk9 := (Ext.refl w1).drew.trans hw'; have z1 := hca _ (hwx.trans hk9); have z2 := hcb _ (hwx.trans hk9); have lq9 := Nat.lt_of_lt_of_le lq hk9.size; obtain ⟨y6, -⟩ := (hwn.ext hk9).walk; obtain ⟨y7, -⟩ := (hwl.ext hk9).walk
        refine ⟨rfl, ?_⟩
        simp only [putsL]
        change quietTo _ _ _ _ (Sem.run _ (execOp (Act.eval (Act.put (Act.put (Act.put _ (some 42) (sv 3)) (some 41) (sv 2)) (some 40) (sv 1))) _) _)
        try simp only [Act.put, List.setIfInBounds_toArray, List.set_cons_succ, List.set_cons_zero]
        simp [go_sem, quietTo, Ext.refl, ↓IntWalk.iteOmega, f3, z1]
        all_goals try simp (disch := omega) only [IntWalk.i64_in]
        all_goals first
          | rfl
      refine fac_quiet 5 rfl rfl rfl (fun _ _ h _ => h) rfl rfl ?_
      apply Exists.intro
      refine ⟨fun sv w' hw' hfa => ?_, ?_⟩
      · have hk9 := (Ext.refl w1).drew.trans hw'; have z1 := hca _ (hwx.trans hk9); have z2 := hcb _ (hwx.trans hk9); have lq9 := Nat.lt_of_lt_of_le lq hk9.size; obtain ⟨y6, -⟩ := (hwn.ext hk9).walk; obtain ⟨y7, -⟩ := (hwl.ext hk9).walk
        refine ⟨rfl, ?_⟩
        simp only [putsL]
        change quietTo _ _ _ _ (Sem.run _ (execOp (Act.eval _) _) _)
        try simp only [Act.put, List.setIfInBounds_toArray, List.set_cons_succ, List.set_cons_zero]
        simp [go_sem, quietTo, Ext.refl, ↓IntWalk.iteOmega, y6]
        all_goals try simp (disch := omega) only [IntWalk.i64_in]
        all_goals first
          | rfl
      refine fac_quiet 6 rfl rfl rfl (fun _ _ h _ => h) rfl rfl ?_
      apply Exists.intro
      refine ⟨fun sv w' hw' hfa => ?_, ?_⟩
      · refine ⟨rfl, ?_⟩
        simp only [putsL]
        change quietTo _ _ _ _ (Sem.run _ (execOp (Act.eval _) _) _)
        try simp only [Act.put, List.setIfInBounds_toArray, List.set_cons_succ, List.set_cons_zero]
        simp [go_sem, quietTo, Ext.refl]
        all_goals first
          | rfl
      refine fac_quiet 7 rfl rfl rfl (fun _ _ h _ => h) rfl rfl ?_
      apply Exists.intro
      refine ⟨fun sv w' hw' hfa => ?_, ?_⟩
      · obtain ⟨f6, -⟩ := hfa
        replace f6 : sv 6 = _ := f6
        try dsimp only at f6
        refine ⟨rfl, ?_⟩
        simp only [putsL]
        change quietTo _ _ _ _ (Sem.run _ (execOp (Act.eval (Act.put _ (some 45) (sv 6))) _) _)
        try simp only [Act.put, List.setIfInBounds_toArray, List.set_cons_succ, List.set_cons_zero]
        simp [go_sem, quietTo, Ext.refl, ↓IntWalk.iteOmega, f6]
        all_goals try simp (disch := omega) only [IntWalk.i64_in]
        all_goals first
          | rfl
      refine fac_quiet 8 rfl rfl rfl (fun _ _ h _ => h) rfl rfl ?_
      apply Exists.intro
      refine ⟨fun sv w' hw' hfa => ?_, ?_⟩
      · obtain ⟨f5, _, f7, -⟩ := hfa
        replace f5 : sv 5 = _ := f5
        try dsimp only at f5
        replace f7 : sv 7 = _ := f7
        try dsimp only at f7
        have hk9 := (Ext.refl w1).drew.trans hw'; have z1 := hca _ (hwx.trans hk9); have z2 := hcb _ (hwx.trans hk9); have lq9 := Nat.lt_of_lt_of_le lq hk9.size; obtain ⟨y6, -⟩ := (hwn.ext hk9).walk; obtain ⟨y7, -⟩ := (hwl.ext hk9).walk
        refine ⟨rfl, ?_⟩
        simp only [putsL]
        change quietTo _ _ _ _ (Sem.run _ (execOp (Act.eval (Act.put (Act.put (Act.put _ (some 46) (sv 7)) (some 45) (sv 6)) (some 44) (sv 5))) _) _)
        try simp only [Act.put, List.setIfInBounds_toArray, List.set_cons_succ, List.set_cons_zero]
        simp [go_sem, quietTo, Ext.refl, ↓IntWalk.iteOmega, f5, f7, hltI2]
        all_goals try simp (disch := omega) only [IntWalk.i64_in]
        all_goals first
          | rfl
      refine fac_quiet 9 rfl rfl rfl (fun _ _ h _ => h) rfl rfl ?_
      apply Exists.intro
      refine ⟨fun sv w' hw' hfa => ?_, ?_⟩
      · obtain ⟨_, _, _, f8, -⟩ := hfa
        replace f8 : sv 8 = _ := f8
        try dsimp only at f8
        have hk9 := (Ext.refl w1).drew.trans hw'; have z1 := hca _ (hwx.trans hk9); have z2 := hcb _ (hwx.trans hk9); have lq9 := Nat.lt_of_lt_of_le lq hk9.size; obtain ⟨y6, -⟩ := (hwn.ext hk9).walk; obtain ⟨y7, -⟩ := (hwl.ext hk9).walk
        refine ⟨rfl, ?_⟩
        simp only [putsL]
        change quietTo _ _ _ _ (Sem.run _ (execOp (Act.eval (Act.put (Act.put (Act.put (Act.put _ (some 47) (sv 8)) (some 46) (sv 7)) (some 45) (sv 6)) (some 44) (sv 5))) _) _)
        try simp only [Act.put, List.setIfInBounds_toArray, List.set_cons_succ, List.set_cons_zero]
        simp [go_sem, quietTo, Ext.refl, ↓IntWalk.iteOmega, f8, z2]
        all_goals try simp (disch := omega) only [IntWalk.i64_in]
        all_goals first
          | rfl
      refine fac_quiet 10 rfl rfl rfl (fun _ _ h _ => h) rfl rfl ?_
      apply Exists.intro
      refine ⟨fun sv w' hw' hfa => ?_, ?_⟩
      · obtain ⟨_, _, _, f4, _, _, _, _, f9, -⟩ := hfa
        replace f4 : sv 4 = _ := f4
        try dsimp only at f4
        replace f9 : sv 9 = _ := f9
        try dsimp only at f9
        refine ⟨rfl, ?_⟩
        simp only [putsL]
        change quietTo _ _ _ _ (Sem.run _ (execOp (Act.eval (Act.put (Act.put (Act.put (Act.put (Act.put (Act.put (Act.put (Act.put (Act.put _ (some 48) (sv 9)) (some 47) (sv 8)) (some 46) (sv 7)) (some 45) (sv 6)) (some 44) (sv 5)) (some 43) (sv 4)) (some 42) (sv 3)) (some 41) (sv 2)) (some 40) (sv 1))) _) _)
        try simp only [Act.put, List.setIfInBounds_toArray, List.set_cons_succ, List.set_cons_zero]
        simp [go_sem, quietTo, Ext.refl, ↓IntWalk.iteOmega, f4, f9]
        all_goals try simp (disch := omega) only [IntWalk.i64_in]
        all_goals first
          | rfl
      refine fac_any 11 rfl rfl rfl (fun _ _ h _ => h) ?_
      refine ⟨(fun y u => ∃ q d, y 11 = .slice q cl.length d ∧ Slc 4 i4C w0 q cl.length d cl), fun sv w' hw' hfa => ?_, ?_, ?_⟩
      · obtain ⟨f0, f1, f2, f3, f4, f5, f6, f7, f8, f9, f10, -⟩ := hfa
        replace f0 : sv 0 = _ := f0
        try dsimp only at f0
        replace f1 : sv 1 = _ := f1
        try dsimp only at f1
        replace f2 : sv 2 = _ := f2
        try dsimp only at f2
        replace f3 : sv 3 = _ := f3
        try dsimp only at f3
        replace f4 : sv 4 = _ := f4
        try dsimp only at f4
        replace f5 : sv 5 = _ := f5
        try dsimp only at f5
        replace f6 : sv 6 = _ := f6
        try dsimp only at f6
        replace f7 : sv 7 = _ := f7
        try dsimp only at f7
        replace f8 : sv 8 = _ := f8
        try dsimp only at f8
        replace f9 : sv 9 = _ := f9
        try dsimp only at f9
        replace f10 : sv 10 = _ := f10
        try dsimp only at f10
        have hk9 := (Ext.refl w1).drew.trans hw'; have z1 := hca _ (hwx.trans hk9); have z2 := hcb _ (hwx.trans hk9); have lq9 := Nat.lt_of_lt_of_le lq hk9.size; obtain ⟨y6, -⟩ := (hwn.ext hk9).walk; obtain ⟨y7, -⟩ := (hwl.ext hk9).walk
        refine ⟨rfl, ?_⟩
        simp only [putsL]
        change outc _ _ (Sem.run _ (execOp (Act.eval (Act.put (Act.put (Act.put (Act.put (Act.put (Act.put (Act.put (Act.put (Act.put (Act.put (Act.put _ (some 49) (sv 10)) (some 48) (sv 9)) (some 47) (sv 8)) (some 46) (sv 7)) (some 45) (sv 6)) (some 44) (sv 5)) (some 43) (sv 4)) (some 42) (sv 3)) (some 41) (sv 2)) (some 40) (sv 1)) (some 39) (sv 0))) _) _)
        try simp only [Act.put, List.setIfInBounds_toArray, List.set_cons_succ, List.set_cons_zero]
        simp [go_sem, outc, f0, f10]
        refine (hcho.out _ (hwx.trans hk9)).mono ?_
        rintro e w9 ⟨q, d, rfl, hS, hb9⟩
        exact ⟨_, rfl, hb9, q, d, rfl, hS⟩
      · exact fun x w w' ⟨q, d, h1, h2⟩ he => ⟨q, d, h1, h2⟩
      refine fac_quiet 12 rfl rfl rfl (fun _ _ h _ => h) rfl rfl ?_
      apply Exists.intro
      refine ⟨fun sv w' hw' hfa => ?_, ?_⟩
      · obtain ⟨_, _, _, _, _, _, _, _, _, _, _, f11, -⟩ := hfa
        obtain ⟨qc, dc, f11, hSc⟩ := f11
        replace f11 : sv 11 = _ := f11
        refine ⟨rfl, ?_⟩
        simp only [putsL]
        change quietTo _ _ _ _ (Sem.run _ (execOp (Act.eval (Act.put (Act.put (Act.put (Act.put (Act.put (Act.put (Act.put (Act.put (Act.put (Act.put (Act.put (Act.put _ (some 50) (sv 11)) (some 49) (sv 10)) (some 48) (sv 9)) (some 47) (sv 8)) (some 46) (sv 7)) (some 45) (sv 6)) (some 44) (sv 5)) (some 43) (sv 4)) (some 42) (sv 3)) (some 41) (sv 2)) (some 40) (sv 1)) (some 39) (sv 0))) _) _)
        try simp only [Act.put, List.setIfInBounds_toArray, List.set_cons_succ, List.set_cons_zero]
        simp [go_sem, quietTo, Ext.refl, ↓IntWalk.iteOmega, f11]
        all_goals try simp (disch := omega) only [IntWalk.i64_in]
        all_goals first
          | rfl
      refine fac_late 13 rfl rfl Ext.refl (fun _ _ h _ => h) rfl rfl (fun _ _ _ _ h => h) ?_
      apply Exists.intro
      refine ⟨fun sv w' hw' hfa => ?_, ?_⟩
      · refine ⟨rfl, fun w2 => ?_⟩
        simp only [putsL]
        change pureTo _ _ (Sem.run _ (execOp (Act.eval _) _) _)
        try simp only [Act.put, List.setIfInBounds_toArray, List.set_cons_succ, List.set_cons_zero]
        simp [go_sem, pureTo]
        all_goals try simp (disch := omega) only [IntWalk.i64_in]
        all_goals first
          | rfl
      refine fac_nil fun xq wrq herq hfrq hcrq holdq hapq => ?_
      obtain ⟨f0, f1, f2, f3, f4, f5, f6, f7, f8, f9, f10, f11, f12, f13, -⟩ := hfrq
      replace f0 : xq 0 = _ := f0
      try dsimp only at f0
      replace f1 : xq 1 = _ := f1
      try dsimp only at f1
      replace f2 : xq 2 = _ := f2
      try dsimp only at f2
      replace f3 : xq 3 = _ := f3
      try dsimp only at f3
      replace f4 : xq 4 = _ := f4
      try dsimp only at f4
      replace f5 : xq 5 = _ := f5
      try dsimp only at f5
      replace f6 : xq 6 = _ := f6
      try dsimp only at f6
      replace f7 : xq 7 = _ := f7
      try dsimp only at f7
      replace f8 : xq 8 = _ := f8
      try dsimp only at f8
      replace f9 : xq 9 = _ := f9
      try dsimp only at f9
      replace f10 : xq 10 = _ := f10
      try dsimp only at f10
      obtain ⟨qc, dc, f11, hSc⟩ := f11
      replace f11 : xq 11 = _ := f11
      replace f12 : xq 12 = _ := f12
      try dsimp only at f12
      replace f13 : xq 13 = _ := f13
      try dsimp only at f13
      change wpList _ _ _ _ (Act.put (Act.put (Act.put (Act.put (Act.put (Act.put (Act.put (Act.put (Act.put (Act.put (Act.put (Act.put (Act.put (Act.put _ (some 39) (xq 0)) (some 40) (xq 1)) (some 41) (xq 2)) (some 42) (xq 3)) (some 43) (xq 4)) (some 44) (xq 5)) (some 45) (xq 6)) (some 46) (xq 7)) (some 47) (xq 8)) (some 48) (xq 9)) (some 49) (xq 10)) (some 50) (xq 11)) (some 51) (xq 12)) (some 52) (xq 13)) _
      simp only [putsL, Nat.reduceAdd, List.drop_succ_cons, List.drop_zero, List.drop_nil, Act.put, List.setIfInBounds_toArray, List.set_cons_succ, List.set_cons_zero]
      try simp only [f0, f1, f2, f3, f4, f5, f6, f7, f8, f9, f10, f11, f12, f13]
      clear f0 f1 f2 f3 f4 f5 f6 f7 f8 f9 f10 f12 f13
      clear holdq hapq
      have hkq := (Ext.refl w1).drew.trans herq
      have hhq := hh.out.more hkq
      have hWq := hW1.ext hkq
      have htq := ht1.ext hkq
      have hEq := hE1.trans hkq
      clear herq hkq hwn hwl hh hW1 ht1 hE1 y1 y1l lq hwx hca hcb hcho
      generalize wrq = W4 at *
      have hltz := hhq.lt
      have hneq := hhq.ne
      have hW4z : z ≤ W4.heap.size := hhq.size
      have hgA4 := hWq.lt
      replace hhq := Lib.hid hhq
      replace hSc := Lib.hid hSc
      go_wp2
      go_loopw [52] (fun v52 wr => ∃ (j : Nat) (st' : Option (List Nat × Nat)), v52 = .int .i64 j ∧ j ≤ cl.length ∧ (List.range j).foldl F9 st = st' ∧ HelM w0 z bn be bf bb bl bt st' wr ∧ ExtH bf bb W4 wr) (fun v52 _ => cl.length - (intOf v52).toNat)
      case atStart => exact ⟨0, st, rfl, Nat.zero_le _, rfl, hhq.out, ExtH.refl _ _ _⟩
      case round =>
        clear hhq
        obtain ⟨j, st', rfl, hj, hst, hH, hK⟩ := hrel
        by_cases hjl : j < cl.length
        · obtain ⟨cc, hcc⟩ := getD_some (rfl : cl.length = cl.length) hjl
          obtain ⟨-, ⟨-, e9⟩ | ⟨cb9, co9, rfl, hcb, hCe⟩⟩ := slcC hSc.out
          · rw [e9] at hcc; cases hcc
          obtain ⟨c1, c2, c3, c4⟩ := (hCe.ext hH.ext hcb).iv hcc
          have lc := Nat.lt_of_lt_of_le hcb hH.ext.size
          have hccr := hrr.out cc (List.mem_of_getElem? hcc)
          have hjI : (j : Int) < cl.length := by omega
          have hpl : ∀ u, Calls Tryd.prog 27 #[.agg #[.int .i64 x.a, .int .i64 x.b, .int .i64 x.c, .int .i64 x.d], .agg #[.int .i64 cc.a, .int .i64 cc.b, .int .i64 cc.c, .int .i64 cc.d], .int .i64 1] u fun e w' => e = .returned (.agg #[.int .i64 (addI x cc).a, .int .i64 (addI x cc).b, .int .i64 (addI x cc).c, .int .i64 (addI x cc).d]) ∧ Ext u w' := fun u => by
            have h9 := plus_any x cc 1 u
            rw [plus1_is hr hccr] at h9
            exact h9
          have hnx : (List.range (j + 1)).foldl F9 st = F9 st' j := by rw [List.range_succ, List.foldl_append, hst]; rfl
          have hFk := hFv.out st' j
          rw [show cl.getD j zeroI = cc by rw [List.getD_eq_getElem?_getD, hcc]; rfl] at hFk
          rw [← hFk] at hnx
          obtain ⟨nx, hnxd⟩ : ∃ q, addI x cc = q := ⟨_, rfl⟩
          rw [hnxd] at hpl hnx
          have hEa : Ext wr (wr.alloc (.cells #[.int .i64 cc.a, .int .i64 cc.b, .int .i64 cc.c, .int .i64 cc.d] 30)) := (Ext.refl _).alloc _
          have hCa : Blk (wr.alloc (.cells #[.int .i64 cc.a, .int .i64 cc.b, .int .i64 cc.c, .int .i64 cc.d] 30)) wr.heap.size 30 #[.int .i64 cc.a, .int .i64 cc.b, .int .i64 cc.c, .int .i64 cc.d] := Blk.new' rfl
          have hHa := hH.more hEa
          have hAa := (hWq.extH (by omega) (by omega) hK).ext hEa
          have hta := (htq.extH hK fun a ha => by have := hgz a ha; omega).ext hEa
          have hKa := hK.ext hEa
          have hgC : z ≤ wr.heap.size := hH.size
          have hwz : z ≤ (wr.alloc (.cells #[.int .i64 cc.a, .int .i64 cc.b, .int .i64 cc.c, .int .i64 cc.d] 30)).heap.size := hHa.size
          replace hpl := Lib.hid hpl
          replace hnx := Lib.hid hnx
          replace hst := Lib.hid hst
          replace hcc := Lib.hid hcc
          replace hnxd := Lib.hid hnxd
          clear hCe hccr hFk hH hK hEa
          go_upto_region 9 with fail
          clear c1 c2 c3 c4 lc hcb
          generalize wr.alloc (.cells #[.int .i64 cc.a, .int .i64 cc.b, .int .i64 cc.c, .int .i64 cc.d] 30) = Wb at *
          generalize wr.heap.size = gC at *
          have hgk : (tk ++ [j]).length = tk.length + 1 := by rw [List.length_append, List.length_singleton]
          have hrc : ∀ (b9 c9 bs9 : Nat) (u : World), Ext Wb u → z ≤ bs9 → u.ownsRow bs9 3 1 (.slice (some ⟨b9, 0, none⟩) (tk.length + 1) c9) (tk.length + 1) ((tk ++ [j]).flatMap chC) →
              Calls Tryd.prog 39 #[.slice (some ⟨b9, 0, none⟩) (tk.length + 1) c9, .agg #[.int .i64 nx.a, .int .i64 nx.b, .int .i64 nx.c, .int .i64 nx.d], .int .i64 ((k : Int) + (if (0 : Int) < j then 1 else 0)), .pointer (some ⟨bn, 0, none⟩), .pointer (some ⟨be, 0, none⟩), .pointer (some ⟨bf, 0, none⟩), .pointer (some ⟨bb, 0, none⟩), .pointer (some ⟨bl, 0, none⟩), .pointer (some ⟨bt, 0, none⟩)] u (HelR w0 z bn be bf bb bl bt u (heldF e cs (tk ++ [j]) nx (k + min j 1) st')) := fun b9 c9 bs9 u hu hz9 ho9 => by
            obtain ⟨q9, d9, hq9, hs9⟩ := slc_of_own (enc := chC) chC_len ho9 (by decide) (by omega)
            cases hq9
            have h9 := ih.out (tk ++ [j]) nx (k + min j 1) st' u (some ⟨b9, 0, none⟩) c9 (by rw [hgk]; exact hdr2.out) (by rw [hgk]; omega) (by rw [hgk]; omega) (hHa.more hu) (by rw [hgk]; exact hs9) (fun a ha => by cases ha; exact Nat.le_trans hz9 (ho9.lt b9 rfl).1)
            rw [hgk] at h9
            have e8 : ((k + min j 1 : Nat) : Int) = (k : Int) + (if (0 : Int) < j then 1 else 0) := by
              by_cases h8 : (0 : Int) < j
              · rw [if_pos h8]; omega
              · rw [if_neg h8]; omega
            rw [e8] at h9
            exact h9
          have hTa := hHa.fn
          have hTr := hpl.out
          have hkb : (k : Int) ≤ 10 := by omega
          replace hrc := Lib.hid hrc
          replace hHa := Lib.hid hHa
          have htl9 : tk.length ≤ 1000 := by omega
          generalize hRR : heldF e cs (tk ++ [j]) nx (k + min j 1) st' = RR at *
          clear hTr
          generalize htv : (if (0 : Int) < j then (1 : Int) else 0) = tv at *
          have htb : 0 ≤ tv ∧ tv ≤ 1 := by rw [← htv]; split <;> omega
          have htr : ∀ (b : Bool), b = decide (0 < j) → ∀ u, Calls Tryd.prog 41 #[.bool b] u fun e w' => e = .returned (.int .i64 tv) ∧ Ext u w' := fun b hb u => (truth_anyH b u).mono fun e w' ⟨he, h9⟩ => ⟨by rw [he, ← htv, hb]; by_cases h8 : 0 < j <;> simp [h8], h9⟩
          replace htr := Lib.hid htr
          replace htv := Lib.hid htv
          replace hRR := Lib.hid hRR
          refine wp_region_forks [0, 1, 3, 6, 7, 9, 10, 11] 7 (fun w' => Blk w' bt 78 #[.func (.func 39) #[] #[.pointer (some ⟨bn, 0, none⟩), .pointer (some ⟨be, 0, none⟩), .pointer (some ⟨bf, 0, none⟩), .pointer (some ⟨bb, 0, none⟩), .pointer (some ⟨bl, 0, none⟩), .pointer (some ⟨bt, 0, none⟩)]] ∧ Blk w' gA 30 #[.int .i64 x.a, .int .i64 x.b, .int .i64 x.c, .int .i64 x.d] ∧ Blk w' gC 30 #[.int .i64 cc.a, .int .i64 cc.b, .int .i64 cc.c, .int .i64 cc.d] ∧ (ExtH bf bb Wb w')) Ext (by kernel_rfl) (by kernel_rfl) Ext.refl (fun _ _ _ => Ext.trans) (fun _ _ h he => ⟨h.1.ext he, h.2.1.ext he, h.2.2.1.ext he, h.2.2.2.ext he⟩) ⟨(by (repeat (with_reducible first | assumption | exact Blk.new' (by simp) | refine Blk.drew ?_ | refine Blk.alloc ?_ _ | exact Ext.refl _ | refine Ext.drew ?_ | refine Ext.alloc ?_ _))), (by (repeat (with_reducible first | assumption | exact Blk.new' (by simp) | refine Blk.drew ?_ | refine Blk.alloc ?_ _ | exact Ext.refl _ | refine Ext.drew ?_ | refine Ext.alloc ?_ _))), (by (repeat (with_reducible first | assumption | exact Blk.new' (by simp) | refine Blk.drew ?_ | refine Blk.alloc ?_ _ | exact Ext.refl _ | refine Ext.drew ?_ | refine Ext.alloc ?_ _))), ((ExtH.refl bf bb Wb).ext (Ext.drew (Ext.refl _)))⟩ ?_
          repeat
            first
              | (refine q_quiet rfl rfl (fun _ _ _ _ h => h) ?_
                 apply Exists.intro
                 refine ⟨fun w' hw' => ?_, ?_⟩
                 · obtain ⟨hH0, hH1, hH2, hH3⟩ := hw'
                   unfold Blk at hH0 hH1 hH2
                   simp [go_sem, quietTo, World.cell?, hH0, hH1, hH2, Ext.refl, ↓IntWalk.iteOmega]
                   first
                     | rfl
                 simp only [Act.put, List.setIfInBounds_toArray, List.set_cons_succ, List.set_cons_zero])
              | (refine q_skip rfl rfl (fun _ _ _ _ h => h) ?_
                 simp only [Act.put, List.setIfInBounds_toArray, List.set_cons_succ, List.set_cons_zero])
          refine q_nil ?_
          try simp only [List.length_cons, List.length_nil, Nat.reduceAdd, Array.replicate_succ, Array.replicate_zero, List.push_toArray, List.nil_append, List.cons_append, List.setIfInBounds_toArray, List.set_cons_succ, List.set_cons_zero]
          refine ww_two (i := 2) (j := 4) rfl rfl rfl rfl (by kernel_rfl) ?_ ?_
          · intro w5 e5 h5 K5 hK5
            have hE5 : Ext Wb w5 := (Ext.refl Wb).drew.trans e5
            go_wp2_with (go_at_call 40; (with_reducible refine Calls.mono (clone_intH (enc := chC) (fun n => (n : Int)) (fun _ => rfl) gp tk.length gc tk _ (hta.ext hE5) (by omega)) ?_); rintro e w6 ⟨p6, c6, rfl, ho6, hb6⟩)
            refine ⟨⟨h5.1.ext hb6, h5.2.1.ext hb6, h5.2.2.1.ext hb6, h5.2.2.2.ext hb6⟩, ?_⟩
            try simp only [List.setIfInBounds_toArray, List.set_cons_succ, List.set_cons_zero]
            refine ww_one (i := 4) rfl rfl (by kernel_rfl) ?_
            intro w7 e7 h7 K7 hK7
            go_wp2_with fail
            refine ⟨⟨h7.1.alloc _, h7.2.1.alloc _, h7.2.2.1.alloc _, h7.2.2.2.ext ((Ext.refl _).alloc _)⟩, ?_⟩
            try simp only [List.setIfInBounds_toArray, List.set_cons_succ, List.set_cons_zero]
            refine ww_one (i := 5) rfl rfl (by kernel_rfl) ?_
            intro w8 e8 h8 K8 hK8
            have hbW : Wb.heap.size ≤ w5.heap.size := hE5.size
            have own8 : w8.ownsRow w5.heap.size 3 1 (.slice p6 tk.length c6) tk.length (tk.flatMap chC) := own_ext e8 ((own_ext e7 ho6).alloc _)
            have lit8 : Blk w8 w7.heap.size 3 #[.int .i64 j] := (Blk.new' rfl).ext e8
            have hE8 : Ext Wb w8 := (((hE5.trans hb6).trans e7).alloc _).trans e8
            have hbz : z ≤ w5.heap.size := Nat.le_trans hwz hbW
            have hb8 : w5.heap.size ≤ w8.heap.size := (((Ext.refl _).trans hb6).trans ((e7.alloc _).trans e8)).size
            refine wp_appO w8 (.tmp 59) (.tmp 61) 22 3 1 8 (.int .i64 0) rfl Tryd.underlying22 intInf4 rfl (by decide) (by decide) w5.heap.size p6 tk.length c6 _ rfl own8 _ (chC j) rfl rfl lit8 (by simp [chC, Value.oneCell']) (by omega) hb8 fun b9 c9 w9 hown9 hgrow9 _ => ?_
            have hE9 : Ext Wb w9 := hE8.grown hgrow9 fun q e => Nat.le_trans hbW (own8.lt q e).1
            refine hK8 _ _ ⟨⟨hTa.ext hE9, hAa.ext hE9, hCa.ext hE9, hE9.extH⟩, ?_⟩
            try simp only [List.setIfInBounds_toArray, List.set_cons_succ, List.set_cons_zero]
            refine ww_one (i := 8) rfl rfl (by kernel_rfl) ?_
            intro w10 e10 h10 K10 hK10
            go_wp2_with (go_at_call 27; (with_reducible refine Calls.mono (hpl.out _) ?_); rintro e w11 ⟨rfl, hb11⟩)
            refine ⟨⟨h10.1.ext hb11, h10.2.1.ext hb11, h10.2.2.1.ext hb11, h10.2.2.2.ext hb11⟩, ?_⟩
            try simp only [List.setIfInBounds_toArray, List.set_cons_succ, List.set_cons_zero]
            refine ww_one (i := 12) rfl rfl (by kernel_rfl) ?_
            intro w12 e12 h12 K12 hK12
            go_wp2_with (go_at_call 41; (with_reducible refine Calls.mono (htr.out _ (by simp) _) ?_); rintro e w13 ⟨rfl, hb13⟩)
            refine ⟨⟨h12.1.ext hb13, h12.2.1.ext hb13, h12.2.2.1.ext hb13, h12.2.2.2.ext hb13⟩, ?_⟩
            try simp only [List.setIfInBounds_toArray, List.set_cons_succ, List.set_cons_zero]
            refine ww_one (i := 13) rfl rfl (by kernel_rfl) ?_
            intro w14 e14 h14 K14 hK14
            go_wp2_with fail
            refine ⟨h14, ?_⟩
            try simp only [List.setIfInBounds_toArray, List.set_cons_succ, List.set_cons_zero]
            refine ww_one (i := 14) rfl rfl (by kernel_rfl) ?_
            intro w15 e15 h15 K15 hK15
            have hE15 : Ext Wb w15 := ((((hE9.trans e10).trans hb11).trans e12).trans hb13).trans (e14.trans e15)
            have own15 := own_ext ((((e10.trans hb11).trans e12).trans hb13).trans (e14.trans e15)) hown9
            rw [show tk.flatMap chC ++ chC j = (tk ++ [j]).flatMap chC by rw [List.flatMap_append]; rfl] at own15
            have hih := hrc.out b9 c9 w5.heap.size w15 hE15 hbz own15
            replace hih := Lib.hid hih
            go_wp2_with (go_at_call 39; (with_reducible refine Calls.mono hih.out ?_); rintro e w16 ⟨rfl, hEx, hM16⟩)
            refine ⟨⟨hM16.fn, (hAa.ext hE15).extH (by omega) (by omega) hEx, (hCa.ext hE15).extH (by omega) (by omega) hEx, hE15.extH.trans hEx⟩, ?_⟩
            try simp only [List.setIfInBounds_toArray, List.set_cons_succ, List.set_cons_zero]
            refine ww_done (by kernel_rfl) fun w17 e17 h17 => ?_
            have hKend : ExtH bf bb W4 w17 := (hKa.trans (hE15.extH.trans hEx)).ext e17
            have hMend := hM16.more e17
            replace hMend := Lib.hid hMend
            try dsimp only [Exit.then]
            go_wp2
            go_roundw
            case rel => exact ⟨j + 1, RR, by go_num, by omega, hnx.out, hMend.out, hKend⟩
            case measure => simp [intOf]; omega
          · intro w5 e5 h5 K5 hK5
            have hE5 : Ext Wb w5 := (Ext.refl Wb).drew.trans e5
            go_wp2_with fail
            refine ⟨⟨h5.1.alloc _, h5.2.1.alloc _, h5.2.2.1.alloc _, h5.2.2.2.ext ((Ext.refl _).alloc _)⟩, ?_⟩
            try simp only [List.setIfInBounds_toArray, List.set_cons_succ, List.set_cons_zero]
            refine ww_one (i := 2) rfl rfl (by kernel_rfl) ?_
            intro w7 e7 h7 K7 hK7
            go_wp2_with (go_at_call 40; (with_reducible refine Calls.mono (clone_intH (enc := chC) (fun n => (n : Int)) (fun _ => rfl) gp tk.length gc tk _ (hta.ext ((hE5.alloc _).trans e7)) (by omega)) ?_); rintro e w6 ⟨p6, c6, rfl, ho6, hb6⟩)
            refine ⟨⟨h7.1.ext hb6, h7.2.1.ext hb6, h7.2.2.1.ext hb6, h7.2.2.2.ext hb6⟩, ?_⟩
            try simp only [List.setIfInBounds_toArray, List.set_cons_succ, List.set_cons_zero]
            refine ww_one (i := 5) rfl rfl (by kernel_rfl) ?_
            intro w8 e8 h8 K8 hK8
            have hbW : Wb.heap.size ≤ w7.heap.size := ((hE5.alloc (.cells #[.int .i64 j] 3)).trans e7).size
            have own8 : w8.ownsRow w7.heap.size 3 1 (.slice p6 tk.length c6) tk.length (tk.flatMap chC) := own_ext e8 ho6
            have lit8 : Blk w8 w5.heap.size 3 #[.int .i64 j] := (((Blk.new' rfl).ext e7).ext hb6).ext e8
            have hE8 : Ext Wb w8 := (((hE5.alloc _).trans e7).trans hb6).trans e8
            have hbz : z ≤ w7.heap.size := Nat.le_trans hwz hbW
            have hb8 : w7.heap.size ≤ w8.heap.size := (hb6.trans e8).size
            refine wp_appO w8 (.tmp 59) (.tmp 61) 22 3 1 8 (.int .i64 0) rfl Tryd.underlying22 intInf4 rfl (by decide) (by decide) w7.heap.size p6 tk.length c6 _ rfl own8 _ (chC j) rfl rfl lit8 (by simp [chC, Value.oneCell']) (by omega) hb8 fun b9 c9 w9 hown9 hgrow9 _ => ?_
            have hE9 : Ext Wb w9 := hE8.grown hgrow9 fun q e => Nat.le_trans hbW (own8.lt q e).1
            refine hK8 _ _ ⟨⟨hTa.ext hE9, hAa.ext hE9, hCa.ext hE9, hE9.extH⟩, ?_⟩
            try simp only [List.setIfInBounds_toArray, List.set_cons_succ, List.set_cons_zero]
            refine ww_one (i := 8) rfl rfl (by kernel_rfl) ?_
            intro w10 e10 h10 K10 hK10
            go_wp2_with (go_at_call 27; (with_reducible refine Calls.mono (hpl.out _) ?_); rintro e w11 ⟨rfl, hb11⟩)
            refine ⟨⟨h10.1.ext hb11, h10.2.1.ext hb11, h10.2.2.1.ext hb11, h10.2.2.2.ext hb11⟩, ?_⟩
            try simp only [List.setIfInBounds_toArray, List.set_cons_succ, List.set_cons_zero]
            refine ww_one (i := 12) rfl rfl (by kernel_rfl) ?_
            intro w12 e12 h12 K12 hK12
            go_wp2_with (go_at_call 41; (with_reducible refine Calls.mono (htr.out _ (by simp) _) ?_); rintro e w13 ⟨rfl, hb13⟩)
            refine ⟨⟨h12.1.ext hb13, h12.2.1.ext hb13, h12.2.2.1.ext hb13, h12.2.2.2.ext hb13⟩, ?_⟩
            try simp only [List.setIfInBounds_toArray, List.set_cons_succ, List.set_cons_zero]
            refine ww_one (i := 13) rfl rfl (by kernel_rfl) ?_
            intro w14 e14 h14 K14 hK14
            go_wp2_with fail
            refine ⟨h14, ?_⟩
            try simp only [List.setIfInBounds_toArray, List.set_cons_succ, List.set_cons_zero]
            refine ww_one (i := 14) rfl rfl (by kernel_rfl) ?_
            intro w15 e15 h15 K15 hK15
            have hE15 : Ext Wb w15 := ((((hE9.trans e10).trans hb11).trans e12).trans hb13).trans (e14.trans e15)
            have own15 := own_ext ((((e10.trans hb11).trans e12).trans hb13).trans (e14.trans e15)) hown9
            rw [show tk.flatMap chC ++ chC j = (tk ++ [j]).flatMap chC by rw [List.flatMap_append]; rfl] at own15
            have hih := hrc.out b9 c9 w7.heap.size w15 hE15 hbz own15
            replace hih := Lib.hid hih
            go_wp2_with (go_at_call 39; (with_reducible refine Calls.mono hih.out ?_); rintro e w16 ⟨rfl, hEx, hM16⟩)
            refine ⟨⟨hM16.fn, (hAa.ext hE15).extH (by omega) (by omega) hEx, (hCa.ext hE15).extH (by omega) (by omega) hEx, hE15.extH.trans hEx⟩, ?_⟩
            try simp only [List.setIfInBounds_toArray, List.set_cons_succ, List.set_cons_zero]
            refine ww_done (by kernel_rfl) fun w17 e17 h17 => ?_
            have hKend : ExtH bf bb W4 w17 := (hKa.trans (hE15.extH.trans hEx)).ext e17
            have hMend := hM16.more e17
            replace hMend := Lib.hid hMend
            try dsimp only [Exit.then]
            go_wp2
            go_roundw
            case rel => exact ⟨j + 1, RR, by go_num, by omega, hnx.out, hMend.out, hKend⟩
            case measure => simp [intOf]; omega
        · obtain rfl : j = cl.length := by omega
          replace hH := Lib.hid hH
          go_wp2
          go_end0
          exact ⟨rfl, hEq.extH.trans hK, by rw [hst]; exact hH.out⟩
    · have hrf : rightB x = false := by simpa using hr
      have hf0 : faultI x = 1 := by unfold faultI; rw [hrf]; rfl
      simp only [hf0] at hif
      rw [held_fault hrf]
      replace hif := Lib.hid hif
      replace h := Lib.hid h
      go_enter Tryd.func39, Tryd.ntmps39
      go_wp2_with (go_at_call 14; go_loud ((with_reducible refine Calls.mono (hif.out _) ?_); rintro e w1 ⟨rfl, hb1⟩))
      go_end0
      exact ⟨rfl, (hEw.trans hb1).extH, h.out.more (hEw.trans hb1)⟩
end Go.Proofs.YtapjekpjekdlkaaDoor
