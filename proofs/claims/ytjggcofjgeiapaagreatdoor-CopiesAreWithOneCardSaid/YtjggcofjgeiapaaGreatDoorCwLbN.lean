/- The maps of a library of copies in memory. Conditions: as each theorem says. -/
import Derived.Test.YtjggcofjgeiapaaGreatDoorCwJ27
set_option linter.unusedSimpArgs false
set_option linter.unusedVariables false
namespace Go.Proofs.YtjggcofjgeiapaaGreatDoor
open Go Go.RowKit Go.Maps

section
variable {P : Program} {κ ν : Type} {M : KMap P κ ν}
theorem OwnK.isMap {w : World} {b n : Nat} {f : κ → Option ν} (h : OwnK M w b n f) : ∃ es c, w.heap[b]? = some (.map es c) := by
  obtain ⟨D, ⟨es, clock, hb, -⟩, -⟩ := h
  exact ⟨es, clock, hb⟩
theorem OwnX.isMap {w : World} {b n : Nat} {f : κ → Option ν} (h : OwnX M w b n f) : ∃ es c, w.heap[b]? = some (.map es c) := h.toK.isMap
end
/-- A row that is no map. -/
def NoMap (w : World) (row : Option Nat) : Prop := ∀ b es c, w.heap[b]? = some (.map es c) → some b ≠ row
theorem NoMap.none (w : World) : NoMap w none := fun _ _ _ _ => by simp
theorem NoMap.blk {w : World} {g : Nat} {t : TypeId} {cs : Array Value} (h : Blk w g t cs) : NoMap w (some g) := fun b es c hb e => by
  cases e
  have h3 : w.heap[g]? = some (.cells cs t) := h
  rw [h3] at hb
  cases hb
def memF (l : List ByteArray) : ByteArray → Option Bool := fun p => if p ∈ l then some true else none
structure Inner (base : Nat) (w : World) (ms ml mh b : Nat) (l : List ByteArray) : Prop where
  low : base ≤ b
  ns : b ≠ ms
  nl : b ≠ ml
  nh : b ≠ mh
  own : OwnX strB w b l.length (memF l)
theorem Inner.grown {base : Nat} {w w' : World} {ms ml mh b : Nat} {l : List ByteArray} (h : Inner base w ms ml mh b l) {row : Option Nat} (hg : w.grownBy w' row) (hne : some b ≠ row) : Inner base w' ms ml mh b l :=
  ⟨h.low, h.ns, h.nl, h.nh, h.own.grown hg hne⟩
/-- What singers have. -/
def HasM (base : Nat) (w : World) (ms ml mh q : Nat) (H : ByteArray → Option (List ByteArray)) : Prop :=
  ∃ f : ByteArray → Option (Option Nat), OwnK strM w mh q f ∧ (∀ s, f s = none ↔ H s = none) ∧ (∀ s l, H s = some l → ∃ b, f s = some (some b) ∧ Inner base w ms ml mh b l) ∧ (∀ s s' b, f s = some (some b) → f s' = some (some b) → s = s')
theorem HasM.grown {base : Nat} {w w' : World} {ms ml mh q : Nat} {H : ByteArray → Option (List ByteArray)} (h : HasM base w ms ml mh q H) {row : Option Nat} (hg : w.grownBy w' row) (hne : some mh ≠ row) (hin : ∀ b l, Inner base w ms ml mh b l → some b ≠ row) : HasM base w' ms ml mh q H := by
  obtain ⟨f, h1, h2, h3, h4⟩ := h
  refine ⟨f, h1.grown hg hne, h2, fun s l hs => ?_, h4⟩
  obtain ⟨b, e, hb⟩ := h3 s l hs
  exact ⟨b, e, hb.grown hg (hin b l hb)⟩
/-- A singer's row can be changed. -/
def Can (base : Nat) (w : World) (ms ml mh q : Nat) (H : ByteArray → Option (List ByteArray)) (s : ByteArray) (b : Nat) (l : List ByteArray) : Prop :=
  Inner base w ms ml mh b l ∧ ∀ w' l', w.grownBy w' (some b) → OwnX strB w' b l'.length (memF l') → HasM base w' ms ml mh q (updK H s l')
theorem HasM.can {base : Nat} {w : World} {ms ml mh q : Nat} {H : ByteArray → Option (List ByteArray)} {f : ByteArray → Option (Option Nat)} (h1 : OwnK strM w mh q f) (h2 : ∀ s, f s = none ↔ H s = none) (h3 : ∀ s l, H s = some l → ∃ b, f s = some (some b) ∧ Inner base w ms ml mh b l)
    (h4 : ∀ s s' b, f s = some (some b) → f s' = some (some b) → s = s') {s : ByteArray} {b : Nat} {l : List ByteArray} (hf : f s = some (some b)) (hb : Inner base w ms ml mh b l) : Can base w ms ml mh q H s b l := by
  refine ⟨hb, fun w' l' hg ho => ⟨f, h1.grown hg (by simp; exact hb.nh.symm), fun z => ?_, fun z lz hz => ?_, h4⟩⟩
  · unfold updK
    by_cases e : z = s
    · subst e; rw [if_pos rfl, hf]; simp
    · rw [if_neg e]; exact h2 z
  · unfold updK at hz
    by_cases e : z = s
    · subst e
      rw [if_pos rfl] at hz
      cases hz
      exact ⟨b, hf, hb.low, hb.ns, hb.nl, hb.nh, ho⟩
    · rw [if_neg e] at hz
      obtain ⟨c, hc, hi⟩ := h3 z lz hz
      refine ⟨c, hc, hi.grown hg fun e2 => e ?_⟩
      cases e2
      exact h4 z s b hc hf
theorem HasM.look {base : Nat} {w : World} {ms ml mh q : Nat} {H : ByteArray → Option (List ByteArray)} (h : HasM base w ms ml mh q H) {s : ByteArray} (hs : s.size ≤ 1000000) :
    ∃ m : Option Nat, (Instr.lookup 113 (.map (some mh)) (.string s) false).run Tryz.prog w = .ok (.map m) w ∧ (H s = none → m = none) ∧ ∀ l, H s = some l → ∃ b, m = some b ∧ Can base w ms ml mh q H s b l := by
  obtain ⟨f, h1, h2, h3, h4⟩ := h
  have hr := h1.look (k := s) hs
  refine ⟨(f s).getD none, hr, fun hn => ?_, fun l hl => ?_⟩
  · rw [(h2 s).2 hn]; rfl
  · obtain ⟨b, e, hb⟩ := h3 s l hl
    refine ⟨b, by rw [e]; rfl, HasM.can h1 h2 h3 h4 e hb⟩
theorem HasM.ext {base : Nat} {w w' : World} {ms ml mh q : Nat} {H : ByteArray → Option (List ByteArray)} (h : HasM base w ms ml mh q H) (he : Ext w w') : HasM base w' ms ml mh q H :=
  h.grown (row := none) ⟨he.os, he.tape, he.output, he.size, fun k hk _ => he.block k hk⟩ (by simp) (fun _ _ _ => by simp)
/-- A new singer. -/
theorem HasM.fresh {base : Nat} {w : World} {ms ml mh q : Nat} {H : ByteArray → Option (List ByteArray)} (h : HasM base w ms ml mh q H) {s : ByteArray} (hs : s.size ≤ 1000000) (hn : H s = none) (hq : q ≤ 1000000000) (hbase : base ≤ w.heap.size) (hms : ms < w.heap.size) (hml : ml < w.heap.size) {u : World} (hu : Ext (w.alloc (.map #[] 0)) u) :
    ∃ w', (Instr.mapUpdate 113 (.map (some mh)) (.string s) (.map (some w.heap.size))).run Tryz.prog u = .ok () w' ∧ Can base w' ms ml mh (q + 1) (updK H s []) s w.heap.size [] ∧ u.grownBy w' (some mh) := by
  obtain ⟨f, h1, h2, h3, h4⟩ := h
  have hE : Ext w u := ((Ext.refl w).alloc _).trans hu
  have hG : w.grownBy u none := ⟨hE.os, hE.tape, hE.output, hE.size, fun k hk _ => hE.block k hk⟩
  have hmh := h1.lt
  have hlt : ∀ z c, f z = some (some c) → c < w.heap.size := fun z c hz => by
    cases hH : H z with
    | none => rw [(h2 z).2 hH] at hz; cases hz
    | some l =>
      obtain ⟨b1, e1, i1⟩ := h3 z l hH
      rw [hz] at e1
      cases e1
      exact i1.own.lt
  obtain ⟨w', r1, r2, r3⟩ := (h1.grown hG (by simp)).put (k := s) hs (by omega) (some w.heap.size)
  have hm0 : memF [] = fun _ => none := by funext p; simp [memF]
  have hI : Inner base w' ms ml mh w.heap.size [] := ⟨hbase, by omega, by omega, by omega, by
    rw [hm0]
    exact ((OwnX.made w).ext hu).grown r3 (by simp; omega)⟩
  refine ⟨w', r1, HasM.can (f := updK f s (some w.heap.size)) r2 (fun z => ?_) (fun z l hz => ?_) (fun z z' c hz hz' => ?_) (by unfold updK; rw [if_pos rfl]) hI, r3⟩
  · unfold updK
    by_cases e : z = s
    · rw [if_pos e, if_pos e]; simp
    · rw [if_neg e, if_neg e]; exact h2 z
  · unfold updK at hz ⊢
    by_cases e : z = s
    · rw [if_pos e] at hz ⊢
      cases hz
      exact ⟨_, rfl, hI⟩
    · rw [if_neg e] at hz ⊢
      obtain ⟨c, hc, hi⟩ := h3 z l hz
      exact ⟨c, hc, (hi.grown hG (by simp)).grown r3 (by simp; exact hi.nh)⟩
  · unfold updK at hz hz'
    by_cases e : z = s
    · by_cases e' : z' = s
      · rw [e, e']
      · rw [if_pos e] at hz
        rw [if_neg e'] at hz'
        cases hz
        exact absurd (hlt _ _ hz') (Nat.lt_irrefl _)
    · by_cases e' : z' = s
      · rw [if_neg e] at hz
        rw [if_pos e'] at hz'
        cases hz'
        exact absurd (hlt _ _ hz) (Nat.lt_irrefl _)
      · rw [if_neg e] at hz
        rw [if_neg e'] at hz'
        exact h4 z z' c hz hz'
/-- One piece more, one fewer. -/
theorem mem_more {w : World} {b : Nat} {l : List ByteArray} (h : OwnX strB w b l.length (memF l)) {p : ByteArray} (hp : p.size ≤ 1000000) (hn : p ∉ l) (hl : l.length ≤ 1000000000) :
    ∃ w', (Instr.mapUpdate 218 (.map (some b)) (.string p) (.bool true)).run Tryz.prog w = .ok () w' ∧ OwnX strB w' b (l ++ [p]).length (memF (l ++ [p])) ∧ w.grownBy w' (some b) := by
  obtain ⟨w', r1, r2, r3⟩ := h.put (k := p) hp (by omega) true
  have e1 : (memF l p).isSome = false := by simp [memF, hn]
  have e2 : updK (memF l) p true = memF (l ++ [p]) := by
    funext z
    unfold updK memF
    by_cases e : z = p <;> simp [e, List.mem_append]
  rw [e1, e2] at r2
  exact ⟨w', r1, by simpa using r2, r3⟩
theorem filter_ne_len {l : List ByteArray} (hd : l.Nodup) {p : ByteArray} : (l.filter fun z => decide (z ≠ p)).length = if p ∈ l then l.length - 1 else l.length := by
  induction l with
  | nil => simp
  | cons a l ih =>
    obtain ⟨h1, h2⟩ := List.nodup_cons.1 hd
    have ih := ih h2
    by_cases e : a = p
    · subst e
      rw [if_neg h1] at ih
      rw [List.filter_cons_of_neg (by simp), ih, if_pos List.mem_cons_self]
      simp
    · rw [List.filter_cons_of_pos (by simpa using e), List.length_cons, ih]
      by_cases hm : p ∈ l
      · have := List.length_pos_of_mem hm
        rw [if_pos hm, if_pos (List.mem_cons_of_mem _ hm)]
        simp only [List.length_cons]
        omega
      · rw [if_neg hm, if_neg (by simp [hm]; exact fun h => e h.symm)]
        rfl
theorem mem_less {w : World} {b : Nat} {l : List ByteArray} (h : OwnX strB w b l.length (memF l)) {p : ByteArray} (hp : p.size ≤ 1000000) (hd : l.Nodup) (ty : TypeId) :
    ∃ w', (Builtin.delete_ #[218, 9] ty #[.map (some b), .string p]).run Tryz.prog w = .ok (.tuple #[]) w' ∧ OwnX strB w' b (l.filter fun z => decide (z ≠ p)).length (memF (l.filter fun z => decide (z ≠ p))) ∧ w.grownBy w' (some b) := by
  obtain ⟨w', r1, r2, r3⟩ := h.drop (k := p) hp ty
  have e1 : (memF l p).isSome = decide (p ∈ l) := by by_cases hm : p ∈ l <;> simp [memF, hm]
  have e2 : strikeK (memF l) p = memF (l.filter fun z => decide (z ≠ p)) := by
    funext z
    unfold strikeK memF
    by_cases e : z = p <;> simp [e, List.mem_filter]
  rw [e1, e2] at r2
  refine ⟨w', r1, ?_, r3⟩
  rw [filter_ne_len hd]
  simpa using r2
/-- The three maps. -/
structure MapsM (base : Nat) (w : World) (ms ml mh q : Nat) (L : LibS) : Prop where
  st : OwnK idS w ms q L.st
  last : OwnK idI w ml q L.last
  has : HasM base w ms ml mh q L.has
  sl : ms ≠ ml
  sh : ms ≠ mh
  lh : ml ≠ mh
section
variable {base : Nat} {w w' : World} {ms ml mh q : Nat} {L : LibS}
theorem HasM.lt {H : ByteArray → Option (List ByteArray)} (h : HasM base w ms ml mh q H) : mh < w.heap.size := by
  obtain ⟨f, h1, -⟩ := h
  exact h1.lt
theorem HasM.le {H : ByteArray → Option (List ByteArray)} (h : HasM base w ms ml mh q H) {q' : Nat} (hq : q ≤ q') : HasM base w ms ml mh q' H := by
  obtain ⟨f, h1, h2⟩ := h
  exact ⟨f, h1.le hq, h2⟩
theorem HasM.isMap {H : ByteArray → Option (List ByteArray)} (h : HasM base w ms ml mh q H) : ∃ es c, w.heap[mh]? = some (.map es c) := by
  obtain ⟨f, h1, -⟩ := h
  exact h1.isMap
theorem MapsM.kept (h : MapsM base w ms ml mh q L) {row : Option Nat} (hg : w.grownBy w' row) (hn : NoMap w row) : MapsM base w' ms ml mh q L := by
  refine ⟨h.st.grown hg ?_, h.last.grown hg ?_, h.has.grown hg ?_ fun b l hb => ?_, h.sl, h.sh, h.lh⟩
  · obtain ⟨es, c, e⟩ := h.st.isMap; exact hn _ _ _ e
  · obtain ⟨es, c, e⟩ := h.last.isMap; exact hn _ _ _ e
  · obtain ⟨es, c, e⟩ := h.has.isMap; exact hn _ _ _ e
  · obtain ⟨es, c, e⟩ := hb.own.isMap; exact hn _ _ _ e
theorem MapsM.ext (h : MapsM base w ms ml mh q L) (he : Ext w w') : MapsM base w' ms ml mh q L :=
  h.kept (row := none) ⟨he.os, he.tape, he.output, he.size, fun k hk _ => he.block k hk⟩ (NoMap.none w)
theorem MapsM.le (h : MapsM base w ms ml mh q L) {q' : Nat} (hq : q ≤ q') : MapsM base w ms ml mh q' L := ⟨h.st.le hq, h.last.le hq, h.has.le hq, h.sl, h.sh, h.lh⟩
theorem MapsM.putSt (h : MapsM base w ms ml mh q L) {k : IdV} (hk : okSN k) (hq : q ≤ 1000000000) (v : ByteArray) :
    ∃ w', (Instr.mapUpdate 110 (.map (some ms)) (snV k) (.string v)).run Tryz.prog w = .ok () w' ∧ MapsM base w' ms ml mh (q + 1) { L with st := setF L.st k v } ∧ w.grownBy w' (some ms) := by
  obtain ⟨w', r1, r2, r3⟩ := h.st.put (k := k) hk (by omega) v
  exact ⟨w', r1, ⟨r2, (h.last.grown r3 (by simpa using h.sl.symm)).le (by omega), (h.has.grown r3 (by simpa using h.sh.symm) fun b l hb => by simpa using hb.ns).le (by omega), h.sl, h.sh, h.lh⟩, r3⟩
theorem MapsM.putLast (h : MapsM base w ms ml mh q L) {k : IdV} (hk : okSN k) (hq : q ≤ 1000000000) (v : Int) :
    ∃ w', (Instr.mapUpdate 111 (.map (some ml)) (snV k) (.int .i64 v)).run Tryz.prog w = .ok () w' ∧ MapsM base w' ms ml mh (q + 1) { L with last := setF L.last k v } ∧ w.grownBy w' (some ml) := by
  obtain ⟨w', r1, r2, r3⟩ := h.last.put (k := k) hk (by omega) v
  exact ⟨w', r1, ⟨(h.st.grown r3 (by simpa using h.sl)).le (by omega), r2, (h.has.grown r3 (by simpa using h.lh.symm) fun b l hb => by simpa using hb.nl).le (by omega), h.sl, h.sh, h.lh⟩, r3⟩
end
end Go.Proofs.YtjggcofjgeiapaaGreatDoor
