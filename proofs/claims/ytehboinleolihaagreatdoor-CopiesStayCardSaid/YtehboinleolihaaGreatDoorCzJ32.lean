/- The maps of a library of copies in memory. Conditions: as each theorem says. A title by its piece; whether there is a copy; how a copy is. Conditions: sizes. A library of copies in memory; how a copy is. Conditions: as each theorem says. -/
import Derived.Test.YtehboinleolihaaGreatDoorCzJ31
import Derived.Test.YtehboinleolihaaGreatDoorCzLbB
import Derived.Test.YtehboinleolihaaGreatDoorCzSlH
import Derived.Test.YtehboinleolihaaGreatDoorCzFactsB
set_option linter.unusedSimpArgs false
set_option linter.unusedVariables false
namespace Go.Proofs.YtehboinleolihaaGreatDoor
open Go Go.RowKit Go.Maps
section
variable {P : Program} {κ ν : Type} {M : KMap P κ ν}
theorem OwnK.isMap {w : World} {b n : Nat} {f : κ → Option ν} (h : OwnK M w b n f) : ∃ es c, w.heap[b]? = some (.map es c) := by
 obtain ⟨D, ⟨es, clock, hb, -⟩, -⟩ := h
 exact ⟨es, clock, hb⟩
theorem OwnX.isMap {w : World} {b n : Nat} {f : κ → Option ν} (h : OwnX M w b n f) : ∃ es c, w.heap[b]? = some (.map es c) := h.toK.isMap
end
/-- A row that is no map. -/
def NoMap (w : World) (row : Option Nat) : Prop := ∀ b es c, w.heap[b]? = some (.map es c) → some b ≠ row
theorem NoMap.none (w : World) : NoMap w none := fun _ _ _ _ => by simp
theorem NoMap.blk {w : World} {g : Nat} {t : TypeId} {cs : Array Value} (h : Blk w g t cs) : NoMap w (some g) := fun b es c hb e => by
 cases e
 have h3 : w.heap[g]? = some (.cells cs t) := h
 rw [h3] at hb
 cases hb
def memF (l : List ByteArray) : ByteArray → Option Bool := fun p => if p ∈ l then some true else none
structure Inner (base : Nat) (w : World) (ms ml mh b : Nat) (l : List ByteArray) : Prop where
 low : base ≤ b
 ns : b ≠ ms
 nl : b ≠ ml
 nh : b ≠ mh
 own : OwnX strB w b l.length (memF l)
theorem Inner.grown {base : Nat} {w w' : World} {ms ml mh b : Nat} {l : List ByteArray} (h : Inner base w ms ml mh b l) {row : Option Nat} (hg : w.grownBy w' row) (hne : some b ≠ row) : Inner base w' ms ml mh b l :=
 ⟨h.low, h.ns, h.nl, h.nh, h.own.grown hg hne⟩
/-- What singers have. -/
def HasM (base : Nat) (w : World) (ms ml mh q : Nat) (H : ByteArray → Option (List ByteArray)) : Prop :=
 ∃ f : ByteArray → Option (Option Nat), OwnK strM w mh q f ∧ (∀ s, f s = none ↔ H s = none) ∧ (∀ s l, H s = some l → ∃ b, f s = some (some b) ∧ Inner base w ms ml mh b l) ∧ (∀ s s' b, f s = some (some b) → f s' = some (some b) → s = s')
theorem HasM.grown {base : Nat} {w w' : World} {ms ml mh q : Nat} {H : ByteArray → Option (List ByteArray)} (h : HasM base w ms ml mh q H) {row : Option Nat} (hg : w.grownBy w' row) (hne : some mh ≠ row) (hin : ∀ b l, Inner base w ms ml mh b l → some b ≠ row) : HasM base w' ms ml mh q H := by
 obtain ⟨f, h1, h2, h3, h4⟩ := h
 refine ⟨f, h1.grown hg hne, h2, fun s l hs => ?_, h4⟩
 obtain ⟨b, e, hb⟩ := h3 s l hs
 exact ⟨b, e, hb.grown hg (hin b l hb)⟩
/-- A singer's row can be changed. -/
def Can (base : Nat) (w : World) (ms ml mh q : Nat) (H : ByteArray → Option (List ByteArray)) (s : ByteArray) (b : Nat) (l : List ByteArray) : Prop :=
 Inner base w ms ml mh b l ∧ ∀ w' l', w.grownBy w' (some b) → OwnX strB w' b l'.length (memF l') → HasM base w' ms ml mh q (updK H s l')
theorem HasM.can {base : Nat} {w : World} {ms ml mh q : Nat} {H : ByteArray → Option (List ByteArray)} {f : ByteArray → Option (Option Nat)} (h1 : OwnK strM w mh q f) (h2 : ∀ s, f s = none ↔ H s = none) (h3 : ∀ s l, H s = some l → ∃ b, f s = some (some b) ∧ Inner base w ms ml mh b l)
 (h4 : ∀ s s' b, f s = some (some b) → f s' = some (some b) → s = s') {s : ByteArray} {b : Nat} {l : List ByteArray} (hf : f s = some (some b)) (hb : Inner base w ms ml mh b l) : Can base w ms ml mh q H s b l := by
 refine ⟨hb, fun w' l' hg ho => ⟨f, h1.grown hg (by simp; exact hb.nh.symm), fun z => ?_, fun z lz hz => ?_, h4⟩⟩
 ·unfold updK
  by_cases e : z = s
  ·subst e; rw [if_pos rfl, hf]; simp
  ·rw [if_neg e]; exact h2 z
 ·unfold updK at hz
  by_cases e : z = s
  ·subst e
   rw [if_pos rfl] at hz
   cases hz
   exact ⟨b, hf, hb.low, hb.ns, hb.nl, hb.nh, ho⟩
  ·rw [if_neg e] at hz
   obtain ⟨c, hc, hi⟩ := h3 z lz hz
   refine ⟨c, hc, hi.grown hg fun e2 => e ?_⟩
   cases e2
   exact h4 z s b hc hf
theorem HasM.look {base : Nat} {w : World} {ms ml mh q : Nat} {H : ByteArray → Option (List ByteArray)} (h : HasM base w ms ml mh q H) {s : ByteArray} (hs : s.size ≤ 1000000) :
 ∃ m : Option Nat, (Instr.lookup 143 (.map (some mh)) (.string s) false).run Tryz.prog w = .ok (.map m) w ∧ (H s = none → m = none) ∧ ∀ l, H s = some l → ∃ b, m = some b ∧ Can base w ms ml mh q H s b l := by
 obtain ⟨f, h1, h2, h3, h4⟩ := h
 have hr := h1.look (k := s) hs
 refine ⟨(f s).getD none, hr, fun hn => ?_, fun l hl => ?_⟩
 ·rw [(h2 s).2 hn]; rfl
 ·obtain ⟨b, e, hb⟩ := h3 s l hl
  refine ⟨b, by rw [e]; rfl, HasM.can h1 h2 h3 h4 e hb⟩
theorem HasM.ext {base : Nat} {w w' : World} {ms ml mh q : Nat} {H : ByteArray → Option (List ByteArray)} (h : HasM base w ms ml mh q H) (he : Ext w w') : HasM base w' ms ml mh q H :=
 h.grown (row := none) ⟨he.os, he.tape, he.output, he.size, fun k hk _ => he.block k hk⟩ (by simp) (fun _ _ _ => by simp)
/-- A new singer. -/
theorem HasM.fresh {base : Nat} {w : World} {ms ml mh q : Nat} {H : ByteArray → Option (List ByteArray)} (h : HasM base w ms ml mh q H) {s : ByteArray} (hs : s.size ≤ 1000000) (hn : H s = none) (hq : q ≤ 1000000000) (hbase : base ≤ w.heap.size) (hms : ms < w.heap.size) (hml : ml < w.heap.size) {u : World} (hu : Ext (w.alloc (.map #[] 0)) u) :
 ∃ w', (Instr.mapUpdate 143 (.map (some mh)) (.string s) (.map (some w.heap.size))).run Tryz.prog u = .ok () w' ∧ Can base w' ms ml mh (q + 1) (updK H s []) s w.heap.size [] ∧ u.grownBy w' (some mh) := by
 obtain ⟨f, h1, h2, h3, h4⟩ := h
 have hE : Ext w u := ((Ext.refl w).alloc _).trans hu
 have hG : w.grownBy u none := ⟨hE.os, hE.tape, hE.output, hE.size, fun k hk _ => hE.block k hk⟩
 have hmh := h1.lt
 have hlt : ∀ z c, f z = some (some c) → c < w.heap.size := fun z c hz => by
  cases hH : H z with
  | none => rw [(h2 z).2 hH] at hz; cases hz
  | some l =>
    obtain ⟨b1, e1, i1⟩ := h3 z l hH
    rw [hz] at e1
    cases e1
    exact i1.own.lt
 obtain ⟨w', r1, r2, r3⟩ := (h1.grown hG (by simp)).put (k := s) hs (by omega) (some w.heap.size)
 have hm0 : memF [] = fun _ => none := by funext p; simp [memF]
 have hI : Inner base w' ms ml mh w.heap.size [] := ⟨hbase, by omega, by omega, by omega, by
  rw [hm0]
  exact ((OwnX.made w).ext hu).grown r3 (by simp; omega)⟩
 refine ⟨w', r1, HasM.can (f := updK f s (some w.heap.size)) r2 (fun z => ?_) (fun z l hz => ?_) (fun z z' c hz hz' => ?_) (by unfold updK; rw [if_pos rfl]) hI, r3⟩
 ·unfold updK
  by_cases e : z = s
  ·rw [if_pos e, if_pos e]; simp
  ·rw [if_neg e, if_neg e]; exact h2 z
 ·unfold updK at hz ⊢
  by_cases e : z = s
  ·rw [if_pos e] at hz ⊢
   cases hz
   exact ⟨_, rfl, hI⟩
  ·rw [if_neg e] at hz ⊢
   obtain ⟨c, hc, hi⟩ := h3 z l hz
   exact ⟨c, hc, (hi.grown hG (by simp)).grown r3 (by simp; exact hi.nh)⟩
 ·unfold updK at hz hz'
  by_cases e : z = s
  ·by_cases e' : z' = s
   ·rw [e, e']
   ·rw [if_pos e] at hz
    rw [if_neg e'] at hz'
    cases hz
    exact absurd (hlt _ _ hz') (Nat.lt_irrefl _)
  ·by_cases e' : z' = s
   ·rw [if_neg e] at hz
    rw [if_pos e'] at hz'
    cases hz'
    exact absurd (hlt _ _ hz) (Nat.lt_irrefl _)
   ·rw [if_neg e] at hz
    rw [if_neg e'] at hz'
    exact h4 z z' c hz hz'
/-- One piece more, one fewer. -/
theorem mem_more {w : World} {b : Nat} {l : List ByteArray} (h : OwnX strB w b l.length (memF l)) {p : ByteArray} (hp : p.size ≤ 1000000) (hn : p ∉ l) (hl : l.length ≤ 1000000000) :
 ∃ w', (Instr.mapUpdate 305 (.map (some b)) (.string p) (.bool true)).run Tryz.prog w = .ok () w' ∧ OwnX strB w' b (l ++ [p]).length (memF (l ++ [p])) ∧ w.grownBy w' (some b) := by
 obtain ⟨w', r1, r2, r3⟩ := h.put (k := p) hp (by omega) true
 have e1 : (memF l p).isSome = false := by simp [memF, hn]
 have e2 : updK (memF l) p true = memF (l ++ [p]) := by
  funext z
  unfold updK memF
  by_cases e : z = p <;> simp [e, List.mem_append]
 rw [e1, e2] at r2
 exact ⟨w', r1, by simpa using r2, r3⟩
theorem filter_ne_len {l : List ByteArray} (hd : l.Nodup) {p : ByteArray} : (l.filter fun z => decide (z ≠ p)).length = if p ∈ l then l.length - 1 else l.length := by
 induction l with
 | nil => simp
 | cons a l ih =>
   obtain ⟨h1, h2⟩ := List.nodup_cons.1 hd
   have ih := ih h2
   by_cases e : a = p
   ·subst e
    rw [if_neg h1] at ih
    rw [List.filter_cons_of_neg (by simp), ih, if_pos List.mem_cons_self]
    simp
   ·rw [List.filter_cons_of_pos (by simpa using e), List.length_cons, ih]
    by_cases hm : p ∈ l
    ·have := List.length_pos_of_mem hm
     rw [if_pos hm, if_pos (List.mem_cons_of_mem _ hm)]
     simp only [List.length_cons]
     omega
    ·rw [if_neg hm, if_neg (by simp [hm]; exact fun h => e h.symm)]
     rfl
theorem mem_less {w : World} {b : Nat} {l : List ByteArray} (h : OwnX strB w b l.length (memF l)) {p : ByteArray} (hp : p.size ≤ 1000000) (hd : l.Nodup) (ty : TypeId) :
 ∃ w', (Builtin.delete_ #[305,9] ty #[.map (some b), .string p]).run Tryz.prog w = .ok (.tuple #[]) w' ∧ OwnX strB w' b (l.filter fun z => decide (z ≠ p)).length (memF (l.filter fun z => decide (z ≠ p))) ∧ w.grownBy w' (some b) := by
 obtain ⟨w', r1, r2, r3⟩ := h.drop (k := p) hp ty
 have e1 : (memF l p).isSome = decide (p ∈ l) := by by_cases hm : p ∈ l <;> simp [memF, hm]
 have e2 : strikeK (memF l) p = memF (l.filter fun z => decide (z ≠ p)) := by
  funext z
  unfold strikeK memF
  by_cases e : z = p <;> simp [e, List.mem_filter]
 rw [e1, e2] at r2
 refine ⟨w', r1, ?_, r3⟩
 rw [filter_ne_len hd]
 simpa using r2
/-- The three maps. -/
structure MapsM (base : Nat) (w : World) (ms ml mh q : Nat) (L : LibS) : Prop where
 st : OwnK idS w ms q L.st
 last : OwnK idI w ml q L.last
 has : HasM base w ms ml mh q L.has
 sl : ms ≠ ml
 sh : ms ≠ mh
 lh : ml ≠ mh
section
variable {base : Nat} {w w' : World} {ms ml mh q : Nat} {L : LibS}
theorem HasM.lt {H : ByteArray → Option (List ByteArray)} (h : HasM base w ms ml mh q H) : mh < w.heap.size := by
 obtain ⟨f, h1, -⟩ := h
 exact h1.lt
theorem HasM.le {H : ByteArray → Option (List ByteArray)} (h : HasM base w ms ml mh q H) {q' : Nat} (hq : q ≤ q') : HasM base w ms ml mh q' H := by
 obtain ⟨f, h1, h2⟩ := h
 exact ⟨f, h1.le hq, h2⟩
theorem HasM.isMap {H : ByteArray → Option (List ByteArray)} (h : HasM base w ms ml mh q H) : ∃ es c, w.heap[mh]? = some (.map es c) := by
 obtain ⟨f, h1, -⟩ := h
 exact h1.isMap
theorem MapsM.kept (h : MapsM base w ms ml mh q L) {row : Option Nat} (hg : w.grownBy w' row) (hn : NoMap w row) : MapsM base w' ms ml mh q L := by
 refine ⟨h.st.grown hg ?_, h.last.grown hg ?_, h.has.grown hg ?_ fun b l hb => ?_, h.sl, h.sh, h.lh⟩
 ·obtain ⟨es, c, e⟩ := h.st.isMap; exact hn _ _ _ e
 ·obtain ⟨es, c, e⟩ := h.last.isMap; exact hn _ _ _ e
 ·obtain ⟨es, c, e⟩ := h.has.isMap; exact hn _ _ _ e
 ·obtain ⟨es, c, e⟩ := hb.own.isMap; exact hn _ _ _ e
theorem MapsM.ext (h : MapsM base w ms ml mh q L) (he : Ext w w') : MapsM base w' ms ml mh q L :=
 h.kept (row := none) ⟨he.os, he.tape, he.output, he.size, fun k hk _ => he.block k hk⟩ (NoMap.none w)
theorem MapsM.le (h : MapsM base w ms ml mh q L) {q' : Nat} (hq : q ≤ q') : MapsM base w ms ml mh q' L := ⟨h.st.le hq, h.last.le hq, h.has.le hq, h.sl, h.sh, h.lh⟩
theorem MapsM.putSt (h : MapsM base w ms ml mh q L) {k : IdV} (hk : okSN k) (hq : q ≤ 1000000000) (v : ByteArray) :
 ∃ w', (Instr.mapUpdate 140 (.map (some ms)) (snV k) (.string v)).run Tryz.prog w = .ok () w' ∧ MapsM base w' ms ml mh (q + 1) { L with st := setF L.st k v } ∧ w.grownBy w' (some ms) := by
 obtain ⟨w', r1, r2, r3⟩ := h.st.put (k := k) hk (by omega) v
 exact ⟨w', r1, ⟨r2, (h.last.grown r3 (by simpa using h.sl.symm)).le (by omega), (h.has.grown r3 (by simpa using h.sh.symm) fun b l hb => by simpa using hb.ns).le (by omega), h.sl, h.sh, h.lh⟩, r3⟩
theorem MapsM.putLast (h : MapsM base w ms ml mh q L) {k : IdV} (hk : okSN k) (hq : q ≤ 1000000000) (v : Int) :
 ∃ w', (Instr.mapUpdate 141 (.map (some ml)) (snV k) (.int .i64 v)).run Tryz.prog w = .ok () w' ∧ MapsM base w' ms ml mh (q + 1) { L with last := setF L.last k v } ∧ w.grownBy w' (some ml) := by
 obtain ⟨w', r1, r2, r3⟩ := h.last.put (k := k) hk (by omega) v
 exact ⟨w', r1, ⟨(h.st.grown r3 (by simpa using h.sl)).le (by omega), r2, (h.has.grown r3 (by simpa using h.lh.symm) fun b l hb => by simpa using hb.nl).le (by omega), h.sl, h.sh, h.lh⟩, r3⟩
end
end Go.Proofs.YtehboinleolihaaGreatDoor
namespace Go.Proofs.YtehboinleolihaaGreatDoor
open Go Go.RowKit Go.Maps
def titleVal (x : TitleV) : Value := .agg #[.string x.piece, .int .i64 x.owned, .int .i64 x.cost]
theorem titleOf_some {T : List TitleV} (h : TitlesOk T) {k : Nat} {x : TitleV} (hx : T[k]? = some x) : titleOf T x.piece = some x := by
 unfold titleOf
 obtain ⟨hi, he⟩ := List.getElem?_eq_some_iff.1 hx
 refine List.find?_eq_some_iff_getElem.2 ⟨by simp, k, hi, he, fun j hj => ?_⟩
 have := h.less (List.getElem?_eq_getElem (show j < T.length by omega)) hx hj
 simp only [Bool.not_eq_true', decide_eq_false_iff_not]
 intro e2
 rw [e2, cmpS_refl] at this
 cases this
theorem titleOf_none {T : List TitleV} {p : ByteArray} (h : ∀ x ∈ T, x.piece ≠ p) : titleOf T p = none := by
 unfold titleOf
 exact List.find?_eq_none.2 fun t ht => by simpa using h t ht
def set3 (w : World) (g : Nat) (x : TitleV) : World := ((w.setCell ⟨g, 0, none⟩ (.string x.piece)).setCell ⟨g, 1, none⟩ (.int .i64 x.owned)).setCell ⟨g, 2, none⟩ (.int .i64 x.cost)
theorem set3_ext {a w : World} (h : Ext a w) {g : Nat} (hg : a.heap.size ≤ g) (x : TitleV) : Ext a (set3 w g x) := by
 unfold set3
 exact ((h.setCell (p := ⟨g, 0, none⟩) hg _).setCell (p := ⟨g, 1, none⟩) hg _).setCell (p := ⟨g, 2, none⟩) hg _
theorem title_end {R : Ending → World → Prop} {a : Act} {W : World} {g : Nat} (x : TitleV) {ok : Bool} (hB : Blk W g 105 #[.string ⟨#[]⟩, .int .i64 0, .int .i64 0]) (h4 : a.tmps.getD 4 undef = .pointer (some ⟨g, 0, none⟩)) (h5 : a.tmps.getD 5 undef = .bool ok) (hd : a.defers = [])
 (hR : R (.returned (.tuple #[titleVal x, .bool ok])) (set3 W g x)) : bodyPost Tryz.prog Tryz.f132 R .ret a (set3 W g x) := by
 have hb : Blk (set3 W g x) g 105 #[.string x.piece, .int .i64 x.owned, .int .i64 x.cost] := by
  unfold set3
  exact ((hB.set_ 0 _).set_ 1 _).set_ 2 _
 exact bodyPost_ret (results_rowT Tryz.results132 _ _ g 105 _ (0,0) _ h4 hb Tryz.underlying105 rfl (by kernel_rfl) _ h5) hd hR
set_option maxRecDepth 100000 in
set_option maxHeartbeats 1600000 in
theorem title_any (bb : Nat) (cs : Array Value) (tp : Option Addr) (tn tc : Nat) (T : List TitleV) (p : ByteArray) (w : World) (hB : Blk w bb 145 cs) (h0 : cs[0]? = some (.slice tp tn tc)) (hT : Slc 3 titleC w tp tn tc T) (hok : TitlesOk T) :
 Calls Tryz.prog 132 #[.pointer (some ⟨bb, 0, none⟩), .string p] w fun e w' => e = .returned (.tuple #[titleVal ((titleOf T p).getD ⟨⟨#[]⟩, 0,0⟩), .bool (titleOf T p).isSome]) ∧ Ext w w' := by
 have lb := hB.lt
 have hB1 : Blk (w.alloc (.cells #[.string ⟨#[]⟩, .int .i64 0, .int .i64 0] 105)) bb 145 cs := hB.alloc _
 have c0 := (hB1.cell 0).trans h0
 have f0 := hB1.frozen 0
 have lb1 := hB1.lt
 have hT1 : Slc 3 titleC (w.alloc (.cells #[.string ⟨#[]⟩, .int .i64 0, .int .i64 0] 105)) tp tn tc T := hT.ext ((Ext.refl _).alloc _)
 have hs := tiSearch_any tp tn tc T p (w.alloc (.cells #[.string ⟨#[]⟩, .int .i64 0, .int .i64 0] 105)) hT1 hok
 have hTl := hT.1.1
 have hk0 := hB1
 replace hs := Lib.hid hs; replace hk0 := Lib.hid hk0; replace hok := Lib.hid hok
 have hN := Lib.hid (Blk.new' (w := w) (g := w.heap.size) (t := 105) (cs := #[.string ⟨#[]⟩, .int .i64 0, .int .i64 0]) rfl)
 obtain ⟨r, hr⟩ : ∃ r, r = titleOf T p := ⟨_, rfl⟩
 rw [← hr]
 replace hr := Lib.hid hr; clear hB hB1 hT
 go_enter Tryz.func132, Tryz.ntmps132
 go_upto_if 18 with (go_at_call 211; (with_reducible refine Calls.mono hs.out ?_); rintro e w1 ⟨k, is, rfl, hb1, h1, h2⟩; replace h1 := Lib.hid h1; replace h2 := Lib.hid h2)
 cases is
 ·have e9 := titleOf_none (h2.out rfl)
  have hN1 := hN.out.ext hb1
  clear c0 f0 lb1
  obtain ⟨n0, n1⟩ := hN1.walk
  have lN := hN1.lt
  replace hN1 := Lib.hid hN1
  go_wp2
  refine title_end ⟨⟨#[]⟩, 0,0⟩ (W := w1) (g := w.heap.size) (ok := false) ?_ ?_ ?_ ?_ ?_
  ·exact hN1.out
  ·rfl
  ·rfl
  ·rfl
  ·exact ⟨by rw [hr.out, e9]; rfl, set3_ext (((Ext.refl w).alloc _).trans hb1) (Nat.le_refl _) _⟩
 ·obtain ⟨x, hx, hxp⟩ := h1.out rfl
  have e9 := titleOf_some hok.out hx
  rw [hxp] at e9
  clear hxp
  obtain ⟨d0, d1⟩ := (hk0.out.ext hb1).walk
  have c1 := (d0 0).trans h0
  have f1 := d1 0
  have l1 := (hk0.out.ext hb1).lt
  obtain ⟨b, off, rfl, hb, hE⟩ := hT1.1.2.2 (by have := (List.getElem?_eq_some_iff.1 hx).1; omega)
  obtain ⟨y0, y1, y2⟩ := (hE.ext hb1 hb).title hx
  have hbw := Nat.lt_of_lt_of_le hb hb1.size
  have hkI : (k : Int) < tn := by have := (List.getElem?_eq_some_iff.1 hx).1; omega
  replace hx := Lib.hid hx; clear c0 f0 lb1 d0 d1 hE hT1
  have hN1 := hN.out.ext hb1
  obtain ⟨n0, n1⟩ := hN1.walk
  have lN := hN1.lt
  replace hN1 := Lib.hid hN1
  go_wp2
  refine title_end x (W := w1) (g := w.heap.size) (ok := true) ?_ ?_ ?_ ?_ ?_
  ·exact hN1.out
  ·rfl
  ·rfl
  ·rfl
  ·exact ⟨by rw [hr.out, e9]; rfl, set3_ext (((Ext.refl w).alloc _).trans hb1) (Nat.le_refl _) _⟩
set_option maxRecDepth 100000 in
set_option maxHeartbeats 1600000 in
theorem isCopy_any (bb : Nat) (cs : Array Value) (tp : Option Addr) (tn tc : Nat) (T : List TitleV) (p : ByteArray) (no : Int) (w : World) (hB : Blk w bb 145 cs) (h0 : cs[0]? = some (.slice tp tn tc)) (hT : Slc 3 titleC w tp tn tc T) (hok : TitlesOk T) :
 Calls Tryz.prog 175 #[.pointer (some ⟨bb, 0, none⟩), .string p, .int .i64 no] w fun e w' => e = .returned (.bool (isCopyT T (p, no))) ∧ Ext w w' := by
 have ht := title_any bb cs tp tn tc T p w hB h0 hT hok
 have hr : isCopyT T (p, no) = match titleOf T p with | some t => !outB no 1 t.owned | none => false := rfl
 cases h9 : titleOf T p with
 | none =>
   rw [h9] at ht hr
   have hr2 : isCopyT T (p, no) = false := hr
   rw [hr2]
   replace ht := Lib.hid ht; clear hr2 hr h9 hB h0 hT hok
   go_enter Tryz.func175, Tryz.ntmps175
   go_wp2_with (go_at_call 132; (with_reducible refine Calls.mono ht.out ?_); rintro e w1 ⟨rfl, hb1⟩; unfold titleVal)
   go_ret
   exact ⟨rfl, hb1.alloc _⟩
 | some t =>
   rw [h9] at ht hr
   have hr2 : isCopyT T (p, no) = !outB no 1 t.owned := hr
   rw [hr2]
   clear hr2
   have ho := fun u => sOut_is (rfl : outB no 1 t.owned = outB no 1 t.owned) u
   generalize outB no 1 t.owned = v at *
   replace ht := Lib.hid ht; replace ho := Lib.hid ho; clear hr h9 hB h0 hT hok
   go_enter Tryz.func175, Tryz.ntmps175
   go_wp2_with (first
    | (go_at_call 132; (with_reducible refine Calls.mono ht.out ?_); rintro e w1 ⟨rfl, hb1⟩; unfold titleVal)
    | (go_at_call 146; (with_reducible refine Calls.mono (ho.out _) ?_); rintro e w4 ⟨rfl, rfl⟩))
   go_ret
   exact ⟨rfl, hb1.alloc _⟩
end Go.Proofs.YtehboinleolihaaGreatDoor
namespace Go.Proofs.YtehboinleolihaaGreatDoor
open Go Go.RowKit Go.Maps
def libC (tp : Option Addr) (tn tc : Nat) (r : LendR) (ms ml mh : Nat) (lv : Value) : Array Value :=
 #[.slice tp tn tc, .int .i64 r.days, .int .i64 r.late, .int .i64 r.most, .int .i64 r.each, .map (some ms), .map (some ml), lv, .map (some mh)]
/-- A library in memory: its loans and what singers have are younger than base. -/
structure LibM (base : Nat) (w : World) (bb ms ml mh q : Nat) (tp : Option Addr) (tn tc : Nat) (r : LendR) (L : LibS) : Prop where
 row : ∃ lv, Blk w bb 145 (libC tp tn tc r ms ml mh lv) ∧ w.ownsRow base 147 6 lv L.loans.length (L.loans.flatMap loanC)
 maps : MapsM base w ms ml mh q L
/-- All stands but the library's four blocks, and what is younger than base. -/
structure KeepL (base bb ms ml mh : Nat) (a w : World) : Prop where
 os : w.os = a.os
 tape : w.tape = a.tape
 output : w.output = a.output
 size : a.heap.size ≤ w.heap.size
 block : ∀ k, k < a.heap.size → k < base → k ≠ bb → k ≠ ms → k ≠ ml → k ≠ mh → w.heap[k]? = a.heap[k]?
section
variable {base bb ms ml mh : Nat} {a w w' : World}
theorem KeepL.refl (a : World) : KeepL base bb ms ml mh a a := ⟨rfl, rfl, rfl, Nat.le_refl _, fun _ _ _ _ _ _ _ => rfl⟩
theorem KeepL.ext (h : KeepL base bb ms ml mh a w) (he : Ext w w') : KeepL base bb ms ml mh a w' :=
 ⟨he.os.trans h.os, he.tape.trans h.tape, he.output.trans h.output, Nat.le_trans h.size he.size, fun k hk h1 h2 h3 h4 h5 => (he.block k (Nat.lt_of_lt_of_le hk h.size)).trans (h.block k hk h1 h2 h3 h4 h5)⟩
theorem KeepL.grown (h : KeepL base bb ms ml mh a w) {m : Nat} (hg : w.grownBy w' (some m)) (hm : m = bb ∨ m = ms ∨ m = ml ∨ m = mh ∨ base ≤ m) : KeepL base bb ms ml mh a w' :=
 ⟨hg.os.trans h.os, hg.tape.trans h.tape, hg.output.trans h.output, Nat.le_trans h.size hg.size, fun k hk h1 h2 h3 h4 h5 => (hg.block k (Nat.lt_of_lt_of_le hk h.size) fun e => by cases e; omega).trans (h.block k hk h1 h2 h3 h4 h5)⟩
theorem KeepL.trans {u : World} (h : KeepL base bb ms ml mh a w) (h' : KeepL base bb ms ml mh w u) : KeepL base bb ms ml mh a u :=
 ⟨h'.os.trans h.os, h'.tape.trans h.tape, h'.output.trans h.output, Nat.le_trans h.size h'.size, fun k hk h1 h2 h3 h4 h5 => (h'.block k (Nat.lt_of_lt_of_le hk h.size) h1 h2 h3 h4 h5).trans (h.block k hk h1 h2 h3 h4 h5)⟩
theorem KeepL.app (h : KeepL base bb ms ml mh a w) {e : TypeId} {k n : Nat} {v : Value} {xs : List Value} (ho : w.ownsRow base e k v n xs) (hg : w.grownBy w' v.ownBlock) : KeepL base bb ms ml mh a w' := by
 cases hv : v.ownBlock with
 | none =>
   rw [hv] at hg
   exact ⟨hg.os.trans h.os, hg.tape.trans h.tape, hg.output.trans h.output, Nat.le_trans h.size hg.size, fun k hk h1 h2 h3 h4 h5 => (hg.block k (Nat.lt_of_lt_of_le hk h.size) (by simp)).trans (h.block k hk h1 h2 h3 h4 h5)⟩
 | some g =>
   rw [hv] at hg
   exact h.grown hg (.inr (.inr (.inr (.inr (ho.lt g hv).1))))
theorem KeepL.set (h : KeepL base bb ms ml mh a w) (o : Nat) (v : Value) : KeepL base bb ms ml mh a (w.setCell ⟨bb, o, none⟩ v) := h.grown (grown_set w ⟨bb, o, none⟩ v) (.inl rfl)
end
section
variable {base : Nat} {w w' : World} {bb ms ml mh q : Nat} {tp : Option Addr} {tn tc : Nat} {r : LendR} {L : LibS}
theorem LibM.ext (h : LibM base w bb ms ml mh q tp tn tc r L) (he : Ext w w') : LibM base w' bb ms ml mh q tp tn tc r L := by
 obtain ⟨⟨lv, hb, ho⟩, hm⟩ := h
 exact ⟨⟨lv, hb.ext he, own_ext he ho⟩, hm.ext he⟩
theorem LibM.le (h : LibM base w bb ms ml mh q tp tn tc r L) {q' : Nat} (hq : q ≤ q') : LibM base w' bb ms ml mh q' tp tn tc r L → LibM base w' bb ms ml mh q' tp tn tc r L := id
theorem LibM.lt (h : LibM base w bb ms ml mh q tp tn tc r L) : bb < w.heap.size := by
 obtain ⟨⟨lv, hb, ho⟩, hm⟩ := h
 exact hb.lt
end
set_option maxRecDepth 100000 in
set_option maxHeartbeats 1600000 in
theorem state_any {base : Nat} {w : World} {bb ms ml mh q : Nat} {tp : Option Addr} {tn tc : Nat} {r : LendR} {L : LibS} (h : LibM base w bb ms ml mh q tp tn tc r L) (p : ByteArray) (no : Int) (hk : okSN (p, no)) :
 Calls Tryz.prog 88 #[.pointer (some ⟨bb, 0, none⟩), .agg #[.string p, .int .i64 no]] w fun e w' => e = .returned (.string (L.at_ (p, no))) ∧ Ext w w' := by
 obtain ⟨lv, hB, -⟩ := (h.ext ((Ext.refl w).alloc (.cells #[.string p, .int .i64 no] 135))).row
 have hS := (h.ext ((Ext.refl w).alloc (.cells #[.string p, .int .i64 no] 135))).maps.st
 have hX := Blk.new' (w := w) (g := w.heap.size) (t := 135) (cs := #[.string p, .int .i64 no]) rfl
 have lb := hB.lt
 have lx := hX.lt
 have c5 := hB.cell 5
 have e0 := hX.cell 0
 have e1 := hX.cell 1
 have hlk : ∀ u, Ext (w.alloc (.cells #[.string p, .int .i64 no] 135)) u → (Instr.lookup 140 (.map (some ms)) (.agg #[.string p, .int .i64 no]) true).run Tryz.prog u = .ok (.tuple #[.string ((L.st (p, no)).getD ⟨#[]⟩), .bool (L.st (p, no)).isSome]) u := fun u hu => (hS.ext hu).look_ok hk
 have ha : L.at_ (p, no) = (L.st (p, no)).getD inW := rfl
 rw [ha]
 clear ha hS h
 generalize L.st (p, no) = sv at *
 replace hlk := Lib.hid hlk; replace hB := Lib.hid hB; replace hX := Lib.hid hX
 unfold libC at c5
 go_enter Tryz.func88, Tryz.ntmps88
 go_upto_region 1 with fail
 cases sv
 all_goals
  refine wp_region_facts [] [([],false,false),([0],false,false),([0,1],false,false),([0,1,2],false,false),([],false,false),([0,1,2,3,4],false,false),([0,1,2,3,4,5],false,false),([0,1,2,3,4,5,6],false,false),([0,1,2,3,4,5,6],false,false),([0,1,2,3,4,5,6,7],false,false),([0,1,2,3,4,5,6,8],false,false)] (Ext) Ext (fun _ => True) (by kernel_rfl) (by kernel_rfl) Ext.refl (fun _ _ _ => Ext.trans) (fun _ _ h => h) (fun _ _ h => h.size) (fun _ _ h _ => h) trivial ?_
  dsimp only [List.length_cons, List.length_nil, List.drop_succ_cons, List.drop_zero, List.drop_nil]
  refine fq 0 rfl rfl rfl cK rfl rfl ?_; apply Exists.intro; constructor
  ·intro sv w' hw' hfa
   refine ⟨rfl, ?_⟩; simp only [putsL]; change qT _; simp only [qT, Act.put, sIA, sCS, sCZ]; simp [go_sem, quietTo, Ext.refl]; all_goals rfl
  refine fq 1 rfl rfl rfl cK rfl rfl ?_; apply Exists.intro; constructor
  ·rintro sv w' hw' ⟨(f0 : sv 0 = _), -⟩; (try dsimp only at f0)
   refine ⟨rfl, ?_⟩; simp only [putsL]; change qT (pT _ 8 (sv 0)); simp only [qT, pT, Act.put, sIA, sCS, sCZ]; simp [go_sem, quietTo, Ext.refl, f0]; all_goals rfl
  refine fq 2 rfl rfl rfl cK rfl rfl ?_; apply Exists.intro; constructor
  ·rintro sv w' hw' ⟨_, (f1 : sv 1 = _), -⟩; (try dsimp only at f1)
   refine ⟨rfl, ?_⟩; simp only [putsL]; change qT (pT (pT _ 9 (sv 1)) 8 (sv 0)); simp only [qT, pT, Act.put, sIA, sCS, sCZ]; simp [go_sem, quietTo, Ext.refl, f1]; all_goals rfl
  refine fq 3 rfl rfl rfl cK rfl rfl ?_; apply Exists.intro; constructor
  ·rintro sv w' hw' ⟨_, _, (f2 : sv 2 = _), -⟩; (try dsimp only at f2)
   obtain ⟨hc, hf, hz9⟩ := ((Ext.refl _).drew.trans hw').walk; have y5 := (hc bb 5 lb).trans c5; have x0 := (hc _ 0 lx).trans e0; have x1 := (hc _ 1 lx).trans e1; have hl9 := hlk.out w' ((Ext.refl _).drew.trans hw')
   refine ⟨rfl, ?_⟩; simp only [putsL]; change qT (pT (pT (pT _ 10 (sv 2)) 9 (sv 1)) 8 (sv 0)); simp only [qT, pT, Act.put, sIA, sCS, sCZ]; simp [go_sem, quietTo, Ext.refl, ↓IntWalk.iteOmega, f2, y5]; (all_goals try simp (disch := omega) only [IntWalk.i64_in]); all_goals rfl
  refine fq 4 rfl rfl rfl cK rfl rfl ?_; apply Exists.intro; constructor
  ·intro sv w' hw' hfa
   obtain ⟨hc, hf, hz9⟩ := ((Ext.refl _).drew.trans hw').walk; have y5 := (hc bb 5 lb).trans c5; have x0 := (hc _ 0 lx).trans e0; have x1 := (hc _ 1 lx).trans e1; have hl9 := hlk.out w' ((Ext.refl _).drew.trans hw')
   refine ⟨rfl, ?_⟩; simp only [putsL]; change qT _; simp only [qT, Act.put, sIA, sCS, sCZ]; simp [go_sem, quietTo, Ext.refl, ↓IntWalk.iteOmega, x0, x1]; (all_goals try simp (disch := omega) only [IntWalk.i64_in]); all_goals rfl
  refine fq 5 rfl rfl rfl cK rfl rfl ?_; apply Exists.intro; constructor
  ·rintro sv w' hw' ⟨_, _, _, (f3 : sv 3 = _), (f4 : sv 4 = _), -⟩; (try dsimp only at f3 f4)
   obtain ⟨hc, hf, hz9⟩ := ((Ext.refl _).drew.trans hw').walk; have y5 := (hc bb 5 lb).trans c5; have x0 := (hc _ 0 lx).trans e0; have x1 := (hc _ 1 lx).trans e1; have hl9 := hlk.out w' ((Ext.refl _).drew.trans hw')
   refine ⟨rfl, ?_⟩; simp only [putsL]; change qT (pT (pT (pT (pT (pT _ 12 (sv 4)) 11 (sv 3)) 10 (sv 2)) 9 (sv 1)) 8 (sv 0)); simp only [qT, pT, Act.put, sIA, sCS, sCZ]; simp [go_sem, quietTo, Ext.refl, ↓IntWalk.iteOmega, f3, f4, hl9]; (all_goals try simp (disch := omega) only [IntWalk.i64_in]); all_goals rfl
  refine fq 6 rfl rfl rfl cK rfl rfl ?_; apply Exists.intro; constructor
  ·rintro sv w' hw' ⟨_, _, _, _, _, (f5 : sv 5 = _), -⟩; (try dsimp only at f5)
   refine ⟨rfl, ?_⟩; simp only [putsL]; change qT (pT (pT (pT (pT (pT (pT _ 13 (sv 5)) 12 (sv 4)) 11 (sv 3)) 10 (sv 2)) 9 (sv 1)) 8 (sv 0)); simp only [qT, pT, Act.put, sIA, sCS, sCZ]; simp [go_sem, quietTo, Ext.refl, f5]; all_goals rfl
  refine fq 7 rfl rfl rfl cK rfl rfl ?_; apply Exists.intro; constructor
  ·rintro sv w' hw' ⟨_, _, _, _, _, _, (f6 : sv 6 = _), -⟩; (try dsimp only at f6)
   refine ⟨rfl, ?_⟩; simp only [putsL]; change qT (pT (pT (pT (pT (pT (pT (pT _ 7 (sv 6)) 13 (sv 5)) 12 (sv 4)) 11 (sv 3)) 10 (sv 2)) 9 (sv 1)) 8 (sv 0)); simp only [qT, pT, Act.put, sIA, sCS, sCZ]; simp [go_sem, quietTo, Ext.refl, f6]; all_goals rfl
  refine fq 8 rfl rfl rfl cK rfl rfl ?_; apply Exists.intro; constructor
  ·rintro sv w' hw' ⟨_, _, _, _, _, _, (f6 : sv 6 = _), -⟩; (try dsimp only at f6)
   refine ⟨rfl, ?_⟩; simp only [putsL]; change qT (pT (pT (pT (pT (pT (pT (pT _ 7 (sv 6)) 13 (sv 5)) 12 (sv 4)) 11 (sv 3)) 10 (sv 2)) 9 (sv 1)) 8 (sv 0)); simp only [qT, pT, Act.put, sIA, sCS, sCZ]; simp [go_sem, quietTo, Ext.refl, f6]; all_goals rfl
  refine fq 9 rfl rfl rfl cK rfl rfl ?_; apply Exists.intro; constructor
  ·rintro sv w' hw' ⟨_, _, _, _, _, _, _, (f7 : sv 7 = _), -⟩; (try dsimp only at f7)
   refine ⟨rfl, ?_⟩; simp only [putsL]; change qT (pT (pT (pT (pT (pT (pT (pT (pT _ 14 (sv 7)) 7 (sv 6)) 13 (sv 5)) 12 (sv 4)) 11 (sv 3)) 10 (sv 2)) 9 (sv 1)) 8 (sv 0)); simp only [qT, pT, Act.put, sIA, sCS, sCZ]; simp [go_sem, quietTo, Ext.refl, f7]; all_goals rfl
  refine fq 10 rfl rfl rfl cK rfl rfl ?_; apply Exists.intro; constructor
  ·rintro sv w' hw' ⟨_, _, _, _, _, _, _, (f8 : sv 8 = _), -⟩; (try dsimp only at f8)
   refine ⟨rfl, ?_⟩; simp only [putsL]; change qT (pT (pT (pT (pT (pT (pT (pT (pT _ 15 (sv 8)) 7 (sv 6)) 13 (sv 5)) 12 (sv 4)) 11 (sv 3)) 10 (sv 2)) 9 (sv 1)) 8 (sv 0)); simp only [qT, pT, Act.put, sIA, sCS, sCZ]; simp [go_sem, quietTo, Ext.refl, f8]; all_goals rfl
  refine fac_nil fun xa wra hera hfra hcra holda hapa => ?_
  obtain ⟨(f0 : xa 0 = _), (f1 : xa 1 = _), (f2 : xa 2 = _), (f3 : xa 3 = _), (f4 : xa 4 = _), (f5 : xa 5 = _), (f6 : xa 6 = _), (f7 : xa 7 = _), (f8 : xa 8 = _), (f9 : xa 9 = _), (f10 : xa 10 = _), -⟩ := hfra; (try dsimp only at f0 f1 f2 f3 f4 f5 f6 f7 f8 f9 f10)
  change wpList _ _ _ _ (pT (pT (pT (pT (pT (pT (pT (pT (pT (pT (pT _ 8 (xa 0)) 9 (xa 1)) 10 (xa 2)) 11 (xa 3)) 12 (xa 4)) 13 (xa 5)) 7 (xa 6)) 14 (xa 7)) 15 (xa 8)) 5 (xa 9)) 6 (xa 10)) _
  simp only [putsL, Nat.reduceAdd, List.drop_succ_cons, List.drop_zero, List.drop_nil, pT, Act.put, sIA, sCS, sCZ]
  try simp only [f0, f1, f2, f3, f4, f5, f6, f7, f8, f9, f10]
  clear f0 f1 f2 f3 f4 f5 f6 f7 f8 f9 f10; clear holda hapa
  go_wp2
  go_ret
  exact ⟨rfl, ((Ext.refl _).alloc _).drew.trans hera⟩
end Go.Proofs.YtehboinleolihaaGreatDoor
