/- Groups that are too many for a bus; the buses' lists of names in memory. Conditions: as each theorem says. -/
import Derived.Test.YtlmbpgjdepmlcaaDoorBusE
namespace Go.Proofs.YtlmbpgjdepmlcaaDoor
open Go Go.RowKit

theorem slcC {α : Type} {k : Nat} {enc : α → List Value} {w : World} {p : Option Addr} {n c : Nat} {xs : List α} (h : Slc k enc w p n c xs) :
    n = xs.length ∧ ((p = none ∧ xs = []) ∨ ∃ b off, p = some ⟨b, off, none⟩ ∧ b < w.heap.size ∧ Elems k enc w b off xs) := by
  obtain ⟨⟨h1, h2, h3⟩, h4, h5, h6⟩ := h
  refine ⟨h1.symm, ?_⟩
  cases p with
  | none => exact .inl ⟨rfl, List.eq_nil_of_length_eq_zero (by rw [h1]; exact h5 rfl)⟩
  | some a =>
    obtain ⟨b, off, rfl, hb⟩ := h6 a rfl
    refine .inr ⟨b, off, rfl, hb, ?_⟩
    by_cases hn : n = 0
    · obtain rfl : xs = [] := List.eq_nil_of_length_eq_zero (by omega)
      intro i x hx
      cases hx
    · obtain ⟨b', off', e, _, hE⟩ := h3 hn
      cases e
      exact hE
set_option maxRecDepth 100000 in
theorem idxGNone (fn : FuncId) (lb : Array Value) (c : Nat) (w : World) :
    Calls Tryd.prog 17 #[.slice none 0 c, .func (.func fn) #[] lb] w fun e w' => e = .returned (.int .i64 (-1)) ∧ Ext w w' := by
  go_enter Tryd.func17, Tryd.ntmps17
  go_wp2
  go_loopw [8] (fun i wr => i = .int .i64 0 ∧ Ext w wr) (fun i _ => (intOf i).toNat)
  case atStart => exact ⟨rfl, Ext.refl w⟩
  case round =>
    obtain ⟨rfl, he⟩ := hrel
    go_wp2
    go_ret
    exact ⟨rfl, he⟩
set_option maxRecDepth 100000 in
theorem hasGNone (fn : FuncId) (lb : Array Value) (c : Nat) (w : World) :
    Calls Tryd.prog 44 #[.slice none 0 c, .func (.func fn) #[] lb] w fun e w' => e = .returned (.bool false) ∧ Ext w w' := by
  go_enter Tryd.func44, Tryd.ntmps44
  go_wp2_with (go_at_call 17; refine Calls.mono (idxGNone _ _ _ _) ?_; rintro e w1 ⟨rfl, hb1⟩)
  go_ret
  exact ⟨rfl, hb1⟩
def overB (s : Int) (x : GrpV) : Bool := decide (s < x.many)
set_option maxRecDepth 100000 in
theorem busesPred (s : Int) (B : Nat) (w : World) (hB : Blk w B 3 #[.int .i64 s]) :
    PredBelow Tryd.prog 45 #[.pointer (some ⟨B, 0, none⟩)] (fun y => .agg (grpC y).toArray) (overB s) w := fun W y hb => by
  have hc : W.cell? ⟨B, 0, none⟩ = some (.int .i64 s) := (hb.cell (p := ⟨B, 0, none⟩) hB.lt).trans (hB.cell 0)
  have hBW : B < W.heap.size := Nat.lt_of_lt_of_le hB.lt hb.size
  have hne : B ≠ W.heap.size := by omega
  clear hB
  show Calls Tryd.prog 45 #[.agg #[.string y.name, .int .i64 y.many], .pointer (some ⟨B, 0, none⟩)] W _
  go_enter Tryd.func45, Tryd.ntmps45
  go_wp2
  go_ret
  exact ⟨by simp [overB], hb.alloc hb.size _⟩
theorem busesHas (s : Int) (B : Nat) (p : Option Addr) (n c : Nat) (L : List GrpV) (w : World) (hB : Blk w B 3 #[.int .i64 s]) (hS : Slc 2 grpC w p n c L) (hl : L.length ≤ 1000) :
    Calls Tryd.prog 44 #[.slice p n c, .func (.func 45) #[] #[.pointer (some ⟨B, 0, none⟩)]] w fun e w' => e = .returned (.bool (L.any (overB s))) ∧ Ext w w' := by
  obtain ⟨hn, ⟨rfl, rfl⟩ | ⟨b, off, rfl, hb, hE⟩⟩ := slcC hS
  · subst hn
    exact hasGNone _ _ _ _
  · have eg : ∀ args w, (callFunc 45 args).run Tryd.prog w = .ok (.enter 45 args) w := enters_of Tryd.func45 (by kernel_rfl) rfl
    have := AnyQ.slices_ContainsFunc Tryd.lqcGroup 2 Tryd.isAgg49 Tryd.sizeOf49 grpC grpC_len (overB s) 45 #[.pointer (some ⟨B, 0, none⟩)] eg b off n c L w
      (busesPred s B w hB) (by omega) (by omega) hb (fun j hj i v hi => hE j _ (by rw [List.getElem?_eq_getElem hj, getElem!_pos L j hj]) i v hi)
    rw [List.take_of_length_le (by omega)] at this
    exact this
set_option maxRecDepth 100000 in
theorem ofPred (s : Int) (B : Nat) (w : World) (hB : Blk w B 3 #[.int .i64 s]) :
    PredBelow Tryd.prog 48 #[.pointer (some ⟨B, 0, none⟩)] (fun y => .agg (grpC y).toArray) (overB s) w := fun W y hb => by
  have hc : W.cell? ⟨B, 0, none⟩ = some (.int .i64 s) := (hb.cell (p := ⟨B, 0, none⟩) hB.lt).trans (hB.cell 0)
  have hBW : B < W.heap.size := Nat.lt_of_lt_of_le hB.lt hb.size
  have hne : B ≠ W.heap.size := by omega
  clear hB
  show Calls Tryd.prog 48 #[.agg #[.string y.name, .int .i64 y.many], .pointer (some ⟨B, 0, none⟩)] W _
  go_enter Tryd.func48, Tryd.ntmps48
  go_wp2
  go_ret
  exact ⟨by simp [overB], hb.alloc hb.size _⟩
theorem ofHas (s : Int) (B : Nat) (p : Option Addr) (n c : Nat) (L : List GrpV) (w : World) (hB : Blk w B 3 #[.int .i64 s]) (hS : Slc 2 grpC w p n c L) (hl : L.length ≤ 1000) :
    Calls Tryd.prog 44 #[.slice p n c, .func (.func 48) #[] #[.pointer (some ⟨B, 0, none⟩)]] w fun e w' => e = .returned (.bool (L.any (overB s))) ∧ Ext w w' := by
  obtain ⟨hn, ⟨rfl, rfl⟩ | ⟨b, off, rfl, hb, hE⟩⟩ := slcC hS
  · subst hn
    exact hasGNone _ _ _ _
  · have eg : ∀ args w, (callFunc 48 args).run Tryd.prog w = .ok (.enter 48 args) w := enters_of Tryd.func48 (by kernel_rfl) rfl
    have := AnyQ.slices_ContainsFunc Tryd.lqcGroup 2 Tryd.isAgg49 Tryd.sizeOf49 grpC grpC_len (overB s) 48 #[.pointer (some ⟨B, 0, none⟩)] eg b off n c L w
      (ofPred s B w hB) (by omega) (by omega) hb (fun j hj i v hi => hE j _ (by rw [List.getElem?_eq_getElem hj, getElem!_pos L j hj]) i v hi)
    rw [List.take_of_length_le (by omega)] at this
    exact this

/-- The names of those who ride in bus b. -/
def pickN (b : Nat) : List ByteArray → List Nat → List ByteArray
  | s :: ss, x :: bs => if x = b then s :: pickN b ss bs else pickN b ss bs
  | _, _ => []
theorem pickN_snoc (b : Nat) (s : ByteArray) (x : Nat) : ∀ (ss : List ByteArray) (bs : List Nat), ss.length = bs.length → pickN b (ss ++ [s]) (bs ++ [x]) = if x = b then pickN b ss bs ++ [s] else pickN b ss bs
  | [], [], _ => by simp [pickN]
  | [], _ :: _, h => by simp at h
  | _ :: _, [], h => by simp at h
  | t :: ss, y :: bs, h => by
    have ih := pickN_snoc b s x ss bs (by simpa using h)
    simp only [List.cons_append, pickN]
    rw [ih]
    by_cases h1 : y = b <;> by_cases h2 : x = b <;> simp [h1, h2]
theorem pickN_len (b : Nat) : ∀ (ss : List ByteArray) (bs : List Nat), (pickN b ss bs).length ≤ ss.length
  | [], _ => by simp [pickN]
  | _ :: _, [] => by simp [pickN]
  | t :: ss, y :: bs => by
    have ih := pickN_len b ss bs
    simp only [pickN, List.length_cons]
    split
    · rw [List.length_cons]; omega
    · omega
def rowsN (most : Nat) (ss : List ByteArray) (bs : List Nat) : List (List ByteArray) := (List.range most).map fun b => pickN b ss bs
theorem rowsN_at {most b : Nat} {ss : List ByteArray} {bs : List Nat} (hb : b < most) : (rowsN most ss bs)[b]? = some (pickN b ss bs) := by
  unfold rowsN
  rw [List.getElem?_map, List.getElem?_range hb]
  rfl
theorem rowsN_snoc {most x : Nat} {s : ByteArray} {ss : List ByteArray} {bs : List Nat} (h : ss.length = bs.length) (hx : x < most) : rowsN most (ss ++ [s]) (bs ++ [x]) = (rowsN most ss bs).set x (pickN x ss bs ++ [s]) := by
  refine List.ext_getElem? fun b => ?_
  rw [List.getElem?_set]
  by_cases hb : b < most
  · rw [rowsN_at hb, rowsN_at hb, pickN_snoc b s x ss bs h]
    by_cases e : x = b
    · subst e
      simp [rowsN, hb]
    · rw [if_neg e, if_neg e]
  · have e1 : ∀ ss bs, (rowsN most ss bs)[b]? = none := fun ss bs => List.getElem?_eq_none (by simp [rowsN]; omega)
    rw [e1, e1, if_neg (by omega)]
theorem rowsN_zero (most : Nat) : rowsN most [] [] = List.replicate most [] := by
  unfold rowsN
  refine List.ext_getElem? fun b => ?_
  by_cases hb : b < most
  · rw [List.getElem?_map, List.getElem?_range hb, List.getElem?_replicate, if_pos hb]
    rfl
  · rw [List.getElem?_eq_none (by simp; omega), List.getElem?_eq_none (by simp; omega)]

/-- A row of lists of strings in memory, each list in a row of its own. -/
structure OutM (w0 w : World) (og : Nat) (rows : List (List ByteArray)) (vs : List Value) : Prop where
  ext : Ext w0 w
  low : w0.heap.size ≤ og
  len : vs.length = rows.length
  blk : Blk w og 32 vs.toArray
  own : ∀ (b : Nat) (v : Value) (r : List ByteArray), vs[b]? = some v → rows[b]? = some r → w.ownsRow (og + 1) 9 1 v r.length (r.flatMap strC)
  far : ∀ (b c : Nat) (u v : Value), b ≠ c → vs[b]? = some u → vs[c]? = some v → ∀ j, u.ownBlock = some j → v.ownBlock ≠ some j
section
variable {w0 w : World} {og : Nat} {rows : List (List ByteArray)} {vs : List Value}
theorem OutM.more (h : OutM w0 w og rows vs) {w' : World} (he : Ext w w') : OutM w0 w' og rows vs :=
  ⟨h.ext.trans he, h.low, h.len, h.blk.ext he, fun b v r hv hr => own_ext he (h.own b v r hv hr), h.far⟩
theorem OutM.at_ (h : OutM w0 w og rows vs) {b : Nat} {r : List ByteArray} (hr : rows[b]? = some r) : ∃ p c, vs[b]? = some (.slice p r.length c) ∧ w.cell? ⟨og, b, none⟩ = some (.slice p r.length c) ∧ w.ownsRow (og + 1) 9 1 (.slice p r.length c) r.length (r.flatMap strC) := by
  have hb := (List.getElem?_eq_some_iff.1 hr).1
  have hbv : b < vs.length := by rw [h.len]; exact hb
  have hv : vs[b]? = some vs[b] := List.getElem?_eq_getElem hbv
  have ho := h.own b _ r hv hr
  have e : ∃ p c, vs[b] = .slice p r.length c := by
    rcases ho.2 with ⟨h1, h2⟩ | ⟨g, cap, cur, h1, _⟩
    · exact ⟨none, 0, by rw [h1, h2]⟩
    · exact ⟨_, cap, h1⟩
  obtain ⟨p, c, e⟩ := e
  rw [e] at hv ho
  refine ⟨p, c, hv, ?_, ho⟩
  rw [h.blk.cell b]
  simpa using hv
theorem OutM.app (h : OutM w0 w og rows vs) {b : Nat} {r : List ByteArray} {p : Option Addr} {c : Nat} (hr : rows[b]? = some r) (hv : vs[b]? = some (.slice p r.length c)) {w' : World} {b' c' : Nat} {s : ByteArray}
    (h1 : w'.ownsRow (og + 1) 9 1 (.slice (some ⟨b', 0, none⟩) (r.length + 1) c') (r.length + 1) (r.flatMap strC ++ strC s)) (hg : w.grownBy w' (Value.slice p r.length c).ownBlock) (hb : w.heap.size ≤ b' ∨ p = some ⟨b', 0, none⟩) :
    OutM w0 (w'.setCell ⟨og, b, none⟩ (.slice (some ⟨b', 0, none⟩) (r.length + 1) c')) og (rows.set b (r ++ [s])) (vs.set b (.slice (some ⟨b', 0, none⟩) (r.length + 1) c')) := by
  have hlow := h.low
  have ho := h.own b _ r hv hr
  have hB : Blk w' og 32 vs.toArray := (hg.block og h.blk.lt fun e => own_no ho h.blk (by decide) e.symm).trans h.blk
  have hk := grown_set w' ⟨og, b, none⟩ (.slice (some ⟨b', 0, none⟩) (r.length + 1) c')
  have hbl := (List.getElem?_eq_some_iff.1 hv).1
  have hbr := (List.getElem?_eq_some_iff.1 hr).1
  have other : ∀ d u, d ≠ b → vs[d]? = some u → ∀ j, u.ownBlock = some j → j ≠ b' := fun d u hd hu j hj e => by
    subst e
    have hdl : d < rows.length := by rw [← h.len]; exact (List.getElem?_eq_some_iff.1 hu).1
    have hlt := ((h.own d u _ hu (List.getElem?_eq_getElem hdl)).lt j hj).2
    rcases hb with hb | hb
    · omega
    · subst hb
      exact h.far d b u _ hd hu hv j hj rfl
  refine ⟨(h.ext.grown hg fun k e => Nat.le_trans hlow (Nat.le_of_lt (ho.lt k e).1)).setCell (p := ⟨og, b, none⟩) hlow _, hlow, by rw [List.length_set, List.length_set]; exact h.len, ?_, fun d u r' hu hr' => ?_, fun d e u v hde hu hv2 j hj => ?_⟩
  · have := hB.set_ b (.slice (some ⟨b', 0, none⟩) (r.length + 1) c')
    simpa using this
  · rw [List.getElem?_set] at hu hr'
    by_cases hd : b = d
    · subst hd
      rw [if_pos rfl, if_pos hbl] at hu
      rw [if_pos rfl, if_pos hbr] at hr'
      cases hu
      cases hr'
      rw [List.length_append, List.length_singleton, flat_snoc]
      exact h1.kept hk (.inr (own_no h1 hB (by decide)))
    · rw [if_neg hd] at hu hr'
      have ho2 := h.own d u r' hu hr'
      have ho3 : w'.ownsRow (og + 1) 9 1 u r'.length (r'.flatMap strC) := ho2.kept hg (by
        cases hj : u.ownBlock with
        | none => exact .inl rfl
        | some j => exact .inr fun e => h.far d b u _ (fun e2 => hd e2.symm) hu hv j hj e.symm)
      exact ho3.kept hk (.inr (own_no ho3 hB (by decide)))
  · rw [List.getElem?_set] at hu hv2
    by_cases hd : b = d
    · subst hd
      rw [if_pos rfl, if_pos hbl] at hu
      cases hu
      rw [if_neg hde] at hv2
      intro e2
      exact other e v (fun e3 => hde e3.symm) hv2 j e2 (by simpa [Value.ownBlock] using hj.symm)
    · rw [if_neg hd] at hu
      by_cases he : b = e
      · subst he
        rw [if_pos rfl, if_pos hbl] at hv2
        cases hv2
        intro e2
        exact other d u (fun e3 => hd e3.symm) hu j hj (by simpa [Value.ownBlock] using e2.symm)
      · rw [if_neg he] at hv2
        exact h.far d e u v hde hu hv2 j hj
end
theorem strsInfo : (Tryd.prog.info? 32).map (fun i => (i.zero, i.size, i.bytes)) = some (some (.slice none 0 0), 1, 24) := by kernel_rfl
theorem strInfo : (Tryd.prog.info? 9).map (fun i => (i.zero, i.size, i.bytes)) = some (some (.string ⟨#[]⟩), 1, 16) := by kernel_rfl
/-- A new row of empty lists. -/
theorem OutM.made {w0 w' : World} {og most : Nat} (hE : Ext w0 w') (hlow : w0.heap.size ≤ og) (h : w'.ownsRow og 32 1 (.slice (some ⟨og, 0, none⟩) most most) most (madeCells (Value.slice none 0 0).cells (most * 1)).toList) : OutM w0 w' og (List.replicate most []) (List.replicate most (.slice none 0 0)) := by
  have hvs : (madeCells (Value.slice none 0 0).cells (most * 1)).toList = List.replicate most (.slice none 0 0) := by
    unfold madeCells
    refine List.ext_getElem? fun j => ?_
    simp only [Nat.mul_one, Array.toList_map, Array.toList_range, List.getElem?_map, List.getElem?_replicate]
    by_cases hj : j < most
    · rw [List.getElem?_range hj, if_pos hj]
      simp [Value.cells, Nat.mod_one]
    · rw [List.getElem?_eq_none (by simp; omega), if_neg hj]
      rfl
  refine ⟨hE, hlow, by simp, ?_, fun b v r hv hr => ?_, fun b c u v _ hu _ j hj => ?_⟩
  · rcases h.2 with ⟨h1, _⟩ | ⟨g, cap, cur, h1, _, h2, _, _, h3, h4⟩
    · cases h1
    · cases h1
      unfold Blk
      rw [h2]
      have : cur = (List.replicate most (Value.slice none 0 0)).toArray := by
        rw [← hvs, ← h4, List.take_of_length_le (by simp; omega)]
      rw [this]
  · rw [List.getElem?_replicate] at hv hr
    by_cases hb : b < most
    · rw [if_pos hb] at hv hr
      cases hv
      cases hr
      exact World.ownsRow_nil _ _ _ _
    · rw [if_neg hb] at hv
      cases hv
  · rw [List.getElem?_replicate] at hu
    split at hu
    · cases hu
      cases hj
    · cases hu
end Go.Proofs.YtlmbpgjdepmlcaaDoor
