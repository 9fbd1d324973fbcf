/- A stage that the stream makes, told exactly. Conditions: sizes. -/
import Derived.Test.YtfcoeikekbjgpaaGreatDoorSxDetB
import Derived.Test.YtfcoeikekbjgpaaGreatDoorSxStX
set_option linter.unusedSimpArgs false
set_option linter.unusedVariables false
namespace Go.Proofs.YtfcoeikekbjgpaaGreatDoor
open Go Go.RowKit

/-- A row of known small numbers of the call's own. -/
def OwL (xs : List Int) (w : World) (base : Nat) (p : Option Addr) (n c : Nat) : Prop := xs.length = n ∧ SmallL xs ∧ w.ownsRow base 3 1 (.slice p n c) n (xs.flatMap intC)
theorem OwL.same {xs : List Int} {w w' : World} {base n c : Nat} {p : Option Addr} (h : OwL xs w base p n c) (hs : ∀ a, p = some a → w'.heap[a.block]? = w.heap[a.block]?) : OwL xs w' base p n c := by
  obtain ⟨h1, h2, h3⟩ := h
  refine ⟨h1, h2, own_same h3 fun g hg => ?_⟩
  cases p with
  | none => simp [Value.ownBlock] at hg
  | some a =>
    have : a.block = g := by simpa [Value.ownBlock] using hg
    rw [← this]
    exact hs a rfl
theorem OwL.lt {xs : List Int} {w : World} {base n c : Nat} {p : Option Addr} (h : OwL xs w base p n c) {a : Addr} (ha : p = some a) : base ≤ a.block ∧ a.block < w.heap.size := by
  obtain ⟨h1, h2, h3⟩ := h
  subst ha
  exact h3.lt a.block rfl
theorem OwL.ext {xs : List Int} {w w' : World} {base n c : Nat} {p : Option Addr} (h : OwL xs w base p n c) (he : Ext w w') : OwL xs w' base p n c := h.same fun a ha => he.blk (h.lt ha).2
theorem OwL.extS {xs : List Int} {s : Nat} {w w' : World} {base n c : Nat} {p : Option Addr} (h : OwL xs w base p n c) (hs : s < base) (he : ExtS s w w') : OwL xs w' base p n c := h.same fun a ha => he.2.2.2.2 _ (h.lt ha).2 (by have := (h.lt ha).1; omega)
theorem OwL.nil (w : World) (base : Nat) : OwL [] w base none 0 0 := ⟨rfl, (fun x hx => by cases hx), World.ownsRow_nil _ _ _ _⟩
theorem OwL.slc {xs : List Int} {w : World} {base n c : Nat} {p : Option Addr} (h : OwL xs w base p n c) (hn : n ≤ 1000000000) : Slc 1 intC w p n c xs := by
  obtain ⟨h1, h2, h3⟩ := h
  obtain ⟨p', c', e, hS⟩ := slc_of_own intC_len h3 (by decide) hn
  cases e
  exact hS
theorem OwL.form {xs : List Int} {w : World} {base n c : Nat} {p : Option Addr} (h : OwL xs w base p n c) (hn : 0 < n) : ∃ b, p = some ⟨b, 0, none⟩ ∧ base ≤ b ∧ b < w.heap.size := by
  obtain ⟨h1, h2, h3⟩ := h
  obtain ⟨b, c', e, hb, hl⟩ := h3.form hn
  cases e
  exact ⟨b, rfl, hb, hl⟩
theorem OwL.cell {xs : List Int} {w : World} {base n c b : Nat} (h : OwL xs w base (some ⟨b, 0, none⟩) n c) {i : Nat} {x : Int} (hx : xs[i]? = some x) : w.cell? ⟨b, i, none⟩ = some (.int .i64 x) := by
  obtain ⟨h1, h2, h3⟩ := h
  have hi := (List.getElem?_eq_some_iff.1 hx).1
  have := own_cell intC_len h3 hx 0 (v := .int .i64 x) rfl (by omega)
  simpa using this
theorem OwL.frozen {xs : List Int} {w : World} {base n c b : Nat} (h : OwL xs w base (some ⟨b, 0, none⟩) n c) (i : Nat) : w.frozen? ⟨b, i, none⟩ = false := by
  obtain ⟨h1, h2, h3⟩ := h
  exact h3.frozenAt i
theorem OwL.set {xs : List Int} {w : World} {base n c b : Nat} (h : OwL xs w base (some ⟨b, 0, none⟩) n c) {i : Nat} (hi : i < n) (v : Int) (hv : -1099511627776 ≤ v ∧ v ≤ 1099511627776) : OwL (xs.set i v) (w.setCell ⟨b, i, none⟩ (.int .i64 v)) base (some ⟨b, 0, none⟩) n c := by
  obtain ⟨h1, h2, h3⟩ := h
  obtain ⟨x, hx⟩ := getD_some h1 hi
  refine ⟨by rw [List.length_set, h1], fun y hy => ?_, ?_⟩
  · rcases List.mem_or_eq_of_mem_set hy with h4 | h4
    · exact h2 y h4
    · subst h4; exact hv
  · have := own_set1 intC_len h3 v hx 0 (by decide) (.int .i64 v) rfl
    simpa using this
theorem OwL.far {xs : List Int} {w : World} {base n c : Nat} {p : Option Addr} (h : OwL xs w base p n c) {q : Addr} (hq : ∀ a, p = some a → a.block ≠ q.block) (u : Value) : OwL xs (w.setCell q u) base p n c := h.same fun a ha => Below.heap_setCell w q u a.block (hq a ha)
theorem OwL.grown {xs : List Int} {w w' : World} {base n c : Nat} {p : Option Addr} {r : Option Nat} (h : OwL xs w base p n c) (hg : w.grownBy w' r) (hr : ∀ a, p = some a → some a.block ≠ r) : OwL xs w' base p n c := h.same fun a ha => hg.block _ (h.lt ha).2 (hr a ha)

theorem OwL.app {xs : List Int} {w : World} {base n c : Nat} {p : Option Addr} (h : OwL xs w base p n c) (g : Nat) (v : Int) (hv : -1099511627776 ≤ v ∧ v ≤ 1099511627776) (hB : Blk w g 3 #[.int .i64 v]) (hn : n ≤ 1000) (hbase : base ≤ w.heap.size) :
    ∃ b c' w', (Builtin.append_ #[22, 22] 22 #[.slice p n c, .slice (some ⟨g, 0, none⟩) 1 1]).run Tryz.prog w = .ok (.slice (some ⟨b, 0, none⟩) (n + 1) c') w' ∧ OwL (xs ++ [v]) w' base (some ⟨b, 0, none⟩) (n + 1) c' ∧ w.grownBy w' (Value.slice p n c).ownBlock ∧ (n + 1 ≤ c → p = some ⟨b, 0, none⟩ ∧ c' = c) ∧ (¬ n + 1 ≤ c → w.heap.size ≤ b) ∧ (p = some ⟨b, 0, none⟩ ∨ w.heap.size ≤ b) := by
  obtain ⟨hl, hs, hown⟩ := h
  have hcell : ∀ (j : Nat) (u : Value), (intC v)[j]? = some u → w.cell? ((⟨g, 0, none⟩ : Addr).add j) = some u := fun j u hu => by
    have : (⟨g, 0, none⟩ : Addr).add j = ⟨g, j, none⟩ := by unfold Addr.add; split <;> simp_all
    rw [this, hB.cell j]
    simpa [intC] using hu
  have h1 : ∀ u ∈ intC v, u.oneCell' = true := by simp [intC, Value.oneCell']
  have hnew : ∀ {w' : World} {b c' : Nat}, w'.ownsRow base 3 1 (.slice (some ⟨b, 0, none⟩) (n + 1) c') (n + 1) (xs.flatMap intC ++ intC v) → OwL (xs ++ [v]) w' base (some ⟨b, 0, none⟩) (n + 1) c' := fun ho => ⟨by simp [hl], fun y hy => by
    rcases List.mem_append.1 hy with h4 | h4
    · exact hs y h4
    · rw [List.mem_singleton] at h4; subst h4; exact hv, by rw [flat_snoc]; exact ho⟩
  have ht := Tryz.underlying22
  obtain ⟨i0, hi, hz0, hz1, hz2⟩ := info_parts intInfoT
  rcases hown.2 with ⟨he, hn0⟩ | ⟨b, cap, cur, he, hb, hg, hnc, hcm, hcs, htk⟩
  · cases he
    obtain rfl : xs = [] := List.eq_nil_of_length_eq_zero (by omega)
    obtain ⟨v', w', hr, h2, h3, -⟩ := run_append_own (P := Tryz.prog) w w.heap.size 22 22 3 i0 (.int .i64 0) 1 8 ht hi hz0 hz1 hz2 rfl (by decide) (.slice none 0 0) 0 [] (World.ownsRow_nil _ _ _ _) ⟨g, 0, none⟩ 1 1 (intC v) rfl hcell h1 (by unfold maxLen; omega) (by omega) (Nat.le_refl _)
    obtain ⟨b, c', rfl, hb, _⟩ := h2.form (by omega)
    exact ⟨b, c', w', hr, hnew (own_lowT h2 hbase), h3, fun h => absurd h (by omega), fun _ => hb, .inr hb⟩
  · cases he
    by_cases hroom : n + 1 ≤ c
    · obtain ⟨w', hr, h2, h3⟩ := run_append_fits (P := Tryz.prog) w base 22 22 3 i0 1 ht hi hz1 b n c (xs.flatMap intC) hown ⟨g, 0, none⟩ 1 1 (intC v) rfl hcell h1 hroom
      exact ⟨b, c, w', hr, hnew h2, h3, fun _ => ⟨rfl, rfl⟩, fun h => absurd hroom h, .inl rfl⟩
    · obtain ⟨v', w', hr, h2, h3⟩ := run_append_arg_grows (P := Tryz.prog) w 22 22 3 i0 (.int .i64 0) 1 8 ht hi hz0 hz1 hz2 rfl (by decide) ⟨b, 0, none⟩ n c (xs.flatMap intC) hown.1 (fun j u hj => by
        have := hown.cells (g := b) rfl j u hj
        have e2 : (⟨b, 0, none⟩ : Addr).add j = ⟨b, j, none⟩ := by unfold Addr.add; split <;> simp_all
        simpa [e2] using this) ⟨g, 0, none⟩ 1 1 (intC v) rfl hcell (by omega) (by unfold maxLen; omega) (by omega)
      obtain ⟨b', c', rfl, hb', _⟩ := h2.form (by omega)
      exact ⟨b', c', w', hr, hnew (own_lowT h2 hbase), grown_noneT h3 _, fun h => absurd h hroom, fun _ => hb', .inr hb'⟩

theorem OwL.extN {xs : List Int} {s z n0 : Nat} {w w' : World} {base n c b : Nat} (h : OwL xs w base (some ⟨b, 0, none⟩) n c) (h1 : b ≠ s) (h2 : n0 ≤ b) (he : ExtN s z n0 w w') : OwL xs w' base (some ⟨b, 0, none⟩) n c :=
  h.same fun a ha => by cases ha; exact he.2.2.2.2 b (h.lt rfl).2 h1 (.inr h2)
theorem wpList_appL (w : World) {ops : Array Oper} {rest : List Oper} {o : Oper} {a : Act} {Q : Exit → Act → World → Prop} (hgd : o.guard = none) (s x : Operand) (ho : o.op = .call { callee := .builtin .append, args := #[s, x], argTypes := #[22, 22] }) (hty : o.type = 22)
    (base : Nat) (p : Option Addr) (n c : Nat) (hs : a.eval s = .slice p n c) {xs : List Int} (h : OwL xs w base p n c) (g : Nat) (v : Int) (hv : -1099511627776 ≤ v ∧ v ≤ 1099511627776) (hx : a.eval x = .slice (some ⟨g, 0, none⟩) 1 1) (hB : Blk w g 3 #[.int .i64 v]) (hn : n ≤ 1000) (hbase : base ≤ w.heap.size)
    (hk : ∀ b c' w', OwL (xs ++ [v]) w' base (some ⟨b, 0, none⟩) (n + 1) c' → w.grownBy w' (Value.slice p n c).ownBlock → (p = some ⟨b, 0, none⟩ ∨ w.heap.size ≤ b) → wpList Tryz.prog ops Q rest (a.put o.dst (.slice (some ⟨b, 0, none⟩) (n + 1) c')) w') : wpList Tryz.prog ops Q (o :: rest) a w := by
  refine wpList_plain hgd fun K' hK' => ?_
  obtain ⟨b, c', w', hrun, h2, h3, -, -, h4⟩ := h.app g v hv hB hn hbase
  unfold Oper.wp
  simp [execOp, ho, resolve, invoke, builtin, hs, hx, hty, hrun, Result.andThen]
  exact hK' _ _ (hk b c' w' h2 h3 h4)
/-- A stage that is being made, told exactly. -/
structure StgL (L : Src) (WD HG : List Int) (w0 w : World) (s k z : Nat) (pw : Option Addr) (cw : Nat) (ph : Option Addr) (ch n m : Nat) : Prop where
  ext : ExtS s w0 w
  str : StrL w s L k
  low : s < w0.heap.size
  zz : z = w0.heap.size + 1
  res : Blk w w0.heap.size 29 #[.slice none 0 0, .slice none 0 0]
  blk : Blk w z 29 #[.slice pw n cw, .slice ph m ch]
  wr : OwL WD w (z + 1) pw n cw
  hr : OwL HG w (z + 1) ph m ch
  far : ∀ a b, pw = some a → ph = some b → a.block ≠ b.block
theorem StgL.extS {L : Src} {WD HG : List Int} {w0 w w' : World} {s k k' z cw ch n m : Nat} {pw ph : Option Addr} (h : StgL L WD HG w0 w s k z pw cw ph ch n m) (he : ExtS s w w') (hs : StrL w' s L k') : StgL L WD HG w0 w' s k' z pw cw ph ch n m := by
  have h1 := h.low
  have h2 := h.zz
  exact ⟨h.ext.trans he, hs, h1, h2, h.res.extS (by omega) he, h.blk.extS (by omega) he, h.wr.extS (by omega) he, h.hr.extS (by omega) he, h.far⟩
theorem StgL.more {L : Src} {WD HG : List Int} {w0 w w' : World} {s k z cw ch n m : Nat} {pw ph : Option Addr} (h : StgL L WD HG w0 w s k z pw cw ph ch n m) (he : Ext w w') : StgL L WD HG w0 w' s k z pw cw ph ch n m := h.extS he.extS (h.str.ext he)

def stgHi (L : Src) (a : Nat) : Nat → Int
  | 0 => 0
  | j + 1 => stgHi L a j + pkF L (a + 2 * j + 1) [0, 50, 100, 200]
def stgW (L : Src) (a n : Nat) : List Int := (List.range n).map fun j => rgF L (a + 2 * j) 1 4
def stgH (L : Src) (a n : Nat) : List Int := (List.range n).map (stgHi L a)
theorem stgW_succ (L : Src) (a n : Nat) : stgW L a (n + 1) = stgW L a n ++ [rgF L (a + 2 * n) 1 4] := by simp [stgW, List.range_succ]
theorem stgH_succ (L : Src) (a n : Nat) : stgH L a (n + 1) = stgH L a n ++ [stgHi L a n] := by simp [stgH, List.range_succ]
def stgF (L : Src) (a : Nat) : (List Int × List Int) × Nat :=
  let m := (rgF L a 1 3).toNat
  let b := a + 1 + 2 * m
  if flF L b 15 then
    if flF L (b + 5) 3 then (((stgW L (a + 1) m).set 0 (odF L (b + 1) 1 4), (stgH L (a + 1) m).set 0 (odF L (b + 3) 0 5000) ++ [0]), b + 6)
    else (((stgW L (a + 1) m).set 0 (odF L (b + 1) 1 4), (stgH L (a + 1) m).set 0 (odF L (b + 3) 0 5000)), b + 6)
  else ((stgW L (a + 1) m, stgH L (a + 1) m), b + 1)
theorem stgF_keep {L : Src} {a m : Nat} (h : rgF L a 1 3 = m) (hf : flF L (a + 1 + 2 * m) 15 = false) : stgF L a = ((stgW L (a + 1) m, stgH L (a + 1) m), a + 1 + 2 * m + 1) := by
  unfold stgF; rw [h, Int.toNat_natCast]; simp only; rw [hf]; rfl
theorem stgF_one {L : Src} {a m : Nat} (h : rgF L a 1 3 = m) (hf : flF L (a + 1 + 2 * m) 15 = true) (hg : flF L (a + 1 + 2 * m + 5) 3 = false) : stgF L a = (((stgW L (a + 1) m).set 0 (odF L (a + 1 + 2 * m + 1) 1 4), (stgH L (a + 1) m).set 0 (odF L (a + 1 + 2 * m + 3) 0 5000)), a + 1 + 2 * m + 6) := by
  unfold stgF; rw [h, Int.toNat_natCast]; simp only; rw [if_pos hf, hg]; rfl
theorem stgF_two {L : Src} {a m : Nat} (h : rgF L a 1 3 = m) (hf : flF L (a + 1 + 2 * m) 15 = true) (hg : flF L (a + 1 + 2 * m + 5) 3 = true) : stgF L a = (((stgW L (a + 1) m).set 0 (odF L (a + 1 + 2 * m + 1) 1 4), (stgH L (a + 1) m).set 0 (odF L (a + 1 + 2 * m + 3) 0 5000) ++ [0]), a + 1 + 2 * m + 6) := by
  unfold stgF; rw [h, Int.toNat_natCast]; simp only; rw [if_pos hf, if_pos hg]

def StageD (L : Src) (s k : Nat) (w : World) (e : Ending) (w' : World) : Prop := ∃ (wp : Option Addr) (wc : Nat) (hp : Option Addr) (hc : Nat) (wide high : List Int) (k' : Nat), e = .returned (.agg #[.slice wp wide.length wc, .slice hp high.length hc]) ∧ wide.length ≤ 4 ∧ high.length ≤ 4 ∧ SmallL wide ∧ SmallL high ∧ Slc 1 intC w' wp wide.length wc wide ∧ Slc 1 intC w' hp high.length hc high ∧ (∀ a, wp = some a → w.heap.size ≤ a.block) ∧ (∀ a, hp = some a → w.heap.size ≤ a.block) ∧ stgF L k = ((wide, high), k') ∧ k' ≤ k + 40 ∧ StrL w' s L k' ∧ ExtS s w w'
theorem StgL.post {L : Src} {WD HG : List Int} {w w' : World} {s k k' cw ch n m : Nat} {pw ph : Option Addr} (h : StgL L WD HG w w' s k' (w.heap.size + 1) pw cw ph ch n m) (hn : n ≤ 4) (hm : m ≤ 4) (hk : k' ≤ k + 40) (hF : stgF L k = ((WD, HG), k')) :
    StageD L s k w (.returned (.agg #[.slice pw n cw, .slice ph m ch])) ((w'.setCell ⟨w.heap.size, 0, none⟩ (.slice pw n cw)).setCell ⟨w.heap.size, 1, none⟩ (.slice ph m ch)) ∧ Blk ((w'.setCell ⟨w.heap.size, 0, none⟩ (.slice pw n cw)).setCell ⟨w.heap.size, 1, none⟩ (.slice ph m ch)) w.heap.size 29 #[.slice pw n cw, .slice ph m ch] := by
  have hw1 := (h.wr.far (q := ⟨w.heap.size, 0, none⟩) (fun a ha => by have := (h.wr.lt ha).1; simp only; omega) (.slice pw n cw))
  have hw2 := (hw1.far (q := ⟨w.heap.size, 1, none⟩) (fun a ha => by have := (h.wr.lt ha).1; simp only; omega) (.slice ph m ch))
  have hh1 := (h.hr.far (q := ⟨w.heap.size, 0, none⟩) (fun a ha => by have := (h.hr.lt ha).1; simp only; omega) (.slice pw n cw))
  have hh2 := (hh1.far (q := ⟨w.heap.size, 1, none⟩) (fun a ha => by have := (h.hr.lt ha).1; simp only; omega) (.slice ph m ch))
  have S1 := hw2.slc (by omega)
  have S2 := hh2.slc (by omega)
  have hl := h.low
  have l1 := h.wr.1
  have l2 := h.hr.1
  have s1 := h.wr.2.1
  have s2 := h.hr.2.1
  subst l1; subst l2
  exact ⟨⟨pw, cw, ph, ch, WD, HG, k', rfl, hn, hm, s1, s2, S1, S2, (fun a ha => by have := (h.wr.lt ha).1; omega), (fun a ha => by have := (h.hr.lt ha).1; omega), hF, hk, ((h.str.set (p := ⟨w.heap.size, 0, none⟩) hl _).set (p := ⟨w.heap.size, 1, none⟩) hl _), (h.ext.setCell (p := ⟨w.heap.size, 0, none⟩) (.inr (Nat.le_refl _)) _).setCell (p := ⟨w.heap.size, 1, none⟩) (.inr (Nat.le_refl _)) _⟩, ((h.res.set_ 0 _).set_ 1 _).cast (by simp)⟩

set_option maxRecDepth 100000 in
set_option maxHeartbeats 6400000 in
theorem stage_det (s k : Nat) (L : Src) (w : World) (hk : k ≤ 990000) (h : StrL w s L k) :
    Calls Tryz.prog 6 #[.pointer (some ⟨s, 0, none⟩)] w (StageD L s k w) := by
  have l0 := h.lt
  have hv01 := rgF_in (L := L) (a := k) (lo := 1) (hi := 3) (by omega)
  obtain ⟨m, hm⟩ : ∃ m : Nat, rgF L k 1 3 = m := ⟨(rgF L k 1 3).toNat, by omega⟩
  rw [hm] at hv01
  obtain ⟨hv0, hv1⟩ := hv01
  replace hm := Lib.hid hm
  have hE0 : Ext w ((w.alloc (.cells #[.slice none 0 0, .slice none 0 0] 29)).alloc (.cells #[.slice none 0 0, .slice none 0 0] 29)) := ((Ext.refl _).alloc _).alloc _
  have hM0 : StgL L [] [] w ((w.alloc (.cells #[.slice none 0 0, .slice none 0 0] 29)).alloc (.cells #[.slice none 0 0, .slice none 0 0] 29)) s k (w.heap.size + 1) none 0 none 0 0 0 :=
    ⟨hE0.extS, h.ext hE0, l0, rfl, (Blk.new' rfl).alloc _, Blk.new' (by simp), OwL.nil _ _, OwL.nil _ _, fun a b h => by cases h⟩
  go_enter Tryz.func6, Tryz.ntmps6
  go_wp2_with (go_at_call 9; (with_reducible refine Calls.mono (range_det s k 1 3 L _ (by omega) (by omega) (by omega) (by omega) (by omega) (by exact hM0.str)) ?_); rintro e w1 ⟨rfl, hS1, hE1⟩; rw [hm.out])
  have hM1 := hM0.extS hE1 hS1
  clear hM0 hS1 hE1 hE0 h
  go_loopw [4, 7] (fun v4 v7 wr => ∃ (j : Nat) (hg : Int) (pw : Option Addr) (cw : Nat) (ph : Option Addr) (ch : Nat), v7 = .int .i64 j ∧ v4 = .int .i64 hg ∧ j ≤ m ∧ 0 ≤ hg ∧ hg ≤ 200 * j ∧ hg = stgHi L (k + 1) j ∧ StgL L (stgW L (k + 1) j) (stgH L (k + 1) j) w wr s (k + 1 + 2 * j) (w.heap.size + 1) pw cw ph ch j j) (fun _ v7 _ => m - (intOf v7).toNat)
  case atStart => exact ⟨0, 0, none, 0, none, 0, rfl, rfl, Nat.zero_le _, by omega, by omega, rfl, hM1⟩
  case round =>
    clear hM1
    obtain ⟨j, hg, pw, cw, ph, ch, rfl, rfl, hj, hg0, hg1, hgj, hM⟩ := hrel
    replace hgj := Lib.hid hgj
    obtain ⟨WD, hWD⟩ : ∃ WD, WD = stgW L (k + 1) j := ⟨_, rfl⟩
    obtain ⟨HG, hHG⟩ : ∃ HG, HG = stgH L (k + 1) j := ⟨_, rfl⟩
    rw [← hWD, ← hHG] at hM
    replace hWD := Lib.hid hWD
    replace hHG := Lib.hid hHG
    by_cases hlt : j < m
    · obtain ⟨v3, hv30⟩ : ∃ v, rgF L (k + 1 + 2 * j) 1 4 = v := ⟨_, rfl⟩
      have hv3 := rgF_in (L := L) (a := k + 1 + 2 * j) (lo := 1) (hi := 4) (by omega)
      rw [hv30] at hv3
      obtain ⟨mm, hmm0⟩ : ∃ v, pkF L (k + 1 + 2 * j + 1) [0, 50, 100, 200] = v := ⟨_, rfl⟩
      have hmmb := pkF_in (L := L) (a := k + 1 + 2 * j + 1) (xs := [0, 50, 100, 200]) (lo := 0) (hi := 200) (by simp) (by decide)
      rw [hmm0] at hmmb
      obtain ⟨m1, m2⟩ := hmmb
      replace hmm0 := Lib.hid hmm0
      go_upto_region 5 with fail
      obtain ⟨z, hz⟩ : ∃ z, z = w.heap.size + 1 := ⟨_, rfl⟩
      rw [← hz] at hM
      have hsz : s < z := by omega
      have hzl : z < wr.heap.size := hM.blk.lt
      have hsl : s < wr.drew.heap.size := Nat.lt_trans hsz hzl
      have hB0 : Blk wr.drew z 29 #[.slice pw j cw, .slice ph j ch] := hM.blk
      rw [hz] at hB0
      have hB1 : Blk wr.drew z 29 #[.slice pw j cw, .slice ph j ch] := hM.blk
      have hC0 : StrL wr.drew s L (k + 1 + 2 * j) ∧ OwL WD wr.drew (z + 1) pw j cw ∧ OwL HG wr.drew (z + 1) ph j ch := ⟨hM.str.ext (Ext.drew (Ext.refl _)), hM.wr.ext (Ext.drew (Ext.refl _)), hM.hr.ext (Ext.drew (Ext.refl _))⟩
      have hpw : ∀ g, (Value.slice pw j cw).ownBlock = some g → z < g ∧ g < wr.heap.size := fun g hg => by
        cases pw with
        | none => simp [Value.ownBlock] at hg
        | some a =>
          have e : a.block = g := by simpa [Value.ownBlock] using hg
          have := hM.wr.lt rfl
          omega
      have hph : ∀ g, (Value.slice ph j ch).ownBlock = some g → z < g ∧ g < wr.heap.size := fun g hg => by
        cases ph with
        | none => simp [Value.ownBlock] at hg
        | some a =>
          have e : a.block = g := by simpa [Value.ownBlock] using hg
          have := hM.hr.lt rfl
          omega
      have hfar1 : ∀ a, ph = some a → some a.block ≠ (Value.slice pw j cw).ownBlock := fun a ha e => by
        cases pw with
        | none => simp [Value.ownBlock] at e
        | some b =>
          have e2 : a.block = b.block := by simpa [Value.ownBlock] using e
          exact hM.far b a rfl ha e2.symm
      have hfar2 : ∀ a, pw = some a → some a.block ≠ (Value.slice ph j ch).ownBlock := fun a ha e => by
        cases ph with
        | none => simp [Value.ownBlock] at e
        | some b =>
          have e2 : a.block = b.block := by simpa [Value.ownBlock] using e
          exact hM.far a b ha rfl e2
      have hfar3 := hM.far
      have hjm : j ≤ 3 := by omega
      replace hpw := Lib.hid hpw
      replace hph := Lib.hid hph
      replace hfar1 := Lib.hid hfar1
      replace hfar2 := Lib.hid hfar2
      replace hfar3 := Lib.hid hfar3
      refine wp_region_facts [] [([], false, false), ([0], false, false), ([], false, false), ([2], true, false), ([2, 3], false, false), ([0, 1, 2, 3, 4], true, false), ([], false, false), ([6], false, false), ([], false, false), ([8], false, true), ([0, 1, 2, 3, 4, 5, 6, 7, 8, 9], true, false), ([], false, false)] (ExtN s z wr.heap.size) Ext (fun w => StrL w s L (k + 1 + 2 * j) ∧ OwL WD w (z + 1) pw j cw ∧ OwL HG w (z + 1) ph j ch) (by kernel_rfl) (by kernel_rfl) Ext.refl (fun _ _ _ => ExtN.trans) (fun _ _ h => h.extN) (fun _ _ h => h.2.2.2.1) (by intro _ _ h he; first | exact ⟨h.1.ext he, h.2.1.ext he, h.2.2.ext he⟩ | exact ⟨h.1.ext he, fun hr => (h.2.1 hr).ext he, h.2.2.ext he⟩ | exact ⟨h.1.ext he, fun hr => (h.2.1 hr).ext he, fun hr => (h.2.2 hr).ext he⟩) hC0 ?_
      dsimp only [List.length_cons, List.length_nil, List.drop_succ_cons, List.drop_zero, List.drop_nil]
      refine fac_quiet 0 rfl rfl rfl (by intro _ _ h he; first | exact ⟨h.1.ext he, h.2.1.ext he, h.2.2.ext he⟩ | exact ⟨h.1.ext he, fun hr => (h.2.1 hr).ext he, h.2.2.ext he⟩ | exact ⟨h.1.ext he, fun hr => (h.2.1 hr).ext he, fun hr => (h.2.2 hr).ext he⟩) rfl rfl ?_
      apply Exists.intro
      refine ⟨fun sv w' hw' hfa => ?_, ?_⟩
      · refine ⟨rfl, ?_⟩
        simp only [putsL]
        change quietTo _ _ _ _ (Sem.run _ (execOp (Act.eval _) _) _)
        try simp only [Act.put, List.setIfInBounds_toArray, List.set_cons_succ, List.set_cons_zero]
        simp [go_sem, quietTo, Ext.refl]
        all_goals first
          | rfl
      refine fac_quiet 1 rfl rfl rfl (by intro _ _ h he; first | exact ⟨h.1.ext he, h.2.1.ext he, h.2.2.ext he⟩ | exact ⟨h.1.ext he, fun hr => (h.2.1 hr).ext he, h.2.2.ext he⟩ | exact ⟨h.1.ext he, fun hr => (h.2.1 hr).ext he, fun hr => (h.2.2 hr).ext he⟩) rfl rfl ?_
      apply Exists.intro
      refine ⟨fun sv w' hw' hfa => ?_, ?_⟩
      · obtain ⟨f0, -⟩ := hfa
        replace f0 : sv 0 = _ := f0
        try dsimp only at f0
        obtain ⟨y1, -⟩ := (hB0.extN (by omega) (.inl (by omega)) hw').walk
        refine ⟨rfl, ?_⟩
        simp only [putsL]
        change quietTo _ _ _ _ (Sem.run _ (execOp (Act.eval (Act.put _ (some 9) (sv 0))) _) _)
        try simp only [Act.put, List.setIfInBounds_toArray, List.set_cons_succ, List.set_cons_zero]
        simp [go_sem, quietTo, Ext.refl, ↓IntWalk.iteOmega, f0, y1]
        all_goals try simp (disch := omega) only [IntWalk.i64_in]
        all_goals first
          | rfl
      refine fac_quiet 2 rfl rfl rfl (by intro _ _ h he; first | exact ⟨h.1.ext he, h.2.1.ext he, h.2.2.ext he⟩ | exact ⟨h.1.ext he, fun hr => (h.2.1 hr).ext he, h.2.2.ext he⟩ | exact ⟨h.1.ext he, fun hr => (h.2.1 hr).ext he, fun hr => (h.2.2 hr).ext he⟩) rfl rfl ?_
      apply Exists.intro
      refine ⟨fun sv w' hw' hfa => ?_, ?_⟩
      · refine ⟨rfl, ?_⟩
        simp only [putsL]
        change quietTo _ _ _ _ (Sem.run _ (execOp (Act.eval _) _) _)
        try simp only [Act.put, List.setIfInBounds_toArray, List.set_cons_succ, List.set_cons_zero]
        simp [go_sem, quietTo, Ext.refl]
        all_goals first
          | rfl
      refine fac_loud 3 rfl rfl rfl ?_
      refine ⟨(fun y _ => y 3 = .int .i64 v3), (fun w => StrL w s L (k + 1 + 2 * j + 1) ∧ OwL WD w (z + 1) pw j cw ∧ OwL HG w (z + 1) ph j ch), fun sv w' hw' hfa hcc => ?_, ?_, ?_, ?_⟩
      · obtain ⟨f2, -⟩ := hfa
        replace f2 : sv 2 = _ := f2
        try dsimp only at f2
        obtain ⟨y1, -⟩ := (hB0.extN (by omega) (.inl (by omega)) hw').walk
        refine ⟨rfl, ?_⟩
        simp only [putsL]
        change outc _ _ (Sem.run _ (execOp (Act.eval (Act.put _ (some 11) (sv 2))) _) _)
        try simp only [Act.put, List.setIfInBounds_toArray, List.set_cons_succ, List.set_cons_zero]
        simp [go_sem, outc, f2]
        refine (range_det s (k + 1 + 2 * j) 1 4 L _ (by omega) (by omega) (by omega) (by omega) (by omega) hcc.1).mono ?_
        rintro e w4 ⟨rfl, hS4, hE4⟩
        exact ⟨_, rfl, ⟨hE4.extN, hS4, hcc.2.1.extS (by omega) hE4, hcc.2.2.extS (by omega) hE4⟩, by rw [← hv30]; rfl⟩
      · intro x w w' h he; exact h
      · exact fun _ _ h he => ⟨h.1.ext he, h.2.1.ext he, h.2.2.ext he⟩
      refine fac_any 4 rfl rfl rfl (by intro _ _ h he; first | exact ⟨h.1.ext he, h.2.1.ext he, h.2.2.ext he⟩ | exact ⟨h.1.ext he, fun hr => (h.2.1 hr).ext he, h.2.2.ext he⟩ | exact ⟨h.1.ext he, fun hr => (h.2.1 hr).ext he, fun hr => (h.2.2 hr).ext he⟩) ?_
      refine ⟨(fun y w => ∃ (g : Nat), y 4 = .slice (some ⟨g, 0, none⟩) 1 1 ∧ wr.heap.size ≤ g ∧ Blk w g 3 #[.int .i64 v3]), fun sv w' hw' hfa => ?_, ?_, ?_⟩
      · obtain ⟨f2, f3, -⟩ := hfa
        replace f2 : sv 2 = _ := f2
        try dsimp only at f2
        replace f3 : sv 3 = _ := f3
        obtain ⟨y1, -⟩ := (hB0.extN (by omega) (.inl (by omega)) hw').walk
        refine ⟨rfl, ?_⟩
        simp only [putsL]
        change outc _ _ (Sem.run _ (execOp (Act.eval (Act.put (Act.put _ (some 12) (sv 3)) (some 11) (sv 2))) _) _)
        try simp only [Act.put, List.setIfInBounds_toArray, List.set_cons_succ, List.set_cons_zero]
        simp [go_sem, outc, f3]
        exact ⟨(Ext.refl _).alloc _, w'.heap.size, by simp [upd], hw'.2.2.2.1, Blk.new' rfl⟩
      · exact fun x w w' ⟨g, h1, h2, h4⟩ he => ⟨g, h1, h2, h4.extN (by omega) (.inr h2) he⟩
      refine fac_loud 5 rfl rfl rfl ?_
      refine ⟨(fun y w => ∃ (b c9 : Nat), y 5 = .slice (some ⟨b, 0, none⟩) (j + 1) c9 ∧ (j + 1 ≤ cw → pw = some ⟨b, 0, none⟩ ∧ c9 = cw) ∧ (¬ j + 1 ≤ cw → wr.heap.size ≤ b ∧ OwL (WD ++ [v3]) w (z + 1) (some ⟨b, 0, none⟩) (j + 1) c9) ∧ (pw = some ⟨b, 0, none⟩ ∨ wr.heap.size ≤ b)), (fun w => StrL w s L (k + 1 + 2 * j + 1) ∧ (j + 1 ≤ cw → OwL (WD ++ [v3]) w (z + 1) pw (j + 1) cw) ∧ OwL HG w (z + 1) ph j ch), fun sv w' hw' hfa hcc => ?_, ?_, ?_, ?_⟩
      · obtain ⟨f0, f1, f2, f3, f4, -⟩ := hfa
        replace f0 : sv 0 = _ := f0
        try dsimp only at f0
        replace f1 : sv 1 = _ := f1
        try dsimp only at f1
        replace f2 : sv 2 = _ := f2
        try dsimp only at f2
        replace f3 : sv 3 = _ := f3
        obtain ⟨g4, f4, l4, b4⟩ := f4
        replace f4 : sv 4 = _ := f4
        obtain ⟨y1, -⟩ := (hB0.extN (by omega) (.inl (by omega)) hw').walk
        refine ⟨rfl, ?_⟩
        simp only [putsL]
        change outc _ _ (Sem.run _ (execOp (Act.eval (Act.put (Act.put (Act.put (Act.put (Act.put _ (some 13) (sv 4)) (some 12) (sv 3)) (some 11) (sv 2)) (some 10) (sv 1)) (some 9) (sv 0))) _) _)
        try simp only [Act.put, List.setIfInBounds_toArray, List.set_cons_succ, List.set_cons_zero]
        obtain ⟨b, c9, w9, hrun, ho, hg9, hr1, hr2, hr3⟩ := hcc.2.1.app g4 v3 ⟨by omega, by omega⟩ b4 (by omega) (by have := hw'.2.2.2.1; have e9 : wr.drew.heap.size = wr.heap.size := rfl; omega)
        simp [execOp, resolve, invoke, builtin, outc, Act.eval, hrun, Result.andThen, f1, f4]
        exact ⟨⟨ExtN.grown hg9 hpw.out, hcc.1.grown hg9 (fun g hg => by have := hpw.out g hg; omega), (fun hr => by obtain ⟨e1, e2⟩ := hr1 hr; rw [e1, ← e2]; exact ho), hcc.2.2.grown hg9 hfar1.out⟩, b, c9, by simp [upd], hr1, (fun hr => ⟨Nat.le_trans hw'.2.2.2.1 (hr2 (by omega)), ho⟩), hr3.imp id fun hq => Nat.le_trans hw'.2.2.2.1 hq⟩
      · exact fun x w w' ⟨b, c9, h1, h2, h3, h4⟩ he => ⟨b, c9, h1, h2, fun hr => ⟨(h3 hr).1, (h3 hr).2.extN (by have := (h3 hr).1; omega) (h3 hr).1 he⟩, h4⟩
      · exact fun _ _ h he => ⟨h.1.ext he, fun hr => (h.2.1 hr).ext he, h.2.2.ext he⟩
      refine fac_quiet 6 rfl rfl rfl (by intro _ _ h he; first | exact ⟨h.1.ext he, h.2.1.ext he, h.2.2.ext he⟩ | exact ⟨h.1.ext he, fun hr => (h.2.1 hr).ext he, h.2.2.ext he⟩ | exact ⟨h.1.ext he, fun hr => (h.2.1 hr).ext he, fun hr => (h.2.2 hr).ext he⟩) rfl rfl ?_
      apply Exists.intro
      refine ⟨fun sv w' hw' hfa => ?_, ?_⟩
      · refine ⟨rfl, ?_⟩
        simp only [putsL]
        change quietTo _ _ _ _ (Sem.run _ (execOp (Act.eval _) _) _)
        try simp only [Act.put, List.setIfInBounds_toArray, List.set_cons_succ, List.set_cons_zero]
        simp [go_sem, quietTo, Ext.refl]
        all_goals first
          | rfl
      refine fac_quiet 7 rfl rfl rfl (by intro _ _ h he; first | exact ⟨h.1.ext he, h.2.1.ext he, h.2.2.ext he⟩ | exact ⟨h.1.ext he, fun hr => (h.2.1 hr).ext he, h.2.2.ext he⟩ | exact ⟨h.1.ext he, fun hr => (h.2.1 hr).ext he, fun hr => (h.2.2 hr).ext he⟩) rfl rfl ?_
      apply Exists.intro
      refine ⟨fun sv w' hw' hfa => ?_, ?_⟩
      · obtain ⟨f6, -⟩ := hfa
        replace f6 : sv 6 = _ := f6
        try dsimp only at f6
        obtain ⟨y1, -⟩ := (hB0.extN (by omega) (.inl (by omega)) hw').walk
        refine ⟨rfl, ?_⟩
        simp only [putsL]
        change quietTo _ _ _ _ (Sem.run _ (execOp (Act.eval (Act.put _ (some 15) (sv 6))) _) _)
        try simp only [Act.put, List.setIfInBounds_toArray, List.set_cons_succ, List.set_cons_zero]
        simp [go_sem, quietTo, Ext.refl, ↓IntWalk.iteOmega, f6, y1]
        all_goals try simp (disch := omega) only [IntWalk.i64_in]
        all_goals first
          | rfl
      refine fac_quiet 8 rfl rfl rfl (by intro _ _ h he; first | exact ⟨h.1.ext he, h.2.1.ext he, h.2.2.ext he⟩ | exact ⟨h.1.ext he, fun hr => (h.2.1 hr).ext he, h.2.2.ext he⟩ | exact ⟨h.1.ext he, fun hr => (h.2.1 hr).ext he, fun hr => (h.2.2 hr).ext he⟩) rfl rfl ?_
      apply Exists.intro
      refine ⟨fun sv w' hw' hfa => ?_, ?_⟩
      · refine ⟨rfl, ?_⟩
        simp only [putsL]
        change quietTo _ _ _ _ (Sem.run _ (execOp (Act.eval _) _) _)
        try simp only [Act.put, List.setIfInBounds_toArray, List.set_cons_succ, List.set_cons_zero]
        simp [go_sem, quietTo, Ext.refl]
        all_goals first
          | rfl
      refine fac_row 9 rfl rfl rfl (by intro _ _ h he; first | exact ⟨h.1.ext he, h.2.1.ext he, h.2.2.ext he⟩ | exact ⟨h.1.ext he, fun hr => (h.2.1 hr).ext he, h.2.2.ext he⟩ | exact ⟨h.1.ext he, fun hr => (h.2.1 hr).ext he, fun hr => (h.2.2 hr).ext he⟩) (fun _ _ h => h.2.2.2.1) (fun _ _ _ _ _ he hg hb => hb.extN (Nat.ne_of_gt (Nat.lt_of_lt_of_le hsl hg)) (.inr hg) he) ?_
      apply Exists.intro
      apply Exists.intro
      apply Exists.intro
      apply Exists.intro
      refine ⟨fun sv w' hw' hfa => ?_, ?_⟩
      · obtain ⟨f8, -⟩ := hfa
        replace f8 : sv 8 = _ := f8
        try dsimp only at f8
        refine ⟨rfl, ?_⟩
        simp only [putsL]
        change rowTo _ _ _ _ _ (Sem.run _ (execOp (Act.eval (Act.put _ (some 17) (sv 8))) _) _)
        try simp only [Act.put, List.setIfInBounds_toArray, List.set_cons_succ, List.set_cons_zero]
        simp [go_sem, rowTo, Ext.refl, f8]
        all_goals try simp (disch := omega) only [IntWalk.i64_in]
        all_goals first
          | rfl
          | exact ⟨rfl, rfl⟩
          | exact ⟨⟨rfl, rfl⟩, rfl⟩
      refine fac_loud 10 rfl rfl rfl ?_
      refine ⟨(fun y w => ∃ (b5 c5 b c9 : Nat), y 5 = .slice (some ⟨b5, 0, none⟩) (j + 1) c5 ∧ y 10 = .slice (some ⟨b, 0, none⟩) (j + 1) c9 ∧ b5 ≠ b ∧ (j + 1 ≤ ch → ph = some ⟨b, 0, none⟩ ∧ c9 = ch) ∧ (¬ j + 1 ≤ ch → wr.heap.size ≤ b ∧ OwL (HG ++ [hg]) w (z + 1) (some ⟨b, 0, none⟩) (j + 1) c9)), (fun w => StrL w s L (k + 1 + 2 * j + 1) ∧ (j + 1 ≤ cw → OwL (WD ++ [v3]) w (z + 1) pw (j + 1) cw) ∧ (j + 1 ≤ ch → OwL (HG ++ [hg]) w (z + 1) ph (j + 1) ch)), fun sv w' hw' hfa hcc => ?_, ?_, ?_, ?_⟩
      · obtain ⟨f0, f1, f2, f3, f4, f5, f6, f7, f8, f9, -⟩ := hfa
        replace f0 : sv 0 = _ := f0
        try dsimp only at f0
        replace f1 : sv 1 = _ := f1
        try dsimp only at f1
        replace f2 : sv 2 = _ := f2
        try dsimp only at f2
        replace f3 : sv 3 = _ := f3
        obtain ⟨g4, f4, l4, b4⟩ := f4
        replace f4 : sv 4 = _ := f4
        obtain ⟨b5, c5, f5, hr5, hn5, hd5⟩ := f5
        replace f5 : sv 5 = _ := f5
        replace f6 : sv 6 = _ := f6
        try dsimp only at f6
        replace f7 : sv 7 = _ := f7
        try dsimp only at f7
        replace f8 : sv 8 = _ := f8
        try dsimp only at f8
        obtain ⟨g9, f9, l9, b9⟩ := f9
        replace f9 : sv 9 = _ := f9
        obtain ⟨p9, q9⟩ := b9.walk
        obtain ⟨y1, -⟩ := (hB0.extN (by omega) (.inl (by omega)) hw').walk
        refine ⟨rfl, ?_⟩
        simp only [putsL]
        change outc _ _ (Sem.run _ (execOp (Act.eval (Act.put (Act.put (Act.put (Act.put (Act.put (Act.put (Act.put (Act.put (Act.put (Act.put _ (some 18) (sv 9)) (some 17) (sv 8)) (some 16) (sv 7)) (some 15) (sv 6)) (some 14) (sv 5)) (some 13) (sv 4)) (some 12) (sv 3)) (some 11) (sv 2)) (some 10) (sv 1)) (some 9) (sv 0))) _) _)
        try simp only [Act.put, List.setIfInBounds_toArray, List.set_cons_succ, List.set_cons_zero]
        obtain ⟨b, c9, w9, hrun, ho, hg9, hr1, hr2, hr3⟩ := hcc.2.2.app g9 hg ⟨by omega, by omega⟩ b9 (by omega) (by have := hw'.2.2.2.1; have e9 : wr.drew.heap.size = wr.heap.size := rfl; omega)
        have hwz := hw'.2.2.2.1
        have e9 : wr.drew.heap.size = wr.heap.size := rfl
        have hb5 : b5 < w'.heap.size ∧ (pw = some ⟨b5, 0, none⟩ ∧ b5 < wr.heap.size ∨ wr.heap.size ≤ b5) := by
          by_cases hr : j + 1 ≤ cw
          · have h1 := (hr5 hr).1
            have h2 := hpw.out b5 (by rw [h1]; simp [Value.ownBlock])
            exact ⟨by omega, .inl ⟨h1, h2.2⟩⟩
          · exact ⟨((hn5 hr).2.lt rfl).2, .inr (hn5 hr).1⟩
        have hne : ¬ b5 = b := by
          rcases hr3 with h1 | h1
          · have h2 := hph.out b (by rw [h1]; simp [Value.ownBlock])
            rcases hb5.2 with ⟨h3, -⟩ | h3
            · exact hfar3.out _ _ h3 h1
            · omega
          · omega
        simp [execOp, resolve, invoke, builtin, outc, Act.eval, hrun, Result.andThen, f7, f9]
        exact ⟨⟨ExtN.grown hg9 hph.out, hcc.1.grown hg9 (fun g hg => by have := hph.out g hg; omega), (fun hr => (hcc.2.1 hr).grown hg9 hfar2.out), fun hr => by obtain ⟨e1, e2⟩ := hr1 hr; rw [e1, ← e2]; exact ho⟩, b5, ⟨c5, by simp [upd, f5]⟩, b, c9, by simp [upd], hne, hr1, fun hr => ⟨Nat.le_trans hw'.2.2.2.1 (hr2 (by omega)), ho⟩⟩
      · exact fun x w w' ⟨b5, c5, b, c9, h1, h2, h3, h4, h5⟩ he => ⟨b5, c5, b, c9, h1, h2, h3, h4, fun hr => ⟨(h5 hr).1, (h5 hr).2.extN (by have := (h5 hr).1; omega) (h5 hr).1 he⟩⟩
      · exact fun _ _ h he => ⟨h.1.ext he, fun hr => (h.2.1 hr).ext he, fun hr => (h.2.2 hr).ext he⟩
      refine fac_quiet 11 rfl rfl rfl (by intro _ _ h he; first | exact ⟨h.1.ext he, h.2.1.ext he, h.2.2.ext he⟩ | exact ⟨h.1.ext he, fun hr => (h.2.1 hr).ext he, h.2.2.ext he⟩ | exact ⟨h.1.ext he, fun hr => (h.2.1 hr).ext he, fun hr => (h.2.2 hr).ext he⟩) rfl rfl ?_
      apply Exists.intro
      refine ⟨fun sv w' hw' hfa => ?_, ?_⟩
      · refine ⟨rfl, ?_⟩
        simp only [putsL]
        change quietTo _ _ _ _ (Sem.run _ (execOp (Act.eval _) _) _)
        try simp only [Act.put, List.setIfInBounds_toArray, List.set_cons_succ, List.set_cons_zero]
        simp [go_sem, quietTo, Ext.refl]
        all_goals first
          | rfl
      refine fac_nil fun xq wrq herq hfrq hcrq holdq hapq => ?_
      obtain ⟨f0, f1, f2, f3, f4, f5, f6, f7, f8, f9, f10, f11, -⟩ := hfrq
      replace f0 : xq 0 = _ := f0
      try dsimp only at f0
      replace f1 : xq 1 = _ := f1
      try dsimp only at f1
      replace f2 : xq 2 = _ := f2
      try dsimp only at f2
      replace f3 : xq 3 = _ := f3
      obtain ⟨g4, f4, l4, b4⟩ := f4
      replace f4 : xq 4 = _ := f4
      obtain ⟨b5, c5, f5, hr5, hn5, hd5⟩ := f5
      replace f5 : xq 5 = _ := f5
      replace f6 : xq 6 = _ := f6
      try dsimp only at f6
      replace f7 : xq 7 = _ := f7
      try dsimp only at f7
      replace f8 : xq 8 = _ := f8
      try dsimp only at f8
      obtain ⟨g9, f9, l9, b9⟩ := f9
      replace f9 : xq 9 = _ := f9
      obtain ⟨p9, q9⟩ := b9.walk
      obtain ⟨b5x, c5x, b10, c10, e5x, f10, hne, hr10, hn10⟩ := f10
      replace f10 : xq 10 = _ := f10
      replace e5x : xq 5 = _ := e5x
      replace f11 : xq 11 = _ := f11
      try dsimp only at f11
      change wpList _ _ _ _ (Act.put (Act.put (Act.put (Act.put (Act.put (Act.put (Act.put (Act.put (Act.put (Act.put (Act.put (Act.put _ (some 9) (xq 0)) (some 10) (xq 1)) (some 11) (xq 2)) (some 12) (xq 3)) (some 13) (xq 4)) (some 14) (xq 5)) (some 15) (xq 6)) (some 16) (xq 7)) (some 17) (xq 8)) (some 18) (xq 9)) (some 19) (xq 10)) (some 20) (xq 11)) _
      simp only [putsL, Nat.reduceAdd, List.drop_succ_cons, List.drop_zero, List.drop_nil, Act.put, List.setIfInBounds_toArray, List.set_cons_succ, List.set_cons_zero]
      try simp only [f0, f1, f2, f3, f4, f5, f6, f7, f8, f9, f10, f11]
      clear f0 f1 f2 f6 f7 f8 f11
      clear holdq hapq
      obtain ⟨e1, e2⟩ : b5x = b5 ∧ c5x = c5 := by have := e5x.symm.trans f5; simpa using this
      subst e1; subst e2
      have hwide : OwL (WD ++ [v3]) wrq (z + 1) (some ⟨b5x, 0, none⟩) (j + 1) c5x := by
        by_cases hr : j + 1 ≤ cw
        · obtain ⟨e1, e2⟩ := hr5 hr
          have := hcrq.2.1 hr
          rw [e1, ← e2] at this
          exact this
        · exact (hn5 hr).2
      have hhigh : OwL (HG ++ [hg]) wrq (z + 1) (some ⟨b10, 0, none⟩) (j + 1) c10 := by
        by_cases hr : j + 1 ≤ ch
        · obtain ⟨e1, e2⟩ := hr10 hr
          have := hcrq.2.2 hr
          rw [e1, ← e2] at this
          exact this
        · exact (hn10 hr).2
      have hbq : Blk wrq z 29 #[.slice pw j cw, .slice ph j ch] := hB1.extN (by omega) (.inl (Nat.le_refl _)) herq
      have hEq : ExtS s w wrq := ExtN.back hM.ext.drew (by omega) herq
      have hrq : Blk wrq w.heap.size 29 #[.slice none 0 0, .slice none 0 0] := hM.res.drew.extN (by omega) (.inl (by omega)) herq
      have hl1 := (hwide.lt rfl).1
      have hl2 := (hhigh.lt rfl).1
      have hM2 : StgL L (WD ++ [v3]) (HG ++ [hg]) w ((wrq.setCell ⟨z, 0, none⟩ (.slice (some ⟨b5x, 0, none⟩) (j + 1) c5x)).setCell ⟨z, 1, none⟩ (.slice (some ⟨b10, 0, none⟩) (j + 1) c10)) s (k + 1 + 2 * j + 1) z (some ⟨b5x, 0, none⟩) c5x (some ⟨b10, 0, none⟩) c10 (j + 1) (j + 1) :=
        ⟨(hEq.setCell (.inr (by simp only; omega)) _).setCell (.inr (by simp only; omega)) _, (hcrq.1.set hsz _).set hsz _, l0, hz, (hrq.far (by simp only; omega) _).far (by simp only; omega) _, ((hbq.set_ 0 _).set_ 1 _).cast (by simp), (hwide.far (fun a ha => by cases ha; simp only at hl1 ⊢; omega) _).far (fun a ha => by cases ha; simp only at hl1 ⊢; omega) _, (hhigh.far (fun a ha => by cases ha; simp only at hl2 ⊢; omega) _).far (fun a ha => by cases ha; simp only at hl2 ⊢; omega) _, fun a b ha hb => by cases ha; cases hb; exact hne⟩
      obtain ⟨z1, z2⟩ := hbq.walk
      have zl := hbq.lt
      have lq := hcrq.1.lt
      subst hz
      clear hC0 hB0 hB1 hwide hhigh hr5 hn5 hd5 hr10 hn10 f5 e5x f10 hcrq hrq hbq hM herq hl1 hl2 hfar1 hfar2 hfar3 hpw hph
      replace hM2 := Lib.hid hM2
      go_wp2_with (go_at_call 30; refine (pick_det s (k + 1 + 2 * j + 1) _ _ 4 [0, 50, 100, 200] L _ (by omega) (by simp) (by simp) (by exact hM2.out.str.ext (Ext.alloc (Ext.refl _) _)) (by exact Nat.ne_of_gt lq) (by exact Blk.new' (by simp))).mono ?_; rintro e w3 ⟨rfl, hS3, hE3⟩; rw [hmm0.out])
      go_roundw
      case rel => exact ⟨j + 1, hg + mm, some ⟨b5x, 0, none⟩, c5x, some ⟨b10, 0, none⟩, c10, by go_num, rfl, by omega, by omega, by omega, by rw [hgj.out, ← hmm0.out]; rfl, by rw [stgW_succ, stgH_succ, ← hWD.out, ← hHG.out, ← hgj.out, hv30]; exact (hM2.out.more (Ext.alloc (Ext.refl _) _)).extS hE3 (hS3.at (by omega))⟩
      case measure => simp [intOf]; omega
    · obtain rfl : j = m := by omega
      obtain ⟨bw, rfl, hbw1, hbw2⟩ := hM.wr.form (by omega)
      obtain ⟨bh, rfl, hbh1, hbh2⟩ := hM.hr.form (by omega)
      obtain ⟨bb, hbb⟩ : ∃ bb, flF L (k + 1 + 2 * j) 15 = bb := ⟨_, rfl⟩
      go_upto_if 29 with (go_at_call 7; (with_reducible refine Calls.mono (flip_det s (k + 1 + 2 * j) 15 L _ (by omega) (by omega) (by omega) (by exact hM.str)) ?_); rintro e w2 ⟨rfl, hS2, hE2⟩; rw [hbb])
      have hM2 := hM.extS hE2 hS2
      clear hM hS2 hE2
      obtain ⟨z1, z2⟩ := hM2.blk.walk
      obtain ⟨r1, r2⟩ := hM2.res.walk
      have zl := hM2.blk.lt
      cases bb
      · have hF := stgF_keep hm.out hbb
        rw [← hWD.out, ← hHG.out] at hF
        replace hF := Lib.hid hF
        replace hM2 := Lib.hid hM2
        go_wp2
        go_light
        obtain ⟨hP, hF1⟩ := hM2.out.post (k := k) (by omega) (by omega) (by omega) hF.out
        exact bodyPost_ret (results_cell_row Tryz.results6 _ _ w.heap.size 29 _ (0, 0) _ rfl hF1 Tryz.underlying29 rfl (by kernel_rfl)) rfl hP
      · obtain ⟨v5, hv50⟩ : ∃ v, odF L (k + 1 + 2 * j + 1) 1 4 = v := ⟨_, rfl⟩
        have hv5 := odF_in (L := L) (a := k + 1 + 2 * j + 1) (lo := 1) (hi := 4) (by omega) (by omega) (by omega)
        rw [hv50] at hv5
        obtain ⟨v7, hv70⟩ : ∃ v, odF L (k + 1 + 2 * j + 1 + 2) 0 5000 = v := ⟨_, rfl⟩
        have hv7 := odF_in (L := L) (a := k + 1 + 2 * j + 1 + 2) (lo := 0) (hi := 5000) (by omega) (by omega) (by omega)
        rw [hv70] at hv7
        go_upto_region 9 with fail
        obtain ⟨z, hz⟩ : ∃ z, z = w.heap.size + 1 := ⟨_, rfl⟩
        rw [← hz] at hM2 hbw1 hbh1
        have hsz : s < z := by omega
        have hzl : z < w2.heap.size := hM2.blk.lt
        have hsl : s < w2.drew.heap.size := Nat.lt_trans hsz hzl
        have hB1 : Blk w2.drew z 29 #[.slice (some ⟨bw, 0, none⟩) j cw, .slice (some ⟨bh, 0, none⟩) j ch] := hM2.blk
        have hB0 := hB1
        rw [hz] at hB0
        have hC0 : StrL w2.drew s L (k + 1 + 2 * j + 1) ∧ OwL WD w2.drew (z + 1) (some ⟨bw, 0, none⟩) j cw ∧ OwL HG w2.drew (z + 1) (some ⟨bh, 0, none⟩) j ch := ⟨hM2.str.ext (Ext.drew (Ext.refl _)), hM2.wr.ext (Ext.drew (Ext.refl _)), hM2.hr.ext (Ext.drew (Ext.refl _))⟩
        have hbw3 := (hM2.wr.lt rfl)
        have hbh3 := (hM2.hr.lt rfl)
        simp only at hbw3 hbh3
        have hne : bw ≠ bh := hM2.far _ _ rfl rfl
        have hj1 : 0 < j := by omega
        obtain ⟨x00, hx00⟩ := getD_some hM2.wr.1 hj1
        obtain ⟨x01, hx01⟩ := getD_some hM2.hr.1 hj1
        replace hx01 := Lib.hid hx01
        have hjI : (0 : Int) < j := by omega
        clear hbw2 hbh2
        refine wp_region_facts [] [([], false, false), ([0], false, false), ([], false, false), ([2], false, false), ([], false, false), ([4], true, false), ([], false, false), ([6], true, false), ([0, 1], false, false), ([0, 1, 4, 5, 8], true, false), ([2, 3], false, false)] (ExtN s z w2.heap.size) Ext (fun w => StrL w s L (k + 1 + 2 * j + 1) ∧ OwL WD w (z + 1) (some ⟨bw, 0, none⟩) j cw ∧ OwL HG w (z + 1) (some ⟨bh, 0, none⟩) j ch) (by kernel_rfl) (by kernel_rfl) Ext.refl (fun _ _ _ => ExtN.trans) (fun _ _ h => h.extN) (fun _ _ h => h.2.2.2.1) (fun _ _ h he => ⟨h.1.ext he, h.2.1.ext he, h.2.2.ext he⟩) hC0 ?_
        dsimp only [List.length_cons, List.length_nil, List.drop_succ_cons, List.drop_zero, List.drop_nil]
        refine fac_quiet 0 rfl rfl rfl (fun _ _ h he => ⟨h.1.ext he, h.2.1.ext he, h.2.2.ext he⟩) rfl rfl ?_
        apply Exists.intro
        refine ⟨fun sv w' hw' hfa => ?_, ?_⟩
        · refine ⟨rfl, ?_⟩
          simp only [putsL]
          change quietTo _ _ _ _ (Sem.run _ (execOp (Act.eval _) _) _)
          try simp only [Act.put, List.setIfInBounds_toArray, List.set_cons_succ, List.set_cons_zero]
          simp [go_sem, quietTo, Ext.refl]
          all_goals first
            | rfl
        refine fac_quiet 1 rfl rfl rfl (fun _ _ h he => ⟨h.1.ext he, h.2.1.ext he, h.2.2.ext he⟩) rfl rfl ?_
        apply Exists.intro
        refine ⟨fun sv w' hw' hfa => ?_, ?_⟩
        · obtain ⟨f0, -⟩ := hfa
          replace f0 : sv 0 = _ := f0
          try dsimp only at f0
          obtain ⟨y1, -⟩ := (hB0.extN (by omega) (.inl (by omega)) hw').walk
          refine ⟨rfl, ?_⟩
          simp only [putsL]
          change quietTo _ _ _ _ (Sem.run _ (execOp (Act.eval (Act.put _ (some 30) (sv 0))) _) _)
          try simp only [Act.put, List.setIfInBounds_toArray, List.set_cons_succ, List.set_cons_zero]
          simp [go_sem, quietTo, Ext.refl, ↓IntWalk.iteOmega, f0, y1]
          all_goals try simp (disch := omega) only [IntWalk.i64_in]
          all_goals first
            | rfl
        refine fac_quiet 2 rfl rfl rfl (fun _ _ h he => ⟨h.1.ext he, h.2.1.ext he, h.2.2.ext he⟩) rfl rfl ?_
        apply Exists.intro
        refine ⟨fun sv w' hw' hfa => ?_, ?_⟩
        · refine ⟨rfl, ?_⟩
          simp only [putsL]
          change quietTo _ _ _ _ (Sem.run _ (execOp (Act.eval _) _) _)
          try simp only [Act.put, List.setIfInBounds_toArray, List.set_cons_succ, List.set_cons_zero]
          simp [go_sem, quietTo, Ext.refl]
          all_goals first
            | rfl
        refine fac_quiet 3 rfl rfl rfl (fun _ _ h he => ⟨h.1.ext he, h.2.1.ext he, h.2.2.ext he⟩) rfl rfl ?_
        apply Exists.intro
        refine ⟨fun sv w' hw' hfa => ?_, ?_⟩
        · obtain ⟨f2, -⟩ := hfa
          replace f2 : sv 2 = _ := f2
          try dsimp only at f2
          obtain ⟨y1, -⟩ := (hB0.extN (by omega) (.inl (by omega)) hw').walk
          refine ⟨rfl, ?_⟩
          simp only [putsL]
          change quietTo _ _ _ _ (Sem.run _ (execOp (Act.eval (Act.put _ (some 32) (sv 2))) _) _)
          try simp only [Act.put, List.setIfInBounds_toArray, List.set_cons_succ, List.set_cons_zero]
          simp [go_sem, quietTo, Ext.refl, ↓IntWalk.iteOmega, f2, y1]
          all_goals try simp (disch := omega) only [IntWalk.i64_in]
          all_goals first
            | rfl
        refine fac_quiet 4 rfl rfl rfl (fun _ _ h he => ⟨h.1.ext he, h.2.1.ext he, h.2.2.ext he⟩) rfl rfl ?_
        apply Exists.intro
        refine ⟨fun sv w' hw' hfa => ?_, ?_⟩
        · refine ⟨rfl, ?_⟩
          simp only [putsL]
          change quietTo _ _ _ _ (Sem.run _ (execOp (Act.eval _) _) _)
          try simp only [Act.put, List.setIfInBounds_toArray, List.set_cons_succ, List.set_cons_zero]
          simp [go_sem, quietTo, Ext.refl]
          all_goals first
            | rfl
        refine fac_loud 5 rfl rfl rfl ?_
        refine ⟨(fun y _ => y 5 = .int .i64 v5), (fun w => StrL w s L (k + 1 + 2 * j + 1 + 2) ∧ OwL WD w (z + 1) (some ⟨bw, 0, none⟩) j cw ∧ OwL HG w (z + 1) (some ⟨bh, 0, none⟩) j ch), fun sv w' hw' hfa hcc => ?_, ?_, ?_, ?_⟩
        · obtain ⟨f4, -⟩ := hfa
          replace f4 : sv 4 = _ := f4
          try dsimp only at f4
          obtain ⟨y1, -⟩ := (hB0.extN (by omega) (.inl (by omega)) hw').walk
          refine ⟨rfl, ?_⟩
          simp only [putsL]
          change outc _ _ (Sem.run _ (execOp (Act.eval (Act.put _ (some 34) (sv 4))) _) _)
          try simp only [Act.put, List.setIfInBounds_toArray, List.set_cons_succ, List.set_cons_zero]
          simp [go_sem, outc, f4]
          refine (odd_det s (k + 1 + 2 * j + 1) 1 4 L _ (by omega) (by omega) (by omega) (by omega) (by omega) hcc.1).mono ?_
          rintro e w4 ⟨rfl, hS4, hE4⟩
          exact ⟨_, rfl, ⟨hE4.extN, hS4, hcc.2.1.extS (by omega) hE4, hcc.2.2.extS (by omega) hE4⟩, by rw [← hv50]; rfl⟩
        · intro x w w' h he; exact h
        · exact fun _ _ h he => ⟨h.1.ext he, h.2.1.ext he, h.2.2.ext he⟩
        refine fac_quiet 6 rfl rfl rfl (fun _ _ h he => ⟨h.1.ext he, h.2.1.ext he, h.2.2.ext he⟩) rfl rfl ?_
        apply Exists.intro
        refine ⟨fun sv w' hw' hfa => ?_, ?_⟩
        · refine ⟨rfl, ?_⟩
          simp only [putsL]
          change quietTo _ _ _ _ (Sem.run _ (execOp (Act.eval _) _) _)
          try simp only [Act.put, List.setIfInBounds_toArray, List.set_cons_succ, List.set_cons_zero]
          simp [go_sem, quietTo, Ext.refl]
          all_goals first
            | rfl
        refine fac_loud 7 rfl rfl rfl ?_
        refine ⟨(fun y _ => y 7 = .int .i64 v7), (fun w => StrL w s L (k + 1 + 2 * j + 1 + 2 + 2) ∧ OwL WD w (z + 1) (some ⟨bw, 0, none⟩) j cw ∧ OwL HG w (z + 1) (some ⟨bh, 0, none⟩) j ch), fun sv w' hw' hfa hcc => ?_, ?_, ?_, ?_⟩
        · obtain ⟨f6, -⟩ := hfa
          replace f6 : sv 6 = _ := f6
          try dsimp only at f6
          obtain ⟨y1, -⟩ := (hB0.extN (by omega) (.inl (by omega)) hw').walk
          refine ⟨rfl, ?_⟩
          simp only [putsL]
          change outc _ _ (Sem.run _ (execOp (Act.eval (Act.put _ (some 36) (sv 6))) _) _)
          try simp only [Act.put, List.setIfInBounds_toArray, List.set_cons_succ, List.set_cons_zero]
          simp [go_sem, outc, f6]
          refine (odd_det s (k + 1 + 2 * j + 1 + 2) 0 5000 L _ (by omega) (by omega) (by omega) (by omega) (by omega) hcc.1).mono ?_
          rintro e w4 ⟨rfl, hS4, hE4⟩
          exact ⟨_, rfl, ⟨hE4.extN, hS4, hcc.2.1.extS (by omega) hE4, hcc.2.2.extS (by omega) hE4⟩, by rw [← hv70]; rfl⟩
        · intro x w w' h he; exact h
        · exact fun _ _ h he => ⟨h.1.ext he, h.2.1.ext he, h.2.2.ext he⟩
        refine fac_quiet 8 rfl rfl rfl (fun _ _ h he => ⟨h.1.ext he, h.2.1.ext he, h.2.2.ext he⟩) rfl rfl ?_
        apply Exists.intro
        refine ⟨fun sv w' hw' hfa => ?_, ?_⟩
        · obtain ⟨_, f1, -⟩ := hfa
          replace f1 : sv 1 = _ := f1
          try dsimp only at f1
          obtain ⟨y1, -⟩ := (hB0.extN (by omega) (.inl (by omega)) hw').walk
          refine ⟨rfl, ?_⟩
          simp only [putsL]
          change quietTo _ _ _ _ (Sem.run _ (execOp (Act.eval (Act.put (Act.put _ (some 31) (sv 1)) (some 30) (sv 0))) _) _)
          try simp only [Act.put, List.setIfInBounds_toArray, List.set_cons_succ, List.set_cons_zero]
          simp [go_sem, quietTo, Ext.refl, ↓IntWalk.iteOmega, f1, hjI]
          all_goals try simp (disch := omega) only [IntWalk.i64_in]
          all_goals first
            | rfl
        refine fac_loud 9 rfl rfl rfl ?_
        refine ⟨(fun y _ => y 9 = undef), (fun w => StrL w s L (k + 1 + 2 * j + 1 + 2 + 2) ∧ OwL (WD.set 0 v5) w (z + 1) (some ⟨bw, 0, none⟩) j cw ∧ OwL HG w (z + 1) (some ⟨bh, 0, none⟩) j ch), fun sv w' hw' hfa hcc => ?_, ?_, ?_, ?_⟩
        · obtain ⟨f0, f1, f4, f5, f8, -⟩ := hfa
          replace f0 : sv 0 = _ := f0
          try dsimp only at f0
          replace f1 : sv 1 = _ := f1
          try dsimp only at f1
          replace f4 : sv 4 = _ := f4
          try dsimp only at f4
          replace f5 : sv 5 = _ := f5
          replace f8 : sv 8 = _ := f8
          try dsimp only at f8
          obtain ⟨y1, -⟩ := (hB0.extN (by omega) (.inl (by omega)) hw').walk
          refine ⟨rfl, ?_⟩
          simp only [putsL]
          change outc _ _ (Sem.run _ (execOp (Act.eval (Act.put (Act.put (Act.put (Act.put (Act.put _ (some 38) (sv 8)) (some 35) (sv 5)) (some 34) (sv 4)) (some 31) (sv 1)) (some 30) (sv 0))) _) _)
          try simp only [Act.put, List.setIfInBounds_toArray, List.set_cons_succ, List.set_cons_zero]
          have hx0 := hcc.2.1.cell hx00
          have hf0 := hcc.2.1.frozen 0
          simp [go_sem, outc, f8, f5, hx0, hf0]
          exact ⟨⟨ExtN.set (ExtN.refl _ _ _ _) ⟨by simp only; omega, hbw3.2⟩ _, hcc.1.set (by simp only; omega) _, hcc.2.1.set hj1 _ hv5, hcc.2.2.far (fun a ha => by cases ha; exact hne.symm) _⟩, by simp [upd]⟩
        · intro x w w' h he; exact h
        · exact fun _ _ h he => ⟨h.1.ext he, h.2.1.ext he, h.2.2.ext he⟩
        refine fac_quiet 10 rfl rfl rfl (fun _ _ h he => ⟨h.1.ext he, h.2.1.ext he, h.2.2.ext he⟩) rfl rfl ?_
        apply Exists.intro
        refine ⟨fun sv w' hw' hfa => ?_, ?_⟩
        · obtain ⟨_, f3, -⟩ := hfa
          replace f3 : sv 3 = _ := f3
          try dsimp only at f3
          obtain ⟨y1, -⟩ := (hB0.extN (by omega) (.inl (by omega)) hw').walk
          refine ⟨rfl, ?_⟩
          simp only [putsL]
          change quietTo _ _ _ _ (Sem.run _ (execOp (Act.eval (Act.put (Act.put _ (some 33) (sv 3)) (some 32) (sv 2))) _) _)
          try simp only [Act.put, List.setIfInBounds_toArray, List.set_cons_succ, List.set_cons_zero]
          simp [go_sem, quietTo, Ext.refl, ↓IntWalk.iteOmega, f3, hjI]
          all_goals try simp (disch := omega) only [IntWalk.i64_in]
          all_goals first
            | rfl
        refine fac_nil fun xq wrq herq hfrq hcrq holdq hapq => ?_
        obtain ⟨f0, f1, f2, f3, f4, f5, f6, f7, f8, f9, f10, -⟩ := hfrq
        replace f0 : xq 0 = _ := f0
        try dsimp only at f0
        replace f1 : xq 1 = _ := f1
        try dsimp only at f1
        replace f2 : xq 2 = _ := f2
        try dsimp only at f2
        replace f3 : xq 3 = _ := f3
        try dsimp only at f3
        replace f4 : xq 4 = _ := f4
        try dsimp only at f4
        replace f5 : xq 5 = _ := f5
        replace f6 : xq 6 = _ := f6
        try dsimp only at f6
        replace f7 : xq 7 = _ := f7
        replace f8 : xq 8 = _ := f8
        try dsimp only at f8
        replace f10 : xq 10 = _ := f10
        try dsimp only at f10
        change wpList _ _ _ _ (Act.put (Act.put (Act.put (Act.put (Act.put (Act.put (Act.put (Act.put (Act.put (Act.put (Act.put _ (some 30) (xq 0)) (some 31) (xq 1)) (some 32) (xq 2)) (some 33) (xq 3)) (some 34) (xq 4)) (some 35) (xq 5)) (some 36) (xq 6)) (some 37) (xq 7)) (some 38) (xq 8)) none (xq 9)) (some 39) (xq 10)) _
        simp only [putsL, Nat.reduceAdd, List.drop_succ_cons, List.drop_zero, List.drop_nil, Act.put, List.setIfInBounds_toArray, List.set_cons_succ, List.set_cons_zero]
        try simp only [f0, f1, f2, f3, f4, f5, f6, f7, f8, f10]
        clear f0 f1 f2 f3 f4 f6 f8 f10
        clear holdq hapq
        have hx1 := hcrq.2.2.cell hx01.out
        have hf1 := hcrq.2.2.frozen 0
        have hbq := hB1.extN (by omega) (.inl (Nat.le_refl _)) herq
        have hEq : ExtS s w wrq := ExtN.back hM2.ext.drew (by omega) herq
        have hrq : Blk wrq w.heap.size 29 #[.slice none 0 0, .slice none 0 0] := hM2.res.drew.extN (by omega) (.inl (by omega)) herq
        have hM3 : StgL L (WD.set 0 v5) (HG.set 0 v7) w (wrq.setCell ⟨bh, 0, none⟩ (.int .i64 v7)) s (k + 1 + 2 * j + 1 + 2 + 2) z (some ⟨bw, 0, none⟩) cw (some ⟨bh, 0, none⟩) ch j j :=
          ⟨hEq.setCell (.inr (by simp only; omega)) _, hcrq.1.set (by simp only; omega) _, l0, hz, hrq.far (by simp only; omega) _, hbq.far (by simp only; omega) _, hcrq.2.1.far (fun a ha => by cases ha; exact hne) _, hcrq.2.2.set hj1 _ hv7, hM2.far⟩
        subst hz
        clear hC0 hB0 hB1 hrq hEq hbq herq hM2 z1 z2 r1 r2 zl hcrq f5 f7 f9
        replace hM3 := Lib.hid hM3
        obtain ⟨bb, hbb2⟩ : ∃ bb, flF L (k + 1 + 2 * j + 1 + 2 + 2) 3 = bb := ⟨_, rfl⟩
        go_upto_if 41 with (go_at_call 7; (with_reducible refine Calls.mono (flip_det s (k + 1 + 2 * j + 1 + 2 + 2) 3 L _ (by omega) (by omega) (by omega) (by exact hM3.out.str)) ?_); rintro e w4 ⟨rfl, hS4, hE4⟩; rw [hbb2])
        have hM4 := hM3.out.extS hE4 hS4
        clear hM3 hS4 hE4 hx1 hf1
        obtain ⟨z1, z2⟩ := hM4.blk.walk
        obtain ⟨r1, r2⟩ := hM4.res.walk
        have zl := hM4.blk.lt
        have hb4 := hM4.hr.lt rfl
        simp only at hb4
        replace hM4 := Lib.hid hM4
        cases bb
        · have hF := stgF_one hm.out hbb hbb2
          rw [← hWD.out, ← hHG.out, hv50, show k + 1 + 2 * j + 3 = k + 1 + 2 * j + 1 + 2 from rfl, hv70] at hF
          replace hF := Lib.hid hF
          go_wp2
          go_light
          obtain ⟨hP, hF1⟩ := hM4.out.post (k := k) (by omega) (by omega) (by omega) hF.out
          exact bodyPost_ret (results_cell_row Tryz.results6 _ _ w.heap.size 29 _ (0, 0) _ rfl hF1 Tryz.underlying29 rfl (by kernel_rfl)) rfl hP
        · have hF := stgF_two hm.out hbb hbb2
          rw [← hWD.out, ← hHG.out, hv50, show k + 1 + 2 * j + 3 = k + 1 + 2 * j + 1 + 2 from rfl, hv70] at hF
          replace hF := Lib.hid hF
          go_wp2_with (at_builtin; go_loud (refine wpList_appL _ rfl (.tmp 43) (.tmp 44) rfl rfl (w.heap.size + 1 + 1) (some ⟨bh, 0, none⟩) j ch rfl (hM4.out.hr.ext ((Ext.refl _).alloc _)) w4.heap.size 0 (by omega) rfl (Blk.new' rfl) (by omega) (by simp; omega) ?_; intro b9 c9 w6 ho6 hg6 hd6; have hb6 := (hM4.out.blk.alloc _).grownI hg6 (fun q hq => by have e : bh = q := (by simpa [Value.ownBlock] using hq); omega); have hr6 := (hM4.out.res.alloc _).grownI hg6 (fun q hq => by have e : bh = q := (by simpa [Value.ownBlock] using hq); omega); obtain ⟨z3, z4⟩ := hb6.walk; obtain ⟨r3, r4⟩ := hr6.walk; have zl6 := hb6.lt))
          have hgx : ∀ q, (Value.slice (some ⟨bh, 0, none⟩) j ch).ownBlock = some q → q = bh := fun q hq => by simpa [Value.ownBlock] using hq.symm
          have hM5 : StgL L (WD.set 0 v5) (HG.set 0 v7 ++ [0]) w (w6.setCell ⟨w.heap.size + 1, 1, none⟩ (.slice (some ⟨b9, 0, none⟩) (j + 1) c9)) s (k + 1 + 2 * j + 1 + 2 + 2 + 1) (w.heap.size + 1) (some ⟨bw, 0, none⟩) cw (some ⟨b9, 0, none⟩) c9 j (j + 1) := by
            have hlo := (ho6.lt rfl).1
            have hwl := hM4.out.wr.lt rfl
            simp only at hlo hwl
            have hsw := hM4.out.low
            have hww : OwL (WD.set 0 v5) w6 (w.heap.size + 1 + 1) (some ⟨bw, 0, none⟩) j cw := (hM4.out.wr.ext ((Ext.refl _).alloc _)).grown hg6 (fun a ha e => by cases ha; exact hne (hgx _ e.symm))
            refine ⟨?_, ?_, l0, rfl, hr6.far (by simp only; omega) _, (hb6.set_ 1 _).cast (by simp), hww.far (fun a ha => by cases ha; simp only; omega) _, ho6.far (fun a ha => by cases ha; simp only; omega) _, fun a b ha hb => ?_⟩
            · refine ExtS.setCell ?_ (.inr (by simp only; omega)) _
              have h7 := hM4.out.ext.alloc (.cells #[.int .i64 0] 3)
              exact ⟨hg6.os.trans h7.1, hg6.tape.trans h7.2.1, hg6.output.trans h7.2.2.1, Nat.le_trans h7.2.2.2.1 hg6.size, fun i hi hn => (hg6.block i (Nat.lt_of_lt_of_le hi h7.2.2.2.1) fun e => by have := hgx i e.symm; omega).trans (h7.2.2.2.2 i hi hn)⟩
            · exact ((hM4.out.str.ext ((Ext.refl _).alloc _)).grown hg6 (fun q hq => by have := hgx q hq; omega)).set (by simp only; omega) _
            · cases ha; cases hb
              simp only
              rcases hd6 with h8 | h8
              · cases h8; exact hne
              · simp at h8; omega
          go_light
          obtain ⟨hP, hF1⟩ := hM5.post (k := k) (by omega) (by omega) (by omega) hF.out
          exact bodyPost_ret (results_cell_row Tryz.results6 _ _ w.heap.size 29 _ (0, 0) _ rfl hF1 Tryz.underlying29 rfl (by kernel_rfl)) rfl hP
end Go.Proofs.YtfcoeikekbjgpaaGreatDoor
