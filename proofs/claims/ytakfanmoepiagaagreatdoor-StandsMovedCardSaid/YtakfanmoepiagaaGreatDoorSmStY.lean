/- Numbers in some order, made by the stream. Conditions: as each theorem says. -/
import Derived.Test.YtakfanmoepiagaaGreatDoorSmStX
set_option linter.unusedSimpArgs false
set_option linter.unusedVariables false
namespace Go.Proofs.YtakfanmoepiagaaGreatDoor
open Go Go.RowKit

/-- A row of n numbers of the call's own, each of a kind. -/
def OwG (Q : Int → Prop) (w : World) (base : Nat) (p : Option Addr) (n c : Nat) : Prop := ∃ xs : List Int, xs.length = n ∧ (∀ x ∈ xs, Q x) ∧ w.ownsRow base 3 1 (.slice p n c) n (xs.flatMap intC)
section
variable {Q : Int → Prop}
theorem OwG.same {w w' : World} {base n c : Nat} {p : Option Addr} (h : OwG Q w base p n c) (hs : ∀ a, p = some a → w'.heap[a.block]? = w.heap[a.block]?) : OwG Q w' base p n c := by
  obtain ⟨xs, h1, h2, h3⟩ := h
  refine ⟨xs, h1, h2, own_same h3 fun g hg => ?_⟩
  cases p with
  | none => simp [Value.ownBlock] at hg
  | some a =>
    have : a.block = g := by simpa [Value.ownBlock] using hg
    rw [← this]
    exact hs a rfl
theorem OwG.lt {w : World} {base n c : Nat} {p : Option Addr} (h : OwG Q w base p n c) {a : Addr} (ha : p = some a) : base ≤ a.block ∧ a.block < w.heap.size := by
  obtain ⟨xs, h1, h2, h3⟩ := h
  subst ha
  exact h3.lt a.block rfl
theorem OwG.ext {w w' : World} {base n c : Nat} {p : Option Addr} (h : OwG Q w base p n c) (he : Ext w w') : OwG Q w' base p n c := h.same fun a ha => he.blk (h.lt ha).2
theorem OwG.extS {s : Nat} {w w' : World} {base n c : Nat} {p : Option Addr} (h : OwG Q w base p n c) (hs : s < base) (he : ExtS s w w') : OwG Q w' base p n c := h.same fun a ha => he.2.2.2.2 _ (h.lt ha).2 (by have := (h.lt ha).1; omega)
theorem OwG.nil (w : World) (base : Nat) : OwG Q w base none 0 0 := ⟨[], rfl, (fun x hx => by cases hx), World.ownsRow_nil _ _ _ _⟩
theorem OwG.slc {w : World} {base n c : Nat} {p : Option Addr} (h : OwG Q w base p n c) (hn : n ≤ 1000000000) : ∃ xs : List Int, xs.length = n ∧ (∀ x ∈ xs, Q x) ∧ Slc 1 intC w p n c xs := by
  obtain ⟨xs, h1, h2, h3⟩ := h
  obtain ⟨p', c', e, hS⟩ := slc_of_own intC_len h3 (by decide) hn
  cases e
  exact ⟨xs, h1, h2, hS⟩
theorem OwG.form {w : World} {base n c : Nat} {p : Option Addr} (h : OwG Q w base p n c) (hn : 0 < n) : ∃ b, p = some ⟨b, 0, none⟩ ∧ base ≤ b ∧ b < w.heap.size := by
  obtain ⟨xs, h1, h2, h3⟩ := h
  obtain ⟨b, c', e, hb, hl⟩ := h3.form hn
  cases e
  exact ⟨b, rfl, hb, hl⟩
theorem OwG.cell {w : World} {base n c b : Nat} (h : OwG Q w base (some ⟨b, 0, none⟩) n c) {i : Nat} (hi : i < n) : ∃ x : Int, Q x ∧ w.cell? ⟨b, i, none⟩ = some (.int .i64 x) := by
  obtain ⟨xs, h1, h2, h3⟩ := h
  obtain ⟨x, hx⟩ := getD_some h1 hi
  have := own_cell intC_len h3 hx 0 (v := .int .i64 x) rfl hi
  exact ⟨x, h2 x (List.mem_of_getElem? hx), by simpa using this⟩
theorem OwG.frozen {w : World} {base n c b : Nat} (h : OwG Q w base (some ⟨b, 0, none⟩) n c) (i : Nat) : w.frozen? ⟨b, i, none⟩ = false := by
  obtain ⟨xs, h1, h2, h3⟩ := h
  exact h3.frozenAt i
theorem OwG.set {w : World} {base n c b : Nat} (h : OwG Q w base (some ⟨b, 0, none⟩) n c) {i : Nat} (hi : i < n) (v : Int) (hv : Q v) : OwG Q (w.setCell ⟨b, i, none⟩ (.int .i64 v)) base (some ⟨b, 0, none⟩) n c := by
  obtain ⟨xs, h1, h2, h3⟩ := h
  obtain ⟨x, hx⟩ := getD_some h1 hi
  refine ⟨xs.set i v, by rw [List.length_set, h1], fun y hy => ?_, ?_⟩
  · rcases List.mem_or_eq_of_mem_set hy with h4 | h4
    · exact h2 y h4
    · subst h4; exact hv
  · have := own_set1 intC_len h3 v hx 0 (by decide) (.int .i64 v) rfl
    simpa using this
theorem OwG.far {w : World} {base n c : Nat} {p : Option Addr} (h : OwG Q w base p n c) {q : Addr} (hq : ∀ a, p = some a → a.block ≠ q.block) (u : Value) : OwG Q (w.setCell q u) base p n c := h.same fun a ha => Below.heap_setCell w q u a.block (hq a ha)
theorem OwG.grown {w w' : World} {base n c : Nat} {p : Option Addr} {r : Option Nat} (h : OwG Q w base p n c) (hg : w.grownBy w' r) (hr : ∀ a, p = some a → some a.block ≠ r) : OwG Q w' base p n c := h.same fun a ha => hg.block _ (h.lt ha).2 (hr a ha)

theorem OwG.app {w : World} {base n c : Nat} {p : Option Addr} (h : OwG Q w base p n c) (g : Nat) (v : Int) (hv : Q v) (hB : Blk w g 3 #[.int .i64 v]) (hn : n ≤ 1000) (hbase : base ≤ w.heap.size) :
    ∃ b c' w', (Builtin.append_ #[22, 22] 22 #[.slice p n c, .slice (some ⟨g, 0, none⟩) 1 1]).run Tryz.prog w = .ok (.slice (some ⟨b, 0, none⟩) (n + 1) c') w' ∧ OwG Q w' base (some ⟨b, 0, none⟩) (n + 1) c' ∧ w.grownBy w' (Value.slice p n c).ownBlock ∧ (n + 1 ≤ c → p = some ⟨b, 0, none⟩ ∧ c' = c) ∧ (¬ n + 1 ≤ c → w.heap.size ≤ b) ∧ (p = some ⟨b, 0, none⟩ ∨ w.heap.size ≤ b) := by
  obtain ⟨xs, hl, hs, hown⟩ := h
  have hcell : ∀ (j : Nat) (u : Value), (intC v)[j]? = some u → w.cell? ((⟨g, 0, none⟩ : Addr).add j) = some u := fun j u hu => by
    have : (⟨g, 0, none⟩ : Addr).add j = ⟨g, j, none⟩ := by unfold Addr.add; split <;> simp_all
    rw [this, hB.cell j]
    simpa [intC] using hu
  have h1 : ∀ u ∈ intC v, u.oneCell' = true := by simp [intC, Value.oneCell']
  have hnew : ∀ {w' : World} {b c' : Nat}, w'.ownsRow base 3 1 (.slice (some ⟨b, 0, none⟩) (n + 1) c') (n + 1) (xs.flatMap intC ++ intC v) → OwG Q w' base (some ⟨b, 0, none⟩) (n + 1) c' := fun ho => ⟨xs ++ [v], by simp [hl], fun y hy => by
    rcases List.mem_append.1 hy with h4 | h4
    · exact hs y h4
    · rw [List.mem_singleton] at h4; subst h4; exact hv, by rw [flat_snoc]; exact ho⟩
  have ht := Tryz.underlying22
  obtain ⟨i0, hi, hz0, hz1, hz2⟩ := info_parts intInfoT
  rcases hown.2 with ⟨he, hn0⟩ | ⟨b, cap, cur, he, hb, hg, hnc, hcm, hcs, htk⟩
  · cases he
    obtain rfl : xs = [] := List.eq_nil_of_length_eq_zero (by omega)
    obtain ⟨v', w', hr, h2, h3, -⟩ := run_append_own (P := Tryz.prog) w w.heap.size 22 22 3 i0 (.int .i64 0) 1 8 ht hi hz0 hz1 hz2 rfl (by decide) (.slice none 0 0) 0 [] (World.ownsRow_nil _ _ _ _) ⟨g, 0, none⟩ 1 1 (intC v) rfl hcell h1 (by unfold maxLen; omega) (by omega) (Nat.le_refl _)
    obtain ⟨b, c', rfl, hb, _⟩ := h2.form (by omega)
    exact ⟨b, c', w', hr, hnew (own_lowT h2 hbase), h3, fun h => absurd h (by omega), fun _ => hb, .inr hb⟩
  · cases he
    by_cases hroom : n + 1 ≤ c
    · obtain ⟨w', hr, h2, h3⟩ := run_append_fits (P := Tryz.prog) w base 22 22 3 i0 1 ht hi hz1 b n c (xs.flatMap intC) hown ⟨g, 0, none⟩ 1 1 (intC v) rfl hcell h1 hroom
      exact ⟨b, c, w', hr, hnew h2, h3, fun _ => ⟨rfl, rfl⟩, fun h => absurd hroom h, .inl rfl⟩
    · obtain ⟨v', w', hr, h2, h3⟩ := run_append_arg_grows (P := Tryz.prog) w 22 22 3 i0 (.int .i64 0) 1 8 ht hi hz0 hz1 hz2 rfl (by decide) ⟨b, 0, none⟩ n c (xs.flatMap intC) hown.1 (fun j u hj => by
        have := hown.cells (g := b) rfl j u hj
        have e2 : (⟨b, 0, none⟩ : Addr).add j = ⟨b, j, none⟩ := by unfold Addr.add; split <;> simp_all
        simpa [e2] using this) ⟨g, 0, none⟩ 1 1 (intC v) rfl hcell (by omega) (by unfold maxLen; omega) (by omega)
      obtain ⟨b', c', rfl, hb', _⟩ := h2.form (by omega)
      exact ⟨b', c', w', hr, hnew (own_lowT h2 hbase), grown_noneT h3 _, fun h => absurd h hroom, fun _ => hb', .inr hb'⟩

theorem wpList_appG (w : World) {ops : Array Oper} {rest : List Oper} {o : Oper} {a : Act} {Qx : Exit → Act → World → Prop} (hgd : o.guard = none) (s x : Operand) (ho : o.op = .call { callee := .builtin .append, args := #[s, x], argTypes := #[22, 22] }) (hty : o.type = 22)
    (base : Nat) (p : Option Addr) (n c : Nat) (hs : a.eval s = .slice p n c) (h : OwG Q w base p n c) (g : Nat) (v : Int) (hv : Q v) (hx : a.eval x = .slice (some ⟨g, 0, none⟩) 1 1) (hB : Blk w g 3 #[.int .i64 v]) (hn : n ≤ 1000) (hbase : base ≤ w.heap.size)
    (hk : ∀ b c' w', OwG Q w' base (some ⟨b, 0, none⟩) (n + 1) c' → w.grownBy w' (Value.slice p n c).ownBlock → (p = some ⟨b, 0, none⟩ ∨ w.heap.size ≤ b) → wpList Tryz.prog ops Qx rest (a.put o.dst (.slice (some ⟨b, 0, none⟩) (n + 1) c')) w') : wpList Tryz.prog ops Qx (o :: rest) a w := by
  refine wpList_plain hgd fun K' hK' => ?_
  obtain ⟨b, c', w', hrun, h2, h3, -, -, h4⟩ := h.app g v hv hB hn hbase
  unfold Oper.wp
  simp [execOp, ho, resolve, invoke, builtin, hs, hx, hty, hrun, Result.andThen]
  exact hK' _ _ (hk b c' w' h2 h3 h4)
theorem OwG.own {w : World} {base n c : Nat} {p : Option Addr} (h : OwG Q w base p n c) : ∀ q, (Value.slice p n c).ownBlock = some q → base ≤ q := fun q hq => by
  cases p with
  | none => simp [Value.ownBlock] at hq
  | some a =>
    have e : a.block = q := by simpa [Value.ownBlock] using hq
    have := (h.lt rfl).1
    omega
end

theorem ExtS.grownX {s : Nat} {a b c : World} {r : Option Nat} (h : ExtS s a b) (hg : b.grownBy c r) (hr : ∀ q, r = some q → a.heap.size ≤ q) : ExtS s a c :=
  ⟨hg.os.trans h.1, hg.tape.trans h.2.1, hg.output.trans h.2.2.1, Nat.le_trans h.2.2.2.1 hg.size, fun j hj hn => (hg.block j (Nat.lt_of_lt_of_le hj h.2.2.2.1) fun e => by have := hr j e.symm; omega).trans (h.2.2.2.2 j hj hn)⟩

set_option maxRecDepth 100000 in
set_option maxHeartbeats 6400000 in
theorem order_any (s k n : Nat) (w : World) (hk : k ≤ 990000) (hn : n ≤ 9) (h : Str w s k) :
    Calls Tryz.prog 77 #[.pointer (some ⟨s, 0, none⟩), .int .i64 n] w fun e w' => ∃ (p : Option Addr) (c : Nat), e = .returned (.slice p n c) ∧ OwG (fun x => 0 ≤ x ∧ x < n) w' w.heap.size p n c ∧ Str w' s (k + n) ∧ ExtS s w w' := by
  have l0 := h.lt
  go_enter Tryz.func77, Tryz.ntmps77
  go_wp2
  go_loopw [5, 10] (fun v5 v10 wr => ∃ (j : Nat) (p : Option Addr) (c : Nat), v10 = .int .i64 j ∧ v5 = .slice p j c ∧ j ≤ n ∧ OwG (fun x => 0 ≤ x ∧ x < n) wr w.heap.size p j c ∧ Str wr s k ∧ ExtS s w wr) (fun _ v10 _ => n - (intOf v10).toNat)
  case atStart => exact ⟨0, none, 0, rfl, rfl, Nat.zero_le _, OwG.nil _ _, h, ExtS.refl _ _⟩
  case round =>
    clear h
    obtain ⟨j, p, c, rfl, rfl, hj, hO, hS, hE⟩ := hrel
    have hsz := hE.2.2.2.1
    by_cases hlt : j < n
    · go_wp2_with (at_builtin; go_loud (refine wpList_appG _ rfl (.tmp 13) (.tmp 15) rfl rfl w.heap.size p j c rfl (hO.ext ((Ext.refl _).alloc _)) wr.heap.size j (by omega) rfl (Blk.new' rfl) (by omega) (by simp; omega) ?_; intro b1 c1 w6 ho6 hg6 hd6))
      go_roundw
      case rel => exact ⟨j + 1, _, c1, by go_num, rfl, by omega, ho6, (hS.ext ((Ext.refl _).alloc _)).grown hg6 (fun q hq => by have := hO.own q hq; omega), (hE.alloc _).grownX hg6 (fun q hq => hO.own q hq)⟩
      case measure => simp [intOf]; omega
    · obtain rfl : j = n := by omega
      have hjw : IntKind.i64.wrap ((j : Int) - 1) = (j : Int) - 1 := IntWalk.i64_in _ (by omega)
      go_wp2
      go_loopw [7] (fun v7 wr => (v7 = .int .i64 ((j : Int) - 1) ∧ j = 0 ∨ ∃ q : Nat, v7 = .int .i64 q ∧ q < j) ∧ ∃ u, u + (intOf v7).toNat ≤ j ∧ OwG (fun x => 0 ≤ x ∧ x < j) wr w.heap.size p j c ∧ Str wr s (k + u) ∧ ExtS s w wr) (fun v7 _ => (intOf v7).toNat)
      case atStart =>
        refine ⟨?_, 0, by simp [intOf] <;> omega, hO, hS, hE⟩
        rcases Nat.eq_zero_or_pos j with h0 | h0
        · exact .inl ⟨rfl, h0⟩
        · exact .inr ⟨j - 1, by rw [show (((j - 1 : Nat)) : Int) = (j : Int) - 1 by omega], by omega⟩
      case round =>
        clear hO hS hE hjw
        obtain ⟨hv, u, hu, hO, hS, hE⟩ := hrel
        rcases hv with ⟨rfl, h0⟩ | ⟨q, rfl, hq⟩
        · have hle : ¬ 0 < (j : Int) - 1 := by omega
          have hle2 : (j : Int) ≤ 1 := by omega
          replace h0 := Lib.hid h0
          go_wp2
          go_ret
          exact ⟨p, c, rfl, hO, hS.more (by simp [intOf] at hu; omega), hE⟩
        · simp only [intOf, Int.toNat_natCast] at hu
          rcases Nat.eq_zero_or_pos q with h0 | h0
          · have hle : ¬ 0 < (q : Int) := by omega
            replace h0 := Lib.hid h0
            go_wp2
            go_ret
            exact ⟨p, c, rfl, hO, hS.more (by omega), hE⟩
          · have hpos : 0 < (q : Int) := by omega
            have hnx := next_any s (k + u) (q + 1) wr (by omega) (by omega) (by omega) hS
            simp only [Int.natCast_add, Int.natCast_one] at hnx
            obtain ⟨b, rfl, hb1, hb2⟩ := hO.form (by omega)
            have hsz := hE.2.2.2.1
            have hwq : IntKind.i64.wrap ((q : Int) + 1) = (q : Int) + 1 := IntWalk.i64_in _ (by omega)
            have hwq2 : IntKind.i64.wrap ((q : Int) - 1) = (q : Int) - 1 := IntWalk.i64_in _ (by omega)
            replace hnx := Lib.hid hnx
            go_upto_region 11 with (go_at_call 43; (with_reducible refine Calls.mono hnx.out ?_); rintro e w2 ⟨i, rfl, hi, hS2, hE2⟩)
            have hO2 := hO.extS (by omega) hE2
            have hE3 := hE.trans hE2
            clear hO hS hE hE2
            obtain ⟨x1, hx1, c1⟩ := hO2.cell (i := i) (by omega)
            obtain ⟨x2, hx2, c2⟩ := hO2.cell (i := q) (by omega)
            have hbl := (hO2.lt rfl).2
            simp only at hbl
            have hiI : (i : Int) < j := by omega
            have hqI : (q : Int) < j := by omega
            refine wp_region_facts [2, 3] [([], false, false), ([], false, false), ([], false, false), ([], false, false), ([], false, false), ([], false, false), ([4, 5], false, false), ([4, 5, 6], false, false), ([], false, false), ([], false, false), ([8, 9], false, false), ([8, 9, 10], false, false), ([0, 1], false, false)] (Ext) Ext (fun _ => True) (by kernel_rfl) (by kernel_rfl) Ext.refl (fun _ _ _ => Ext.trans) (fun _ _ h => h) (fun _ _ h => h.size) (fun _ _ h _ => h) trivial ?_
            dsimp only [List.length_cons, List.length_nil, List.drop_succ_cons, List.drop_zero, List.drop_nil]
            refine fac_quiet 0 rfl rfl rfl (fun _ _ h _ => h) rfl rfl ?_
            apply Exists.intro
            refine ⟨fun sv w' hw' hfa => ?_, ?_⟩
            · refine ⟨rfl, ?_⟩
              simp only [putsL]
              change quietTo _ _ _ _ (Sem.run _ (execOp (Act.eval _) _) _)
              try simp only [Act.put, List.setIfInBounds_toArray, List.set_cons_succ, List.set_cons_zero]
              simp [go_sem, quietTo, Ext.refl]
              all_goals first
                | rfl
            refine fac_quiet 1 rfl rfl rfl (fun _ _ h _ => h) rfl rfl ?_
            apply Exists.intro
            refine ⟨fun sv w' hw' hfa => ?_, ?_⟩
            · refine ⟨rfl, ?_⟩
              simp only [putsL]
              change quietTo _ _ _ _ (Sem.run _ (execOp (Act.eval _) _) _)
              try simp only [Act.put, List.setIfInBounds_toArray, List.set_cons_succ, List.set_cons_zero]
              simp [go_sem, quietTo, Ext.refl]
              all_goals first
                | rfl
            refine fac_late 2 rfl rfl Ext.refl (fun _ _ h _ => h) rfl rfl (fun _ _ _ _ h => h) ?_
            apply Exists.intro
            refine ⟨fun sv w' hw' hfa => ?_, ?_⟩
            · refine ⟨rfl, fun w2 => ?_⟩
              simp only [putsL]
              change pureTo _ _ (Sem.run _ (execOp (Act.eval _) _) _)
              try simp only [Act.put, List.setIfInBounds_toArray, List.set_cons_succ, List.set_cons_zero]
              simp [go_sem, pureTo]
              all_goals try simp (disch := omega) only [IntWalk.i64_in]
              all_goals first
                | rfl
            refine fac_late 3 rfl rfl Ext.refl (fun _ _ h _ => h) rfl rfl (fun _ _ _ _ h => h) ?_
            apply Exists.intro
            refine ⟨fun sv w' hw' hfa => ?_, ?_⟩
            · refine ⟨rfl, fun w2 => ?_⟩
              simp only [putsL]
              change pureTo _ _ (Sem.run _ (execOp (Act.eval _) _) _)
              try simp only [Act.put, List.setIfInBounds_toArray, List.set_cons_succ, List.set_cons_zero]
              simp [go_sem, pureTo]
              all_goals try simp (disch := omega) only [IntWalk.i64_in]
              all_goals first
                | rfl
            refine fac_quiet 4 rfl rfl rfl (fun _ _ h _ => h) rfl rfl ?_
            apply Exists.intro
            refine ⟨fun sv w' hw' hfa => ?_, ?_⟩
            · refine ⟨rfl, ?_⟩
              simp only [putsL]
              change quietTo _ _ _ _ (Sem.run _ (execOp (Act.eval _) _) _)
              try simp only [Act.put, List.setIfInBounds_toArray, List.set_cons_succ, List.set_cons_zero]
              simp [go_sem, quietTo, Ext.refl]
              all_goals first
                | rfl
            refine fac_quiet 5 rfl rfl rfl (fun _ _ h _ => h) rfl rfl ?_
            apply Exists.intro
            refine ⟨fun sv w' hw' hfa => ?_, ?_⟩
            · refine ⟨rfl, ?_⟩
              simp only [putsL]
              change quietTo _ _ _ _ (Sem.run _ (execOp (Act.eval _) _) _)
              try simp only [Act.put, List.setIfInBounds_toArray, List.set_cons_succ, List.set_cons_zero]
              simp [go_sem, quietTo, Ext.refl]
              all_goals first
                | rfl
            refine fac_quiet 6 rfl rfl rfl (fun _ _ h _ => h) rfl rfl ?_
            apply Exists.intro
            refine ⟨fun sv w' hw' hfa => ?_, ?_⟩
            · obtain ⟨f4, f5, -⟩ := hfa
              replace f4 : sv 4 = _ := f4
              try dsimp only at f4
              replace f5 : sv 5 = _ := f5
              try dsimp only at f5
              obtain ⟨hc9, hff, hz9⟩ := ((Ext.refl w2).drew.trans hw').walk; have v1 := (hc9 _ _ hbl).trans c1; have v2 := (hc9 _ _ hbl).trans c2
              refine ⟨rfl, ?_⟩
              simp only [putsL]
              change quietTo _ _ _ _ (Sem.run _ (execOp (Act.eval (Act.put (Act.put _ (some 33) (sv 5)) (some 32) (sv 4))) _) _)
              try simp only [Act.put, List.setIfInBounds_toArray, List.set_cons_succ, List.set_cons_zero]
              simp [go_sem, quietTo, Ext.refl, ↓IntWalk.iteOmega, f4, f5, hiI]
              all_goals try simp (disch := omega) only [IntWalk.i64_in]
              all_goals first
                | rfl
            refine fac_quiet 7 rfl rfl rfl (fun _ _ h _ => h) rfl rfl ?_
            apply Exists.intro
            refine ⟨fun sv w' hw' hfa => ?_, ?_⟩
            · obtain ⟨_, _, f6, -⟩ := hfa
              replace f6 : sv 6 = _ := f6
              try dsimp only at f6
              obtain ⟨hc9, hff, hz9⟩ := ((Ext.refl w2).drew.trans hw').walk; have v1 := (hc9 _ _ hbl).trans c1; have v2 := (hc9 _ _ hbl).trans c2
              refine ⟨rfl, ?_⟩
              simp only [putsL]
              change quietTo _ _ _ _ (Sem.run _ (execOp (Act.eval (Act.put (Act.put (Act.put _ (some 34) (sv 6)) (some 33) (sv 5)) (some 32) (sv 4))) _) _)
              try simp only [Act.put, List.setIfInBounds_toArray, List.set_cons_succ, List.set_cons_zero]
              simp [go_sem, quietTo, Ext.refl, ↓IntWalk.iteOmega, f6, v1]
              all_goals try simp (disch := omega) only [IntWalk.i64_in]
              all_goals first
                | rfl
            refine fac_quiet 8 rfl rfl rfl (fun _ _ h _ => h) rfl rfl ?_
            apply Exists.intro
            refine ⟨fun sv w' hw' hfa => ?_, ?_⟩
            · refine ⟨rfl, ?_⟩
              simp only [putsL]
              change quietTo _ _ _ _ (Sem.run _ (execOp (Act.eval _) _) _)
              try simp only [Act.put, List.setIfInBounds_toArray, List.set_cons_succ, List.set_cons_zero]
              simp [go_sem, quietTo, Ext.refl]
              all_goals first
                | rfl
            refine fac_quiet 9 rfl rfl rfl (fun _ _ h _ => h) rfl rfl ?_
            apply Exists.intro
            refine ⟨fun sv w' hw' hfa => ?_, ?_⟩
            · refine ⟨rfl, ?_⟩
              simp only [putsL]
              change quietTo _ _ _ _ (Sem.run _ (execOp (Act.eval _) _) _)
              try simp only [Act.put, List.setIfInBounds_toArray, List.set_cons_succ, List.set_cons_zero]
              simp [go_sem, quietTo, Ext.refl]
              all_goals first
                | rfl
            refine fac_quiet 10 rfl rfl rfl (fun _ _ h _ => h) rfl rfl ?_
            apply Exists.intro
            refine ⟨fun sv w' hw' hfa => ?_, ?_⟩
            · obtain ⟨f8, f9, -⟩ := hfa
              replace f8 : sv 8 = _ := f8
              try dsimp only at f8
              replace f9 : sv 9 = _ := f9
              try dsimp only at f9
              obtain ⟨hc9, hff, hz9⟩ := ((Ext.refl w2).drew.trans hw').walk; have v1 := (hc9 _ _ hbl).trans c1; have v2 := (hc9 _ _ hbl).trans c2
              refine ⟨rfl, ?_⟩
              simp only [putsL]
              change quietTo _ _ _ _ (Sem.run _ (execOp (Act.eval (Act.put (Act.put _ (some 37) (sv 9)) (some 36) (sv 8))) _) _)
              try simp only [Act.put, List.setIfInBounds_toArray, List.set_cons_succ, List.set_cons_zero]
              simp [go_sem, quietTo, Ext.refl, ↓IntWalk.iteOmega, f8, f9, hqI]
              all_goals try simp (disch := omega) only [IntWalk.i64_in]
              all_goals first
                | rfl
            refine fac_quiet 11 rfl rfl rfl (fun _ _ h _ => h) rfl rfl ?_
            apply Exists.intro
            refine ⟨fun sv w' hw' hfa => ?_, ?_⟩
            · obtain ⟨_, _, f10, -⟩ := hfa
              replace f10 : sv 10 = _ := f10
              try dsimp only at f10
              obtain ⟨hc9, hff, hz9⟩ := ((Ext.refl w2).drew.trans hw').walk; have v1 := (hc9 _ _ hbl).trans c1; have v2 := (hc9 _ _ hbl).trans c2
              refine ⟨rfl, ?_⟩
              simp only [putsL]
              change quietTo _ _ _ _ (Sem.run _ (execOp (Act.eval (Act.put (Act.put (Act.put _ (some 38) (sv 10)) (some 37) (sv 9)) (some 36) (sv 8))) _) _)
              try simp only [Act.put, List.setIfInBounds_toArray, List.set_cons_succ, List.set_cons_zero]
              simp [go_sem, quietTo, Ext.refl, ↓IntWalk.iteOmega, f10, v2]
              all_goals try simp (disch := omega) only [IntWalk.i64_in]
              all_goals first
                | rfl
            refine fac_quiet 12 rfl rfl rfl (fun _ _ h _ => h) rfl rfl ?_
            apply Exists.intro
            refine ⟨fun sv w' hw' hfa => ?_, ?_⟩
            · obtain ⟨f0, f1, -⟩ := hfa
              replace f0 : sv 0 = _ := f0
              try dsimp only at f0
              replace f1 : sv 1 = _ := f1
              try dsimp only at f1
              obtain ⟨hc9, hff, hz9⟩ := ((Ext.refl w2).drew.trans hw').walk; have v1 := (hc9 _ _ hbl).trans c1; have v2 := (hc9 _ _ hbl).trans c2
              refine ⟨rfl, ?_⟩
              simp only [putsL]
              change quietTo _ _ _ _ (Sem.run _ (execOp (Act.eval (Act.put (Act.put _ (some 29) (sv 1)) (some 28) (sv 0))) _) _)
              try simp only [Act.put, List.setIfInBounds_toArray, List.set_cons_succ, List.set_cons_zero]
              simp [go_sem, quietTo, Ext.refl, ↓IntWalk.iteOmega, f0, f1, hqI]
              all_goals try simp (disch := omega) only [IntWalk.i64_in]
              all_goals first
                | rfl
            refine fac_nil fun xq wrq herq hfrq hcrq holdq hapq => ?_
            obtain ⟨f0, f1, f2, f3, f4, f5, f6, f7, f8, f9, f10, f11, f12, -⟩ := hfrq
            replace f0 : xq 0 = _ := f0
            try dsimp only at f0
            replace f1 : xq 1 = _ := f1
            try dsimp only at f1
            replace f2 : xq 2 = _ := f2
            try dsimp only at f2
            replace f3 : xq 3 = _ := f3
            try dsimp only at f3
            replace f4 : xq 4 = _ := f4
            try dsimp only at f4
            replace f5 : xq 5 = _ := f5
            try dsimp only at f5
            replace f6 : xq 6 = _ := f6
            try dsimp only at f6
            replace f7 : xq 7 = _ := f7
            try dsimp only at f7
            replace f8 : xq 8 = _ := f8
            try dsimp only at f8
            replace f9 : xq 9 = _ := f9
            try dsimp only at f9
            replace f10 : xq 10 = _ := f10
            try dsimp only at f10
            replace f11 : xq 11 = _ := f11
            try dsimp only at f11
            replace f12 : xq 12 = _ := f12
            try dsimp only at f12
            change wpList _ _ _ _ (Act.put (Act.put (Act.put (Act.put (Act.put (Act.put (Act.put (Act.put (Act.put (Act.put (Act.put (Act.put (Act.put _ (some 28) (xq 0)) (some 29) (xq 1)) (some 30) (xq 2)) (some 31) (xq 3)) (some 32) (xq 4)) (some 33) (xq 5)) (some 34) (xq 6)) (some 35) (xq 7)) (some 36) (xq 8)) (some 37) (xq 9)) (some 38) (xq 10)) (some 39) (xq 11)) (some 40) (xq 12)) _
            simp only [putsL, Nat.reduceAdd, List.drop_succ_cons, List.drop_zero, List.drop_nil, Act.put, List.setIfInBounds_toArray, List.set_cons_succ, List.set_cons_zero]
            try simp only [f0, f1, f2, f3, f4, f5, f6, f7, f8, f9, f10, f11, f12]
            clear f0 f1 f2 f3 f4 f5 f6 f7 f8 f9 f10 f11 f12
            clear holdq hapq
            have hkq := (Ext.refl w2).drew.trans herq
            have hOq := hO2.ext hkq
            have hSq := hS2.ext hkq
            have hEq := hE3.ext hkq
            obtain ⟨y1, -, d1⟩ := hOq.cell (i := i) (by omega)
            obtain ⟨y2, -, d2⟩ := hOq.cell (i := q) (by omega)
            have hfz := hOq.frozen
            have hO4 := (hOq.set (i := q) (by omega) x1 hx1).set (i := i) (by omega) x2 hx2
            have hS4 := (hSq.set (p := ⟨b, q, none⟩) (by simp only; omega) (.int .i64 x1)).set (p := ⟨b, i, none⟩) (by simp only; omega) (.int .i64 x2)
            have hE4 := (hEq.setCell (p := ⟨b, q, none⟩) (.inr hb1) (.int .i64 x1)).setCell (p := ⟨b, i, none⟩) (.inr hb1) (.int .i64 x2)
            clear hO2 hS2 hE3 hOq hSq hEq hkq herq c1 c2
            replace hO4 := Lib.hid hO4
            replace hS4 := Lib.hid hS4
            have hnx2 : ∀ wz, OwG (fun x => 0 ≤ x ∧ x < j) wz w.heap.size (some ⟨b, 0, none⟩) j c → Str wz s (k + u + 1) → ExtS s w wz → ((Value.int .i64 ((q : Int) - 1) = Value.int .i64 ((j : Int) - 1) ∧ j = 0 ∨ ∃ q' : Nat, Value.int .i64 ((q : Int) - 1) = .int .i64 q' ∧ q' < j) ∧ ∃ u, u + (intOf (.int .i64 ((q : Int) - 1))).toNat ≤ j ∧ OwG (fun x => 0 ≤ x ∧ x < j) wz w.heap.size (some ⟨b, 0, none⟩) j c ∧ Str wz s (k + u) ∧ ExtS s w wz) := fun wz h1 h2 h3 => ⟨.inr ⟨q - 1, by rw [show (((q - 1 : Nat)) : Int) = (q : Int) - 1 by omega], by omega⟩, u + 1, by simp only [intOf]; omega, h1, h2, h3⟩
            replace hnx2 := Lib.hid hnx2
            by_cases hiq : i = q
            · subst hiq
              go_wp2
              go_roundw
              case rel => exact hnx2.out _ hO4.out hS4.out hE4
              case measure => simp [intOf]; omega
            · have hqi : ¬ q = i := fun e => hiq e.symm
              go_wp2
              go_roundw
              case rel => exact hnx2.out _ hO4.out hS4.out hE4
              case measure => simp [intOf]; omega
end Go.Proofs.YtakfanmoepiagaaGreatDoor
