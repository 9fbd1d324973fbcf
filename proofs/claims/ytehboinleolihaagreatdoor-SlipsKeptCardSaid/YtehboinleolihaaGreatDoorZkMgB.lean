/- Slips parted into two lists; two lists one behind the other. Conditions: sizes. -/
import Derived.Test.YtehboinleolihaaGreatDoorZkJ18
import Derived.Test.YtehboinleolihaaGreatDoorZkJ22
import Derived.Test.YtehboinleolihaaGreatDoorZkJ4
import Derived.Test.YtehboinleolihaaGreatDoorZkJ15
import Derived.Lib.AppendZerosOnto
import Derived.Deep.DeepAppendWide
set_option linter.unusedSimpArgs false
set_option linter.unusedVariables false
namespace Go.Proofs.YtehboinleolihaaGreatDoor
open Go Go.RowKit Go.Lib
/-! ### parts -/
/-- The two parts as rows of their own that share no block. -/
def PartO (s k n : Nat) (V : List SlipV) (w : World) (e : Ending) (w' : World) : Prop := ∃ (p q : Option Addr) (c1 c2 : Nat) (A B : List SlipV), e = .returned (.tuple #[.slice p A.length c1, .slice q B.length c2]) ∧ w'.ownsRow w.heap.size 79 7 (.slice p A.length c1) A.length (A.flatMap slipC) ∧ w'.ownsRow w.heap.size 79 7 (.slice q B.length c2) B.length (B.flatMap slipC) ∧ A.length ≤ n ∧ B.length ≤ n ∧ A.Sublist V ∧ B.Sublist V ∧ (∀ x ∈ V, x ∈ A ∨ x ∈ B) ∧ (∀ g, (Value.slice p A.length c1).ownBlock = some g → (Value.slice q B.length c2).ownBlock ≠ some g) ∧ Str w' s (k + n) ∧ ExtS s w w'
def PartR (s k n : Nat) (V : List SlipV) (w : World) (e : Ending) (w' : World) : Prop := ∃ (p q : Option Addr) (n1 c1 n2 c2 : Nat) (A B : List SlipV), e = .returned (.tuple #[.slice p n1 c1, .slice q n2 c2]) ∧ Slc 7 slipC w' p n1 c1 A ∧ Slc 7 slipC w' q n2 c2 B ∧ n1 ≤ n ∧ n2 ≤ n ∧ A.Sublist V ∧ B.Sublist V ∧ (∀ x ∈ V, x ∈ A ∨ x ∈ B) ∧ (∀ a, p = some a → w.heap.size ≤ a.block) ∧ (∀ a, q = some a → w.heap.size ≤ a.block) ∧ Str w' s (k + n) ∧ ExtS s w w'
theorem sub_snoc {α : Type} {A V : List α} {k : Nat} {x : α} (h : A.Sublist (V.take k)) (hx : V[k]? = some x) : A.Sublist (V.take (k + 1)) ∧ (A ++ [x]).Sublist (V.take (k + 1)) := by
 rw [take_snocL hx]
 exact ⟨h.trans (List.sublist_append_left _ _), h.append (List.Sublist.refl _)⟩
theorem slcV {w : World} {p : Option Addr} {n c : Nat} {xs : List SlipV} (h : Slc 7 slipC w p n c xs) {k : Nat} (hk : k < n) : ∃ b off, p = some ⟨b, off, none⟩ ∧ b < w.heap.size ∧ Elems 7 slipC w b off xs := by
 obtain ⟨b, off, e, hb, hE⟩ := h.1.2.2 (by omega)
 exact ⟨b, off, e, hb, hE⟩
theorem own_or {v u : Value} (h : ∀ g, v.ownBlock = some g → u.ownBlock ≠ some g) : (u.ownBlock = none ∨ u.ownBlock ≠ v.ownBlock) ∧ (v.ownBlock = none ∨ v.ownBlock ≠ u.ownBlock) := by
 constructor
 ·cases hu : u.ownBlock with
  | none => exact .inl rfl
  | some g => exact .inr fun e => h g e.symm hu
 ·cases hv : v.ownBlock with
  | none => exact .inl rfl
  | some g => exact .inr fun e => h g hv e.symm
theorem no_same {p q : Option Addr} {n c m d : Nat} {b : Nat} {w : World} (h : ∀ g, (Value.slice p n c).ownBlock = some g → (Value.slice q m d).ownBlock ≠ some g) (hq : ∀ g, (Value.slice q m d).ownBlock = some g → g < w.heap.size) (hb : w.heap.size ≤ b ∨ p = some ⟨b, 0, none⟩) : ∀ n' c' g, (Value.slice (some ⟨b, 0, none⟩) n' c').ownBlock = some g → (Value.slice q m d).ownBlock ≠ some g := fun n' c' g hg e => by
 have hgb : b = g := by simpa [Value.ownBlock] using hg
 subst hgb
 rcases hb with hb | hb
 ·exact absurd (hq _ e) (by omega)
 ·subst hb
  exact h b rfl e
set_option maxRecDepth 100000 in
set_option maxHeartbeats 6400000 in
theorem partedO_any (s k : Nat) (p : Option Addr) (n c : Nat) (V : List SlipV) (w : World) (hk : k + n ≤ 1000000) (hn : n ≤ 1000) (h : Str w s k) (hV : Slc 7 slipC w p n c V) (hp : ∀ a, p = some a → a.block ≠ s) :
 Calls Tryz.prog 142 #[.pointer (some ⟨s, 0, none⟩), .slice p n c] w (PartO s k n V w) := by
 have l0 := h.lt
 have hVl := hV.1.1
 replace hp := Lib.hid hp
 go_enter Tryz.func142, Tryz.ntmps142
 go_wp2
 go_loopw [4,5,11] (fun v4 v5 v11 wr => ∃ (j : Nat) (p1 p2 : Option Addr) (c1 c2 : Nat) (A B : List SlipV), j ≤ n ∧ v11 = .int .i64 j ∧ v4 = .slice p1 A.length c1 ∧ v5 = .slice p2 B.length c2 ∧ wr.ownsRow w.heap.size 79 7 (.slice p1 A.length c1) A.length (A.flatMap slipC) ∧ wr.ownsRow w.heap.size 79 7 (.slice p2 B.length c2) B.length (B.flatMap slipC) ∧ A.length ≤ j ∧ B.length ≤ j ∧ A.Sublist (V.take j) ∧ B.Sublist (V.take j) ∧ (∀ x ∈ V.take j, x ∈ A ∨ x ∈ B) ∧ (∀ g, (Value.slice p1 A.length c1).ownBlock = some g → (Value.slice p2 B.length c2).ownBlock ≠ some g) ∧ Str wr s (k + j) ∧ ExtS s w wr) (fun _ _ v11 _ => n - (intOf v11).toNat)
 case atStart => exact ⟨0, none, none, 0,0,[],[], by omega, rfl, rfl, rfl, World.ownsRow_nil _ _ _ _, World.ownsRow_nil _ _ _ _, by simp, by simp, by simp, by simp, by simp, (fun g hg => by simp [Value.ownBlock] at hg), h, ExtS.refl _ _⟩
 case round =>
  clear h
  obtain ⟨j, p1, p2, c1, c2, A, B, hj, rfl, rfl, rfl, ho1, ho2, hA, hB, hsA, hsB, hAB, hno, hS, hE⟩ := hrel
  by_cases hlt : j < n
  ·obtain ⟨x, hx⟩ := getD_some hVl hlt
   have hVr := hV.extS hE (fun a ha => hp.out a ha)
   obtain ⟨b, off, rfl, hb, hEl⟩ := slcV hVr hlt
   obtain ⟨d0, d1, d2, d3, d4, d5, d6⟩ := hEl.slip hx
   obtain ⟨sA1, sA2⟩ := sub_snoc hsA hx
   obtain ⟨sB1, sB2⟩ := sub_snoc hsB hx
   have htk := take_snocL hx
   have hcA : ∀ z ∈ V.take (j + 1), z ∈ A ++ [x] ∨ z ∈ B := fun z hz => by
    rw [htk, List.mem_append, List.mem_singleton] at hz
    rw [List.mem_append, List.mem_singleton]
    rcases hz with hz | hz
    ·exact (hAB z hz).elim (fun h => .inl (.inl h)) .inr
    ·exact .inl (.inr hz)
   have hcB : ∀ z ∈ V.take (j + 1), z ∈ A ∨ z ∈ B ++ [x] := fun z hz => by
    rw [htk, List.mem_append, List.mem_singleton] at hz
    rw [List.mem_append, List.mem_singleton]
    rcases hz with hz | hz
    ·exact (hAB z hz).elim .inl fun h => .inr (.inl h)
    ·exact .inr (.inr hz)
   have hcAB : ∀ z ∈ V.take (j + 1), z ∈ A ++ [x] ∨ z ∈ B ++ [x] := fun z hz => (hcA z hz).elim .inl fun h => .inr (List.mem_append_left _ h)
   have hs1 := hE.2.2.2.1
   have lb1 : ∀ g, (Value.slice p1 A.length c1).ownBlock = some g → g < wr.heap.size := fun g hg => (ho1.lt g hg).2
   have lb2 : ∀ g, (Value.slice p2 B.length c2).ownBlock = some g → g < wr.heap.size := fun g hg => (ho2.lt g hg).2
   have hjI : (j : Int) < n := by omega
   replace hx := Lib.hid hx; replace hAB := Lib.hid hAB; replace hsA := Lib.hid hsA; replace hsB := Lib.hid hsB; replace hcA := Lib.hid hcA; replace hcB := Lib.hid hcB; replace hcAB := Lib.hid hcAB; replace sA1 := Lib.hid sA1; replace sB1 := Lib.hid sB1; replace sA2 := Lib.hid sA2; replace sB2 := Lib.hid sB2; replace hno := Lib.hid hno; replace lb1 := Lib.hid lb1
   replace lb2 := Lib.hid lb2; clear hVr hEl htk
   go_upto_region 5 with (go_at_call 81; (with_reducible refine Calls.mono (next_any s (k + j) 3 _ (by omega) (by omega) (by omega) (by exact hS.ext ((Ext.refl _).alloc _))) ?_); rintro e w3 ⟨i, rfl, hi, hS3, hE3⟩)
   have hE3' : ExtS s w w3 := (hE.alloc _).trans hE3
   have hr1 : w3.ownsRow w.heap.size 79 7 (.slice p1 A.length c1) A.length (A.flatMap slipC) := own_extS hE3 (by omega) (ho1.alloc _)
   have hr2 : w3.ownsRow w.heap.size 79 7 (.slice p2 B.length c2) B.length (B.flatMap slipC) := own_extS hE3 (by omega) (ho2.alloc _)
   have hX3 : Blk w3 wr.heap.size 79 (slipC x).toArray := (hE3.2.2.2.2 wr.heap.size (by simp) (by omega)).trans (Blk.new' rfl)
   have hs3 := hE3'.2.2.2.1
   obtain ⟨x1, x2⟩ := hX3.walk
   have lx := hX3.lt
   unfold slipC at x1
   have e0 := x1 0
   have e1 := x1 1
   have e2 := x1 2
   have e3 := x1 3
   have e4 := x1 4
   have e5 := x1 5
   have e6 := x1 6
   have f0 := x2 0
   clear d0 d1 d2 d3 d4 d5 d6 hE hS ho1 ho2 hE3 x1; replace hE3' := Lib.hid hE3'
   obtain h | h | h : i = 0 ∨ i = 1 ∨ i = 2 := by omega
   all_goals subst h
   ·go_wp2_with (at_builtin; go_loud (refine wp_appL _ (.tmp 19) (.tmp 21) 31 79 7 80 _ rfl rfl Tryz.underlying31 sliInfo rfl (by decide) (by decide) w.heap.size p1 A.length c1 _ rfl (hr1.alloc _) _ (slipC x) rfl rfl (Blk.new' (by simp)) (slipC_one _) (by omega) (by simp; omega) ?_; intro b4 c4 w4 hown4 hgrow4 hpl4))
    go_roundw
    case rel =>
     have q1 := own_or hno.out
     exact ⟨j + 1, some ⟨b4,0, none⟩, p2, c4, c2, A ++ [x], B, by omega, by go_num, by rw [List.length_append]; rfl, rfl, by rw [flat_snoc, List.length_append]; exact hown4, (hr2.alloc _).kept hgrow4 q1.1, by simp; omega, by omega, sA2.out, sB1.out, hcA.out, fun g => no_same hno.out (fun g hg => ((hr2.alloc _).lt g hg).2) hpl4 _ _ g, (hS3.ext ((Ext.refl _).alloc _)).app (hr1.alloc _) (by omega) hgrow4, (hE3'.out.alloc _).app (hr1.alloc _) (Nat.le_refl _) hgrow4⟩
    case measure => simp [intOf]; omega
   ·go_wp2_with (at_builtin; go_loud (refine wp_appL _ (.tmp 25) (.tmp 27) 31 79 7 80 _ rfl rfl Tryz.underlying31 sliInfo rfl (by decide) (by decide) w.heap.size p2 B.length c2 _ rfl (hr2.alloc _) _ (slipC x) rfl rfl (Blk.new' (by simp)) (slipC_one _) (by omega) (by simp; omega) ?_; intro b5 c5 w5 hown5 hgrow5 hpl5))
    go_roundw
    case rel =>
     have q1 := own_or hno.out
     exact ⟨j + 1, p1, some ⟨b5,0, none⟩, c1, c5, A, B ++ [x], by omega, by go_num, rfl, by rw [List.length_append]; rfl, (hr1.alloc _).kept hgrow5 q1.2, by rw [flat_snoc, List.length_append]; exact hown5, by omega, by simp; omega, sA1.out, sB2.out, hcB.out, fun g hg e => no_same (fun g hg e => hno.out g e hg) (fun g hg => ((hr1.alloc _).lt g hg).2) hpl5 _ _ g e hg, (hS3.ext ((Ext.refl _).alloc _)).app (hr2.alloc _) (by omega) hgrow5, (hE3'.out.alloc _).app (hr2.alloc _) (Nat.le_refl _) hgrow5⟩
    case measure => simp [intOf]; omega
   ·have q1 := own_or hno.out
    replace q1 := Lib.hid q1
    go_wp2_with (first
     | (at_builtin; go_loud (refine wp_appL _ (.tmp 19) (.tmp 21) 31 79 7 80 _ rfl rfl Tryz.underlying31 sliInfo rfl (by decide) (by decide) w.heap.size p1 A.length c1 _ rfl (hr1.alloc _) _ (slipC x) rfl rfl (Blk.new' (by simp)) (slipC_one _) (by omega) (by simp; omega) ?_; intro b4 c4 w4 hown4 hgrow4 hpl4); have hr5 := Lib.hid ((hr2.alloc _).kept hgrow4 q1.out.1); have hX4 : Blk w4 wr.heap.size 79 (slipC x).toArray := (hgrow4.block wr.heap.size (by simp; omega) (fun hv => absurd (lb1.out _ hv.symm) (by omega))).trans (hX3.alloc _); obtain ⟨y1, y2⟩ := hX4.walk; unfold slipC at y1; have z0 := y1 0; have z1 := y1 1; have z2 := y1 2; have z3 := y1 3; have z4 := y1 4; have z5 := y1 5; have z6 := y1 6; have zf := y2 0; have lx4 := hX4.lt; clear y1; have g4 := hgrow4.size; simp at g4)
     | (at_builtin; go_loud (refine wp_appL _ (.tmp 25) (.tmp 27) 31 79 7 80 _ rfl rfl Tryz.underlying31 sliInfo rfl (by decide) (by decide) w.heap.size p2 B.length c2 _ rfl (hr5.out.alloc _) _ (slipC x) rfl rfl (Blk.new' (by simp)) (slipC_one _) (by omega) (by simp; omega) ?_; intro b5 c5 w5 hown5 hgrow5 hpl5)))
    go_roundw
    case rel =>
     have n1 := no_same (n := A.length) (c := c1) (m := B.length) (d := c2) hno.out (fun g hg => ((hr2.alloc _).lt g hg).2) hpl4
     have hown4' := (hown4.alloc _).kept hgrow5 (own_or (n1 _ _)).2
     exact ⟨j + 1, some ⟨b4,0, none⟩, some ⟨b5,0, none⟩, c4, c5, A ++ [x], B ++ [x], by omega, by go_num, by rw [List.length_append]; rfl, by rw [List.length_append]; rfl, by rw [flat_snoc, List.length_append]; exact hown4', by rw [flat_snoc, List.length_append]; exact hown5, by simp; omega, by simp; omega, sA2.out, sB2.out, hcAB.out, fun g hg e => no_same (fun g hg e => n1 _ _ g e hg) (fun g hg => ((hown4.alloc _).lt g hg).2) hpl5 _ _ g e hg, (((hS3.ext ((Ext.refl _).alloc _)).app (hr1.alloc _) (by omega) hgrow4).ext ((Ext.refl _).alloc _)).app (hr5.out.alloc _) (by omega) hgrow5, ((((hE3'.out.alloc _).app (hr1.alloc _) (Nat.le_refl _) hgrow4)).alloc _).app (hr5.out.alloc _) (Nat.le_refl _) hgrow5⟩
    case measure => simp [intOf]; omega
  ·obtain rfl : j = n := by omega
   have hz : V.take V.length = V := List.take_length
   rw [← hVl, hz] at hsA hsB hAB
   have hr : PartO s k j V w (.returned (.tuple #[.slice p1 A.length c1, .slice p2 B.length c2])) wr := ⟨p1, p2, c1, c2, A, B, rfl, ho1, ho2, hA, hB, hsA, hsB, hAB, hno, hS, hE⟩
   replace hr := Lib.hid hr
   go_wp2
   try simp only [Exit.inBlock, Exit.then]
   go_ret2
   exact hr.out
set_option maxRecDepth 100000 in
set_option maxHeartbeats 1600000 in
theorem halfSlipsO_any (s k : Nat) (p : Option Addr) (n c : Nat) (V : List SlipV) (w : World) (hk : k + n ≤ 1000000) (hn : n ≤ 1000) (h : Str w s k) (hV : Slc 7 slipC w p n c V) (hp : ∀ a, p = some a → a.block ≠ s) :
 Calls Tryz.prog 67 #[.pointer (some ⟨s, 0, none⟩), .slice p n c] w (PartO s k n V w) := by
 have hq := partedO_any s k p n c V w hk hn h hV hp
 replace hq := Lib.hid hq; clear hk hn h hV hp
 go_enter Tryz.func67, Tryz.ntmps67
 go_wp2_with (go_at_call 142; (with_reducible refine Calls.mono hq.out ?_); rintro e w1 ⟨p1, q1, c1, c2, A, B, rfl, hr⟩; replace hr := Lib.hid hr)
 go_ret2
 exact ⟨p1, q1, c1, c2, A, B, rfl, hr.out⟩
theorem PartO.r {s k n : Nat} {V : List SlipV} {w w' : World} {e : Ending} (h : PartO s k n V w e w') (hn : n ≤ 1000) : PartR s k n V w e w' := by
 obtain ⟨p1, p2, c1, c2, A, B, rfl, ho1, ho2, hA, hB, hsA, hsB, hAB, -, hS, hE⟩ := h
 obtain ⟨q1, d1, e1, hS1⟩ := slc_of_own slipC_len ho1 (by decide) (by omega)
 obtain ⟨q2, d2, e2, hS2⟩ := slc_of_own slipC_len ho2 (by decide) (by omega)
 cases e1
 cases e2
 exact ⟨p1, p2, _, c1, _, c2, A, B, rfl, hS1, hS2, hA, hB, hsA, hsB, hAB, (fun a ha => by subst ha; exact (ho1.lt a.block rfl).1), (fun a ha => by subst ha; exact (ho2.lt a.block rfl).1), hS, hE⟩
/-! ### one behind the other -/
theorem wp_zeros {P : Program} (w : World) {ops : Array Oper} {rest : List Oper} {o : Oper} {a : Act} {Q : Exit → Act → World → Prop} (s x : Operand) (t tn e : TypeId) (k bytes : Nat) (z : Value) (hgd : o.guard = none)
 (ho : o.op = .call { callee := .builtin .append, args := #[s, x], argTypes := #[t, tn] }) (ht : P.underlying t = some (.slice e)) (htn : P.underlying tn = some (.int .i64))
 (hinfo : (P.info? e).map (fun i => (i.zero, i.size, i.bytes)) = some (some z, k, bytes)) (hzs : z.cells.size = k) (hsz : 0 < k) (hby : bytes ≤ 1000) (n : Nat) (h0 : 0 < n) (hn : n ≤ 1000000) (hs : a.eval s = .slice none 0 0) (hx : a.eval x = .int .i64 n)
 (h : ∀ (c : Nat) (cs : Array Value), n ≤ c → c ≤ maxLen → cs.size = c * k → wpList P ops Q rest (a.put o.dst (.slice (some ⟨w.heap.size, 0, none⟩) n c)) (w.drew.alloc (.cells cs e))) : wpList P ops Q (o :: rest) a w := by
 obtain ⟨i0, hi, hz0, hz1, hz2⟩ := info_parts hinfo
 have hrun : ∀ ty, (Builtin.append_ #[t, tn] ty #[.slice none 0 0, .int .i64 (n : Int)]).run P w = .ok (.slice (some ⟨w.heap.size, 0, none⟩) (0 + n) (grownCap w (0 + n) 0 e)) (w.drew.alloc (.cells ((#[] : Array Value) ++ Builtin.zeroCells z.cells n ++ Builtin.zeroCells z.cells (grownCap w (0 + n) 0 e - (0 + n))) e)) := fun ty =>
  Lib.run_append_grow_zeros w t tn ty e i0 z .i64 .i64 ht htn hi hz0 none 0 0 [] (by simpa using run_firstCells_none (w := w.drew) (P := P) i0.size 0 0 0) n h0 (by omega) (by omega) (by omega) (by
   have : n * i0.bytes ≤ 1000000 * 1000 := Nat.mul_le_mul hn (by omega)
   omega) (growslice_fits_wide (by omega) (by
   have : (0 + n + (0 + n) / 4 + 192) * i0.bytes ≤ 2000000 * 1000 := Nat.mul_le_mul (by omega) (by omega)
   omega))
 have hge : 0 + n ≤ grownCap w (0 + n) 0 e := grownCap_ge w _ _ _
 have hle := grownCap_le_maxLen w (0 + n) 0 e (by unfold maxLen; omega)
 generalize grownCap w (0 + n) 0 e = G at *
 rw [Nat.zero_add] at hge
 simp only [Nat.zero_add] at hrun
 have hsz' : ((#[] : Array Value) ++ Builtin.zeroCells z.cells n ++ Builtin.zeroCells z.cells (G - n)).size = G * k := by
  simp only [Array.size_append, size_zeroCells, hzs]
  simp only [List.size_toArray, List.length_nil, Nat.zero_add]
  rw [← Nat.add_mul]
  congr 1
  omega
 generalize ((#[] : Array Value) ++ Builtin.zeroCells z.cells n ++ Builtin.zeroCells z.cells (G - n)) = cs at *
 refine wpList_plain hgd fun K hK => ?_
 unfold Oper.wp
 simp [execOp, ho, resolve, invoke, builtin, hs, hx, hrun, Result.andThen]
 exact hK _ _ (h G cs hge hle hsz')
set_option maxRecDepth 100000 in
set_option maxHeartbeats 1600000 in
theorem growSlip_any (n : Nat) (w : World) (hn : n ≤ 100000) :
 Calls Tryz.prog 215 #[.slice none 0 0, .int .i64 n] w fun e w' => ∃ v, e = .returned v ∧ w'.ownsRow w.heap.size 79 7 v 0 [] ∧ Ext w w' := by
 by_cases h0 : n = 0
 ·subst h0
  have hz : ((0 : Nat) : Int) = 0 := rfl
  go_enter Tryz.func215, Tryz.ntmps215
  go_wp2
  go_ret
  exact ⟨_, rfl, World.ownsRow_nil _ _ _ _, Ext.refl _⟩
 ·have h1 : 0 < (n : Int) := by omega
  go_enter Tryz.func215, Tryz.ntmps215
  go_wp2_with (at_builtin; go_loud (refine wp_zeros _ (.tmp 20) (.tmp 21) 31 3 79 7 80 _ rfl rfl Tryz.underlying31 Tryz.underlying3 sliInfo rfl (by decide) (by decide) n (by omega) (by omega) rfl rfl ?_; intro c cs hnc hcm hsz))
  go_ret
  exact ⟨_, rfl, ⟨by simp, .inr ⟨w.heap.size, c, cs, rfl, Nat.le_refl _, heap_alloc_new w.drew _, Nat.zero_le _, hcm, hsz, by simp⟩⟩, (Ext.refl w).drew.alloc _⟩
set_option maxRecDepth 100000 in
set_option maxHeartbeats 3200000 in
theorem concat_any (g : Nat) (p q : Option Addr) (n c m d : Nat) (A B : List SlipV) (w : World) (hg : Blk w g 31 #[.slice p n c, .slice q m d]) (hA : Slc 7 slipC w p n c A) (hB : Slc 7 slipC w q m d B) (hn : n ≤ 40000) (hm : m ≤ 40000) :
 Calls Tryz.prog 139 #[.slice (some ⟨g, 0, none⟩) 2 2] w fun e w' => ∃ (r : Option Addr) (l : Nat), e = .returned (.slice r (n + m) l) ∧ Slc 7 slipC w' r (n + m) l (A ++ B) ∧ (∀ a, r = some a → w.heap.size ≤ a.block) ∧ Ext w w' := by
 obtain ⟨g1, g2⟩ := hg.walk
 have lg := hg.lt
 have c0 := g1 0
 have c1 := g1 1
 have hgr := growSlip_any (n + m) w (by omega)
 rw [Int.natCast_add] at hgr
 have hAl := hA.1.1
 have hBl := hB.1.1
 replace hgr := Lib.hid hgr; replace hA := Lib.hid hA; replace hB := Lib.hid hB; replace hg := Lib.hid hg; clear g1
 go_enter Tryz.func139, Tryz.ntmps139
 go_wp2
 go_loopw [3,11] (fun v3 v11 wr => w = wr ∧ ((v3 = .int .i64 (0 : Nat) ∧ v11 = .int .i64 (0 : Nat)) ∨ (v3 = .int .i64 n ∧ v11 = .int .i64 (1 : Nat)) ∨ (v3 = .int .i64 ((n : Int) + m) ∧ v11 = .int .i64 (2 : Nat)))) (fun _ v11 _ => 2 - (intOf v11).toNat)
 case atStart => exact ⟨rfl, .inl ⟨rfl, rfl⟩⟩
 case round =>
  obtain ⟨rfl, ⟨rfl, rfl⟩ | ⟨rfl, rfl⟩ | ⟨rfl, rfl⟩⟩ := hrel
  ·have hz : ¬ (n : Int) < 0 := by omega
   go_wp2
   go_roundw
   case rel => exact ⟨by trivial, .inr (.inl ⟨by go_num, rfl⟩)⟩
   case measure => simp [intOf]
  ·have hz : ¬ ((n : Int) + (m : Int)) < 0 := by omega
   go_wp2
   go_roundw
   case rel => exact ⟨by trivial, .inr (.inr ⟨by go_num, rfl⟩)⟩
   case measure => simp [intOf]
  ·go_wp2_with (go_at_call 215; go_loud ((with_reducible refine Calls.mono hgr.out ?_); rintro e w1 ⟨v1, rfl, hown1, hb1⟩))
   go_loopw [6,27] (fun v6 v27 wz => (∃ (k : Nat) (X : List SlipV), v27 = .int .i64 k ∧ ((k = 0 ∧ X = []) ∨ (k = 1 ∧ X = A) ∨ (k = 2 ∧ X = A ++ B)) ∧ wz.ownsRow w.heap.size 79 7 v6 X.length (X.flatMap slipC) ∧ Ext w wz)) (fun _ v27 _ => 2 - (intOf v27).toNat)
   case atStart => exact ⟨0,[], rfl, .inl ⟨rfl, rfl⟩, hown1, hb1⟩
   case round =>
    obtain ⟨k, X, rfl, ⟨rfl, rfl⟩ | ⟨rfl, rfl⟩ | ⟨rfl, rfl⟩, hown, hE⟩ := hrel
    ·have hz1 := hE.size
     have hG := hg.out.ext hE
     obtain ⟨x1, x2⟩ := hG.walk
     have y0 := x1 0
     have y1 := x1 1
     have ly := hG.lt
     have hA2 := hA.out.ext hE
     clear x1
     go_wp2_with (at_builtin; go_loud (refine wp_appS _ (.tmp 31) (.tmp 32) 31 79 7 80 _ rfl rfl Tryz.underlying31 sliInfo rfl (by decide) (by decide) slipC slipC_len slipC_one w.heap.size _ _ _ rfl hown p n c A rfl hA2 (by simp; omega) hz1 ?_; intro v' wf hownf hgrowf))
     go_roundw
     case rel => exact ⟨1, A, rfl, .inr (.inl ⟨rfl, rfl⟩), by simpa [hAl] using hownf, hE.app hown (Nat.le_refl _) hgrowf⟩
     case measure => simp [intOf]
    ·have hz1 := hE.size
     have hG := hg.out.ext hE
     obtain ⟨x1, x2⟩ := hG.walk
     have y0 := x1 0
     have y1 := x1 1
     have ly := hG.lt
     have hB2 := hB.out.ext hE
     clear x1
     go_wp2_with (at_builtin; go_loud (refine wp_appS _ (.tmp 31) (.tmp 32) 31 79 7 80 _ rfl rfl Tryz.underlying31 sliInfo rfl (by decide) (by decide) slipC slipC_len slipC_one w.heap.size _ _ _ rfl hown q m d B rfl hB2 (by omega) hz1 ?_; intro v' wf hownf hgrowf))
     go_roundw
     case rel => exact ⟨2, X ++ B, rfl, .inr (.inr ⟨rfl, rfl⟩), by rw [List.flatMap_append, List.length_append, hBl]; exact hownf, hE.app hown (Nat.le_refl _) hgrowf⟩
     case measure => simp [intOf]
    ·obtain ⟨r, l, rfl, hS⟩ := slc_of_own slipC_len hown (by decide) (by rw [List.length_append]; omega)
     rw [List.length_append, hAl, hBl] at hS
     have hl9 : (A ++ B).length = n + m := by rw [List.length_append, hAl, hBl]
     rw [hl9]
     have hlow : ∀ a, r = some a → w.heap.size ≤ a.block := fun a ha => by
      subst ha
      exact (hown.lt a.block rfl).1
     clear hown
     go_wp2
     go_ret
     exact ⟨r, l, rfl, hS, hlow, hE⟩
end Go.Proofs.YtehboinleolihaaGreatDoor
