/- Slips parted into two lists; two lists one behind the other. Conditions: sizes. -/
import Derived.Test.YtehboinleolihaaGreatDoorCzJ16
import Derived.Test.YtehboinleolihaaGreatDoorCzJ21
import Derived.Test.YtehboinleolihaaGreatDoorCzJ4
import Derived.Test.YtehboinleolihaaGreatDoorCzJ13
import Derived.Lib.AppendZerosOnto
import Derived.Deep.DeepAppendWide
set_option linter.unusedSimpArgs false
set_option linter.unusedVariables false
namespace Go.Proofs.YtehboinleolihaaGreatDoor
open Go Go.RowKit Go.Lib
/-! ### parts -/
/-- The two parts as rows of their own that share no block. -/
def PartO (s k n : Nat) (V : List SlipV) (w : World) (e : Ending) (w' : World) : Prop := ∃ (p q : Option Addr) (c1 c2 : Nat) (A B : List SlipV), e = .returned (.tuple #[.slice p A.length c1, .slice q B.length c2]) ∧ w'.ownsRow w.heap.size 79 7 (.slice p A.length c1) A.length (A.flatMap slipC) ∧ w'.ownsRow w.heap.size 79 7 (.slice q B.length c2) B.length (B.flatMap slipC) ∧ A.length ≤ n ∧ B.length ≤ n ∧ A.Sublist V ∧ B.Sublist V ∧ (∀ x ∈ V, x ∈ A ∨ x ∈ B) ∧ (∀ g, (Value.slice p A.length c1).ownBlock = some g → (Value.slice q B.length c2).ownBlock ≠ some g) ∧ Str w' s (k + n) ∧ ExtS s w w'
def PartR (s k n : Nat) (V : List SlipV) (w : World) (e : Ending) (w' : World) : Prop := ∃ (p q : Option Addr) (n1 c1 n2 c2 : Nat) (A B : List SlipV), e = .returned (.tuple #[.slice p n1 c1, .slice q n2 c2]) ∧ Slc 7 slipC w' p n1 c1 A ∧ Slc 7 slipC w' q n2 c2 B ∧ n1 ≤ n ∧ n2 ≤ n ∧ A.Sublist V ∧ B.Sublist V ∧ (∀ x ∈ V, x ∈ A ∨ x ∈ B) ∧ (∀ a, p = some a → w.heap.size ≤ a.block) ∧ (∀ a, q = some a → w.heap.size ≤ a.block) ∧ Str w' s (k + n) ∧ ExtS s w w'
theorem PartO.r {s k n : Nat} {V : List SlipV} {w w' : World} {e : Ending} (h : PartO s k n V w e w') (hn : n ≤ 1000) : PartR s k n V w e w' := by
 obtain ⟨p1, p2, c1, c2, A, B, rfl, ho1, ho2, hA, hB, hsA, hsB, hAB, -, hS, hE⟩ := h
 obtain ⟨q1, d1, e1, hS1⟩ := slc_of_own slipC_len ho1 (by decide) (by omega)
 obtain ⟨q2, d2, e2, hS2⟩ := slc_of_own slipC_len ho2 (by decide) (by omega)
 cases e1
 cases e2
 exact ⟨p1, p2, _, c1, _, c2, A, B, rfl, hS1, hS2, hA, hB, hsA, hsB, hAB, (fun a ha => by subst ha; exact (ho1.lt a.block rfl).1), (fun a ha => by subst ha; exact (ho2.lt a.block rfl).1), hS, hE⟩
/-! ### one behind the other -/
theorem wp_zeros {P : Program} (w : World) {ops : Array Oper} {rest : List Oper} {o : Oper} {a : Act} {Q : Exit → Act → World → Prop} (s x : Operand) (t tn e : TypeId) (k bytes : Nat) (z : Value) (hgd : o.guard = none)
 (ho : o.op = .call { callee := .builtin .append, args := #[s, x], argTypes := #[t, tn] }) (ht : P.underlying t = some (.slice e)) (htn : P.underlying tn = some (.int .i64))
 (hinfo : (P.info? e).map (fun i => (i.zero, i.size, i.bytes)) = some (some z, k, bytes)) (hzs : z.cells.size = k) (hsz : 0 < k) (hby : bytes ≤ 1000) (n : Nat) (h0 : 0 < n) (hn : n ≤ 1000000) (hs : a.eval s = .slice none 0 0) (hx : a.eval x = .int .i64 n)
 (h : ∀ (c : Nat) (cs : Array Value), n ≤ c → c ≤ maxLen → cs.size = c * k → wpList P ops Q rest (a.put o.dst (.slice (some ⟨w.heap.size, 0, none⟩) n c)) (w.drew.alloc (.cells cs e))) : wpList P ops Q (o :: rest) a w := by
 obtain ⟨i0, hi, hz0, hz1, hz2⟩ := info_parts hinfo
 have hrun : ∀ ty, (Builtin.append_ #[t, tn] ty #[.slice none 0 0, .int .i64 (n : Int)]).run P w = .ok (.slice (some ⟨w.heap.size, 0, none⟩) (0 + n) (grownCap w (0 + n) 0 e)) (w.drew.alloc (.cells ((#[] : Array Value) ++ Builtin.zeroCells z.cells n ++ Builtin.zeroCells z.cells (grownCap w (0 + n) 0 e - (0 + n))) e)) := fun ty =>
  Lib.run_append_grow_zeros w t tn ty e i0 z .i64 .i64 ht htn hi hz0 none 0 0 [] (by simpa using run_firstCells_none (w := w.drew) (P := P) i0.size 0 0 0) n h0 (by omega) (by omega) (by omega) (by
   have : n * i0.bytes ≤ 1000000 * 1000 := Nat.mul_le_mul hn (by omega)
   omega) (growslice_fits_wide (by omega) (by
   have : (0 + n + (0 + n) / 4 + 192) * i0.bytes ≤ 2000000 * 1000 := Nat.mul_le_mul (by omega) (by omega)
   omega))
 have hge : 0 + n ≤ grownCap w (0 + n) 0 e := grownCap_ge w _ _ _
 have hle := grownCap_le_maxLen w (0 + n) 0 e (by unfold maxLen; omega)
 generalize grownCap w (0 + n) 0 e = G at *
 rw [Nat.zero_add] at hge
 simp only [Nat.zero_add] at hrun
 have hsz' : ((#[] : Array Value) ++ Builtin.zeroCells z.cells n ++ Builtin.zeroCells z.cells (G - n)).size = G * k := by
  simp only [Array.size_append, size_zeroCells, hzs]
  simp only [List.size_toArray, List.length_nil, Nat.zero_add]
  rw [← Nat.add_mul]
  congr 1
  omega
 generalize ((#[] : Array Value) ++ Builtin.zeroCells z.cells n ++ Builtin.zeroCells z.cells (G - n)) = cs at *
 refine wpList_plain hgd fun K hK => ?_
 unfold Oper.wp
 simp [execOp, ho, resolve, invoke, builtin, hs, hx, hrun, Result.andThen]
 exact hK _ _ (h G cs hge hle hsz')
set_option maxRecDepth 100000 in
set_option maxHeartbeats 1600000 in
theorem growSlip_any (n : Nat) (w : World) (hn : n ≤ 100000) :
 Calls Tryz.prog 215 #[.slice none 0 0, .int .i64 n] w fun e w' => ∃ v, e = .returned v ∧ w'.ownsRow w.heap.size 79 7 v 0 [] ∧ Ext w w' := by
 by_cases h0 : n = 0
 ·subst h0
  have hz : ((0 : Nat) : Int) = 0 := rfl
  go_enter Tryz.func215, Tryz.ntmps215
  go_wp2
  go_ret
  exact ⟨_, rfl, World.ownsRow_nil _ _ _ _, Ext.refl _⟩
 ·have h1 : 0 < (n : Int) := by omega
  go_enter Tryz.func215, Tryz.ntmps215
  go_wp2_with (at_builtin; go_loud (refine wp_zeros _ (.tmp 20) (.tmp 21) 31 3 79 7 80 _ rfl rfl Tryz.underlying31 Tryz.underlying3 sliInfo rfl (by decide) (by decide) n (by omega) (by omega) rfl rfl ?_; intro c cs hnc hcm hsz))
  go_ret
  exact ⟨_, rfl, ⟨by simp, .inr ⟨w.heap.size, c, cs, rfl, Nat.le_refl _, heap_alloc_new w.drew _, Nat.zero_le _, hcm, hsz, by simp⟩⟩, (Ext.refl w).drew.alloc _⟩
set_option maxRecDepth 100000 in
set_option maxHeartbeats 3200000 in
theorem concat_any (g : Nat) (p q : Option Addr) (n c m d : Nat) (A B : List SlipV) (w : World) (hg : Blk w g 31 #[.slice p n c, .slice q m d]) (hA : Slc 7 slipC w p n c A) (hB : Slc 7 slipC w q m d B) (hn : n ≤ 40000) (hm : m ≤ 40000) :
 Calls Tryz.prog 139 #[.slice (some ⟨g, 0, none⟩) 2 2] w fun e w' => ∃ (r : Option Addr) (l : Nat), e = .returned (.slice r (n + m) l) ∧ Slc 7 slipC w' r (n + m) l (A ++ B) ∧ (∀ a, r = some a → w.heap.size ≤ a.block) ∧ Ext w w' := by
 obtain ⟨g1, g2⟩ := hg.walk
 have lg := hg.lt
 have c0 := g1 0
 have c1 := g1 1
 have hgr := growSlip_any (n + m) w (by omega)
 rw [Int.natCast_add] at hgr
 have hAl := hA.1.1
 have hBl := hB.1.1
 replace hgr := Lib.hid hgr; replace hA := Lib.hid hA; replace hB := Lib.hid hB; replace hg := Lib.hid hg; clear g1
 go_enter Tryz.func139, Tryz.ntmps139
 go_wp2
 go_loopw [3,11] (fun v3 v11 wr => w = wr ∧ ((v3 = .int .i64 (0 : Nat) ∧ v11 = .int .i64 (0 : Nat)) ∨ (v3 = .int .i64 n ∧ v11 = .int .i64 (1 : Nat)) ∨ (v3 = .int .i64 ((n : Int) + m) ∧ v11 = .int .i64 (2 : Nat)))) (fun _ v11 _ => 2 - (intOf v11).toNat)
 case atStart => exact ⟨rfl, .inl ⟨rfl, rfl⟩⟩
 case round =>
  obtain ⟨rfl, ⟨rfl, rfl⟩ | ⟨rfl, rfl⟩ | ⟨rfl, rfl⟩⟩ := hrel
  ·have hz : ¬ (n : Int) < 0 := by omega
   go_wp2
   go_roundw
   case rel => exact ⟨by trivial, .inr (.inl ⟨by go_num, rfl⟩)⟩
   case measure => simp [intOf]
  ·have hz : ¬ ((n : Int) + (m : Int)) < 0 := by omega
   go_wp2
   go_roundw
   case rel => exact ⟨by trivial, .inr (.inr ⟨by go_num, rfl⟩)⟩
   case measure => simp [intOf]
  ·go_wp2_with (go_at_call 215; go_loud ((with_reducible refine Calls.mono hgr.out ?_); rintro e w1 ⟨v1, rfl, hown1, hb1⟩))
   go_loopw [6,27] (fun v6 v27 wz => (∃ (k : Nat) (X : List SlipV), v27 = .int .i64 k ∧ ((k = 0 ∧ X = []) ∨ (k = 1 ∧ X = A) ∨ (k = 2 ∧ X = A ++ B)) ∧ wz.ownsRow w.heap.size 79 7 v6 X.length (X.flatMap slipC) ∧ Ext w wz)) (fun _ v27 _ => 2 - (intOf v27).toNat)
   case atStart => exact ⟨0,[], rfl, .inl ⟨rfl, rfl⟩, hown1, hb1⟩
   case round =>
    obtain ⟨k, X, rfl, ⟨rfl, rfl⟩ | ⟨rfl, rfl⟩ | ⟨rfl, rfl⟩, hown, hE⟩ := hrel
    ·have hz1 := hE.size
     have hG := hg.out.ext hE
     obtain ⟨x1, x2⟩ := hG.walk
     have y0 := x1 0
     have y1 := x1 1
     have ly := hG.lt
     have hA2 := hA.out.ext hE
     clear x1
     go_wp2_with (at_builtin; go_loud (refine wp_appS _ (.tmp 31) (.tmp 32) 31 79 7 80 _ rfl rfl Tryz.underlying31 sliInfo rfl (by decide) (by decide) slipC slipC_len slipC_one w.heap.size _ _ _ rfl hown p n c A rfl hA2 (by simp; omega) hz1 ?_; intro v' wf hownf hgrowf))
     go_roundw
     case rel => exact ⟨1, A, rfl, .inr (.inl ⟨rfl, rfl⟩), by simpa [hAl] using hownf, hE.app hown (Nat.le_refl _) hgrowf⟩
     case measure => simp [intOf]
    ·have hz1 := hE.size
     have hG := hg.out.ext hE
     obtain ⟨x1, x2⟩ := hG.walk
     have y0 := x1 0
     have y1 := x1 1
     have ly := hG.lt
     have hB2 := hB.out.ext hE
     clear x1
     go_wp2_with (at_builtin; go_loud (refine wp_appS _ (.tmp 31) (.tmp 32) 31 79 7 80 _ rfl rfl Tryz.underlying31 sliInfo rfl (by decide) (by decide) slipC slipC_len slipC_one w.heap.size _ _ _ rfl hown q m d B rfl hB2 (by omega) hz1 ?_; intro v' wf hownf hgrowf))
     go_roundw
     case rel => exact ⟨2, X ++ B, rfl, .inr (.inr ⟨rfl, rfl⟩), by rw [List.flatMap_append, List.length_append, hBl]; exact hownf, hE.app hown (Nat.le_refl _) hgrowf⟩
     case measure => simp [intOf]
    ·obtain ⟨r, l, rfl, hS⟩ := slc_of_own slipC_len hown (by decide) (by rw [List.length_append]; omega)
     rw [List.length_append, hAl, hBl] at hS
     have hl9 : (A ++ B).length = n + m := by rw [List.length_append, hAl, hBl]
     rw [hl9]
     have hlow : ∀ a, r = some a → w.heap.size ≤ a.block := fun a ha => by
      subst ha
      exact (hown.lt a.block rfl).1
     clear hown
     go_wp2
     go_ret
     exact ⟨r, l, rfl, hS, hlow, hE⟩
end Go.Proofs.YtehboinleolihaaGreatDoor
