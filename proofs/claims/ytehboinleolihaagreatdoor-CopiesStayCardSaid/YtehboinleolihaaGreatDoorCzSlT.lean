/- Slips that the stream makes, told exactly. Conditions: sizes. (Printed by gen_slt.py.) -/
import Derived.Test.YtehboinleolihaaGreatDoorCzSlK
import Derived.Test.YtehboinleolihaaGreatDoorCzJ24
set_option linter.unusedSimpArgs false
set_option linter.unusedVariables false
namespace Go.Proofs.YtehboinleolihaaGreatDoor
open Go Go.RowKit
theorem pick_hid (s a b t cap : Nat) (xs : List Int) (lo hi : Int) (L : Src) (w : World) (hk : a ≤ 1000000) (hn : 1 ≤ xs.length) (hn' : xs.length ≤ 1000000) (h : StrL w s L a) (hs : b ≠ s) (hb : Blk w b t (xs.map (Value.int .i64)).toArray) (hx : ∀ y ∈ xs, lo ≤ y ∧ y ≤ hi) :
 Calls Tryz.prog 13 #[.pointer (some ⟨s, 0, none⟩), .slice (some ⟨b, 0, none⟩) xs.length cap] w fun e w' => ∃ v : Int, lo ≤ v ∧ v ≤ hi ∧ Hid (v = pkF L a xs) ∧ e = .returned (.int .i64 v) ∧ StrL w' s L (a + 1) ∧ ExtS s w w' :=
 (pick_det s a b t cap xs L w hk hn hn' h hs hb).mono fun _ _ hh => ⟨_, (pkF_in hn hx).1, (pkF_in hn hx).2, Lib.hid rfl, hh⟩
theorem somes_hid (s a b t cap : Nat) (xs : List ByteArray) (L : Src) (w : World) (hk : a ≤ 1000000) (hn : 1 ≤ xs.length) (hn' : xs.length ≤ 1000000) (h : StrL w s L a) (hs : b ≠ s) (hb : Blk w b t (xs.map Value.string).toArray) :
 Calls Tryz.prog 12 #[.pointer (some ⟨s, 0, none⟩), .slice (some ⟨b, 0, none⟩) xs.length cap] w fun e w' => ∃ y ∈ xs, Hid (y = smF L a xs) ∧ e = .returned (.string y) ∧ StrL w' s L (a + 1) ∧ ExtS s w w' :=
 (somes_det s a b t cap xs L w hk hn hn' h hs hb).mono fun _ _ hh => ⟨_, smF_mem hn, Lib.hid rfl, hh⟩
theorem range_hid (s a : Nat) (lo hi : Int) (L : Src) (w : World) (hk : a ≤ 1000000) (hl : lo ≤ hi) (h0 : -1000000 ≤ lo) (h1 : hi ≤ 1000000000) (hd : hi - lo < 1000000000) (h : StrL w s L a) :
 Calls Tryz.prog 45 #[.pointer (some ⟨s, 0, none⟩), .int .i64 lo, .int .i64 hi] w fun e w' => ∃ v : Int, Hid (v = rgF L a lo hi) ∧ e = .returned (.int .i64 v) ∧ lo ≤ v ∧ v ≤ hi ∧ StrL w' s L (a + 1) ∧ ExtS s w w' :=
 (range_det s a lo hi L w hk hl h0 h1 hd h).mono fun _ _ hh => ⟨_, Lib.hid rfl, hh.1, (rgF_in hl).1, (rgF_in hl).2, hh.2⟩
theorem flip_hid (s a m : Nat) (L : Src) (w : World) (hk : a ≤ 1000000) (hm : 1 ≤ m) (hm' : m ≤ 1000000) (h : StrL w s L a) :
 Calls Tryz.prog 46 #[.pointer (some ⟨s, 0, none⟩), .int .i64 m] w fun e w' => ∃ b : Bool, Hid (b = flF L a m) ∧ e = .returned (.bool b) ∧ StrL w' s L (a + 1) ∧ ExtS s w w' :=
 (flip_det s a m L w hk hm hm' h).mono fun _ _ hh => ⟨_, Lib.hid rfl, hh⟩
theorem next_hid (s a m : Nat) (L : Src) (w : World) (hk : a ≤ 1000000) (hm : 1 ≤ m) (hm' : m ≤ 1000000000) (h : StrL w s L a) :
 Calls Tryz.prog 81 #[.pointer (some ⟨s, 0, none⟩), .int .i64 m] w fun e w' => ∃ i : Nat, Hid (i = nxF L a m) ∧ e = .returned (.int .i64 i) ∧ i < m ∧ StrL w' s L (a + 1) ∧ ExtS s w w' :=
 (next_det s a m L w hk hm hm' h).mono fun _ _ hh => ⟨_, Lib.hid rfl, hh.1, nxF_lt L a m hm, hh.2⟩
theorem odd_hid (s a : Nat) (lo hi : Int) (L : Src) (w : World) (hk : a ≤ 999999) (hl : lo ≤ hi) (h0 : -1000000 ≤ lo) (h1 : hi ≤ 1000000000) (hd : hi - lo < 1000000000) (h : StrL w s L a) :
 Calls Tryz.prog 80 #[.pointer (some ⟨s, 0, none⟩), .int .i64 lo, .int .i64 hi] w fun e w' => ∃ v : Int, Hid (v = odF L a lo hi) ∧ e = .returned (.int .i64 v) ∧ -1099511627776 ≤ v ∧ v ≤ 1099511627776 ∧ StrL w' s L (a + 2) ∧ ExtS s w w' :=
 (odd_det s a lo hi L w hk hl h0 h1 hd h).mono fun _ _ hh => ⟨_, Lib.hid rfl, hh.1, (odF_in hl h0 h1).1, (odF_in hl h0 h1).2, hh.2⟩
def lizB : ByteArray := ⟨#[108,105,122]⟩
def maxB : ByteArray := ⟨#[109,97,120]⟩
def kindL : List Int := [1,1,1,2,2,3,4,5]
structure SlZ where
 V : List SlipV
 no : Int
 at_ : Int
 k : Nat
def slK4 (L : Src) (k : Nat) : Nat := if pkF L (k + 1) kindL = 1 then k + 5 else k + 4
def slSg (L : Src) (k : Nat) : ByteArray := if pkF L (k + 1) kindL = 1 then smF L (k + 4) annL else ⟨#[]⟩
def slStep (L : Src) (nm : ByteArray) (z : SlZ) : SlZ :=
 ⟨z.V ++ [⟨nm, z.no + pkF L z.k [1,1,2], z.at_, pkF L (z.k + 1) kindL, smF L (z.k + 2) pieceL, pkF L (z.k + 3) [1,1,2,3], slSg L z.k⟩], z.no + pkF L z.k [1,1,2], z.at_ + pkF L (slK4 L z.k) [0,1,86400000,172800005,777600000], slK4 L z.k + 1⟩
def slLoop (L : Src) (nm : ByteArray) (z : SlZ) : Nat → SlZ
 | 0 => z
 | t + 1 => slStep L nm (slLoop L nm z t)
def slBy (L : Src) (nm : ByteArray) (z : List SlipV × Nat) : List SlipV × Nat :=
 let y := slLoop L nm ⟨z.1,0, pkF L z.2 [0,5], z.2 + 2⟩ (rgF L (z.2 + 1) 0 7).toNat
 (y.V, y.k)
def slAll (L : Src) (k : Nat) : Nat → List SlipV × Nat
 | 0 => ([], k)
 | 1 => slBy L lizB ([], k)
 | _ => slBy L maxB (slBy L lizB ([], k))
def slMod (L : Src) (V : List SlipV) (k : Nat) : List SlipV × Nat :=
 if V.length = 0 then (V, k) else if flF L k 12 = false then (V, k + 1) else
  let i := nxF L (k + 1) V.length
  let x := V.getD i default
  if nxF L (k + 2) 3 = 0 then (V.set i ⟨smF L (k + 3) [x.by_, ⟨#[]⟩], pkF L (k + 4) [x.no, 0,1], pkF L (k + 5) [x.at_, -1,3], x.kind, x.piece, x.copy, x.singer⟩, k + 6)
  else if nxF L (k + 2) 3 = 1 then (V.set i ⟨x.by_, x.no, x.at_, odF L (k + 3) 1 5, x.piece, x.copy, smF L (k + 5) [x.singer, ⟨#[]⟩, ⟨#[97,110,110]⟩]⟩, k + 6)
  else (V.set i ⟨x.by_, x.no, x.at_, x.kind, smF L (k + 3) [x.piece, ⟨#[]⟩], odF L (k + 4) 1 500, x.singer⟩, k + 6)
/-- The slips that a stream makes, and how many numbers were handed out behind them. -/
def slF (L : Src) (k : Nat) : List SlipV × Nat := slMod L (slAll L k 2).1 (slAll L k 2).2
/-- What the maker of slips answers. -/
def SlipsD (L : Src) (s k : Nat) (w : World) (e : Ending) (w' : World) : Prop := ∃ (p : Option Addr) (n c : Nat) (V : List SlipV) (k' : Nat), slF L k = (V, k') ∧ k' ≤ k + 120 ∧ e = .returned (.slice p n c) ∧ n ≤ 14 ∧ w'.ownsRow (w.heap.size + 1) 79 7 (.slice p n c) n (V.flatMap slipC) ∧ V.length = n ∧ (∀ x ∈ V, x.Small) ∧ StrL w' s L k' ∧ ExtS s w w'
set_option maxRecDepth 100000 in
set_option maxHeartbeats 6400000 in
theorem slips_det (s k : Nat) (L : Src) (w : World) (hk : k ≤ 900000) (h : StrL w s L k) :
 Calls Tryz.prog 10 #[.pointer (some ⟨s, 0, none⟩)] w (SlipsD L s k w) := by
 have l0 := h.lt
 have hN0 : Blk (w.alloc (.cells byBlk 9)) w.heap.size 9 byBlk := Blk.new' rfl
 have hS0 : StrL (w.alloc (.cells byBlk 9)) s L k := h.ext ((Ext.refl _).alloc _)
 have hE0 : ExtS s w (w.alloc (.cells byBlk 9)) := (ExtS.refl s w).alloc _
 go_enter Tryz.func10, Tryz.ntmps10
 go_wp2
 go_loopw [3,13] (fun v3 v13 wr => ∃ (j : Nat) (V : List SlipV) (v : Value) (kk : Nat), Hid (slAll L k j = (V, kk)) ∧ kk ≤ k + 50 * j ∧ j ≤ 2 ∧ v13 = .int .i64 j ∧ v3 = v ∧ wr.ownsRow (w.heap.size + 1) 79 7 v V.length (V.flatMap slipC) ∧ (∀ x ∈ V, x.Small) ∧ V.length ≤ 7 * j ∧ Blk wr w.heap.size 9 byBlk ∧ StrL wr s L kk ∧ ExtS s w wr) (fun _ v13 _ => 2 - (intOf v13).toNat)
 case atStart => exact ⟨0,[], _, k, Lib.hid rfl, by omega, by omega, rfl, rfl, World.ownsRow_nil _ _ _ _, (fun x hx => by cases hx), by simp, hN0, hS0, hE0⟩
 case round =>
  clear hN0 hS0 hE0
  obtain ⟨j, V, v, kk, hall, hkk, hj, rfl, rfl, hown, hf, hVl, hN, hS, hE⟩ := hrel
  replace hf := Lib.hid hf
  by_cases hlt : j < 2
  ·have hc : ∃ nm : ByteArray, Hid (slAll L k (j + 1) = slBy L nm (V, kk)) ∧ nm.size ≤ 1000000 ∧ wr.cell? ⟨w.heap.size, j, none⟩ = some (.string nm) := by
    have h3 : j = 0 ∨ j = 1 := by omega
    rcases h3 with rfl | rfl
    ·exact ⟨⟨#[108,105,122]⟩, Lib.hid (by rw [← hall.out]; rfl), by decide, hN.cell 0⟩
    ·exact ⟨⟨#[109,97,120]⟩, Lib.hid (by rw [← hall.out]; rfl), by decide, hN.cell 1⟩
   obtain ⟨nm, hby, hns, hcell⟩ := hc
   have hjI : (j : Int) < 2 := by omega
   have hNl := hN.lt
   have hsz0 := hE.2.2.2.1
   go_wp2_with (first
    | (go_at_call 13; have l1 := hS.lt; refine (pick_hid s kk _ _ 2 [0,5] 0 5 L _ (by omega) (by simp) (by simp) (by exact hS.ext (Ext.alloc (Ext.refl _) _)) (by exact Nat.ne_of_gt l1) (by exact Blk.new' rfl) (by decide)).mono ?_; rintro e w2 ⟨a0, ha0, ha5, qa0, rfl, hS2, hE2⟩; have hE2' := (hE.alloc _).trans hE2; have ho2 := own_extS hE2 (by omega) (hown.alloc _); have hN2 := (hN.alloc _).extS (by omega) hE2; clear hS hE hE2 hown hN)
    | (go_at_call 45; refine (range_hid s (kk + 1) 0 7 L _ (by omega) (by omega) (by omega) (by omega) (by omega) hS2).mono ?_; rintro e w3 ⟨r0, qr0, rfl, hr0, hr7, hS3, hE3⟩; have hE3' := hE2'.trans hE3; have ho3 := own_extS hE3 (by omega) ho2; have hN3 := hN2.extS (by omega) hE3; clear hS2 hE2' hE3 ho2 hN2))
   obtain ⟨r, rfl⟩ : ∃ r : Nat, r0 = r := ⟨r0.toNat, by omega⟩
   have hby2 : Hid (slAll L k (j + 1) = ((slLoop L nm ⟨V, 0, a0, kk + 2⟩ r).V, (slLoop L nm ⟨V, 0, a0, kk + 2⟩ r).k)) := Lib.hid (by
    rw [hby.out]
    unfold slBy
    simp only
    rw [← qa0.out, ← qr0.out, Int.toNat_natCast])
   clear hby qa0 qr0; clear hcell hNl hsz0
   go_loopw [3,7,8,22] (fun v3 v7 v8 v22 wq => ∃ (t : Nat) (v : Value) (X : List SlipV) (a7 a8 : Int) (kq : Nat), Hid (slLoop L nm ⟨V, 0, a0, kk + 2⟩ t = ⟨X, a7, a8, kq⟩) ∧ kq ≤ k + 50 * j + 2 + 6 * t ∧ t ≤ r ∧ v22 = .int .i64 t ∧ v3 = v ∧ v7 = .int .i64 a7 ∧ v8 = .int .i64 a8 ∧ X.length = V.length + t ∧ wq.ownsRow (w.heap.size + 1) 79 7 v X.length (X.flatMap slipC) ∧ (∀ x ∈ X, x.Small) ∧ 0 ≤ a7 ∧ a7 ≤ 2 * t ∧ 0 ≤ a8 ∧ a8 ≤ 5 + 777600000 * t ∧ Blk wq w.heap.size 9 byBlk ∧ StrL wq s L kq ∧ ExtS s w wq) (fun _ _ _ v22 _ => r - (intOf v22).toNat)
   case atStart => exact ⟨0, _, V, 0, a0, kk + 2, Lib.hid rfl, by omega, Nat.zero_le _, rfl, rfl, rfl, rfl, by simp, ho3, hf.out, by omega, by omega, by omega, by omega, hN3, hS3, hE3'⟩
   case round =>
    clear ho3 hN3 hS3 hE3'
    obtain ⟨t, v, X, a7, a8, kq, hlp, hkq, ht, rfl, rfl, rfl, rfl, hXl, hown, hfX, h70, h71, h80, h81, hN, hS, hE⟩ := hrel
    replace hfX := Lib.hid hfX
    by_cases hlt2 : t < r
    ·have hNl := hN.lt
     have hsz0 := hE.2.2.2.1
     go_upto_if 44 with (first
      | (go_at_call 13; have l1 := hS.lt; refine (pick_hid s kq _ _ 3 [1,1,2] 1 2 L _ (by omega) (by simp) (by simp) (by exact hS.ext (Ext.alloc (Ext.refl _) _)) (by exact Nat.ne_of_gt l1) (by exact Blk.new' rfl) (by decide)).mono ?_; rintro e w4 ⟨z1, hz1, hz2, qz1, rfl, hS4, hE4⟩; have hw1 : IntKind.i64.wrap (a7 + z1) = a7 + z1 := IntWalk.i64_in _ (by omega); have hE4' := (hE.alloc _).trans hE4; have ho4 := own_extS hE4 (by omega) (hown.alloc _); have hN4 := (hN.alloc _).extS (by omega) hE4; clear hS hE hE4 hown hN)
      | (go_at_call 13; have l4 := hS4.lt; refine (pick_hid s (kq + 1) _ _ 8 kindL 1 5 L _ (by omega) (by simp [kindL]) (by simp [kindL]) (by exact hS4.ext (Ext.alloc (Ext.refl _) _)) (by exact Nat.ne_of_gt l4) (by exact Blk.new' rfl) (by decide)).mono ?_; rintro e w5 ⟨kd, hkd1, hkd5, qkd, rfl, hS5, hE5⟩; have hE5' := (hE4'.alloc _).trans hE5; have ho5 := own_extS hE5 (by omega) (ho4.alloc _); have hN5 := (hN4.alloc _).extS (by omega) hE5; clear hS4 hE4' hE5 ho4 hN4)
      | (go_at_call 12; have l5 := hS5.lt; refine (somes_hid s (kq + 1 + 1) _ _ 4 pieceL L _ (by omega) (by decide) (by decide) (by exact hS5.ext (Ext.alloc (Ext.refl _) _)) (by exact Nat.ne_of_gt l5) (by exact Blk.new' rfl)).mono ?_; rintro e w6 ⟨pc, hpc, qpc, rfl, hS6, hE6⟩; have hE6' := (hE5'.alloc _).trans hE6; have ho6 := own_extS hE6 (by omega) (ho5.alloc _); have hN6 := (hN5.alloc _).extS (by omega) hE6; clear hS5 hE5' hE6 ho5 hN5)
      | (go_at_call 13; have l6 := hS6.lt; refine (pick_hid s (kq + 1 + 1 + 1) _ _ 4 [1,1,2,3] 1 3 L _ (by omega) (by simp) (by simp) (by exact hS6.ext (Ext.alloc (Ext.refl _) _)) (by exact Nat.ne_of_gt l6) (by exact Blk.new' rfl) (by decide)).mono ?_; rintro e w7 ⟨cp, hcp1, hcp3, qcp, rfl, hS7, hE7⟩; have hE7' := (hE6'.alloc _).trans hE7; have ho7 := own_extS hE7 (by omega) (ho6.alloc _); have hN7 := (hN6.alloc _).extS (by omega) hE7; clear hS6 hE6' hE7 ho6 hN6))
     have hpcs : pc.size ≤ 1000000 := by
      rcases (by simpa [pieceL] using hpc : pc = ⟨#[97,118,101]⟩ ∨ pc = ⟨#[103,108,111,114,105,97]⟩ ∨ pc = ⟨#[107,121,114,105,101]⟩) with rfl | rfl | rfl <;> decide
     replace hpc := Lib.hid hpc
     have hN7l := hN7.lt
     have hE7s := hE7'.2.2.2.1
     have hs7 := hS7.lt
     have hXs : ∀ (y : SlipV), y.Small → ∀ x ∈ X ++ [y], x.Small := fun y hy x hx => by
      rcases List.mem_append.1 hx with h1 | h1
      ·exact hfX.out x h1
      ·obtain rfl := List.mem_singleton.1 h1; exact hy
     replace hXs := Lib.hid hXs
     by_cases hk1 : kd = 1
     ·subst hk1
      go_wp2_with (first
       | (go_at_call 12; go_loud (refine (somes_hid s (kq + 1 + 1 + 1 + 1) _ _ 3 annL L _ (by omega) (by decide) (by decide) (by exact (hS7.ext (Ext.alloc (Ext.refl _) _)).ext (Ext.alloc (Ext.refl _) _)) (by simp; omega) (by exact Blk.new' (by simp))).mono ?_; rintro e w8 ⟨sg, hsg, qsg, rfl, hS8, hE8⟩; have hT8 : Blk w8 w7.heap.size 79 #[.string nm, .int .i64 (a7 + z1), .int .i64 a8, .int .i64 1, .string pc, .int .i64 cp, .string ⟨#[]⟩] := (((Blk.new' rfl : Blk (w7.alloc (.cells (slipC ⟨nm, a7 + z1, a8,1, pc, cp, ⟨#[]⟩⟩).toArray 79)) w7.heap.size 79 (slipC ⟨nm, a7 + z1, a8,1, pc, cp, ⟨#[]⟩⟩).toArray).alloc (.cells (annL.map Value.string).toArray 9))).extS (by omega) hE8; have hE8' := ((hE7'.alloc (.cells (slipC ⟨nm, a7 + z1, a8,1, pc, cp, ⟨#[]⟩⟩).toArray 79)).alloc (.cells (annL.map Value.string).toArray 9)).trans hE8; have ho8 := own_setFar (own_extS hE8 (by omega) ((ho7.alloc (.cells (slipC ⟨nm, a7 + z1, a8,1, pc, cp, ⟨#[]⟩⟩).toArray 79)).alloc (.cells (annL.map Value.string).toArray 9))) (p := ⟨w7.heap.size, 6, none⟩) (own_lts ho7 (Nat.le_refl _)) (.string sg); have hN8 := ((hN7.alloc (.cells (slipC ⟨nm, a7 + z1, a8,1, pc, cp, ⟨#[]⟩⟩).toArray 79)).alloc (.cells (annL.map Value.string).toArray 9)).extS (by omega) hE8; obtain ⟨p8, q8⟩ := hT8.walk; have l8 := hT8.lt; clear hS7 hE7' hE8 ho7 hN7))
       | (at_builtin; go_loud (refine wp_app1 _ (.tmp 49) (.tmp 51) 31 79 7 80 _ rfl rfl Tryz.underlying31 sliInfo rfl (by decide) (by decide) (w.heap.size + 1) _ X.length _ rfl (ho8.alloc _) _ (slipC ⟨nm, a7 + z1, a8,1, pc, cp, sg⟩) rfl rfl (Blk.new' (by simp)) (slipC_one _) (by omega) (by simp; omega) ?_; intro v' w9 hown9 hgrow9 _; have hN9 := ((hN8.far (p := ⟨w7.heap.size, 6, none⟩) (by simp; omega) (.string sg)).alloc (.cells (slipC ⟨nm, a7 + z1, a8,1, pc, cp, sg⟩).toArray 79)).app (ho8.alloc _) (by omega) hgrow9; have hS9 := ((hS8.set (p := ⟨w7.heap.size, 6, none⟩) (by simpa using hs7) (.string sg)).ext (Ext.alloc (Ext.refl _) (.cells (slipC ⟨nm, a7 + z1, a8,1, pc, cp, sg⟩).toArray 79))).app (ho8.alloc _) (by omega) hgrow9; have hE9 := ((hE8'.setCell (p := ⟨w7.heap.size, 6, none⟩) (.inr (by simp; omega)) (.string sg)).alloc (.cells (slipC ⟨nm, a7 + z1, a8,1, pc, cp, sg⟩).toArray 79)).app (ho8.alloc _) (by omega) hgrow9; clear ho8 hN8 hS8 hE8' hgrow9))
       | (go_at_call 13; have l9 := hS9.lt; refine (pick_hid s (kq + 1 + 1 + 1 + 1 + 1) _ _ 5 [0,1,86400000,172800005,777600000] 0 777600000 L _ (by omega) (by simp) (by simp) (by exact hS9.ext (Ext.alloc (Ext.refl _) _)) (by exact Nat.ne_of_gt l9) (by exact Blk.new' rfl) (by decide)).mono ?_; rintro e wa ⟨za, hza1, hza2, qza, rfl, hSa, hEa⟩; have hw2 : IntKind.i64.wrap (a8 + za) = a8 + za := IntWalk.i64_in _ (by omega); have hEa' := (hE9.alloc _).trans hEa; have hoa := own_extS hEa (by omega) (hown9.alloc _); have hNa := (hN9.alloc _).extS (by omega) hEa; clear hS9 hE9 hEa hown9 hN9))
      have hsgs : sg.size ≤ 1000000 := by
       rcases (by simpa [annL] using hsg : sg = ⟨#[97,110,110]⟩ ∨ sg = ⟨#[98,111,98]⟩ ∨ sg = ⟨#[99,105,100]⟩) with rfl | rfl | rfl <;> decide
      have hTl2 : (X ++ [(⟨nm, a7 + z1, a8,1, pc, cp, sg⟩ : SlipV)]).length = X.length + 1 := by simp
      go_roundw
      case rel =>
       exact ⟨t + 1, _, X ++ [⟨nm, a7 + z1, a8,1, pc, cp, sg⟩], a7 + z1, a8 + za, kq + 1 + 1 + 1 + 1 + 1 + 1, Lib.hid (by
        show slStep L nm (slLoop L nm ⟨V, 0, a0, kk + 2⟩ t) = _
        rw [hlp.out]
        have e1 := qkd.out
        unfold slStep slK4 slSg
        simp only
        rw [← e1, if_pos rfl, if_pos rfl, ← qz1.out, ← qpc.out, ← qcp.out, ← qsg.out, ← qza.out]), by omega, by omega, by go_num, rfl, rfl, rfl, by omega, by rw [hTl2, flat_snoc]; exact hoa, hXs.out _ ⟨hns, hpcs, hsgs⟩, by omega, by omega, by omega, by omega, hNa, hSa, hEa'⟩
      case measure => simp [intOf]; omega
     ·go_wp2_with (first
       | (at_builtin; go_loud (refine wp_app1 _ (.tmp 49) (.tmp 51) 31 79 7 80 _ rfl rfl Tryz.underlying31 sliInfo rfl (by decide) (by decide) (w.heap.size + 1) _ X.length _ rfl ((ho7.alloc (.cells (slipC ⟨nm, a7 + z1, a8, kd, pc, cp, ⟨#[]⟩⟩).toArray 79)).alloc (.cells (slipC ⟨nm, a7 + z1, a8, kd, pc, cp, ⟨#[]⟩⟩).toArray 79)) _ (slipC ⟨nm, a7 + z1, a8, kd, pc, cp, ⟨#[]⟩⟩) rfl rfl (Blk.new' (by simp)) (slipC_one _) (by omega) (by simp; omega) ?_; intro v' w9 hown9 hgrow9 _; have hN9 := ((hN7.alloc (.cells (slipC ⟨nm, a7 + z1, a8, kd, pc, cp, ⟨#[]⟩⟩).toArray 79)).alloc (.cells (slipC ⟨nm, a7 + z1, a8, kd, pc, cp, ⟨#[]⟩⟩).toArray 79)).app ((ho7.alloc _).alloc _) (by omega) hgrow9; have hS9 := ((hS7.ext (Ext.alloc (Ext.refl _) _)).ext (Ext.alloc (Ext.refl _) _)).app ((ho7.alloc _).alloc _) (by omega) hgrow9; have hE9 := ((hE7'.alloc (.cells (slipC ⟨nm, a7 + z1, a8, kd, pc, cp, ⟨#[]⟩⟩).toArray 79)).alloc (.cells (slipC ⟨nm, a7 + z1, a8, kd, pc, cp, ⟨#[]⟩⟩).toArray 79)).app ((ho7.alloc _).alloc _) (by omega) hgrow9; clear ho7 hN7 hS7 hE7' hgrow9))
       | (go_at_call 13; have l9 := hS9.lt; refine (pick_hid s (kq + 1 + 1 + 1 + 1) _ _ 5 [0,1,86400000,172800005,777600000] 0 777600000 L _ (by omega) (by simp) (by simp) (by exact hS9.ext (Ext.alloc (Ext.refl _) _)) (by exact Nat.ne_of_gt l9) (by exact Blk.new' rfl) (by decide)).mono ?_; rintro e wa ⟨za, hza1, hza2, qza, rfl, hSa, hEa⟩; have hw2 : IntKind.i64.wrap (a8 + za) = a8 + za := IntWalk.i64_in _ (by omega); have hEa' := (hE9.alloc _).trans hEa; have hoa := own_extS hEa (by omega) (hown9.alloc _); have hNa := (hN9.alloc _).extS (by omega) hEa; clear hS9 hE9 hEa hown9 hN9))
      have hTl2 : (X ++ [(⟨nm, a7 + z1, a8, kd, pc, cp, ⟨#[]⟩⟩ : SlipV)]).length = X.length + 1 := by simp
      go_roundw
      case rel =>
       exact ⟨t + 1, _, X ++ [⟨nm, a7 + z1, a8, kd, pc, cp, ⟨#[]⟩⟩], a7 + z1, a8 + za, kq + 1 + 1 + 1 + 1 + 1, Lib.hid (by
        show slStep L nm (slLoop L nm ⟨V, 0, a0, kk + 2⟩ t) = _
        rw [hlp.out]
        have e1 := qkd.out
        unfold slStep slK4 slSg
        simp only
        rw [← e1, if_neg hk1, if_neg hk1, ← qz1.out, ← qpc.out, ← qcp.out, ← qza.out]), by omega, by omega, by go_num, rfl, rfl, rfl, by omega, by rw [hTl2, flat_snoc]; exact hoa, hXs.out _ ⟨hns, hpcs, Nat.zero_le _⟩, by omega, by omega, by omega, by omega, hNa, hSa, hEa'⟩
      case measure => simp [intOf]; omega
    ·obtain rfl : t = r := by omega
     replace hown := Lib.hid hown
     go_wp2
     go_roundw
     case rel => exact ⟨j + 1, X, _, kq, Lib.hid (by rw [hby2.out, hlp.out]), by omega, by omega, by go_num, rfl, hown.out, hfX.out, by omega, hN, hS, hE⟩
     case measure => simp [intOf]; omega
  ·obtain rfl : j = 2 := by omega
   clear hN hlt hj
   have hl7 : V.length ≤ 14 := by omega
   have hfin : Hid (slF L k = slMod L V kk) := Lib.hid (by unfold slF; rw [hall.out])
   clear hall
   rcases Nat.eq_zero_or_pos V.length with h0 | h0
   ·obtain ⟨q, c, rfl, -⟩ := slc_of_own slipC_len hown (by decide) (by omega)
    have hres : SlipsD L s k w (.returned (.slice q V.length c)) wr := ⟨q, V.length, c, V, kk, by rw [hfin.out]; unfold slMod; rw [if_pos h0], by omega, rfl, hl7, hown, rfl, hf.out, hS, hE⟩
    have h0I : ¬ (0 : Int) < (V.length : Int) := by omega
    replace hown := Lib.hid hown; replace hres := Lib.hid hres; replace h0 := Lib.hid h0
    go_wp2
    go_ret
    exact hres.out
   ·obtain ⟨g, cap, rfl, hg, hgl⟩ := hown.form h0
    have h0I : (0 : Int) < (V.length : Int) := by omega
    replace hown := Lib.hid hown
    go_upto_if 72 with (go_at_call 46; (with_reducible refine Calls.mono (flip_hid s kk 12 L _ (by omega) (by omega) (by omega) hS) ?_); rintro e w2 ⟨bb, qbb, rfl, hS2, hE2⟩)
    have hE2' := hE.trans hE2
    have ho2 := own_extS hE2 (by omega) hown.out
    clear hS hE hE2 hown
    cases bb
    ·have hres : SlipsD L s k w (.returned (.slice (some ⟨g, 0, none⟩) V.length cap)) w2 := ⟨_, V.length, _, V, kk + 1, by rw [hfin.out]; unfold slMod; rw [if_neg (by omega), if_pos qbb.out.symm], by omega, rfl, hl7, ho2, rfl, hf.out, hS2, hE2'⟩
     replace ho2 := Lib.hid ho2; replace hres := Lib.hid hres
     go_wp2
     go_ret
     exact hres.out
    ·have hnx := next_hid s (kk + 1) V.length L w2 (by omega) (by omega) (by omega) hS2
     replace hnx := Lib.hid hnx; replace ho2 := Lib.hid ho2
     go_upto_if 96 with (first
      | (go_at_call 81; (with_reducible refine Calls.mono hnx.out ?_); rintro e w3 ⟨i, qi, rfl, hi, hS3, hE3⟩)
      | (go_at_call 81; (with_reducible refine Calls.mono (next_hid s (kk + 1 + 1) 3 L _ (by omega) (by omega) (by omega) hS3) ?_); rintro e w4 ⟨u, qu, rfl, hu, hS4, hE4⟩))
     have hE4' := (hE2'.trans hE3).trans hE4
     have ho4 := own_extS (hE3.trans hE4) (by omega) ho2.out
     clear hS2 hS3 hE2' hE3 hE4 ho2 hgl hnx
     obtain ⟨x, hx⟩ := getD_some (rfl : V.length = V.length) hi
     obtain ⟨s1, s2, s3⟩ := hf.out x (List.mem_of_getElem? hx)
     have hgl : g < w4.heap.size := (ho4.lt g rfl).2
     have hgs : g ≠ s := by omega
     have hsl : s < w4.heap.size := hS4.lt
     have c0 : w4.cell? ⟨g, i * 7, none⟩ = some (.string x.by_) := own_cell slipC_len ho4 hx 0 rfl hi
     have c1 : w4.cell? ⟨g, i * 7 + 1, none⟩ = some (.int .i64 x.no) := own_cell slipC_len ho4 hx 1 rfl hi
     have c2 : w4.cell? ⟨g, i * 7 + 2, none⟩ = some (.int .i64 x.at_) := own_cell slipC_len ho4 hx 2 rfl hi
     have c3 : w4.cell? ⟨g, i * 7 + 3, none⟩ = some (.int .i64 x.kind) := own_cell slipC_len ho4 hx 3 rfl hi
     have c4 : w4.cell? ⟨g, i * 7 + 4, none⟩ = some (.string x.piece) := own_cell slipC_len ho4 hx 4 rfl hi
     have c5 : w4.cell? ⟨g, i * 7 + 5, none⟩ = some (.int .i64 x.copy) := own_cell slipC_len ho4 hx 5 rfl hi
     have c6 : w4.cell? ⟨g, i * 7 + 6, none⟩ = some (.string x.singer) := own_cell slipC_len ho4 hx 6 rfl hi
     have hmod : Hid (∀ u', nxF L (kk + 2) 3 = u' → slF L k = if u' = 0 then (V.set i ⟨smF L (kk + 3) [x.by_, ⟨#[]⟩], pkF L (kk + 4) [x.no, 0,1], pkF L (kk + 5) [x.at_, -1,3], x.kind, x.piece, x.copy, x.singer⟩, kk + 6) else if u' = 1 then (V.set i ⟨x.by_, x.no, x.at_, odF L (kk + 3) 1 5, x.piece, x.copy, smF L (kk + 5) [x.singer, ⟨#[]⟩, ⟨#[97,110,110]⟩]⟩, kk + 6) else (V.set i ⟨x.by_, x.no, x.at_, x.kind, smF L (kk + 3) [x.piece, ⟨#[]⟩], odF L (kk + 4) 1 500, x.singer⟩, kk + 6)) := Lib.hid (fun u' hu' => by
      rw [hfin.out]
      unfold slMod
      simp only
      have e1 : V.getD (nxF L (kk + 1) V.length) default = x := by rw [← qi.out, List.getD_eq_getElem?_getD, hx]; rfl
      rw [if_neg (by omega), if_neg (by rw [← qbb.out]; decide), e1, ← qi.out, hu'])
     clear hfin
     have hset : ∀ (y : SlipV), y.Small → (k' : Nat) → slF L k = (V.set i y, k') → k' ≤ k + 120 → ∀ w9, w9.ownsRow (w.heap.size + 1) 79 7 (.slice (some ⟨g, 0, none⟩) V.length cap) V.length ((V.set i y).flatMap slipC) → StrL w9 s L k' → ExtS s w w9 → SlipsD L s k w (.returned (.slice (some ⟨g, 0, none⟩) V.length cap)) w9 := fun y hy k' hF hk' w9 ho9 hS9 hE9 =>
      ⟨_, V.length, _, V.set i y, k', hF, hk', rfl, hl7, ho9, by rw [List.length_set], (fun z hz => by
       rcases List.mem_or_eq_of_mem_set hz with h1 | h1
       ·exact hf.out z h1
       ·subst h1; exact hy), hS9, hE9⟩
     have hS4d : StrL w4.drew s L (kk + 3) := hS4.ext (Ext.drew (Ext.refl _))
     have hsld : s < w4.drew.heap.size := hsl
     have hsg : s < g := by omega
     have hwg : w.heap.size ≤ g := by omega
     replace hset := Lib.hid hset
     replace hset := hset.out
     replace ho4 := Lib.hid ho4; replace hx := Lib.hid hx
     have hu3 : u = 0 ∨ u = 1 ∨ u = 2 := by omega
     rcases hu3 with rfl | rfl | rfl
     ·skip
      go_upto_region 22 with fail
      refine wp_region_facts [1,2] [([],false,false),([],false,false),([],false,false),([],false,false),([],false,false),([4],false,false),([4,5],false,false),([4,5,6],false,false),([4,5,6,7], false, true),([3,4,5,6,7,8], true, false),([],false,false),([],false,false),([11],false,false),([11,12],false,false),([11,12,13],false,false),([11,12,13,14], false, true),([10,11,12,13,14,15], true, false),([],false,false),([],false,false),([18],false,false),([18,19],false,false),([18,19,20],false,false),([18,19,20,21], false, true),([17,18,19,20,21,22], true, false),([0],false,false),([0,24],false,false)] (ExtS s) Ext (fun w => StrL w s L (kk + 3)) (by kernel_rfl) (by kernel_rfl) Ext.refl (fun _ _ _ => ExtS.trans) (fun _ _ h => h.extS) (fun _ _ h => h.2.2.2.1) (fun _ _ h he => h.ext he) hS4d ?_
      dsimp only [List.length_cons, List.length_nil, List.drop_succ_cons, List.drop_zero, List.drop_nil]
      refine fq 0 rfl rfl rfl (fun _ _ h he => h.ext he) rfl rfl ?_; apply Exists.intro; constructor
      ·intro sv w' hw' hfa
       refine ⟨rfl, ?_⟩; simp only [putsL]; change qT _; simp only [qT, Act.put, sIA, sCS, sCZ]; simp [go_sem, quietTo, Ext.refl]; all_goals rfl
      refine fac_late 1 rfl rfl Ext.refl (fun _ _ h he => h.ext he) rfl rfl (fun _ _ _ _ h => h) ?_; apply Exists.intro; constructor
      ·intro sv w' hw' hfa
       refine ⟨rfl, fun w2 => ?_⟩
       simp only [putsL]
       change pureTo _ _ (Sem.run _ (execOp (Act.eval _) _) _)
       try simp only [Act.put, sIA, sCS, sCZ]
       simp [go_sem, pureTo]
       (all_goals try simp (disch := omega) only [IntWalk.i64_in]); all_goals rfl
      refine fac_late 2 rfl rfl Ext.refl (fun _ _ h he => h.ext he) rfl rfl (fun _ _ _ _ h => h) ?_; apply Exists.intro; constructor
      ·intro sv w' hw' hfa
       refine ⟨rfl, fun w2 => ?_⟩
       simp only [putsL]
       change pureTo _ _ (Sem.run _ (execOp (Act.eval _) _) _)
       try simp only [Act.put, sIA, sCS, sCZ]
       simp [go_sem, pureTo]
       (all_goals try simp (disch := omega) only [IntWalk.i64_in]); all_goals rfl
      refine fq 3 rfl rfl rfl (fun _ _ h he => h.ext he) rfl rfl ?_; apply Exists.intro; constructor
      ·intro sv w' hw' hfa
       refine ⟨rfl, ?_⟩; simp only [putsL]; change qT _; simp only [qT, Act.put, sIA, sCS, sCZ]; simp [go_sem, quietTo, Ext.refl]; all_goals rfl
      refine fq 4 rfl rfl rfl (fun _ _ h he => h.ext he) rfl rfl ?_; apply Exists.intro; constructor
      ·intro sv w' hw' hfa
       refine ⟨rfl, ?_⟩; simp only [putsL]; change qT _; simp only [qT, Act.put, sIA, sCS, sCZ]; simp [go_sem, quietTo, Ext.refl]; all_goals rfl
      refine fq 5 rfl rfl rfl (fun _ _ h he => h.ext he) rfl rfl ?_; apply Exists.intro; constructor
      ·rintro sv w' hw' ⟨(f4 : sv 4 = _), -⟩; (try dsimp only at f4)
       refine ⟨rfl, ?_⟩; simp only [putsL]; change qT (pT _ 102 (sv 4)); simp only [qT, pT, Act.put, sIA, sCS, sCZ]; simp [go_sem, quietTo, Ext.refl, f4]; all_goals rfl
      refine fq 6 rfl rfl rfl (fun _ _ h he => h.ext he) rfl rfl ?_; apply Exists.intro; constructor
      ·rintro sv w' hw' ⟨_, (f5 : sv 5 = _), -⟩; (try dsimp only at f5)
       refine ⟨rfl, ?_⟩; simp only [putsL]; change qT (pT (pT _ 103 (sv 5)) 102 (sv 4)); simp only [qT, pT, Act.put, sIA, sCS, sCZ]; simp [go_sem, quietTo, Ext.refl, f5]; all_goals rfl
      refine fq 7 rfl rfl rfl (fun _ _ h he => h.ext he) rfl rfl ?_; apply Exists.intro; constructor
      ·rintro sv w' hw' ⟨_, _, (f6 : sv 6 = _), -⟩; (try dsimp only at f6)
       have d0 : w'.cell? ⟨g, i * 7, none⟩ = some (.string x.by_) := (hw'.cell hgl hgs _).trans c0
       have d1 : w'.cell? ⟨g, i * 7 + 1, none⟩ = some (.int .i64 x.no) := (hw'.cell hgl hgs _).trans c1
       have d2 : w'.cell? ⟨g, i * 7 + 2, none⟩ = some (.int .i64 x.at_) := (hw'.cell hgl hgs _).trans c2
       have d4 : w'.cell? ⟨g, i * 7 + 4, none⟩ = some (.string x.piece) := (hw'.cell hgl hgs _).trans c4
       have d6 : w'.cell? ⟨g, i * 7 + 6, none⟩ = some (.string x.singer) := (hw'.cell hgl hgs _).trans c6
       refine ⟨rfl, ?_⟩; simp only [putsL]; change qT (pT (pT (pT _ 104 (sv 6)) 103 (sv 5)) 102 (sv 4)); simp only [qT, pT, Act.put, sIA, sCS, sCZ]; simp [go_sem, quietTo, Ext.refl, ↓IntWalk.iteOmega, f6, d0, d1, d2]; (all_goals try simp (disch := omega) only [IntWalk.i64_in]); all_goals rfl
      refine fac_row 8 rfl rfl rfl (fun _ _ h he => h.ext he) (fun _ _ h => h.2.2.2.1) (fun _ _ _ _ _ he hg hb => hb.extS (Nat.ne_of_gt (Nat.lt_of_lt_of_le hsl hg)) he) ?_
      apply Exists.intro
      apply Exists.intro
      apply Exists.intro
      apply Exists.intro
      refine ⟨fun sv w' hw' hfa => ?_, ?_⟩
      ·obtain ⟨_, _, _, (f7 : sv 7 = _), -⟩ := hfa; (try dsimp only at f7)
       refine ⟨rfl, ?_⟩; simp only [putsL]; change rowTo _ _ _ _ _ (Sem.run _ (execOp (Act.eval (pT (pT (pT (pT _ 105 (sv 7)) 104 (sv 6)) 103 (sv 5)) 102 (sv 4))) _) _); (try simp only [pT, Act.put, sIA, sCS, sCZ]); simp [go_sem, rowTo, Ext.refl, f7]; (all_goals try simp (disch := omega) only [IntWalk.i64_in]); all_goals first | rfl | exact ⟨rfl, rfl⟩ | exact ⟨⟨rfl, rfl⟩, rfl⟩
      refine fac_loud 9 rfl rfl rfl ?_
      refine ⟨(fun y _ => ∃ nm : ByteArray, nm.size ≤ 1000000 ∧ Hid (nm = smF L (kk + 3) [x.by_, ⟨#[]⟩]) ∧ y 9 = .string nm), (fun w => StrL w s L (kk + 3 + 1)), fun sv w' hw' hfa hcc => ?_, ?_, ?_, ?_⟩
      ·obtain ⟨(f3 : sv 3 = _), (f4 : sv 4 = _), (f5 : sv 5 = _), (f6 : sv 6 = _), (f7 : sv 7 = _), f8, -⟩ := hfa; (try dsimp only at f3 f4 f5 f6 f7)
       obtain ⟨g8, f8, l8, b8⟩ := f8; replace f8 : sv 8 = _ := f8; obtain ⟨p8, q8⟩ := b8.walk
       have d0 : w'.cell? ⟨g, i * 7, none⟩ = some (.string x.by_) := (hw'.cell hgl hgs _).trans c0
       have d1 : w'.cell? ⟨g, i * 7 + 1, none⟩ = some (.int .i64 x.no) := (hw'.cell hgl hgs _).trans c1
       have d2 : w'.cell? ⟨g, i * 7 + 2, none⟩ = some (.int .i64 x.at_) := (hw'.cell hgl hgs _).trans c2
       have d4 : w'.cell? ⟨g, i * 7 + 4, none⟩ = some (.string x.piece) := (hw'.cell hgl hgs _).trans c4
       have d6 : w'.cell? ⟨g, i * 7 + 6, none⟩ = some (.string x.singer) := (hw'.cell hgl hgs _).trans c6
       refine ⟨rfl, ?_⟩
       simp only [putsL]
       change outc _ _ (Sem.run _ (execOp (Act.eval (pT (pT (pT (pT (pT (pT _ 106 (sv 8)) 105 (sv 7)) 104 (sv 6)) 103 (sv 5)) 102 (sv 4)) 101 (sv 3))) _) _)
       try simp only [pT, Act.put, sIA, sCS, sCZ]
       simp [go_sem, outc, f3, f8, p8, q8, d0, d1, d2]
       refine (somes_hid s (kk + 3) _ _ 2 [x.by_, ⟨#[]⟩] L _ (by omega) (by simp) (by simp) hcc (by omega) b8).mono ?_
       rintro e w4 ⟨y, hy, qy, rfl, hS4, hE4⟩
       refine ⟨_, rfl, ⟨hE4, hS4⟩, y, ?_, qy, rfl⟩
       rcases (by simpa using hy : y = x.by_ ∨ y = ⟨#[]⟩) with rfl | rfl
       ·exact s1
       ·exact Nat.zero_le _
      ·intro x w w' h he; exact h
      ·exact fun _ _ h he => h.ext he
      refine fq 10 rfl rfl rfl (fun _ _ h he => h.ext he) rfl rfl ?_; apply Exists.intro; constructor
      ·intro sv w' hw' hfa
       refine ⟨rfl, ?_⟩; simp only [putsL]; change qT _; simp only [qT, Act.put, sIA, sCS, sCZ]; simp [go_sem, quietTo, Ext.refl]; all_goals rfl
      refine fq 11 rfl rfl rfl (fun _ _ h he => h.ext he) rfl rfl ?_; apply Exists.intro; constructor
      ·intro sv w' hw' hfa
       refine ⟨rfl, ?_⟩; simp only [putsL]; change qT _; simp only [qT, Act.put, sIA, sCS, sCZ]; simp [go_sem, quietTo, Ext.refl]; all_goals rfl
      refine fq 12 rfl rfl rfl (fun _ _ h he => h.ext he) rfl rfl ?_; apply Exists.intro; constructor
      ·rintro sv w' hw' ⟨(f11 : sv 11 = _), -⟩; (try dsimp only at f11)
       refine ⟨rfl, ?_⟩; simp only [putsL]; change qT (pT _ 109 (sv 11)); simp only [qT, pT, Act.put, sIA, sCS, sCZ]; simp [go_sem, quietTo, Ext.refl, f11]; all_goals rfl
      refine fq 13 rfl rfl rfl (fun _ _ h he => h.ext he) rfl rfl ?_; apply Exists.intro; constructor
      ·rintro sv w' hw' ⟨_, (f12 : sv 12 = _), -⟩; (try dsimp only at f12)
       refine ⟨rfl, ?_⟩; simp only [putsL]; change qT (pT (pT _ 110 (sv 12)) 109 (sv 11)); simp only [qT, pT, Act.put, sIA, sCS, sCZ]; simp [go_sem, quietTo, Ext.refl, f12]; all_goals rfl
      refine fq 14 rfl rfl rfl (fun _ _ h he => h.ext he) rfl rfl ?_; apply Exists.intro; constructor
      ·rintro sv w' hw' ⟨_, _, (f13 : sv 13 = _), -⟩; (try dsimp only at f13)
       have d0 : w'.cell? ⟨g, i * 7, none⟩ = some (.string x.by_) := (hw'.cell hgl hgs _).trans c0
       have d1 : w'.cell? ⟨g, i * 7 + 1, none⟩ = some (.int .i64 x.no) := (hw'.cell hgl hgs _).trans c1
       have d2 : w'.cell? ⟨g, i * 7 + 2, none⟩ = some (.int .i64 x.at_) := (hw'.cell hgl hgs _).trans c2
       have d4 : w'.cell? ⟨g, i * 7 + 4, none⟩ = some (.string x.piece) := (hw'.cell hgl hgs _).trans c4
       have d6 : w'.cell? ⟨g, i * 7 + 6, none⟩ = some (.string x.singer) := (hw'.cell hgl hgs _).trans c6
       refine ⟨rfl, ?_⟩; simp only [putsL]; change qT (pT (pT (pT _ 111 (sv 13)) 110 (sv 12)) 109 (sv 11)); simp only [qT, pT, Act.put, sIA, sCS, sCZ]; simp [go_sem, quietTo, Ext.refl, ↓IntWalk.iteOmega, f13, d0, d1, d2]; (all_goals try simp (disch := omega) only [IntWalk.i64_in]); all_goals rfl
      refine fac_row 15 rfl rfl rfl (fun _ _ h he => h.ext he) (fun _ _ h => h.2.2.2.1) (fun _ _ _ _ _ he hg hb => hb.extS (Nat.ne_of_gt (Nat.lt_of_lt_of_le hsl hg)) he) ?_
      apply Exists.intro
      apply Exists.intro
      apply Exists.intro
      apply Exists.intro
      refine ⟨fun sv w' hw' hfa => ?_, ?_⟩
      ·obtain ⟨_, _, _, (f14 : sv 14 = _), -⟩ := hfa; (try dsimp only at f14)
       refine ⟨rfl, ?_⟩; simp only [putsL]; change rowTo _ _ _ _ _ (Sem.run _ (execOp (Act.eval (pT (pT (pT (pT _ 112 (sv 14)) 111 (sv 13)) 110 (sv 12)) 109 (sv 11))) _) _); (try simp only [pT, Act.put, sIA, sCS, sCZ]); simp [go_sem, rowTo, Ext.refl, f14]; (all_goals try simp (disch := omega) only [IntWalk.i64_in]); all_goals first | rfl | exact ⟨rfl, rfl⟩ | exact ⟨⟨rfl, rfl⟩, rfl⟩
      refine fac_loud 16 rfl rfl rfl ?_
      refine ⟨(fun y _ => ∃ z : Int, Hid (z = pkF L (kk + 3 + 1) [x.no, 0,1]) ∧ y 16 = .int .i64 z), (fun w => StrL w s L (kk + 3 + 1 + 1)), fun sv w' hw' hfa hcc => ?_, ?_, ?_, ?_⟩
      ·obtain ⟨(f10 : sv 10 = _), (f11 : sv 11 = _), (f12 : sv 12 = _), (f13 : sv 13 = _), (f14 : sv 14 = _), f15, -⟩ := hfa; (try dsimp only at f10 f11 f12 f13 f14)
       obtain ⟨g15, f15, l15, b15⟩ := f15; replace f15 : sv 15 = _ := f15; obtain ⟨p15, q15⟩ := b15.walk
       have d0 : w'.cell? ⟨g, i * 7, none⟩ = some (.string x.by_) := (hw'.cell hgl hgs _).trans c0
       have d1 : w'.cell? ⟨g, i * 7 + 1, none⟩ = some (.int .i64 x.no) := (hw'.cell hgl hgs _).trans c1
       have d2 : w'.cell? ⟨g, i * 7 + 2, none⟩ = some (.int .i64 x.at_) := (hw'.cell hgl hgs _).trans c2
       have d4 : w'.cell? ⟨g, i * 7 + 4, none⟩ = some (.string x.piece) := (hw'.cell hgl hgs _).trans c4
       have d6 : w'.cell? ⟨g, i * 7 + 6, none⟩ = some (.string x.singer) := (hw'.cell hgl hgs _).trans c6
       refine ⟨rfl, ?_⟩
       simp only [putsL]
       change outc _ _ (Sem.run _ (execOp (Act.eval (pT (pT (pT (pT (pT (pT _ 113 (sv 15)) 112 (sv 14)) 111 (sv 13)) 110 (sv 12)) 109 (sv 11)) 108 (sv 10))) _) _)
       try simp only [pT, Act.put, sIA, sCS, sCZ]
       simp [go_sem, outc, f10, f15, p15, q15, d0, d1, d2]
       refine (pick_det s (kk + 3 + 1) _ _ 3 [x.no, 0,1] L _ (by omega) (by simp) (by simp) hcc (by omega) b15).mono ?_
       rintro e w4 ⟨rfl, hS4, hE4⟩
       exact ⟨_, rfl, ⟨hE4, hS4⟩, _, Lib.hid rfl, rfl⟩
      ·intro x w w' h he; exact h
      ·exact fun _ _ h he => h.ext he
      refine fq 17 rfl rfl rfl (fun _ _ h he => h.ext he) rfl rfl ?_; apply Exists.intro; constructor
      ·intro sv w' hw' hfa
       refine ⟨rfl, ?_⟩; simp only [putsL]; change qT _; simp only [qT, Act.put, sIA, sCS, sCZ]; simp [go_sem, quietTo, Ext.refl]; all_goals rfl
      refine fq 18 rfl rfl rfl (fun _ _ h he => h.ext he) rfl rfl ?_; apply Exists.intro; constructor
      ·intro sv w' hw' hfa
       refine ⟨rfl, ?_⟩; simp only [putsL]; change qT _; simp only [qT, Act.put, sIA, sCS, sCZ]; simp [go_sem, quietTo, Ext.refl]; all_goals rfl
      refine fq 19 rfl rfl rfl (fun _ _ h he => h.ext he) rfl rfl ?_; apply Exists.intro; constructor
      ·rintro sv w' hw' ⟨(f18 : sv 18 = _), -⟩; (try dsimp only at f18)
       refine ⟨rfl, ?_⟩; simp only [putsL]; change qT (pT _ 116 (sv 18)); simp only [qT, pT, Act.put, sIA, sCS, sCZ]; simp [go_sem, quietTo, Ext.refl, f18]; all_goals rfl
      refine fq 20 rfl rfl rfl (fun _ _ h he => h.ext he) rfl rfl ?_; apply Exists.intro; constructor
      ·rintro sv w' hw' ⟨_, (f19 : sv 19 = _), -⟩; (try dsimp only at f19)
       refine ⟨rfl, ?_⟩; simp only [putsL]; change qT (pT (pT _ 117 (sv 19)) 116 (sv 18)); simp only [qT, pT, Act.put, sIA, sCS, sCZ]; simp [go_sem, quietTo, Ext.refl, f19]; all_goals rfl
      refine fq 21 rfl rfl rfl (fun _ _ h he => h.ext he) rfl rfl ?_; apply Exists.intro; constructor
      ·rintro sv w' hw' ⟨_, _, (f20 : sv 20 = _), -⟩; (try dsimp only at f20)
       have d0 : w'.cell? ⟨g, i * 7, none⟩ = some (.string x.by_) := (hw'.cell hgl hgs _).trans c0
       have d1 : w'.cell? ⟨g, i * 7 + 1, none⟩ = some (.int .i64 x.no) := (hw'.cell hgl hgs _).trans c1
       have d2 : w'.cell? ⟨g, i * 7 + 2, none⟩ = some (.int .i64 x.at_) := (hw'.cell hgl hgs _).trans c2
       have d4 : w'.cell? ⟨g, i * 7 + 4, none⟩ = some (.string x.piece) := (hw'.cell hgl hgs _).trans c4
       have d6 : w'.cell? ⟨g, i * 7 + 6, none⟩ = some (.string x.singer) := (hw'.cell hgl hgs _).trans c6
       refine ⟨rfl, ?_⟩; simp only [putsL]; change qT (pT (pT (pT _ 118 (sv 20)) 117 (sv 19)) 116 (sv 18)); simp only [qT, pT, Act.put, sIA, sCS, sCZ]; simp [go_sem, quietTo, Ext.refl, ↓IntWalk.iteOmega, f20, d0, d1, d2]; (all_goals try simp (disch := omega) only [IntWalk.i64_in]); all_goals rfl
      refine fac_row 22 rfl rfl rfl (fun _ _ h he => h.ext he) (fun _ _ h => h.2.2.2.1) (fun _ _ _ _ _ he hg hb => hb.extS (Nat.ne_of_gt (Nat.lt_of_lt_of_le hsl hg)) he) ?_
      apply Exists.intro
      apply Exists.intro
      apply Exists.intro
      apply Exists.intro
      refine ⟨fun sv w' hw' hfa => ?_, ?_⟩
      ·obtain ⟨_, _, _, (f21 : sv 21 = _), -⟩ := hfa; (try dsimp only at f21)
       refine ⟨rfl, ?_⟩; simp only [putsL]; change rowTo _ _ _ _ _ (Sem.run _ (execOp (Act.eval (pT (pT (pT (pT _ 119 (sv 21)) 118 (sv 20)) 117 (sv 19)) 116 (sv 18))) _) _); (try simp only [pT, Act.put, sIA, sCS, sCZ]); simp [go_sem, rowTo, Ext.refl, f21]; (all_goals try simp (disch := omega) only [IntWalk.i64_in]); all_goals first | rfl | exact ⟨rfl, rfl⟩ | exact ⟨⟨rfl, rfl⟩, rfl⟩
      refine fac_loud 23 rfl rfl rfl ?_
      refine ⟨(fun y _ => ∃ z : Int, Hid (z = pkF L (kk + 3 + 2) [x.at_, -1,3]) ∧ y 23 = .int .i64 z), (fun w => StrL w s L (kk + 3 + 2 + 1)), fun sv w' hw' hfa hcc => ?_, ?_, ?_, ?_⟩
      ·obtain ⟨(f17 : sv 17 = _), (f18 : sv 18 = _), (f19 : sv 19 = _), (f20 : sv 20 = _), (f21 : sv 21 = _), f22, -⟩ := hfa; (try dsimp only at f17 f18 f19 f20 f21)
       obtain ⟨g22, f22, l22, b22⟩ := f22; replace f22 : sv 22 = _ := f22; obtain ⟨p22, q22⟩ := b22.walk
       have d0 : w'.cell? ⟨g, i * 7, none⟩ = some (.string x.by_) := (hw'.cell hgl hgs _).trans c0
       have d1 : w'.cell? ⟨g, i * 7 + 1, none⟩ = some (.int .i64 x.no) := (hw'.cell hgl hgs _).trans c1
       have d2 : w'.cell? ⟨g, i * 7 + 2, none⟩ = some (.int .i64 x.at_) := (hw'.cell hgl hgs _).trans c2
       have d4 : w'.cell? ⟨g, i * 7 + 4, none⟩ = some (.string x.piece) := (hw'.cell hgl hgs _).trans c4
       have d6 : w'.cell? ⟨g, i * 7 + 6, none⟩ = some (.string x.singer) := (hw'.cell hgl hgs _).trans c6
       refine ⟨rfl, ?_⟩
       simp only [putsL]
       change outc _ _ (Sem.run _ (execOp (Act.eval (pT (pT (pT (pT (pT (pT _ 120 (sv 22)) 119 (sv 21)) 118 (sv 20)) 117 (sv 19)) 116 (sv 18)) 115 (sv 17))) _) _)
       try simp only [pT, Act.put, sIA, sCS, sCZ]
       simp [go_sem, outc, f17, f22, p22, q22, d0, d1, d2]
       refine (pick_det s (kk + 3 + 2) _ _ 3 [x.at_, -1,3] L _ (by omega) (by simp) (by simp) hcc (by omega) b22).mono ?_
       rintro e w4 ⟨rfl, hS4, hE4⟩
       exact ⟨_, rfl, ⟨hE4, hS4⟩, _, Lib.hid rfl, rfl⟩
      ·intro x w w' h he; exact h
      ·exact fun _ _ h he => h.ext he
      refine fq 24 rfl rfl rfl (fun _ _ h he => h.ext he) rfl rfl ?_; apply Exists.intro; constructor
      ·rintro sv w' hw' ⟨(f0 : sv 0 = _), -⟩; (try dsimp only at f0)
       refine ⟨rfl, ?_⟩; simp only [putsL]; change qT (pT _ 98 (sv 0)); simp only [qT, pT, Act.put, sIA, sCS, sCZ]; simp [go_sem, quietTo, Ext.refl, f0]; all_goals rfl
      refine fq 25 rfl rfl rfl (fun _ _ h he => h.ext he) rfl rfl ?_; apply Exists.intro; constructor
      ·rintro sv w' hw' ⟨_, (f24 : sv 24 = _), -⟩; (try dsimp only at f24)
       refine ⟨rfl, ?_⟩; simp only [putsL]; change qT (pT (pT _ 122 (sv 24)) 98 (sv 0)); simp only [qT, pT, Act.put, sIA, sCS, sCZ]; simp [go_sem, quietTo, Ext.refl, f24]; all_goals rfl
      refine fac_nil fun xq wrq herq hfrq hcrq holdq hapq => ?_
      obtain ⟨(f0 : xq 0 = _), (f1 : xq 1 = _), (f2 : xq 2 = _), (f3 : xq 3 = _), (f4 : xq 4 = _), (f5 : xq 5 = _), (f6 : xq 6 = _), (f7 : xq 7 = _), f8, f9, f10, f11, f12, f13, f14, f15, f16, f17, f18, f19, f20, f21, f22, f23, f24, f25, -⟩ := hfrq; (try dsimp only at f0 f1 f2 f3 f4 f5 f6 f7)
      obtain ⟨g8, f8, l8, b8⟩ := f8; replace f8 : xq 8 = _ := f8; obtain ⟨p8, q8⟩ := b8.walk
      obtain ⟨nm, hnm, qnm, f9⟩ := f9
      replace f9 : xq 9 = _ := f9; replace f10 : xq 10 = _ := f10
      try dsimp only at f10
      replace f11 : xq 11 = _ := f11
      try dsimp only at f11
      replace f12 : xq 12 = _ := f12
      try dsimp only at f12
      replace f13 : xq 13 = _ := f13
      try dsimp only at f13
      replace f14 : xq 14 = _ := f14
      try dsimp only at f14
      obtain ⟨g15, f15, l15, b15⟩ := f15; replace f15 : xq 15 = _ := f15; obtain ⟨p15, q15⟩ := b15.walk
      obtain ⟨z16, qz16, f16⟩ := f16
      replace f16 : xq 16 = _ := f16; replace f17 : xq 17 = _ := f17
      try dsimp only at f17
      replace f18 : xq 18 = _ := f18
      try dsimp only at f18
      replace f19 : xq 19 = _ := f19
      try dsimp only at f19
      replace f20 : xq 20 = _ := f20
      try dsimp only at f20
      replace f21 : xq 21 = _ := f21
      try dsimp only at f21
      obtain ⟨g22, f22, l22, b22⟩ := f22; replace f22 : xq 22 = _ := f22; obtain ⟨p22, q22⟩ := b22.walk
      obtain ⟨z23, qz23, f23⟩ := f23
      replace f23 : xq 23 = _ := f23; replace f24 : xq 24 = _ := f24
      try dsimp only at f24
      replace f25 : xq 25 = _ := f25
      try dsimp only at f25
      change wpList _ _ _ _ (pT (pT (pT (pT (pT (pT (pT (pT (pT (pT (pT (pT (pT (pT (pT (pT (pT (pT (pT (pT (pT (pT (pT (pT (pT (pT _ 98 (xq 0)) 99 (xq 1)) 100 (xq 2)) 101 (xq 3)) 102 (xq 4)) 103 (xq 5)) 104 (xq 6)) 105 (xq 7)) 106 (xq 8)) 107 (xq 9)) 108 (xq 10)) 109 (xq 11)) 110 (xq 12)) 111 (xq 13)) 112 (xq 14)) 113 (xq 15)) 114 (xq 16)) 115 (xq 17)) 116 (xq 18)) 117 (xq 19)) 118 (xq 20)) 119 (xq 21)) 120 (xq 22)) 121 (xq 23)) 122 (xq 24)) 123 (xq 25)) _
      simp only [putsL, Nat.reduceAdd, List.drop_succ_cons, List.drop_zero, List.drop_nil, pT, Act.put, sIA, sCS, sCZ]
      try simp only [f0, f1, f2, f3, f4, f5, f6, f7, f8, f9, f10, f11, f12, f13, f14, f15, f16, f17, f18, f19, f20, f21, f22, f23, f24, f25]
      clear f0 f1 f2 f3 f4 f5 f6 f7 f10 f11 f12 f13 f14 f17 f18 f19 f20 f21 f24 f25; clear holdq hapq
      have hoq := own_extS herq (by omega) (World.ownsRow.drew ho4.out)
      have hEq : ExtS s w wrq := ((hE4'.drew).trans herq)
      clear ho4 hE4' herq c0 c1 c2 c3 c4 c5 c6 hS4 hS4d hsl hsld hgl
      have c0 : wrq.cell? ⟨g, i * 7, none⟩ = some (.string x.by_) := own_cell slipC_len hoq hx.out 0 rfl hi
      have c1 : wrq.cell? ⟨g, i * 7 + 1, none⟩ = some (.int .i64 x.no) := own_cell slipC_len hoq hx.out 1 rfl hi
      have c2 : wrq.cell? ⟨g, i * 7 + 2, none⟩ = some (.int .i64 x.at_) := own_cell slipC_len hoq hx.out 2 rfl hi
      have c3 : wrq.cell? ⟨g, i * 7 + 3, none⟩ = some (.int .i64 x.kind) := own_cell slipC_len hoq hx.out 3 rfl hi
      have c6 : wrq.cell? ⟨g, i * 7 + 6, none⟩ = some (.string x.singer) := own_cell slipC_len hoq hx.out 6 rfl hi
      have z0 : ∀ o, wrq.frozen? ⟨g, o, none⟩ = false := fun o => hoq.frozenAt o
      have hres := hset ⟨nm, z16, z23, x.kind, x.piece, x.copy, x.singer⟩ (by exact ⟨hnm, s2, s3⟩) (kk + 3 + 2 + 1) (by rw [hmod.out 0 qu.out.symm, if_pos rfl, qnm.out, qz16.out, qz23.out]) (by omega) _ (sli_mod3 hoq hx.out nm z16 z23) (((hcrq.set (p := ⟨g, i * 7, none⟩) hsg (.string nm)).set (p := ⟨g, i * 7 + 1, none⟩) hsg (.int .i64 z16)).set (p := ⟨g, i * 7 + 2, none⟩) hsg (.int .i64 z23)) (((hEq.setCell (p := ⟨g, i * 7, none⟩) (.inr hwg) (.string nm)).setCell (p := ⟨g, i * 7 + 1, none⟩) (.inr hwg) (.int .i64 z16)).setCell (p := ⟨g, i * 7 + 2, none⟩) (.inr hwg) (.int .i64 z23))
      replace hoq := Lib.hid hoq; replace hres := Lib.hid hres; clear hg
      go_wp2
      go_ret
      exact hres.out
     ·skip
      go_upto_region 24 with fail
      refine wp_region_facts [1] [([],false,false),([],false,false),([],false,false),([2], true, false),([],false,false),([],false,false),([5],false,false),([5,6],false,false),([5,6,7],false,false),([5,6,7,8], false, true),([4,5,6,7,8,9], true, false),([0],false,false),([0,11],false,false)] (ExtS s) Ext (fun w => StrL w s L (kk + 3)) (by kernel_rfl) (by kernel_rfl) Ext.refl (fun _ _ _ => ExtS.trans) (fun _ _ h => h.extS) (fun _ _ h => h.2.2.2.1) (fun _ _ h he => h.ext he) hS4d ?_
      dsimp only [List.length_cons, List.length_nil, List.drop_succ_cons, List.drop_zero, List.drop_nil]
      refine fq 0 rfl rfl rfl (fun _ _ h he => h.ext he) rfl rfl ?_; apply Exists.intro; constructor
      ·intro sv w' hw' hfa
       refine ⟨rfl, ?_⟩; simp only [putsL]; change qT _; simp only [qT, Act.put, sIA, sCS, sCZ]; simp [go_sem, quietTo, Ext.refl]; all_goals rfl
      refine fac_late 1 rfl rfl Ext.refl (fun _ _ h he => h.ext he) rfl rfl (fun _ _ _ _ h => h) ?_; apply Exists.intro; constructor
      ·intro sv w' hw' hfa
       refine ⟨rfl, fun w2 => ?_⟩
       simp only [putsL]
       change pureTo _ _ (Sem.run _ (execOp (Act.eval _) _) _)
       try simp only [Act.put, sIA, sCS, sCZ]
       simp [go_sem, pureTo]
       (all_goals try simp (disch := omega) only [IntWalk.i64_in]); all_goals rfl
      refine fq 2 rfl rfl rfl (fun _ _ h he => h.ext he) rfl rfl ?_; apply Exists.intro; constructor
      ·intro sv w' hw' hfa
       refine ⟨rfl, ?_⟩; simp only [putsL]; change qT _; simp only [qT, Act.put, sIA, sCS, sCZ]; simp [go_sem, quietTo, Ext.refl]; all_goals rfl
      refine fac_loud 3 rfl rfl rfl ?_
      refine ⟨(fun y _ => ∃ z : Int, Hid (z = odF L (kk + 3) 1 5) ∧ y 3 = .int .i64 z), (fun w => StrL w s L (kk + 3 + 2)), fun sv w' hw' hfa hcc => ?_, ?_, ?_, ?_⟩
      ·obtain ⟨(f2 : sv 2 = _), -⟩ := hfa; (try dsimp only at f2)
       have d0 : w'.cell? ⟨g, i * 7, none⟩ = some (.string x.by_) := (hw'.cell hgl hgs _).trans c0
       have d1 : w'.cell? ⟨g, i * 7 + 1, none⟩ = some (.int .i64 x.no) := (hw'.cell hgl hgs _).trans c1
       have d2 : w'.cell? ⟨g, i * 7 + 2, none⟩ = some (.int .i64 x.at_) := (hw'.cell hgl hgs _).trans c2
       have d4 : w'.cell? ⟨g, i * 7 + 4, none⟩ = some (.string x.piece) := (hw'.cell hgl hgs _).trans c4
       have d6 : w'.cell? ⟨g, i * 7 + 6, none⟩ = some (.string x.singer) := (hw'.cell hgl hgs _).trans c6
       refine ⟨rfl, ?_⟩
       simp only [putsL]
       change outc _ _ (Sem.run _ (execOp (Act.eval (pT _ 132 (sv 2))) _) _)
       try simp only [pT, Act.put, sIA, sCS, sCZ]
       simp [go_sem, outc, f2, d6]
       refine (odd_hid s (kk + 3) 1 5 L _ (by omega) (by omega) (by omega) (by omega) (by omega) hcc).mono ?_
       rintro e w4 ⟨y, qy, rfl, ya, yb, hS4, hE4⟩
       exact ⟨_, rfl, ⟨hE4, hS4⟩, y, qy, rfl⟩
      ·intro x w w' h he; exact h
      ·exact fun _ _ h he => h.ext he
      refine fq 4 rfl rfl rfl (fun _ _ h he => h.ext he) rfl rfl ?_; apply Exists.intro; constructor
      ·intro sv w' hw' hfa
       refine ⟨rfl, ?_⟩; simp only [putsL]; change qT _; simp only [qT, Act.put, sIA, sCS, sCZ]; simp [go_sem, quietTo, Ext.refl]; all_goals rfl
      refine fq 5 rfl rfl rfl (fun _ _ h he => h.ext he) rfl rfl ?_; apply Exists.intro; constructor
      ·intro sv w' hw' hfa
       refine ⟨rfl, ?_⟩; simp only [putsL]; change qT _; simp only [qT, Act.put, sIA, sCS, sCZ]; simp [go_sem, quietTo, Ext.refl]; all_goals rfl
      refine fq 6 rfl rfl rfl (fun _ _ h he => h.ext he) rfl rfl ?_; apply Exists.intro; constructor
      ·rintro sv w' hw' ⟨(f5 : sv 5 = _), -⟩; (try dsimp only at f5)
       refine ⟨rfl, ?_⟩; simp only [putsL]; change qT (pT _ 135 (sv 5)); simp only [qT, pT, Act.put, sIA, sCS, sCZ]; simp [go_sem, quietTo, Ext.refl, f5]; all_goals rfl
      refine fq 7 rfl rfl rfl (fun _ _ h he => h.ext he) rfl rfl ?_; apply Exists.intro; constructor
      ·rintro sv w' hw' ⟨_, (f6 : sv 6 = _), -⟩; (try dsimp only at f6)
       refine ⟨rfl, ?_⟩; simp only [putsL]; change qT (pT (pT _ 136 (sv 6)) 135 (sv 5)); simp only [qT, pT, Act.put, sIA, sCS, sCZ]; simp [go_sem, quietTo, Ext.refl, f6]; all_goals rfl
      refine fq 8 rfl rfl rfl (fun _ _ h he => h.ext he) rfl rfl ?_; apply Exists.intro; constructor
      ·rintro sv w' hw' ⟨_, _, (f7 : sv 7 = _), -⟩; (try dsimp only at f7)
       have d0 : w'.cell? ⟨g, i * 7, none⟩ = some (.string x.by_) := (hw'.cell hgl hgs _).trans c0
       have d1 : w'.cell? ⟨g, i * 7 + 1, none⟩ = some (.int .i64 x.no) := (hw'.cell hgl hgs _).trans c1
       have d2 : w'.cell? ⟨g, i * 7 + 2, none⟩ = some (.int .i64 x.at_) := (hw'.cell hgl hgs _).trans c2
       have d4 : w'.cell? ⟨g, i * 7 + 4, none⟩ = some (.string x.piece) := (hw'.cell hgl hgs _).trans c4
       have d6 : w'.cell? ⟨g, i * 7 + 6, none⟩ = some (.string x.singer) := (hw'.cell hgl hgs _).trans c6
       refine ⟨rfl, ?_⟩; simp only [putsL]; change qT (pT (pT (pT _ 137 (sv 7)) 136 (sv 6)) 135 (sv 5)); simp only [qT, pT, Act.put, sIA, sCS, sCZ]; simp [go_sem, quietTo, Ext.refl, ↓IntWalk.iteOmega, f7, d6]; (all_goals try simp (disch := omega) only [IntWalk.i64_in]); all_goals rfl
      refine fac_row 9 rfl rfl rfl (fun _ _ h he => h.ext he) (fun _ _ h => h.2.2.2.1) (fun _ _ _ _ _ he hg hb => hb.extS (Nat.ne_of_gt (Nat.lt_of_lt_of_le hsl hg)) he) ?_
      apply Exists.intro
      apply Exists.intro
      apply Exists.intro
      apply Exists.intro
      refine ⟨fun sv w' hw' hfa => ?_, ?_⟩
      ·obtain ⟨_, _, _, (f8 : sv 8 = _), -⟩ := hfa; (try dsimp only at f8)
       refine ⟨rfl, ?_⟩; simp only [putsL]; change rowTo _ _ _ _ _ (Sem.run _ (execOp (Act.eval (pT (pT (pT (pT _ 138 (sv 8)) 137 (sv 7)) 136 (sv 6)) 135 (sv 5))) _) _); (try simp only [pT, Act.put, sIA, sCS, sCZ]); simp [go_sem, rowTo, Ext.refl, f8]; (all_goals try simp (disch := omega) only [IntWalk.i64_in]); all_goals first | rfl | exact ⟨rfl, rfl⟩ | exact ⟨⟨rfl, rfl⟩, rfl⟩
      refine fac_loud 10 rfl rfl rfl ?_
      refine ⟨(fun y _ => ∃ nm : ByteArray, nm.size ≤ 1000000 ∧ Hid (nm = smF L (kk + 3 + 2) [x.singer, ⟨#[]⟩, ⟨#[97,110,110]⟩]) ∧ y 10 = .string nm), (fun w => StrL w s L (kk + 3 + 2 + 1)), fun sv w' hw' hfa hcc => ?_, ?_, ?_, ?_⟩
      ·obtain ⟨(f4 : sv 4 = _), (f5 : sv 5 = _), (f6 : sv 6 = _), (f7 : sv 7 = _), (f8 : sv 8 = _), f9, -⟩ := hfa; (try dsimp only at f4 f5 f6 f7 f8)
       obtain ⟨g9, f9, l9, b9⟩ := f9; replace f9 : sv 9 = _ := f9; obtain ⟨p9, q9⟩ := b9.walk
       have d0 : w'.cell? ⟨g, i * 7, none⟩ = some (.string x.by_) := (hw'.cell hgl hgs _).trans c0
       have d1 : w'.cell? ⟨g, i * 7 + 1, none⟩ = some (.int .i64 x.no) := (hw'.cell hgl hgs _).trans c1
       have d2 : w'.cell? ⟨g, i * 7 + 2, none⟩ = some (.int .i64 x.at_) := (hw'.cell hgl hgs _).trans c2
       have d4 : w'.cell? ⟨g, i * 7 + 4, none⟩ = some (.string x.piece) := (hw'.cell hgl hgs _).trans c4
       have d6 : w'.cell? ⟨g, i * 7 + 6, none⟩ = some (.string x.singer) := (hw'.cell hgl hgs _).trans c6
       refine ⟨rfl, ?_⟩
       simp only [putsL]
       change outc _ _ (Sem.run _ (execOp (Act.eval (pT (pT (pT (pT (pT (pT _ 139 (sv 9)) 138 (sv 8)) 137 (sv 7)) 136 (sv 6)) 135 (sv 5)) 134 (sv 4))) _) _)
       try simp only [pT, Act.put, sIA, sCS, sCZ]
       simp [go_sem, outc, f4, f9, p9, q9, d6]
       refine (somes_hid s (kk + 3 + 2) _ _ 3 [x.singer, ⟨#[]⟩, ⟨#[97,110,110]⟩] L _ (by omega) (by simp) (by simp) hcc (by omega) b9).mono ?_
       rintro e w4 ⟨y, hy, qy, rfl, hS4, hE4⟩
       refine ⟨_, rfl, ⟨hE4, hS4⟩, y, ?_, qy, rfl⟩
       rcases (by simpa using hy : y = x.singer ∨ y = ⟨#[]⟩ ∨ y = ⟨#[97,110,110]⟩) with rfl | rfl | rfl
       ·exact s3
       ·exact Nat.zero_le _
       ·decide
      ·intro x w w' h he; exact h
      ·exact fun _ _ h he => h.ext he
      refine fq 11 rfl rfl rfl (fun _ _ h he => h.ext he) rfl rfl ?_; apply Exists.intro; constructor
      ·rintro sv w' hw' ⟨(f0 : sv 0 = _), -⟩; (try dsimp only at f0)
       refine ⟨rfl, ?_⟩; simp only [putsL]; change qT (pT _ 130 (sv 0)); simp only [qT, pT, Act.put, sIA, sCS, sCZ]; simp [go_sem, quietTo, Ext.refl, f0]; all_goals rfl
      refine fq 12 rfl rfl rfl (fun _ _ h he => h.ext he) rfl rfl ?_; apply Exists.intro; constructor
      ·rintro sv w' hw' ⟨_, (f11 : sv 11 = _), -⟩; (try dsimp only at f11)
       refine ⟨rfl, ?_⟩; simp only [putsL]; change qT (pT (pT _ 141 (sv 11)) 130 (sv 0)); simp only [qT, pT, Act.put, sIA, sCS, sCZ]; simp [go_sem, quietTo, Ext.refl, f11]; all_goals rfl
      refine fac_nil fun xq wrq herq hfrq hcrq holdq hapq => ?_
      obtain ⟨(f0 : xq 0 = _), (f1 : xq 1 = _), (f2 : xq 2 = _), f3, f4, f5, f6, f7, f8, f9, f10, f11, f12, -⟩ := hfrq; (try dsimp only at f0 f1 f2)
      obtain ⟨z3, qz3, f3⟩ := f3
      replace f3 : xq 3 = _ := f3; replace f4 : xq 4 = _ := f4
      try dsimp only at f4
      replace f5 : xq 5 = _ := f5
      try dsimp only at f5
      replace f6 : xq 6 = _ := f6
      try dsimp only at f6
      replace f7 : xq 7 = _ := f7
      try dsimp only at f7
      replace f8 : xq 8 = _ := f8
      try dsimp only at f8
      obtain ⟨g9, f9, l9, b9⟩ := f9; replace f9 : xq 9 = _ := f9; obtain ⟨p9, q9⟩ := b9.walk
      obtain ⟨nm, hnm, qnm, f10⟩ := f10
      replace f10 : xq 10 = _ := f10; replace f11 : xq 11 = _ := f11
      try dsimp only at f11
      replace f12 : xq 12 = _ := f12
      try dsimp only at f12
      change wpList _ _ _ _ (pT (pT (pT (pT (pT (pT (pT (pT (pT (pT (pT (pT (pT _ 130 (xq 0)) 131 (xq 1)) 132 (xq 2)) 133 (xq 3)) 134 (xq 4)) 135 (xq 5)) 136 (xq 6)) 137 (xq 7)) 138 (xq 8)) 139 (xq 9)) 140 (xq 10)) 141 (xq 11)) 142 (xq 12)) _
      simp only [putsL, Nat.reduceAdd, List.drop_succ_cons, List.drop_zero, List.drop_nil, pT, Act.put, sIA, sCS, sCZ]
      try simp only [f0, f1, f2, f3, f4, f5, f6, f7, f8, f9, f10, f11, f12]
      clear f0 f1 f2 f4 f5 f6 f7 f8 f11 f12; clear holdq hapq
      have hoq := own_extS herq (by omega) (World.ownsRow.drew ho4.out)
      have hEq : ExtS s w wrq := ((hE4'.drew).trans herq)
      clear ho4 hE4' herq c0 c1 c2 c3 c4 c5 c6 hS4 hS4d hsl hsld hgl
      have c0 : wrq.cell? ⟨g, i * 7, none⟩ = some (.string x.by_) := own_cell slipC_len hoq hx.out 0 rfl hi
      have c1 : wrq.cell? ⟨g, i * 7 + 1, none⟩ = some (.int .i64 x.no) := own_cell slipC_len hoq hx.out 1 rfl hi
      have c2 : wrq.cell? ⟨g, i * 7 + 2, none⟩ = some (.int .i64 x.at_) := own_cell slipC_len hoq hx.out 2 rfl hi
      have c3 : wrq.cell? ⟨g, i * 7 + 3, none⟩ = some (.int .i64 x.kind) := own_cell slipC_len hoq hx.out 3 rfl hi
      have c6 : wrq.cell? ⟨g, i * 7 + 6, none⟩ = some (.string x.singer) := own_cell slipC_len hoq hx.out 6 rfl hi
      have z0 : ∀ o, wrq.frozen? ⟨g, o, none⟩ = false := fun o => hoq.frozenAt o
      have hres := hset ⟨x.by_, x.no, x.at_, z3, x.piece, x.copy, nm⟩ (by exact ⟨s1, s2, hnm⟩) (kk + 3 + 2 + 1) (by rw [hmod.out 1 qu.out.symm, if_neg (by decide), if_pos rfl, qnm.out, qz3.out]) (by omega) _ (sli_mod36 hoq hx.out z3 nm) ((hcrq.set (p := ⟨g, i * 7 + 3, none⟩) hsg (.int .i64 z3)).set (p := ⟨g, i * 7 + 6, none⟩) hsg (.string nm)) ((hEq.setCell (p := ⟨g, i * 7 + 3, none⟩) (.inr hwg) (.int .i64 z3)).setCell (p := ⟨g, i * 7 + 6, none⟩) (.inr hwg) (.string nm))
      replace hoq := Lib.hid hoq; replace hres := Lib.hid hres; clear hg
      go_wp2
      go_ret
      exact hres.out
     ·have l4 := hS4.lt
      go_wp2_with (first
       | (go_at_call 12; go_loud (refine (somes_hid s (kk + 3) _ _ 2 [x.piece, ⟨#[]⟩] L _ (by omega) (by simp) (by simp) (by exact hS4.ext (Ext.alloc (Ext.refl _) _)) (by exact Nat.ne_of_gt l4) (by exact Blk.new' rfl)).mono ?_; rintro e w5 ⟨nm, hnm, qnm, rfl, hS5, hE5⟩; have hE5' := (hE4'.alloc _).trans hE5; have ho5 := own_extS hE5 (by omega) (ho4.out.alloc _); clear hS4 hE4' hE5))
       | (go_at_call 80; go_loud (refine (odd_hid s (kk + 3 + 1) 1 500 L _ (by omega) (by omega) (by omega) (by omega) (by omega) hS5).mono ?_; rintro e wrq ⟨z5, qz5, rfl, hz1, hz2, hcrq, hE6⟩; have hEq := hE5'.trans hE6; have hoq := own_extS hE6 (by omega) ho5; clear hS5 hE5' hE6 ho5; have c4 : wrq.cell? ⟨g, i * 7 + 4, none⟩ = some (.string x.piece) := own_cell slipC_len hoq hx.out 4 rfl hi; have c5 : wrq.cell? ⟨g, i * 7 + 5, none⟩ = some (.int .i64 x.copy) := own_cell slipC_len hoq hx.out 5 rfl hi; have z0 : ∀ o, wrq.frozen? ⟨g, o, none⟩ = false := fun o => hoq.frozenAt o; replace hoq := Lib.hid hoq)))
      have hns : nm.size ≤ 1000000 := by
       rcases (by simpa using hnm : nm = x.piece ∨ nm = ⟨#[]⟩) with rfl | rfl
       ·exact s2
       ·exact Nat.zero_le _
      go_ret
      exact hset ⟨x.by_, x.no, x.at_, x.kind, nm, z5, x.singer⟩ ⟨s1, hns, s3⟩ (kk + 3 + 1 + 2) (by rw [hmod.out 2 qu.out.symm, if_neg (by decide), if_neg (by decide), qnm.out, qz5.out]) (by omega) _ (sli_mod45 hoq.out hx.out nm z5) ((hcrq.set (p := ⟨g, i * 7 + 4, none⟩) hsg (.string nm)).set (p := ⟨g, i * 7 + 5, none⟩) hsg (.int .i64 z5)) ((hEq.setCell (p := ⟨g, i * 7 + 4, none⟩) (.inr hwg) (.string nm)).setCell (p := ⟨g, i * 7 + 5, none⟩) (.inr hwg) (.int .i64 z5))
end Go.Proofs.YtehboinleolihaaGreatDoor
