/- The text of slips, by both texts: what is written. Conditions: sizes. (Printed by gen_sle.py.) -/
import Derived.Test.YtehboinleolihaaGreatDoorZkSlD
import Derived.Test.YtehboinleolihaaGreatDoorZkJ11
import Derived.Test.YtehboinleolihaaGreatDoorZkJ13
import Derived.Test.YtehboinleolihaaGreatDoorZkJ12
set_option linter.unusedSimpArgs false
set_option linter.unusedVariables false
namespace Go.Proofs.YtehboinleolihaaGreatDoor
open Go Go.RowKit
theorem word_len {x : SlipV} (h : SlipOk x) : ∀ w ∈ wordsV x, w.data.toList.length ≤ 40 := by
 obtain ⟨h1, h2, h3, h4, h5, h6, h7⟩ := h
 have hkey : ∀ {s : ByteArray}, keyB s = true → s.data.toList.length ≤ 40 := fun {s} hs => by
  have := (key_bytes hs).2.2.2
  rw [Array.length_toList]; exact this
 have hnum : ∀ n : Int, 0 ≤ n → n < 1000000000000000 → (itoaL n).data.toList.length ≤ 40 := fun n h0 h1 => by
  obtain ⟨k, rfl⟩ : ∃ k : Nat, n = k := ⟨n.toNat, by omega⟩
  have e : (itoaL (k : Int)).data.toList = Lib.decDigits k := by
   show (Lib.itoa (k : Int)).toArray.toList = _
   rw [Lib.itoa_nonneg]
  rw [e]
  have := dec_small (n := k) (m := 15) (by omega) (by omega)
  omega
 have hkind : ∀ j : Fin 6, (kindW.getD j.val ⟨#[]⟩).data.toList.length ≤ 40 := by decide +kernel
 intro w hw
 unfold wordsV at hw
 rcases List.mem_append.1 hw with hw | hw
 ·simp only [List.mem_cons, List.not_mem_nil, or_false] at hw
  rcases hw with rfl | rfl | rfl | rfl | rfl | rfl
  ·exact hkey h1
  ·exact hnum _ (by omega) (by omega)
  ·exact hnum _ (by omega) (by omega)
  ·exact hkind ⟨x.kind.toNat, by omega⟩
  ·exact hkey h5
  ·exact hnum _ (by omega) (by omega)
 ·rcases h7 with ⟨hk, hs⟩ | ⟨hk, hs⟩
  ·rw [if_pos hk] at hw
   rw [List.mem_singleton.1 hw]
   exact hkey hs
  ·rw [if_neg hk] at hw; cases hw
theorem wordsV_len (x : SlipV) : (wordsV x).length ≤ 7 := by unfold wordsV; split <;> simp
theorem line_len {x : SlipV} (h : SlipOk x) : (lineV x).length ≤ 290 := by
 unfold lineV
 have h1 := join_len 32 (m := 40) (bytesW (wordsV x)) fun l hl => by
  obtain ⟨w, hw, rfl⟩ := List.mem_map.1 hl
  exact word_len h w hw
 have h2 : (bytesW (wordsV x)).length ≤ 7 := by unfold bytesW; rw [List.length_map]; exact wordsV_len x
 have := Nat.mul_le_mul_right 41 h2
 omega
theorem text_len : ∀ {d : List SlipV}, (∀ x ∈ d, SlipOk x) → (textV d).length ≤ d.length * 300
 | [], _ => Nat.le_refl _
 | x :: d, h => by
   have ih := text_len (d := d) fun y hy => h y (List.mem_cons_of_mem _ hy)
   have := line_len (h x List.mem_cons_self)
   show ((lineV x ++ [10]) ++ textV d).length ≤ _
   simp only [List.length_append, List.length_cons, List.length_nil]
   omega
theorem text_step {xs : List SlipV} {k : Nat} {x : SlipV} (hx : xs[k]? = some x) : textV (xs.take (k + 1)) = textV (xs.take k) ++ (lineV x ++ [10]) := by
 obtain ⟨hk, e⟩ := List.getElem?_eq_some_iff.1 hx
 unfold textV
 rw [List.take_succ_eq_append_getElem hk, e, List.flatMap_append]
 simp
def kindCells : Array Value := #[.string ⟨#[]⟩, .string ⟨#[108,101,110,100]⟩, .string ⟨#[98,97,99,107]⟩, .string ⟨#[108,111,115,116]⟩, .string ⟨#[102,111,117,110,100]⟩, .string ⟨#[114,101,116,105,114,101]⟩]
theorem kindCells_at {k : Nat} (h : k < 6) : kindCells[k]? = some (.string (kindW.getD k ⟨#[]⟩)) := by
 obtain rfl | rfl | rfl | rfl | rfl | rfl : k = 0 ∨ k = 1 ∨ k = 2 ∨ k = 3 ∨ k = 4 ∨ k = 5 := by omega
 all_goals rfl
set_option maxRecDepth 100000 in
theorem kindWo_any (w : World) :
 Calls Tryz.prog 150 #[] w fun e w' => e = .returned (.slice (some ⟨w.heap.size, 0, none⟩) 6 6) ∧ w' = w.alloc (.cells kindCells 9) := by
 go_enter Tryz.func150, Tryz.ntmps150
 go_wp2
 go_ret
 exact ⟨rfl, rfl⟩
theorem kindWo_fresh (w : World) :
 Calls Tryz.prog 150 #[] w fun e w' => ∃ v, e = .returned v ∧ FreshS v w w' 9 kindCells 6 6 ∧ Ext w w' :=
 (kindWo_any w).mono fun e w' ⟨he, hw⟩ => ⟨_, he, ⟨_, rfl, Nat.le_refl _, hw ▸ Blk.new' rfl⟩, hw ▸ (Ext.refl _).alloc _⟩
set_option maxRecDepth 100000 in
theorem slipWo_any (w : World) :
 Calls Tryz.prog 155 #[] w fun e w' => e = .returned (.slice (some ⟨w.heap.size, 0, none⟩) 6 6) ∧ w' = w.alloc (.cells kindCells 9) := by
 go_enter Tryz.func155, Tryz.ntmps155
 go_wp2
 go_ret
 exact ⟨rfl, rfl⟩
theorem slipWo_fresh (w : World) :
 Calls Tryz.prog 155 #[] w fun e w' => ∃ v, e = .returned v ∧ FreshS v w w' 9 kindCells 6 6 ∧ Ext w w' :=
 (slipWo_any w).mono fun e w' ⟨he, hw⟩ => ⟨_, he, ⟨_, rfl, Nat.le_refl _, hw ▸ Blk.new' rfl⟩, hw ▸ (Ext.refl _).alloc _⟩
theorem joined_own {w : World} {base g n c : Nat} {e : TypeId} {W : List ByteArray} {x : SlipV} (h : w.ownsRow base e 1 (.slice (some ⟨g, 0, none⟩) n c) n (W.map Value.string)) (hn : W.length = n) (hn1 : n ≤ 1000) (hW : wordsV x = W) (hl : (lineV x).length ≤ 290) :
 Calls Tryz.prog 156 #[.slice (some ⟨g, 0, none⟩) n c, .string ⟨#[32]⟩] w fun e w' => e = .returned (.string ⟨(lineV x).toArray⟩) ∧ Ext w w' := by
 obtain ⟨h1, h2, h3⟩ := own_cells1 h hn
 have e : lineV x = Lib.join (bytesW W) [32] := by rw [← hW]; rfl
 rw [e] at hl ⊢
 exact joined_any g n c W w h1 h2 hn hn1 h3 (by omega)
theorem kitJoin_own {w : World} {base g n c : Nat} {e : TypeId} {W : List ByteArray} {x : SlipV} (h : w.ownsRow base e 1 (.slice (some ⟨g, 0, none⟩) n c) n (W.map Value.string)) (hn : W.length = n) (hn1 : n ≤ 1000) (hW : wordsV x = W) (hl : (lineV x).length ≤ 290) :
 Calls Tryz.prog 152 #[.slice (some ⟨g, 0, none⟩) n c] w fun e w' => e = .returned (.string ((⟨(lineV x).toArray⟩ : ByteArray) ++ ⟨#[10]⟩)) ∧ Ext w w' := by
 obtain ⟨h1, h2, h3⟩ := own_cells1 h hn
 have e : lineV x = Lib.join (bytesW W) [32] := by rw [← hW]; rfl
 rw [e] at hl ⊢
 exact kitJoin_any g n c W w h1 h2 hn hn1 h3 (by omega)
/-- What Text answers. -/
def textR (xs : List SlipV) : ByteArray × Int := if slipsF xs = 0 then (if 200000 < (textV xs).length then (⟨#[]⟩, 2) else (⟨(textV xs).toArray⟩, 0)) else (⟨#[]⟩, slipsF xs)
set_option maxRecDepth 100000 in
set_option maxHeartbeats 6400000 in
theorem text_any (T0 : Nat) (p : Option Addr) (n c : Nat) (xs : List SlipV) (w : World) (h : Sl 7 slipC w p n xs) (hs : ∀ x ∈ xs, x.Small) (hn : n ≤ 1000000) (ht : Tab T0 w) :
 Calls Tryz.prog 75 #[.slice p n c] w fun e w' => e = .returned (.tuple #[.string (textR xs).1, .int .i64 (textR xs).2]) ∧ Ext w w' := by
 have hcs := checkSlips_any p n c xs w h hs hn
 by_cases hq : slipsF xs = 0
 rotate_left
 ·have hR : textR xs = (⟨#[]⟩, slipsF xs) := by unfold textR; rw [if_neg hq]
  rw [hR]
  clear hR
  generalize slipsF xs = f at *
  replace hcs := Lib.hid hcs
  go_enter Tryz.func75, Tryz.ntmps75
  go_wp2_with (go_at_call 73; (with_reducible refine Calls.mono hcs.out ?_); rintro e w1 ⟨rfl, hb1⟩)
  go_ret2
  exact ⟨rfl, hb1⟩
 obtain ⟨hq1, hq2⟩ := slipsF_good hq
 have hok : ∀ x ∈ xs, SlipOk x := fun x hx => slip_ok (hq2 x hx)
 have hR : textR xs = if 200000 < (textV xs).length then (⟨#[]⟩, 2) else (⟨(textV xs).toArray⟩, 0) := by unfold textR; rw [if_pos hq]
 replace hR := Lib.hid hR; clear hq2
 have hl := h.1
 rw [hq] at hcs
 have htl := text_len hok
 replace hcs := Lib.hid hcs; clear hq
 go_enter Tryz.func75, Tryz.ntmps75
 go_wp2_with (go_at_call 73; (with_reducible refine Calls.mono hcs.out ?_); rintro e w1 ⟨rfl, hb1⟩)
 have ht1 := ht.ext hb1
 replace h := h.ext hb1
 have hb0 := bld_new w1
 have hlow : ∀ wr, Ext w1 wr → Tab T0 wr := fun wr hr => ht1.ext hr
 replace hb0 := Lib.hid hb0; replace hlow := Lib.hid hlow; replace hl := Lib.hid hl
 go_loopw [16] (fun i wr => ∃ k : Nat, k ≤ n ∧ i = .int .i64 k ∧ BldF w1.heap.size w1.heap.size (Lib.byteCells (textV (xs.take k))) wr ∧ Ext w1 wr) (fun i _ => n - (intOf i).toNat)
 case atStart => exact ⟨0, Nat.zero_le _, rfl, hb0.out, (Ext.refl _).alloc _⟩
 case round =>
  obtain ⟨k, hk, rfl, hB, he⟩ := hrel
  by_cases hlt : k < n
  ·obtain ⟨b, off, rfl, hb, hE⟩ := h.2.2 (by omega)
   obtain ⟨x, hx⟩ := getD_some hl.out hlt
   have hbw := Nat.lt_of_lt_of_le hb he.size
   obtain ⟨c0, c1, c2, c3, c4, c5, c6⟩ := (hE.ext he hb).slip hx
   have hxo := hok x (List.mem_of_getElem? hx)
   have hxo2 := hxo
   obtain ⟨-, n1, n2, n3, -, n5, -⟩ := hxo2
   obtain ⟨n1a, n1b⟩ := n1
   obtain ⟨n2a, n2b⟩ := n2
   obtain ⟨n5a, n5b⟩ := n5
   obtain ⟨kk, hkk⟩ : ∃ kk : Nat, x.kind = kk := ⟨x.kind.toNat, by omega⟩
   have hk6 : (kk : Int) < 6 := by omega
   obtain ⟨kw, hkw⟩ : ∃ kw, kindW.getD kk ⟨#[]⟩ = kw := ⟨_, rfl⟩
   have hkc := kindCells_at (k := kk) (by omega)
   rw [hkw] at hkc
   have hstep := text_step hx
   have hwl : (wordsV x) = [x.by_, itoaL x.no, itoaL x.at_, kw, x.piece, itoaL x.copy] ++ if kk = 1 then [x.singer] else [] := by
    unfold wordsV
    rw [hkk, Int.toNat_natCast, hkw]
    by_cases h1 : kk = 1
    ·rw [if_pos h1, if_pos (by omega)]
    ·rw [if_neg h1, if_neg (by omega)]
   have hll := line_len hxo
   have htk := text_len (d := xs.take k) fun y hy => hok y (List.mem_of_mem_take hy)
   have htk2 : (xs.take k).length ≤ 3000 := by rw [List.length_take]; omega
   have hlen0 : (Lib.byteCells (textV (xs.take k))).length ≤ 900000 := by rw [Lib.byteCells_length]; omega
   rw [hkk] at c3
   have hkI : (k : Int) < n := by omega
   have hX := Lib.hid (Blk.new' (w := wr) (t := 79) (cs := #[.string x.by_, .int .i64 x.no, .int .i64 x.at_, .int .i64 ((kk : Nat) : Int), .string x.piece, .int .i64 x.copy, .string x.singer]) rfl)
   have hex : Ext wr (wr.alloc (.cells #[.string x.by_, .int .i64 x.no, .int .i64 x.at_, .int .i64 ((kk : Nat) : Int), .string x.piece, .int .i64 x.copy, .string x.singer] 79)) := (Ext.refl _).alloc _
   have htx := hlow.out _ (he.trans hex)
   have hBx := bld_ext hB hex
   have hkg : k + 1 ≤ n := hlt
   replace hstep := Lib.hid hstep; replace hwl := Lib.hid hwl; replace hll := Lib.hid hll; replace hkk := Lib.hid hkk; clear hkw; replace hlen0 := Lib.hid hlen0; replace htx := Lib.hid htx; replace hBx := Lib.hid hBx; replace hxo := Lib.hid hxo; clear hx hE hB htk htk2
   go_upto_region 8 with fail
   replace htx := htx.out
   refine wp_region_facts [] [([],false,false),([0],false,false),([],false,false),([2],false,false),([2,3],false,false),([],false,false),([5],false,false),([5,6],false,false),([], false, true),([],false,false),([9],false,false),([8,9,10],false,false),([8,9,10,11],false,false),([],false,false),([13],false,false),([],false,false),([15],false,false),([15,16],false,false),([0,1,2,3,4,5,6,7,8,9,10,11,12,13,14,15,16,17], false, true),([0,1,2,3,4,5,6,7,8,9,10,11,12,13,14,15,16,17,18],false,false)] (Ext) Ext (fun _ => True) (by kernel_rfl) (by kernel_rfl) Ext.refl (fun _ _ _ => Ext.trans) (fun _ _ h => h) (fun _ _ h => h.size) (fun _ _ h _ => h) trivial ?_
   dsimp only [List.length_cons, List.length_nil, List.drop_succ_cons, List.drop_zero, List.drop_nil]
   refine fq 0 rfl rfl rfl cK rfl rfl ?_; apply Exists.intro; constructor
   ·intro sv w' hw' hfa
    refine ⟨rfl, ?_⟩; simp only [putsL]; change qT _; simp only [qT, Act.put, sIA, sCS, sCZ]; simp [go_sem, quietTo, Ext.refl]; all_goals rfl
   refine fq 1 rfl rfl rfl cK rfl rfl ?_; apply Exists.intro; constructor
   ·rintro sv w' hw' ⟨(f0 : sv 0 = _), -⟩; (try dsimp only at f0)
    obtain ⟨hc, hf, hz9⟩ := ((Ext.refl _).drew.trans hw').walk; have ht9 := htx.ext ((Ext.refl _).drew.trans hw'); have x0 := (hc _ 0 hX.out.lt).trans (hX.out.cell 0); have x1 := (hc _ 1 hX.out.lt).trans (hX.out.cell 1); have x2 := (hc _ 2 hX.out.lt).trans (hX.out.cell 2); have x3 := (hc _ 3 hX.out.lt).trans (hX.out.cell 3); have x4 := (hc _ 4 hX.out.lt).trans (hX.out.cell 4); have x5 := (hc _ 5 hX.out.lt).trans (hX.out.cell 5); have x6 := (hc _ 6 hX.out.lt).trans (hX.out.cell 6)
    refine ⟨rfl, ?_⟩; simp only [putsL]; change qT (pT _ 20 (sv 0)); simp only [qT, pT, Act.put, sIA, sCS, sCZ]; simp [go_sem, quietTo, Ext.refl, ↓IntWalk.iteOmega, f0, x0]; (all_goals try simp (disch := omega) only [IntWalk.i64_in]); all_goals rfl
   refine fq 2 rfl rfl rfl cK rfl rfl ?_; apply Exists.intro; constructor
   ·intro sv w' hw' hfa
    refine ⟨rfl, ?_⟩; simp only [putsL]; change qT _; simp only [qT, Act.put, sIA, sCS, sCZ]; simp [go_sem, quietTo, Ext.refl]; all_goals rfl
   refine fq 3 rfl rfl rfl cK rfl rfl ?_; apply Exists.intro; constructor
   ·rintro sv w' hw' ⟨(f2 : sv 2 = _), -⟩; (try dsimp only at f2)
    obtain ⟨hc, hf, hz9⟩ := ((Ext.refl _).drew.trans hw').walk; have ht9 := htx.ext ((Ext.refl _).drew.trans hw'); have x0 := (hc _ 0 hX.out.lt).trans (hX.out.cell 0); have x1 := (hc _ 1 hX.out.lt).trans (hX.out.cell 1); have x2 := (hc _ 2 hX.out.lt).trans (hX.out.cell 2); have x3 := (hc _ 3 hX.out.lt).trans (hX.out.cell 3); have x4 := (hc _ 4 hX.out.lt).trans (hX.out.cell 4); have x5 := (hc _ 5 hX.out.lt).trans (hX.out.cell 5); have x6 := (hc _ 6 hX.out.lt).trans (hX.out.cell 6)
    refine ⟨rfl, ?_⟩; simp only [putsL]; change qT (pT _ 22 (sv 2)); simp only [qT, pT, Act.put, sIA, sCS, sCZ]; simp [go_sem, quietTo, Ext.refl, ↓IntWalk.iteOmega, f2, x1]; (all_goals try simp (disch := omega) only [IntWalk.i64_in]); all_goals rfl
   refine fq 4 rfl rfl rfl cK rfl rfl ?_; apply Exists.intro; constructor
   ·rintro sv w' hw' ⟨(f2 : sv 2 = _), (f3 : sv 3 = _), -⟩; (try dsimp only at f2 f3)
    obtain ⟨hc, hf, hz9⟩ := ((Ext.refl _).drew.trans hw').walk; have ht9 := htx.ext ((Ext.refl _).drew.trans hw'); have x0 := (hc _ 0 hX.out.lt).trans (hX.out.cell 0); have x1 := (hc _ 1 hX.out.lt).trans (hX.out.cell 1); have x2 := (hc _ 2 hX.out.lt).trans (hX.out.cell 2); have x3 := (hc _ 3 hX.out.lt).trans (hX.out.cell 3); have x4 := (hc _ 4 hX.out.lt).trans (hX.out.cell 4); have x5 := (hc _ 5 hX.out.lt).trans (hX.out.cell 5); have x6 := (hc _ 6 hX.out.lt).trans (hX.out.cell 6)
    refine ⟨rfl, ?_⟩; simp only [putsL]; change qT (pT (pT _ 23 (sv 3)) 22 (sv 2)); simp only [qT, pT, Act.put, sIA, sCS, sCZ]; simp [go_sem, quietTo, Ext.refl, ↓IntWalk.iteOmega, f3]; (all_goals try simp (disch := omega) only [IntWalk.i64_in]); all_goals first | rfl | (exact itoa_any _ (by omega) (by omega) T0 _ ht9)
   refine fq 5 rfl rfl rfl cK rfl rfl ?_; apply Exists.intro; constructor
   ·intro sv w' hw' hfa
    refine ⟨rfl, ?_⟩; simp only [putsL]; change qT _; simp only [qT, Act.put, sIA, sCS, sCZ]; simp [go_sem, quietTo, Ext.refl]; all_goals rfl
   refine fq 6 rfl rfl rfl cK rfl rfl ?_; apply Exists.intro; constructor
   ·rintro sv w' hw' ⟨(f5 : sv 5 = _), -⟩; (try dsimp only at f5)
    obtain ⟨hc, hf, hz9⟩ := ((Ext.refl _).drew.trans hw').walk; have ht9 := htx.ext ((Ext.refl _).drew.trans hw'); have x0 := (hc _ 0 hX.out.lt).trans (hX.out.cell 0); have x1 := (hc _ 1 hX.out.lt).trans (hX.out.cell 1); have x2 := (hc _ 2 hX.out.lt).trans (hX.out.cell 2); have x3 := (hc _ 3 hX.out.lt).trans (hX.out.cell 3); have x4 := (hc _ 4 hX.out.lt).trans (hX.out.cell 4); have x5 := (hc _ 5 hX.out.lt).trans (hX.out.cell 5); have x6 := (hc _ 6 hX.out.lt).trans (hX.out.cell 6)
    refine ⟨rfl, ?_⟩; simp only [putsL]; change qT (pT _ 25 (sv 5)); simp only [qT, pT, Act.put, sIA, sCS, sCZ]; simp [go_sem, quietTo, Ext.refl, ↓IntWalk.iteOmega, f5, x2]; (all_goals try simp (disch := omega) only [IntWalk.i64_in]); all_goals rfl
   refine fq 7 rfl rfl rfl cK rfl rfl ?_; apply Exists.intro; constructor
   ·rintro sv w' hw' ⟨(f5 : sv 5 = _), (f6 : sv 6 = _), -⟩; (try dsimp only at f5 f6)
    obtain ⟨hc, hf, hz9⟩ := ((Ext.refl _).drew.trans hw').walk; have ht9 := htx.ext ((Ext.refl _).drew.trans hw'); have x0 := (hc _ 0 hX.out.lt).trans (hX.out.cell 0); have x1 := (hc _ 1 hX.out.lt).trans (hX.out.cell 1); have x2 := (hc _ 2 hX.out.lt).trans (hX.out.cell 2); have x3 := (hc _ 3 hX.out.lt).trans (hX.out.cell 3); have x4 := (hc _ 4 hX.out.lt).trans (hX.out.cell 4); have x5 := (hc _ 5 hX.out.lt).trans (hX.out.cell 5); have x6 := (hc _ 6 hX.out.lt).trans (hX.out.cell 6)
    refine ⟨rfl, ?_⟩; simp only [putsL]; change qT (pT (pT _ 26 (sv 6)) 25 (sv 5)); simp only [qT, pT, Act.put, sIA, sCS, sCZ]; simp [go_sem, quietTo, Ext.refl, ↓IntWalk.iteOmega, f6]; (all_goals try simp (disch := omega) only [IntWalk.i64_in]); all_goals first | rfl | (exact itoa_any _ (by omega) (by omega) T0 _ ht9)
   refine fac_callS 8 rfl rfl rfl cK (fun _ _ h => h.size) (fun _ _ _ _ _ he _ hb => hb.ext he) ?_
   apply Exists.intro
   apply Exists.intro
   apply Exists.intro
   apply Exists.intro
   refine ⟨fun sv w' hw' hfa => ?_, ?_⟩
   ·obtain ⟨hc, hf, hz9⟩ := ((Ext.refl _).drew.trans hw').walk; have ht9 := htx.ext ((Ext.refl _).drew.trans hw'); have x0 := (hc _ 0 hX.out.lt).trans (hX.out.cell 0); have x1 := (hc _ 1 hX.out.lt).trans (hX.out.cell 1); have x2 := (hc _ 2 hX.out.lt).trans (hX.out.cell 2); have x3 := (hc _ 3 hX.out.lt).trans (hX.out.cell 3); have x4 := (hc _ 4 hX.out.lt).trans (hX.out.cell 4); have x5 := (hc _ 5 hX.out.lt).trans (hX.out.cell 5); have x6 := (hc _ 6 hX.out.lt).trans (hX.out.cell 6)
    refine ⟨rfl, ?_⟩
    simp only [putsL]
    change outc _ _ (Sem.run _ (execOp (Act.eval _) _) _)
    try simp only [Act.put, sIA, sCS, sCZ]
    simp [go_sem, outc]
    exact kindWo_fresh _
   refine fq 9 rfl rfl rfl cK rfl rfl ?_; apply Exists.intro; constructor
   ·intro sv w' hw' hfa
    refine ⟨rfl, ?_⟩; simp only [putsL]; change qT _; simp only [qT, Act.put, sIA, sCS, sCZ]; simp [go_sem, quietTo, Ext.refl]; all_goals rfl
   refine fq 10 rfl rfl rfl cK rfl rfl ?_; apply Exists.intro; constructor
   ·rintro sv w' hw' ⟨(f9 : sv 9 = _), -⟩; (try dsimp only at f9)
    obtain ⟨hc, hf, hz9⟩ := ((Ext.refl _).drew.trans hw').walk; have ht9 := htx.ext ((Ext.refl _).drew.trans hw'); have x0 := (hc _ 0 hX.out.lt).trans (hX.out.cell 0); have x1 := (hc _ 1 hX.out.lt).trans (hX.out.cell 1); have x2 := (hc _ 2 hX.out.lt).trans (hX.out.cell 2); have x3 := (hc _ 3 hX.out.lt).trans (hX.out.cell 3); have x4 := (hc _ 4 hX.out.lt).trans (hX.out.cell 4); have x5 := (hc _ 5 hX.out.lt).trans (hX.out.cell 5); have x6 := (hc _ 6 hX.out.lt).trans (hX.out.cell 6)
    refine ⟨rfl, ?_⟩; simp only [putsL]; change qT (pT _ 29 (sv 9)); simp only [qT, pT, Act.put, sIA, sCS, sCZ]; simp [go_sem, quietTo, Ext.refl, ↓IntWalk.iteOmega, f9, x3]; (all_goals try simp (disch := omega) only [IntWalk.i64_in]); all_goals rfl
   refine fac_via 11 rfl rfl 8 (fun g => .slice (some ⟨g, 0, none⟩) 6 6) (fun _ _ h => by simpa using h) (by decide) rfl cK ?_ ?_
   ·intro sv w' hfa
    obtain ⟨f8, (f9 : sv 9 = _), (f10 : sv 10 = _), -⟩ := hfa; (try dsimp only at f9 f10)
    obtain ⟨g8, f8, l8, b8⟩ := f8; replace f8 : sv 8 = _ := f8; obtain ⟨p8, q8⟩ := b8.walk
    exact ⟨_, f8⟩
   apply Exists.intro
   refine ⟨fun sv w' g hw' hfa hgi => ?_, ?_⟩
   ·obtain ⟨f8, (f9 : sv 9 = _), (f10 : sv 10 = _), -⟩ := hfa; (try dsimp only at f9 f10)
    obtain ⟨g8, f8, l8, b8⟩ := f8; replace f8 : sv 8 = _ := f8; obtain ⟨p8, q8⟩ := b8.walk
    have hgg := f8.symm.trans hgi
    simp only [Value.slice.injEq, Value.pointer.injEq, Option.some.injEq, Addr.mk.injEq, and_true] at hgg
    subst hgg
    obtain ⟨hc, hf, hz9⟩ := ((Ext.refl _).drew.trans hw').walk; have ht9 := htx.ext ((Ext.refl _).drew.trans hw'); have x0 := (hc _ 0 hX.out.lt).trans (hX.out.cell 0); have x1 := (hc _ 1 hX.out.lt).trans (hX.out.cell 1); have x2 := (hc _ 2 hX.out.lt).trans (hX.out.cell 2); have x3 := (hc _ 3 hX.out.lt).trans (hX.out.cell 3); have x4 := (hc _ 4 hX.out.lt).trans (hX.out.cell 4); have x5 := (hc _ 5 hX.out.lt).trans (hX.out.cell 5); have x6 := (hc _ 6 hX.out.lt).trans (hX.out.cell 6)
    refine ⟨rfl, ?_⟩; simp only [putsL]; change qT (pT (pT (pT _ 30 (sv 10)) 29 (sv 9)) 28 (sv 8)); simp only [qT, pT, Act.put, sIA, sCS, sCZ]; simp [go_sem, quietTo, Ext.refl, ↓IntWalk.iteOmega, f8, f10, p8, q8, hk6]; (all_goals try simp (disch := omega) only [IntWalk.i64_in]); all_goals rfl
   refine fq 12 rfl rfl rfl cK rfl rfl ?_; apply Exists.intro; constructor
   ·rintro sv w' hw' ⟨f8, _, _, f11, -⟩
    obtain ⟨g8, f8, l8, b8⟩ := f8; replace f8 : sv 8 = _ := f8; obtain ⟨p8, q8⟩ := b8.walk; replace f11 : sv 11 = _ := f11 _ f8
    try dsimp only at f11
    obtain ⟨hc, hf, hz9⟩ := ((Ext.refl _).drew.trans hw').walk; have ht9 := htx.ext ((Ext.refl _).drew.trans hw'); have x0 := (hc _ 0 hX.out.lt).trans (hX.out.cell 0); have x1 := (hc _ 1 hX.out.lt).trans (hX.out.cell 1); have x2 := (hc _ 2 hX.out.lt).trans (hX.out.cell 2); have x3 := (hc _ 3 hX.out.lt).trans (hX.out.cell 3); have x4 := (hc _ 4 hX.out.lt).trans (hX.out.cell 4); have x5 := (hc _ 5 hX.out.lt).trans (hX.out.cell 5); have x6 := (hc _ 6 hX.out.lt).trans (hX.out.cell 6)
    refine ⟨rfl, ?_⟩; simp only [putsL]; change qT (pT (pT (pT (pT _ 31 (sv 11)) 30 (sv 10)) 29 (sv 9)) 28 (sv 8)); simp only [qT, pT, Act.put, sIA, sCS, sCZ]; simp [go_sem, quietTo, Ext.refl, ↓IntWalk.iteOmega, f11, p8, q8, hkc]; (all_goals try simp (disch := omega) only [IntWalk.i64_in]); all_goals rfl
   refine fq 13 rfl rfl rfl cK rfl rfl ?_; apply Exists.intro; constructor
   ·intro sv w' hw' hfa
    refine ⟨rfl, ?_⟩; simp only [putsL]; change qT _; simp only [qT, Act.put, sIA, sCS, sCZ]; simp [go_sem, quietTo, Ext.refl]; all_goals rfl
   refine fq 14 rfl rfl rfl cK rfl rfl ?_; apply Exists.intro; constructor
   ·rintro sv w' hw' ⟨(f13 : sv 13 = _), -⟩; (try dsimp only at f13)
    obtain ⟨hc, hf, hz9⟩ := ((Ext.refl _).drew.trans hw').walk; have ht9 := htx.ext ((Ext.refl _).drew.trans hw'); have x0 := (hc _ 0 hX.out.lt).trans (hX.out.cell 0); have x1 := (hc _ 1 hX.out.lt).trans (hX.out.cell 1); have x2 := (hc _ 2 hX.out.lt).trans (hX.out.cell 2); have x3 := (hc _ 3 hX.out.lt).trans (hX.out.cell 3); have x4 := (hc _ 4 hX.out.lt).trans (hX.out.cell 4); have x5 := (hc _ 5 hX.out.lt).trans (hX.out.cell 5); have x6 := (hc _ 6 hX.out.lt).trans (hX.out.cell 6)
    refine ⟨rfl, ?_⟩; simp only [putsL]; change qT (pT _ 33 (sv 13)); simp only [qT, pT, Act.put, sIA, sCS, sCZ]; simp [go_sem, quietTo, Ext.refl, ↓IntWalk.iteOmega, f13, x4]; (all_goals try simp (disch := omega) only [IntWalk.i64_in]); all_goals rfl
   refine fq 15 rfl rfl rfl cK rfl rfl ?_; apply Exists.intro; constructor
   ·intro sv w' hw' hfa
    refine ⟨rfl, ?_⟩; simp only [putsL]; change qT _; simp only [qT, Act.put, sIA, sCS, sCZ]; simp [go_sem, quietTo, Ext.refl]; all_goals rfl
   refine fq 16 rfl rfl rfl cK rfl rfl ?_; apply Exists.intro; constructor
   ·rintro sv w' hw' ⟨(f15 : sv 15 = _), -⟩; (try dsimp only at f15)
    obtain ⟨hc, hf, hz9⟩ := ((Ext.refl _).drew.trans hw').walk; have ht9 := htx.ext ((Ext.refl _).drew.trans hw'); have x0 := (hc _ 0 hX.out.lt).trans (hX.out.cell 0); have x1 := (hc _ 1 hX.out.lt).trans (hX.out.cell 1); have x2 := (hc _ 2 hX.out.lt).trans (hX.out.cell 2); have x3 := (hc _ 3 hX.out.lt).trans (hX.out.cell 3); have x4 := (hc _ 4 hX.out.lt).trans (hX.out.cell 4); have x5 := (hc _ 5 hX.out.lt).trans (hX.out.cell 5); have x6 := (hc _ 6 hX.out.lt).trans (hX.out.cell 6)
    refine ⟨rfl, ?_⟩; simp only [putsL]; change qT (pT _ 35 (sv 15)); simp only [qT, pT, Act.put, sIA, sCS, sCZ]; simp [go_sem, quietTo, Ext.refl, ↓IntWalk.iteOmega, f15, x5]; (all_goals try simp (disch := omega) only [IntWalk.i64_in]); all_goals rfl
   refine fq 17 rfl rfl rfl cK rfl rfl ?_; apply Exists.intro; constructor
   ·rintro sv w' hw' ⟨(f15 : sv 15 = _), (f16 : sv 16 = _), -⟩; (try dsimp only at f15 f16)
    obtain ⟨hc, hf, hz9⟩ := ((Ext.refl _).drew.trans hw').walk; have ht9 := htx.ext ((Ext.refl _).drew.trans hw'); have x0 := (hc _ 0 hX.out.lt).trans (hX.out.cell 0); have x1 := (hc _ 1 hX.out.lt).trans (hX.out.cell 1); have x2 := (hc _ 2 hX.out.lt).trans (hX.out.cell 2); have x3 := (hc _ 3 hX.out.lt).trans (hX.out.cell 3); have x4 := (hc _ 4 hX.out.lt).trans (hX.out.cell 4); have x5 := (hc _ 5 hX.out.lt).trans (hX.out.cell 5); have x6 := (hc _ 6 hX.out.lt).trans (hX.out.cell 6)
    refine ⟨rfl, ?_⟩; simp only [putsL]; change qT (pT (pT _ 36 (sv 16)) 35 (sv 15)); simp only [qT, pT, Act.put, sIA, sCS, sCZ]; simp [go_sem, quietTo, Ext.refl, ↓IntWalk.iteOmega, f16]; (all_goals try simp (disch := omega) only [IntWalk.i64_in]); all_goals first | rfl | (exact itoa_any _ (by omega) (by omega) T0 _ ht9)
   refine fac_row 18 rfl rfl rfl cK (fun _ _ h => h.size) (fun _ _ _ _ _ he _ hb => hb.ext he) ?_
   apply Exists.intro
   apply Exists.intro
   apply Exists.intro
   apply Exists.intro
   refine ⟨fun sv w' hw' hfa => ?_, ?_⟩
   ·obtain ⟨_, (f1 : sv 1 = _), _, _, (f4 : sv 4 = _), _, _, (f7 : sv 7 = _), _, _, _, _, (f12 : sv 12 = _), _, (f14 : sv 14 = _), _, _, (f17 : sv 17 = _), -⟩ := hfa; (try dsimp only at f1 f4 f7 f12 f14 f17)
    refine ⟨rfl, ?_⟩; simp only [putsL]; change rowTo _ _ _ _ _ (Sem.run _ (execOp (Act.eval (pT (pT (pT (pT (pT (pT (pT (pT (pT (pT (pT (pT (pT (pT (pT (pT (pT (pT _ 37 (sv 17)) 36 (sv 16)) 35 (sv 15)) 34 (sv 14)) 33 (sv 13)) 32 (sv 12)) 31 (sv 11)) 30 (sv 10)) 29 (sv 9)) 28 (sv 8)) 27 (sv 7)) 26 (sv 6)) 25 (sv 5)) 24 (sv 4)) 23 (sv 3)) 22 (sv 2)) 21 (sv 1)) 20 (sv 0))) _) _); (try simp only [pT, Act.put, sIA, sCS, sCZ]); simp [go_sem, rowTo, Ext.refl, f1, f4, f7, f12, f14, f17]; (all_goals try simp (disch := omega) only [IntWalk.i64_in]); all_goals first | rfl | exact ⟨rfl, rfl⟩ | exact ⟨⟨rfl, rfl⟩, rfl⟩
   refine fac_via 19 rfl rfl 18 (fun g => .slice (some ⟨g, 0, none⟩) 6 6) (fun _ _ h => by simpa using h) (by decide) rfl cK ?_ ?_
   ·intro sv w' hfa
    obtain ⟨(f0 : sv 0 = _), (f1 : sv 1 = _), (f2 : sv 2 = _), (f3 : sv 3 = _), (f4 : sv 4 = _), (f5 : sv 5 = _), (f6 : sv 6 = _), (f7 : sv 7 = _), f8, (f9 : sv 9 = _), (f10 : sv 10 = _), f11, (f12 : sv 12 = _), (f13 : sv 13 = _), (f14 : sv 14 = _), (f15 : sv 15 = _), (f16 : sv 16 = _), (f17 : sv 17 = _), f18, -⟩ := hfa; (try dsimp only at f0 f1 f2 f3 f4 f5 f6 f7 f9 f10 f12 f13 f14 f15 f16 f17)
    obtain ⟨g8, f8, l8, b8⟩ := f8; replace f8 : sv 8 = _ := f8; obtain ⟨p8, q8⟩ := b8.walk; replace f11 : sv 11 = _ := f11 _ f8
    try dsimp only at f11
    obtain ⟨g18, f18, l18, b18⟩ := f18; replace f18 : sv 18 = _ := f18; obtain ⟨p18, q18⟩ := b18.walk
    exact ⟨_, f18⟩
   apply Exists.intro
   refine ⟨fun sv w' g hw' hfa hgi => ?_, ?_⟩
   ·obtain ⟨(f0 : sv 0 = _), (f1 : sv 1 = _), (f2 : sv 2 = _), (f3 : sv 3 = _), (f4 : sv 4 = _), (f5 : sv 5 = _), (f6 : sv 6 = _), (f7 : sv 7 = _), f8, (f9 : sv 9 = _), (f10 : sv 10 = _), f11, (f12 : sv 12 = _), (f13 : sv 13 = _), (f14 : sv 14 = _), (f15 : sv 15 = _), (f16 : sv 16 = _), (f17 : sv 17 = _), f18, -⟩ := hfa; (try dsimp only at f0 f1 f2 f3 f4 f5 f6 f7 f9 f10 f12 f13 f14 f15 f16 f17)
    obtain ⟨g8, f8, l8, b8⟩ := f8; replace f8 : sv 8 = _ := f8; obtain ⟨p8, q8⟩ := b8.walk; replace f11 : sv 11 = _ := f11 _ f8
    try dsimp only at f11
    obtain ⟨g18, f18, l18, b18⟩ := f18; replace f18 : sv 18 = _ := f18; obtain ⟨p18, q18⟩ := b18.walk
    have hgg := f18.symm.trans hgi
    simp only [Value.slice.injEq, Value.pointer.injEq, Option.some.injEq, Addr.mk.injEq, and_true] at hgg
    subst hgg
    obtain ⟨hc, hf, hz9⟩ := ((Ext.refl _).drew.trans hw').walk; have ht9 := htx.ext ((Ext.refl _).drew.trans hw'); have x0 := (hc _ 0 hX.out.lt).trans (hX.out.cell 0); have x1 := (hc _ 1 hX.out.lt).trans (hX.out.cell 1); have x2 := (hc _ 2 hX.out.lt).trans (hX.out.cell 2); have x3 := (hc _ 3 hX.out.lt).trans (hX.out.cell 3); have x4 := (hc _ 4 hX.out.lt).trans (hX.out.cell 4); have x5 := (hc _ 5 hX.out.lt).trans (hX.out.cell 5); have x6 := (hc _ 6 hX.out.lt).trans (hX.out.cell 6)
    refine ⟨rfl, ?_⟩; simp only [putsL]; change qT (pT (pT (pT (pT (pT (pT (pT (pT (pT (pT (pT (pT (pT (pT (pT (pT (pT (pT (pT _ 38 (sv 18)) 37 (sv 17)) 36 (sv 16)) 35 (sv 15)) 34 (sv 14)) 33 (sv 13)) 32 (sv 12)) 31 (sv 11)) 30 (sv 10)) 29 (sv 9)) 28 (sv 8)) 27 (sv 7)) 26 (sv 6)) 25 (sv 5)) 24 (sv 4)) 23 (sv 3)) 22 (sv 2)) 21 (sv 1)) 20 (sv 0)); simp only [qT, pT, Act.put, sIA, sCS, sCZ]; simp [go_sem, quietTo, Ext.refl, f18]; (all_goals try simp (disch := omega) only [IntWalk.i64_in]); all_goals rfl
   refine fac_nil fun xa wra hera hfra hcra holda hapa => ?_
   obtain ⟨(f0 : xa 0 = _), (f1 : xa 1 = _), (f2 : xa 2 = _), (f3 : xa 3 = _), (f4 : xa 4 = _), (f5 : xa 5 = _), (f6 : xa 6 = _), (f7 : xa 7 = _), f8, (f9 : xa 9 = _), (f10 : xa 10 = _), f11, (f12 : xa 12 = _), (f13 : xa 13 = _), (f14 : xa 14 = _), (f15 : xa 15 = _), (f16 : xa 16 = _), (f17 : xa 17 = _), f18, f19, -⟩ := hfra; (try dsimp only at f0 f1 f2 f3 f4 f5 f6 f7 f9 f10 f12 f13 f14 f15 f16 f17)
   obtain ⟨g8, f8, l8, b8⟩ := f8; replace f8 : xa 8 = _ := f8; obtain ⟨p8, q8⟩ := b8.walk; replace f11 : xa 11 = _ := f11 _ f8
   try dsimp only at f11
   obtain ⟨g18, f18, l18, b18⟩ := f18; replace f18 : xa 18 = _ := f18; obtain ⟨p18, q18⟩ := b18.walk; replace f19 : xa 19 = _ := f19 _ f18
   try dsimp only at f19
   change wpList _ _ _ _ (pT (pT (pT (pT (pT (pT (pT (pT (pT (pT (pT (pT (pT (pT (pT (pT (pT (pT (pT (pT _ 20 (xa 0)) 21 (xa 1)) 22 (xa 2)) 23 (xa 3)) 24 (xa 4)) 25 (xa 5)) 26 (xa 6)) 27 (xa 7)) 28 (xa 8)) 29 (xa 9)) 30 (xa 10)) 31 (xa 11)) 32 (xa 12)) 33 (xa 13)) 34 (xa 14)) 35 (xa 15)) 36 (xa 16)) 37 (xa 17)) 38 (xa 18)) 8 (xa 19)) _
   simp only [putsL, Nat.reduceAdd, List.drop_succ_cons, List.drop_zero, List.drop_nil, pT, Act.put, sIA, sCS, sCZ]
   try simp only [f0, f1, f2, f3, f4, f5, f6, f7, f9, f10, f11, f12, f13, f14, f15, f16, f17, f18, f19]
   clear f0 f1 f2 f3 f4 f5 f6 f7 f9 f10 f12 f13 f14 f15 f16 f17; clear holda hapa
   have hka := (Ext.refl _).drew.trans hera
   have hXa := hX.out.ext hka
   have hBa := bld_ext hBx.out hka
   have hea := (he.trans hex).trans hka
   obtain ⟨pX, qX⟩ := hXa.walk
   have lX := hXa.lt
   have hown : wra.ownsRow w1.heap.size 9 1 (.slice (some ⟨g18,0, none⟩) 6 6) 6 (List.map Value.string [x.by_, itoaL x.no, itoaL x.at_, kw, x.piece, itoaL x.copy]) := own_blk1 b18 rfl (by simp at l18; have := he.size; omega) (by decide)
   have hJ1 : (⟨(lineV x).toArray⟩ : ByteArray).size ≤ 290 := by show (lineV x).toArray.size ≤ _; simpa using hll.out
   have hJ2 : (lineV x).toArray.size ≤ 290 := hJ1
   have hJ3 : (lineV x).length ≤ 290 := hll.out
   replace hown := Lib.hid hown; clear b8 b18 p8 q8 p18 q18 f8 f11 f18 f19 c0 c1 c2 c3 c4 c5 c6
   by_cases hk1 : kk = 1
   ·have hkd : decide ((kk : Int) = 1) = true := by simp; omega
    have hkb : ((kk : Int) == 1) = true := by simp; omega
    have hW : wordsV x = [x.by_, itoaL x.no, itoaL x.at_, kw, x.piece, itoaL x.copy, x.singer] := by rw [hwl.out, if_pos hk1]; rfl
    replace hk1 := Lib.hid hk1; replace hW := Lib.hid hW
    replace hown := hown.out
    go_wp2_with (first
     | (at_builtin; go_loud (refine wp_appL _ (.tmp 42) (.tmp 45) 47 9 1 16 (.string ⟨#[]⟩) rfl rfl Tryz.underlying47 (by kernel_rfl) rfl (by decide) (by decide) w1.heap.size (some ⟨g18,0, none⟩) 6 6 _ rfl (hown.alloc _) wra.heap.size [.string x.singer] rfl rfl (Blk.new' rfl) (by simp [Value.oneCell']) (by omega) (by have := hea.size; simp; omega) ?_; intro b7 c7 w7 hown7 hgrow7 _; have hk7 := (hka.alloc (.cells #[.string x.singer] 9)).grown hgrow7 (fun j e => by have e2 : g18 = j := (by simpa [Value.ownBlock] using e); subst e2; exact l18); have hBq := bld_ext hBx.out hk7; have heq := (he.trans hex).trans hk7; have hown7 : w7.ownsRow w1.heap.size 9 1 _ 7 (List.map Value.string [x.by_, itoaL x.no, itoaL x.at_, kw, x.piece, itoaL x.copy, x.singer]) := hown7))
     | (go_at_call 152; (with_reducible refine Calls.mono (kitJoin_own hown7 rfl (by omega) hW.out hll.out) ?_); rintro e w8 ⟨rfl, hb8⟩; have hB8 := bld_ext hBq hb8; have he8 := heq.trans hb8; have hs8 := he8.size)
     | (go_at_call 151; (with_reducible refine Calls.mono (writeString_any w1.heap.size w1.heap.size _ _ _ hB8 (by have := hlen0.out; have := hll.out; rw [lineB_size]; omega) hs8) ?_); rintro e w9 ⟨rfl, hB9, hb9, -⟩))
    go_roundw
    case rel =>
     refine ⟨k + 1, hkg, by go_num, ?_, Below.trans he8 hb9⟩
     rw [hstep.out]
     have e : Lib.byteCells (textV (xs.take k) ++ (lineV x ++ [10])) = Lib.byteCells (textV (xs.take k)) ++ Lib.strCells ((⟨(lineV x).toArray⟩ : ByteArray) ++ ⟨#[10]⟩) := by
      rw [Lib.strCells_eq, lineB_data]
      unfold Lib.byteCells
      rw [List.map_append]
     rw [e]
     exact hB9
    case measure => simp [intOf]; omega
   ·have hkd : decide ((kk : Int) = 1) = false := by simp; omega
    have hkb : ((kk : Int) == 1) = false := by simp; omega
    have hW : wordsV x = [x.by_, itoaL x.no, itoaL x.at_, kw, x.piece, itoaL x.copy] := by rw [hwl.out, if_neg hk1]; rfl
    replace hW := Lib.hid hW
    have hBq := hBa
    have heq := hea
    go_wp2_with (first
     | (go_at_call 152; (with_reducible refine Calls.mono (kitJoin_own hown.out rfl (by omega) hW.out hll.out) ?_); rintro e w8 ⟨rfl, hb8⟩; have hB8 := bld_ext hBq hb8; have he8 := heq.trans hb8; have hs8 := he8.size)
     | (go_at_call 151; (with_reducible refine Calls.mono (writeString_any w1.heap.size w1.heap.size _ _ _ hB8 (by have := hlen0.out; have := hll.out; rw [lineB_size]; omega) hs8) ?_); rintro e w9 ⟨rfl, hB9, hb9, -⟩))
    go_roundw
    case rel =>
     refine ⟨k + 1, hkg, by go_num, ?_, Below.trans he8 hb9⟩
     rw [hstep.out]
     have e : Lib.byteCells (textV (xs.take k) ++ (lineV x ++ [10])) = Lib.byteCells (textV (xs.take k)) ++ Lib.strCells ((⟨(lineV x).toArray⟩ : ByteArray) ++ ⟨#[10]⟩) := by
      rw [Lib.strCells_eq, lineB_data]
      unfold Lib.byteCells
      rw [List.map_append]
     rw [e]
     exact hB9
    case measure => simp [intOf]; omega
  ·obtain rfl : k = n := by omega
   rw [show xs.take k = xs by rw [← hl.out, List.take_length]] at hB
   have hs9 := he.size
   generalize hLt : textV xs = L at *
   replace hB := Lib.hid hB
   by_cases h2 : 200000 < L.length
   ·have h2d : decide (200000 < (L.length : Int)) = true := by simp; omega
    go_wp2_with (go_at_call 153; (with_reducible refine Calls.mono (bldLen_any _ _ L _ hB.out) ?_); rintro e w9 ⟨rfl, rfl⟩)
    go_ret2
    exact ⟨by rw [hR.out, if_pos h2]; rfl, hb1.trans he⟩
   ·have h2d : decide (200000 < (L.length : Int)) = false := by simp; omega
    go_wp2_with (first
     | (go_at_call 153; (with_reducible refine Calls.mono (bldLen_any _ _ L _ hB.out) ?_); rintro e w9 ⟨rfl, rfl⟩)
     | (go_at_call 154; (with_reducible refine Calls.mono (bldStr_any _ _ L _ hB.out hs9) ?_); rintro e w9 ⟨rfl, hb9⟩))
    go_ret2
    exact ⟨by rw [hR.out, if_neg h2]; rfl, hb1.trans (Below.trans he hb9)⟩
set_option maxRecDepth 100000 in
set_option maxHeartbeats 6400000 in
theorem slipLines_any (T0 : Nat) (p : Option Addr) (n c : Nat) (xs : List SlipV) (w : World) (h : Sl 7 slipC w p n xs) (hok : ∀ x ∈ xs, SlipOk x) (hn : n ≤ 3000) (ht : Tab T0 w) :
 Calls Tryz.prog 76 #[.slice p n c] w fun e w' => e = .returned (.string ⟨(textV xs).toArray⟩) ∧ Ext w w' := by
 have hl := h.1
 have hq1 : xs.length ≤ 3000 := by omega
 have htl := text_len hok
 go_enter Tryz.func76, Tryz.ntmps76
 go_wp2
 have ht1 := ht
 have hb0 := bld_new w
 have hlow : ∀ wr, Ext w wr → Tab T0 wr := fun wr hr => ht1.ext hr
 replace hb0 := Lib.hid hb0; replace hlow := Lib.hid hlow; replace hl := Lib.hid hl
 go_loopw [9] (fun i wr => ∃ k : Nat, k ≤ n ∧ i = .int .i64 k ∧ BldF w.heap.size w.heap.size (Lib.byteCells (textV (xs.take k))) wr ∧ Ext w wr) (fun i _ => n - (intOf i).toNat)
 case atStart => exact ⟨0, Nat.zero_le _, rfl, hb0.out, (Ext.refl _).alloc _⟩
 case round =>
  obtain ⟨k, hk, rfl, hB, he⟩ := hrel
  by_cases hlt : k < n
  ·obtain ⟨b, off, rfl, hb, hE⟩ := h.2.2 (by omega)
   obtain ⟨x, hx⟩ := getD_some hl.out hlt
   have hbw := Nat.lt_of_lt_of_le hb he.size
   obtain ⟨c0, c1, c2, c3, c4, c5, c6⟩ := (hE.ext he hb).slip hx
   have hxo := hok x (List.mem_of_getElem? hx)
   have hxo2 := hxo
   obtain ⟨-, n1, n2, n3, -, n5, -⟩ := hxo2
   obtain ⟨n1a, n1b⟩ := n1
   obtain ⟨n2a, n2b⟩ := n2
   obtain ⟨n5a, n5b⟩ := n5
   obtain ⟨kk, hkk⟩ : ∃ kk : Nat, x.kind = kk := ⟨x.kind.toNat, by omega⟩
   have hk6 : (kk : Int) < 6 := by omega
   obtain ⟨kw, hkw⟩ : ∃ kw, kindW.getD kk ⟨#[]⟩ = kw := ⟨_, rfl⟩
   have hkc := kindCells_at (k := kk) (by omega)
   rw [hkw] at hkc
   have hstep := text_step hx
   have hwl : (wordsV x) = [x.by_, itoaL x.no, itoaL x.at_, kw, x.piece, itoaL x.copy] ++ if kk = 1 then [x.singer] else [] := by
    unfold wordsV
    rw [hkk, Int.toNat_natCast, hkw]
    by_cases h1 : kk = 1
    ·rw [if_pos h1, if_pos (by omega)]
    ·rw [if_neg h1, if_neg (by omega)]
   have hll := line_len hxo
   have htk := text_len (d := xs.take k) fun y hy => hok y (List.mem_of_mem_take hy)
   have htk2 : (xs.take k).length ≤ 3000 := by rw [List.length_take]; omega
   have hlen0 : (Lib.byteCells (textV (xs.take k))).length ≤ 900000 := by rw [Lib.byteCells_length]; omega
   rw [hkk] at c3
   have hkI : (k : Int) < n := by omega
   have hX := Lib.hid (Blk.new' (w := wr) (t := 79) (cs := #[.string x.by_, .int .i64 x.no, .int .i64 x.at_, .int .i64 ((kk : Nat) : Int), .string x.piece, .int .i64 x.copy, .string x.singer]) rfl)
   have hex : Ext wr (wr.alloc (.cells #[.string x.by_, .int .i64 x.no, .int .i64 x.at_, .int .i64 ((kk : Nat) : Int), .string x.piece, .int .i64 x.copy, .string x.singer] 79)) := (Ext.refl _).alloc _
   have htx := hlow.out _ (he.trans hex)
   have hBx := bld_ext hB hex
   have hkg : k + 1 ≤ n := hlt
   replace hstep := Lib.hid hstep; replace hwl := Lib.hid hwl; replace hll := Lib.hid hll; replace hkk := Lib.hid hkk; clear hkw; replace hlen0 := Lib.hid hlen0; replace htx := Lib.hid htx; replace hBx := Lib.hid hBx; replace hxo := Lib.hid hxo; clear hx hE hB htk htk2
   go_upto_region 5 with fail
   replace htx := htx.out
   refine wp_region_facts [] [([],false,false),([0],false,false),([],false,false),([2],false,false),([2,3],false,false),([],false,false),([5],false,false),([5,6],false,false),([], false, true),([],false,false),([9],false,false),([8,9,10],false,false),([8,9,10,11],false,false),([],false,false),([13],false,false),([],false,false),([15],false,false),([15,16],false,false),([0,1,2,3,4,5,6,7,8,9,10,11,12,13,14,15,16,17], false, true),([0,1,2,3,4,5,6,7,8,9,10,11,12,13,14,15,16,17,18],false,false)] (Ext) Ext (fun _ => True) (by kernel_rfl) (by kernel_rfl) Ext.refl (fun _ _ _ => Ext.trans) (fun _ _ h => h) (fun _ _ h => h.size) (fun _ _ h _ => h) trivial ?_
   dsimp only [List.length_cons, List.length_nil, List.drop_succ_cons, List.drop_zero, List.drop_nil]
   refine fq 0 rfl rfl rfl cK rfl rfl ?_; apply Exists.intro; constructor
   ·intro sv w' hw' hfa
    refine ⟨rfl, ?_⟩; simp only [putsL]; change qT _; simp only [qT, Act.put, sIA, sCS, sCZ]; simp [go_sem, quietTo, Ext.refl]; all_goals rfl
   refine fq 1 rfl rfl rfl cK rfl rfl ?_; apply Exists.intro; constructor
   ·rintro sv w' hw' ⟨(f0 : sv 0 = _), -⟩; (try dsimp only at f0)
    obtain ⟨hc, hf, hz9⟩ := ((Ext.refl _).drew.trans hw').walk; have ht9 := htx.ext ((Ext.refl _).drew.trans hw'); have x0 := (hc _ 0 hX.out.lt).trans (hX.out.cell 0); have x1 := (hc _ 1 hX.out.lt).trans (hX.out.cell 1); have x2 := (hc _ 2 hX.out.lt).trans (hX.out.cell 2); have x3 := (hc _ 3 hX.out.lt).trans (hX.out.cell 3); have x4 := (hc _ 4 hX.out.lt).trans (hX.out.cell 4); have x5 := (hc _ 5 hX.out.lt).trans (hX.out.cell 5); have x6 := (hc _ 6 hX.out.lt).trans (hX.out.cell 6)
    refine ⟨rfl, ?_⟩; simp only [putsL]; change qT (pT _ 13 (sv 0)); simp only [qT, pT, Act.put, sIA, sCS, sCZ]; simp [go_sem, quietTo, Ext.refl, ↓IntWalk.iteOmega, f0, x0]; (all_goals try simp (disch := omega) only [IntWalk.i64_in]); all_goals rfl
   refine fq 2 rfl rfl rfl cK rfl rfl ?_; apply Exists.intro; constructor
   ·intro sv w' hw' hfa
    refine ⟨rfl, ?_⟩; simp only [putsL]; change qT _; simp only [qT, Act.put, sIA, sCS, sCZ]; simp [go_sem, quietTo, Ext.refl]; all_goals rfl
   refine fq 3 rfl rfl rfl cK rfl rfl ?_; apply Exists.intro; constructor
   ·rintro sv w' hw' ⟨(f2 : sv 2 = _), -⟩; (try dsimp only at f2)
    obtain ⟨hc, hf, hz9⟩ := ((Ext.refl _).drew.trans hw').walk; have ht9 := htx.ext ((Ext.refl _).drew.trans hw'); have x0 := (hc _ 0 hX.out.lt).trans (hX.out.cell 0); have x1 := (hc _ 1 hX.out.lt).trans (hX.out.cell 1); have x2 := (hc _ 2 hX.out.lt).trans (hX.out.cell 2); have x3 := (hc _ 3 hX.out.lt).trans (hX.out.cell 3); have x4 := (hc _ 4 hX.out.lt).trans (hX.out.cell 4); have x5 := (hc _ 5 hX.out.lt).trans (hX.out.cell 5); have x6 := (hc _ 6 hX.out.lt).trans (hX.out.cell 6)
    refine ⟨rfl, ?_⟩; simp only [putsL]; change qT (pT _ 15 (sv 2)); simp only [qT, pT, Act.put, sIA, sCS, sCZ]; simp [go_sem, quietTo, Ext.refl, ↓IntWalk.iteOmega, f2, x1]; (all_goals try simp (disch := omega) only [IntWalk.i64_in]); all_goals rfl
   refine fq 4 rfl rfl rfl cK rfl rfl ?_; apply Exists.intro; constructor
   ·rintro sv w' hw' ⟨(f2 : sv 2 = _), (f3 : sv 3 = _), -⟩; (try dsimp only at f2 f3)
    obtain ⟨hc, hf, hz9⟩ := ((Ext.refl _).drew.trans hw').walk; have ht9 := htx.ext ((Ext.refl _).drew.trans hw'); have x0 := (hc _ 0 hX.out.lt).trans (hX.out.cell 0); have x1 := (hc _ 1 hX.out.lt).trans (hX.out.cell 1); have x2 := (hc _ 2 hX.out.lt).trans (hX.out.cell 2); have x3 := (hc _ 3 hX.out.lt).trans (hX.out.cell 3); have x4 := (hc _ 4 hX.out.lt).trans (hX.out.cell 4); have x5 := (hc _ 5 hX.out.lt).trans (hX.out.cell 5); have x6 := (hc _ 6 hX.out.lt).trans (hX.out.cell 6)
    refine ⟨rfl, ?_⟩; simp only [putsL]; change qT (pT (pT _ 16 (sv 3)) 15 (sv 2)); simp only [qT, pT, Act.put, sIA, sCS, sCZ]; simp [go_sem, quietTo, Ext.refl, ↓IntWalk.iteOmega, f3]; (all_goals try simp (disch := omega) only [IntWalk.i64_in]); all_goals first | rfl | (exact itoa_any _ (by omega) (by omega) T0 _ ht9)
   refine fq 5 rfl rfl rfl cK rfl rfl ?_; apply Exists.intro; constructor
   ·intro sv w' hw' hfa
    refine ⟨rfl, ?_⟩; simp only [putsL]; change qT _; simp only [qT, Act.put, sIA, sCS, sCZ]; simp [go_sem, quietTo, Ext.refl]; all_goals rfl
   refine fq 6 rfl rfl rfl cK rfl rfl ?_; apply Exists.intro; constructor
   ·rintro sv w' hw' ⟨(f5 : sv 5 = _), -⟩; (try dsimp only at f5)
    obtain ⟨hc, hf, hz9⟩ := ((Ext.refl _).drew.trans hw').walk; have ht9 := htx.ext ((Ext.refl _).drew.trans hw'); have x0 := (hc _ 0 hX.out.lt).trans (hX.out.cell 0); have x1 := (hc _ 1 hX.out.lt).trans (hX.out.cell 1); have x2 := (hc _ 2 hX.out.lt).trans (hX.out.cell 2); have x3 := (hc _ 3 hX.out.lt).trans (hX.out.cell 3); have x4 := (hc _ 4 hX.out.lt).trans (hX.out.cell 4); have x5 := (hc _ 5 hX.out.lt).trans (hX.out.cell 5); have x6 := (hc _ 6 hX.out.lt).trans (hX.out.cell 6)
    refine ⟨rfl, ?_⟩; simp only [putsL]; change qT (pT _ 18 (sv 5)); simp only [qT, pT, Act.put, sIA, sCS, sCZ]; simp [go_sem, quietTo, Ext.refl, ↓IntWalk.iteOmega, f5, x2]; (all_goals try simp (disch := omega) only [IntWalk.i64_in]); all_goals rfl
   refine fq 7 rfl rfl rfl cK rfl rfl ?_; apply Exists.intro; constructor
   ·rintro sv w' hw' ⟨(f5 : sv 5 = _), (f6 : sv 6 = _), -⟩; (try dsimp only at f5 f6)
    obtain ⟨hc, hf, hz9⟩ := ((Ext.refl _).drew.trans hw').walk; have ht9 := htx.ext ((Ext.refl _).drew.trans hw'); have x0 := (hc _ 0 hX.out.lt).trans (hX.out.cell 0); have x1 := (hc _ 1 hX.out.lt).trans (hX.out.cell 1); have x2 := (hc _ 2 hX.out.lt).trans (hX.out.cell 2); have x3 := (hc _ 3 hX.out.lt).trans (hX.out.cell 3); have x4 := (hc _ 4 hX.out.lt).trans (hX.out.cell 4); have x5 := (hc _ 5 hX.out.lt).trans (hX.out.cell 5); have x6 := (hc _ 6 hX.out.lt).trans (hX.out.cell 6)
    refine ⟨rfl, ?_⟩; simp only [putsL]; change qT (pT (pT _ 19 (sv 6)) 18 (sv 5)); simp only [qT, pT, Act.put, sIA, sCS, sCZ]; simp [go_sem, quietTo, Ext.refl, ↓IntWalk.iteOmega, f6]; (all_goals try simp (disch := omega) only [IntWalk.i64_in]); all_goals first | rfl | (exact itoa_any _ (by omega) (by omega) T0 _ ht9)
   refine fac_callS 8 rfl rfl rfl cK (fun _ _ h => h.size) (fun _ _ _ _ _ he _ hb => hb.ext he) ?_
   apply Exists.intro
   apply Exists.intro
   apply Exists.intro
   apply Exists.intro
   refine ⟨fun sv w' hw' hfa => ?_, ?_⟩
   ·obtain ⟨hc, hf, hz9⟩ := ((Ext.refl _).drew.trans hw').walk; have ht9 := htx.ext ((Ext.refl _).drew.trans hw'); have x0 := (hc _ 0 hX.out.lt).trans (hX.out.cell 0); have x1 := (hc _ 1 hX.out.lt).trans (hX.out.cell 1); have x2 := (hc _ 2 hX.out.lt).trans (hX.out.cell 2); have x3 := (hc _ 3 hX.out.lt).trans (hX.out.cell 3); have x4 := (hc _ 4 hX.out.lt).trans (hX.out.cell 4); have x5 := (hc _ 5 hX.out.lt).trans (hX.out.cell 5); have x6 := (hc _ 6 hX.out.lt).trans (hX.out.cell 6)
    refine ⟨rfl, ?_⟩
    simp only [putsL]
    change outc _ _ (Sem.run _ (execOp (Act.eval _) _) _)
    try simp only [Act.put, sIA, sCS, sCZ]
    simp [go_sem, outc]
    exact slipWo_fresh _
   refine fq 9 rfl rfl rfl cK rfl rfl ?_; apply Exists.intro; constructor
   ·intro sv w' hw' hfa
    refine ⟨rfl, ?_⟩; simp only [putsL]; change qT _; simp only [qT, Act.put, sIA, sCS, sCZ]; simp [go_sem, quietTo, Ext.refl]; all_goals rfl
   refine fq 10 rfl rfl rfl cK rfl rfl ?_; apply Exists.intro; constructor
   ·rintro sv w' hw' ⟨(f9 : sv 9 = _), -⟩; (try dsimp only at f9)
    obtain ⟨hc, hf, hz9⟩ := ((Ext.refl _).drew.trans hw').walk; have ht9 := htx.ext ((Ext.refl _).drew.trans hw'); have x0 := (hc _ 0 hX.out.lt).trans (hX.out.cell 0); have x1 := (hc _ 1 hX.out.lt).trans (hX.out.cell 1); have x2 := (hc _ 2 hX.out.lt).trans (hX.out.cell 2); have x3 := (hc _ 3 hX.out.lt).trans (hX.out.cell 3); have x4 := (hc _ 4 hX.out.lt).trans (hX.out.cell 4); have x5 := (hc _ 5 hX.out.lt).trans (hX.out.cell 5); have x6 := (hc _ 6 hX.out.lt).trans (hX.out.cell 6)
    refine ⟨rfl, ?_⟩; simp only [putsL]; change qT (pT _ 22 (sv 9)); simp only [qT, pT, Act.put, sIA, sCS, sCZ]; simp [go_sem, quietTo, Ext.refl, ↓IntWalk.iteOmega, f9, x3]; (all_goals try simp (disch := omega) only [IntWalk.i64_in]); all_goals rfl
   refine fac_via 11 rfl rfl 8 (fun g => .slice (some ⟨g, 0, none⟩) 6 6) (fun _ _ h => by simpa using h) (by decide) rfl cK ?_ ?_
   ·intro sv w' hfa
    obtain ⟨f8, (f9 : sv 9 = _), (f10 : sv 10 = _), -⟩ := hfa; (try dsimp only at f9 f10)
    obtain ⟨g8, f8, l8, b8⟩ := f8; replace f8 : sv 8 = _ := f8; obtain ⟨p8, q8⟩ := b8.walk
    exact ⟨_, f8⟩
   apply Exists.intro
   refine ⟨fun sv w' g hw' hfa hgi => ?_, ?_⟩
   ·obtain ⟨f8, (f9 : sv 9 = _), (f10 : sv 10 = _), -⟩ := hfa; (try dsimp only at f9 f10)
    obtain ⟨g8, f8, l8, b8⟩ := f8; replace f8 : sv 8 = _ := f8; obtain ⟨p8, q8⟩ := b8.walk
    have hgg := f8.symm.trans hgi
    simp only [Value.slice.injEq, Value.pointer.injEq, Option.some.injEq, Addr.mk.injEq, and_true] at hgg
    subst hgg
    obtain ⟨hc, hf, hz9⟩ := ((Ext.refl _).drew.trans hw').walk; have ht9 := htx.ext ((Ext.refl _).drew.trans hw'); have x0 := (hc _ 0 hX.out.lt).trans (hX.out.cell 0); have x1 := (hc _ 1 hX.out.lt).trans (hX.out.cell 1); have x2 := (hc _ 2 hX.out.lt).trans (hX.out.cell 2); have x3 := (hc _ 3 hX.out.lt).trans (hX.out.cell 3); have x4 := (hc _ 4 hX.out.lt).trans (hX.out.cell 4); have x5 := (hc _ 5 hX.out.lt).trans (hX.out.cell 5); have x6 := (hc _ 6 hX.out.lt).trans (hX.out.cell 6)
    refine ⟨rfl, ?_⟩; simp only [putsL]; change qT (pT (pT (pT _ 23 (sv 10)) 22 (sv 9)) 21 (sv 8)); simp only [qT, pT, Act.put, sIA, sCS, sCZ]; simp [go_sem, quietTo, Ext.refl, ↓IntWalk.iteOmega, f8, f10, p8, q8, hk6]; (all_goals try simp (disch := omega) only [IntWalk.i64_in]); all_goals rfl
   refine fq 12 rfl rfl rfl cK rfl rfl ?_; apply Exists.intro; constructor
   ·rintro sv w' hw' ⟨f8, _, _, f11, -⟩
    obtain ⟨g8, f8, l8, b8⟩ := f8; replace f8 : sv 8 = _ := f8; obtain ⟨p8, q8⟩ := b8.walk; replace f11 : sv 11 = _ := f11 _ f8
    try dsimp only at f11
    obtain ⟨hc, hf, hz9⟩ := ((Ext.refl _).drew.trans hw').walk; have ht9 := htx.ext ((Ext.refl _).drew.trans hw'); have x0 := (hc _ 0 hX.out.lt).trans (hX.out.cell 0); have x1 := (hc _ 1 hX.out.lt).trans (hX.out.cell 1); have x2 := (hc _ 2 hX.out.lt).trans (hX.out.cell 2); have x3 := (hc _ 3 hX.out.lt).trans (hX.out.cell 3); have x4 := (hc _ 4 hX.out.lt).trans (hX.out.cell 4); have x5 := (hc _ 5 hX.out.lt).trans (hX.out.cell 5); have x6 := (hc _ 6 hX.out.lt).trans (hX.out.cell 6)
    refine ⟨rfl, ?_⟩; simp only [putsL]; change qT (pT (pT (pT (pT _ 24 (sv 11)) 23 (sv 10)) 22 (sv 9)) 21 (sv 8)); simp only [qT, pT, Act.put, sIA, sCS, sCZ]; simp [go_sem, quietTo, Ext.refl, ↓IntWalk.iteOmega, f11, p8, q8, hkc]; (all_goals try simp (disch := omega) only [IntWalk.i64_in]); all_goals rfl
   refine fq 13 rfl rfl rfl cK rfl rfl ?_; apply Exists.intro; constructor
   ·intro sv w' hw' hfa
    refine ⟨rfl, ?_⟩; simp only [putsL]; change qT _; simp only [qT, Act.put, sIA, sCS, sCZ]; simp [go_sem, quietTo, Ext.refl]; all_goals rfl
   refine fq 14 rfl rfl rfl cK rfl rfl ?_; apply Exists.intro; constructor
   ·rintro sv w' hw' ⟨(f13 : sv 13 = _), -⟩; (try dsimp only at f13)
    obtain ⟨hc, hf, hz9⟩ := ((Ext.refl _).drew.trans hw').walk; have ht9 := htx.ext ((Ext.refl _).drew.trans hw'); have x0 := (hc _ 0 hX.out.lt).trans (hX.out.cell 0); have x1 := (hc _ 1 hX.out.lt).trans (hX.out.cell 1); have x2 := (hc _ 2 hX.out.lt).trans (hX.out.cell 2); have x3 := (hc _ 3 hX.out.lt).trans (hX.out.cell 3); have x4 := (hc _ 4 hX.out.lt).trans (hX.out.cell 4); have x5 := (hc _ 5 hX.out.lt).trans (hX.out.cell 5); have x6 := (hc _ 6 hX.out.lt).trans (hX.out.cell 6)
    refine ⟨rfl, ?_⟩; simp only [putsL]; change qT (pT _ 26 (sv 13)); simp only [qT, pT, Act.put, sIA, sCS, sCZ]; simp [go_sem, quietTo, Ext.refl, ↓IntWalk.iteOmega, f13, x4]; (all_goals try simp (disch := omega) only [IntWalk.i64_in]); all_goals rfl
   refine fq 15 rfl rfl rfl cK rfl rfl ?_; apply Exists.intro; constructor
   ·intro sv w' hw' hfa
    refine ⟨rfl, ?_⟩; simp only [putsL]; change qT _; simp only [qT, Act.put, sIA, sCS, sCZ]; simp [go_sem, quietTo, Ext.refl]; all_goals rfl
   refine fq 16 rfl rfl rfl cK rfl rfl ?_; apply Exists.intro; constructor
   ·rintro sv w' hw' ⟨(f15 : sv 15 = _), -⟩; (try dsimp only at f15)
    obtain ⟨hc, hf, hz9⟩ := ((Ext.refl _).drew.trans hw').walk; have ht9 := htx.ext ((Ext.refl _).drew.trans hw'); have x0 := (hc _ 0 hX.out.lt).trans (hX.out.cell 0); have x1 := (hc _ 1 hX.out.lt).trans (hX.out.cell 1); have x2 := (hc _ 2 hX.out.lt).trans (hX.out.cell 2); have x3 := (hc _ 3 hX.out.lt).trans (hX.out.cell 3); have x4 := (hc _ 4 hX.out.lt).trans (hX.out.cell 4); have x5 := (hc _ 5 hX.out.lt).trans (hX.out.cell 5); have x6 := (hc _ 6 hX.out.lt).trans (hX.out.cell 6)
    refine ⟨rfl, ?_⟩; simp only [putsL]; change qT (pT _ 28 (sv 15)); simp only [qT, pT, Act.put, sIA, sCS, sCZ]; simp [go_sem, quietTo, Ext.refl, ↓IntWalk.iteOmega, f15, x5]; (all_goals try simp (disch := omega) only [IntWalk.i64_in]); all_goals rfl
   refine fq 17 rfl rfl rfl cK rfl rfl ?_; apply Exists.intro; constructor
   ·rintro sv w' hw' ⟨(f15 : sv 15 = _), (f16 : sv 16 = _), -⟩; (try dsimp only at f15 f16)
    obtain ⟨hc, hf, hz9⟩ := ((Ext.refl _).drew.trans hw').walk; have ht9 := htx.ext ((Ext.refl _).drew.trans hw'); have x0 := (hc _ 0 hX.out.lt).trans (hX.out.cell 0); have x1 := (hc _ 1 hX.out.lt).trans (hX.out.cell 1); have x2 := (hc _ 2 hX.out.lt).trans (hX.out.cell 2); have x3 := (hc _ 3 hX.out.lt).trans (hX.out.cell 3); have x4 := (hc _ 4 hX.out.lt).trans (hX.out.cell 4); have x5 := (hc _ 5 hX.out.lt).trans (hX.out.cell 5); have x6 := (hc _ 6 hX.out.lt).trans (hX.out.cell 6)
    refine ⟨rfl, ?_⟩; simp only [putsL]; change qT (pT (pT _ 29 (sv 16)) 28 (sv 15)); simp only [qT, pT, Act.put, sIA, sCS, sCZ]; simp [go_sem, quietTo, Ext.refl, ↓IntWalk.iteOmega, f16]; (all_goals try simp (disch := omega) only [IntWalk.i64_in]); all_goals first | rfl | (exact itoa_any _ (by omega) (by omega) T0 _ ht9)
   refine fac_row 18 rfl rfl rfl cK (fun _ _ h => h.size) (fun _ _ _ _ _ he _ hb => hb.ext he) ?_
   apply Exists.intro
   apply Exists.intro
   apply Exists.intro
   apply Exists.intro
   refine ⟨fun sv w' hw' hfa => ?_, ?_⟩
   ·obtain ⟨_, (f1 : sv 1 = _), _, _, (f4 : sv 4 = _), _, _, (f7 : sv 7 = _), _, _, _, _, (f12 : sv 12 = _), _, (f14 : sv 14 = _), _, _, (f17 : sv 17 = _), -⟩ := hfa; (try dsimp only at f1 f4 f7 f12 f14 f17)
    refine ⟨rfl, ?_⟩; simp only [putsL]; change rowTo _ _ _ _ _ (Sem.run _ (execOp (Act.eval (pT (pT (pT (pT (pT (pT (pT (pT (pT (pT (pT (pT (pT (pT (pT (pT (pT (pT _ 30 (sv 17)) 29 (sv 16)) 28 (sv 15)) 27 (sv 14)) 26 (sv 13)) 25 (sv 12)) 24 (sv 11)) 23 (sv 10)) 22 (sv 9)) 21 (sv 8)) 20 (sv 7)) 19 (sv 6)) 18 (sv 5)) 17 (sv 4)) 16 (sv 3)) 15 (sv 2)) 14 (sv 1)) 13 (sv 0))) _) _); (try simp only [pT, Act.put, sIA, sCS, sCZ]); simp [go_sem, rowTo, Ext.refl, f1, f4, f7, f12, f14, f17]; (all_goals try simp (disch := omega) only [IntWalk.i64_in]); all_goals first | rfl | exact ⟨rfl, rfl⟩ | exact ⟨⟨rfl, rfl⟩, rfl⟩
   refine fac_via 19 rfl rfl 18 (fun g => .slice (some ⟨g, 0, none⟩) 6 6) (fun _ _ h => by simpa using h) (by decide) rfl cK ?_ ?_
   ·intro sv w' hfa
    obtain ⟨(f0 : sv 0 = _), (f1 : sv 1 = _), (f2 : sv 2 = _), (f3 : sv 3 = _), (f4 : sv 4 = _), (f5 : sv 5 = _), (f6 : sv 6 = _), (f7 : sv 7 = _), f8, (f9 : sv 9 = _), (f10 : sv 10 = _), f11, (f12 : sv 12 = _), (f13 : sv 13 = _), (f14 : sv 14 = _), (f15 : sv 15 = _), (f16 : sv 16 = _), (f17 : sv 17 = _), f18, -⟩ := hfa; (try dsimp only at f0 f1 f2 f3 f4 f5 f6 f7 f9 f10 f12 f13 f14 f15 f16 f17)
    obtain ⟨g8, f8, l8, b8⟩ := f8; replace f8 : sv 8 = _ := f8; obtain ⟨p8, q8⟩ := b8.walk; replace f11 : sv 11 = _ := f11 _ f8
    try dsimp only at f11
    obtain ⟨g18, f18, l18, b18⟩ := f18; replace f18 : sv 18 = _ := f18; obtain ⟨p18, q18⟩ := b18.walk
    exact ⟨_, f18⟩
   apply Exists.intro
   refine ⟨fun sv w' g hw' hfa hgi => ?_, ?_⟩
   ·obtain ⟨(f0 : sv 0 = _), (f1 : sv 1 = _), (f2 : sv 2 = _), (f3 : sv 3 = _), (f4 : sv 4 = _), (f5 : sv 5 = _), (f6 : sv 6 = _), (f7 : sv 7 = _), f8, (f9 : sv 9 = _), (f10 : sv 10 = _), f11, (f12 : sv 12 = _), (f13 : sv 13 = _), (f14 : sv 14 = _), (f15 : sv 15 = _), (f16 : sv 16 = _), (f17 : sv 17 = _), f18, -⟩ := hfa; (try dsimp only at f0 f1 f2 f3 f4 f5 f6 f7 f9 f10 f12 f13 f14 f15 f16 f17)
    obtain ⟨g8, f8, l8, b8⟩ := f8; replace f8 : sv 8 = _ := f8; obtain ⟨p8, q8⟩ := b8.walk; replace f11 : sv 11 = _ := f11 _ f8
    try dsimp only at f11
    obtain ⟨g18, f18, l18, b18⟩ := f18; replace f18 : sv 18 = _ := f18; obtain ⟨p18, q18⟩ := b18.walk
    have hgg := f18.symm.trans hgi
    simp only [Value.slice.injEq, Value.pointer.injEq, Option.some.injEq, Addr.mk.injEq, and_true] at hgg
    subst hgg
    obtain ⟨hc, hf, hz9⟩ := ((Ext.refl _).drew.trans hw').walk; have ht9 := htx.ext ((Ext.refl _).drew.trans hw'); have x0 := (hc _ 0 hX.out.lt).trans (hX.out.cell 0); have x1 := (hc _ 1 hX.out.lt).trans (hX.out.cell 1); have x2 := (hc _ 2 hX.out.lt).trans (hX.out.cell 2); have x3 := (hc _ 3 hX.out.lt).trans (hX.out.cell 3); have x4 := (hc _ 4 hX.out.lt).trans (hX.out.cell 4); have x5 := (hc _ 5 hX.out.lt).trans (hX.out.cell 5); have x6 := (hc _ 6 hX.out.lt).trans (hX.out.cell 6)
    refine ⟨rfl, ?_⟩; simp only [putsL]; change qT (pT (pT (pT (pT (pT (pT (pT (pT (pT (pT (pT (pT (pT (pT (pT (pT (pT (pT (pT _ 31 (sv 18)) 30 (sv 17)) 29 (sv 16)) 28 (sv 15)) 27 (sv 14)) 26 (sv 13)) 25 (sv 12)) 24 (sv 11)) 23 (sv 10)) 22 (sv 9)) 21 (sv 8)) 20 (sv 7)) 19 (sv 6)) 18 (sv 5)) 17 (sv 4)) 16 (sv 3)) 15 (sv 2)) 14 (sv 1)) 13 (sv 0)); simp only [qT, pT, Act.put, sIA, sCS, sCZ]; simp [go_sem, quietTo, Ext.refl, f18]; (all_goals try simp (disch := omega) only [IntWalk.i64_in]); all_goals rfl
   refine fac_nil fun xa wra hera hfra hcra holda hapa => ?_
   obtain ⟨(f0 : xa 0 = _), (f1 : xa 1 = _), (f2 : xa 2 = _), (f3 : xa 3 = _), (f4 : xa 4 = _), (f5 : xa 5 = _), (f6 : xa 6 = _), (f7 : xa 7 = _), f8, (f9 : xa 9 = _), (f10 : xa 10 = _), f11, (f12 : xa 12 = _), (f13 : xa 13 = _), (f14 : xa 14 = _), (f15 : xa 15 = _), (f16 : xa 16 = _), (f17 : xa 17 = _), f18, f19, -⟩ := hfra; (try dsimp only at f0 f1 f2 f3 f4 f5 f6 f7 f9 f10 f12 f13 f14 f15 f16 f17)
   obtain ⟨g8, f8, l8, b8⟩ := f8; replace f8 : xa 8 = _ := f8; obtain ⟨p8, q8⟩ := b8.walk; replace f11 : xa 11 = _ := f11 _ f8
   try dsimp only at f11
   obtain ⟨g18, f18, l18, b18⟩ := f18; replace f18 : xa 18 = _ := f18; obtain ⟨p18, q18⟩ := b18.walk; replace f19 : xa 19 = _ := f19 _ f18
   try dsimp only at f19
   change wpList _ _ _ _ (pT (pT (pT (pT (pT (pT (pT (pT (pT (pT (pT (pT (pT (pT (pT (pT (pT (pT (pT (pT _ 13 (xa 0)) 14 (xa 1)) 15 (xa 2)) 16 (xa 3)) 17 (xa 4)) 18 (xa 5)) 19 (xa 6)) 20 (xa 7)) 21 (xa 8)) 22 (xa 9)) 23 (xa 10)) 24 (xa 11)) 25 (xa 12)) 26 (xa 13)) 27 (xa 14)) 28 (xa 15)) 29 (xa 16)) 30 (xa 17)) 31 (xa 18)) 6 (xa 19)) _
   simp only [putsL, Nat.reduceAdd, List.drop_succ_cons, List.drop_zero, List.drop_nil, pT, Act.put, sIA, sCS, sCZ]
   try simp only [f0, f1, f2, f3, f4, f5, f6, f7, f9, f10, f11, f12, f13, f14, f15, f16, f17, f18, f19]
   clear f0 f1 f2 f3 f4 f5 f6 f7 f9 f10 f12 f13 f14 f15 f16 f17; clear holda hapa
   have hka := (Ext.refl _).drew.trans hera
   have hXa := hX.out.ext hka
   have hBa := bld_ext hBx.out hka
   have hea := (he.trans hex).trans hka
   obtain ⟨pX, qX⟩ := hXa.walk
   have lX := hXa.lt
   have hown : wra.ownsRow w.heap.size 9 1 (.slice (some ⟨g18,0, none⟩) 6 6) 6 (List.map Value.string [x.by_, itoaL x.no, itoaL x.at_, kw, x.piece, itoaL x.copy]) := own_blk1 b18 rfl (by simp at l18; have := he.size; omega) (by decide)
   have hJ1 : (⟨(lineV x).toArray⟩ : ByteArray).size ≤ 290 := by show (lineV x).toArray.size ≤ _; simpa using hll.out
   have hJ2 : (lineV x).toArray.size ≤ 290 := hJ1
   have hJ3 : (lineV x).length ≤ 290 := hll.out
   replace hown := Lib.hid hown; clear b8 b18 p8 q8 p18 q18 f8 f11 f18 f19 c0 c1 c2 c3 c4 c5 c6
   by_cases hk1 : kk = 1
   ·have hkd : decide ((kk : Int) = 1) = true := by simp; omega
    have hkb : ((kk : Int) == 1) = true := by simp; omega
    have hW : wordsV x = [x.by_, itoaL x.no, itoaL x.at_, kw, x.piece, itoaL x.copy, x.singer] := by rw [hwl.out, if_pos hk1]; rfl
    replace hk1 := Lib.hid hk1; replace hW := Lib.hid hW
    replace hown := hown.out
    go_wp2_with (first
     | (at_builtin; go_loud (refine wp_appL _ (.tmp 35) (.tmp 38) 47 9 1 16 (.string ⟨#[]⟩) rfl rfl Tryz.underlying47 (by kernel_rfl) rfl (by decide) (by decide) w.heap.size (some ⟨g18,0, none⟩) 6 6 _ rfl (hown.alloc _) wra.heap.size [.string x.singer] rfl rfl (Blk.new' rfl) (by simp [Value.oneCell']) (by omega) (by have := hea.size; simp; omega) ?_; intro b7 c7 w7 hown7 hgrow7 _; have hk7 := (hka.alloc (.cells #[.string x.singer] 9)).grown hgrow7 (fun j e => by have e2 : g18 = j := (by simpa [Value.ownBlock] using e); subst e2; exact l18); have hBq := bld_ext hBx.out hk7; have heq := (he.trans hex).trans hk7; have hown7 : w7.ownsRow w.heap.size 9 1 _ 7 (List.map Value.string [x.by_, itoaL x.no, itoaL x.at_, kw, x.piece, itoaL x.copy, x.singer]) := hown7))
     | (go_at_call 156; (with_reducible refine Calls.mono (joined_own hown7 rfl (by omega) hW.out hll.out) ?_); rintro e w8 ⟨rfl, hb8⟩; have hB8 := bld_ext hBq hb8; have he8 := heq.trans hb8; have hs8 := he8.size)
     | (go_at_call 151; (with_reducible refine Calls.mono (writeString_any w.heap.size w.heap.size _ _ _ hB8 (by have := hlen0.out; have := hll.out; rw [lineB_size]; omega) hs8) ?_); rintro e w9 ⟨rfl, hB9, hb9, -⟩))
    go_roundw
    case rel =>
     refine ⟨k + 1, hkg, by go_num, ?_, Below.trans he8 hb9⟩
     rw [hstep.out]
     have e : Lib.byteCells (textV (xs.take k) ++ (lineV x ++ [10])) = Lib.byteCells (textV (xs.take k)) ++ Lib.strCells ((⟨(lineV x).toArray⟩ : ByteArray) ++ ⟨#[10]⟩) := by
      rw [Lib.strCells_eq, lineB_data]
      unfold Lib.byteCells
      rw [List.map_append]
     rw [e]
     exact hB9
    case measure => simp [intOf]; omega
   ·have hkd : decide ((kk : Int) = 1) = false := by simp; omega
    have hkb : ((kk : Int) == 1) = false := by simp; omega
    have hW : wordsV x = [x.by_, itoaL x.no, itoaL x.at_, kw, x.piece, itoaL x.copy] := by rw [hwl.out, if_neg hk1]; rfl
    replace hW := Lib.hid hW
    have hBq := hBa
    have heq := hea
    go_wp2_with (first
     | (go_at_call 156; (with_reducible refine Calls.mono (joined_own hown.out rfl (by omega) hW.out hll.out) ?_); rintro e w8 ⟨rfl, hb8⟩; have hB8 := bld_ext hBq hb8; have he8 := heq.trans hb8; have hs8 := he8.size)
     | (go_at_call 151; (with_reducible refine Calls.mono (writeString_any w.heap.size w.heap.size _ _ _ hB8 (by have := hlen0.out; have := hll.out; rw [lineB_size]; omega) hs8) ?_); rintro e w9 ⟨rfl, hB9, hb9, -⟩))
    go_roundw
    case rel =>
     refine ⟨k + 1, hkg, by go_num, ?_, Below.trans he8 hb9⟩
     rw [hstep.out]
     have e : Lib.byteCells (textV (xs.take k) ++ (lineV x ++ [10])) = Lib.byteCells (textV (xs.take k)) ++ Lib.strCells ((⟨(lineV x).toArray⟩ : ByteArray) ++ ⟨#[10]⟩) := by
      rw [Lib.strCells_eq, lineB_data]
      unfold Lib.byteCells
      rw [List.map_append]
     rw [e]
     exact hB9
    case measure => simp [intOf]; omega
  ·obtain rfl : k = n := by omega
   rw [show xs.take k = xs by rw [← hl.out, List.take_length]] at hB
   have hs9 := he.size
   generalize hLt : textV xs = L at *
   replace hB := Lib.hid hB
   go_wp2_with (go_at_call 154; (with_reducible refine Calls.mono (bldStr_any _ _ L _ hB.out hs9) ?_); rintro e w9 ⟨rfl, hb9⟩)
   go_ret
   exact ⟨by rw [hLt]; rfl, Below.trans he hb9⟩
end Go.Proofs.YtehboinleolihaaGreatDoor
