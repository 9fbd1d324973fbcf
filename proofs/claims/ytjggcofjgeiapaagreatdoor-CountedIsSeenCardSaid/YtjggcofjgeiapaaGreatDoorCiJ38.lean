/- A library at a moment, when all is right: the walk of at. Conditions: sizes; at most 19 slips. How many copies of each title are in: the walk of Stock. Conditions: sizes; at most 19 slips. -/
import Derived.Test.YtjggcofjgeiapaaGreatDoorCiLbJ
import Derived.Test.YtjggcofjgeiapaaGreatDoorCiJ22
import Derived.Test.YtjggcofjgeiapaaGreatDoorCiJ15
set_option linter.unusedSimpArgs false
set_option linter.unusedVariables false
namespace Go.Proofs.YtjggcofjgeiapaaGreatDoor
open Go Go.RowKit Go.Maps

/-- What is right about a library's lists in memory. -/
structure ListsM (w : World) (tp : Option Addr) (tn tc : Nat) (T : List TitleV) (r : LendR) (dp : Option Addr) (dn dc : Nat) (d : List SlipV) : Prop where
  ti : Slc 3 titleC w tp tn tc T
  ts : ∀ x ∈ T, x.Small
  tl : tn ≤ 1000
  sl : Slc 7 slipC w dp dn dc d
  ss : ∀ x ∈ d, x.Small
  sn : dn ≤ 19
  ok : libF T r d = 0
theorem ListsM.ext {w w' : World} {tp : Option Addr} {tn tc : Nat} {T : List TitleV} {r : LendR} {dp : Option Addr} {dn dc : Nat} {d : List SlipV} (h : ListsM w tp tn tc T r dp dn dc d) (he : Ext w w') : ListsM w' tp tn tc T r dp dn dc d :=
  ⟨h.ti.ext he, h.ts, h.tl, h.sl.ext he, h.ss, h.sn, h.ok⟩
/-- A library at a moment. -/
def AtR (tp : Option Addr) (tn tc : Nat) (T : List TitleV) (r : LendR) (d : List SlipV) (t : Int) (w : World) (e : Ending) (w' : World) : Prop :=
  ∃ (base bb ms ml mh q : Nat), e = .returned (.tuple #[.pointer (some ⟨bb, 0, none⟩), .int .i64 0]) ∧ LibM base w' bb ms ml mh q tp tn tc r (libAt T r d t).1 ∧ Ext w w'
set_option maxRecDepth 100000 in
theorem nothing_any (w : World) : Calls Tryz.prog 56 #[] w fun e w' => e = .returned (.int .i64 0) ∧ w = w' := by
  go_enter Tryz.func56, Tryz.ntmps56
  go_wp2
  go_ret
  exact ⟨rfl, rfl⟩
set_option maxRecDepth 100000 in
set_option maxHeartbeats 6400000 in
theorem atN_any (tp : Option Addr) (tn tc : Nat) (T : List TitleV) (r : LendR) (dp : Option Addr) (dn dc : Nat) (d : List SlipV) (t : Int) (w : World) (h : ListsM w tp tn tc T r dp dn dc d) (ht : outB t 0 345686399999 = false) :
    Calls Tryz.prog 55 #[.slice tp tn tc, lendVal r, .slice dp dn dc, .int .i64 t, .func (.func 56) #[] #[]] w (AtR tp tn tc T r d t w) := by
  obtain ⟨z1, z2, z3⟩ := libF_zero h.ok
  have hl := fun u (hu : Ext w u) => listsFault_any tp tn tc T r dp dn dc d u (h.ext hu).ti.1 h.ts h.tl (h.ext hu).sl.1 h.ss (by have := h.sn; omega)
  have hm := fun u => sMom_is ht u
  have hL := fun u (hu : Ext w u) => libraryAt_any tp tn tc T r dp dn dc d t u (h.ext hu).ti (titlesF_ok z1) (h.ext hu).sl (slipsF_right z3) h.ss h.sn
  rw [h.ok] at hl
  unfold lendVal at hl hL ⊢
  have hE : Ext w (w.alloc (.cells #[.int .i64 r.days, .int .i64 r.late, .int .i64 r.most, .int .i64 r.each] 28)) := (Ext.refl w).alloc _
  have hX := Blk.new' (w := w) (g := w.heap.size) (t := 28) (cs := #[.int .i64 r.days, .int .i64 r.late, .int .i64 r.most, .int .i64 r.each]) rfl
  have lx := hX.lt
  have x0 := hX.cell 0
  have x1 := hX.cell 1
  have x2 := hX.cell 2
  have x3 := hX.cell 3
  clear h z1 z2 z3 hX
  replace hl := Lib.hid hl
  replace hm := Lib.hid hm
  replace hL := Lib.hid hL
  replace hE := Lib.hid hE
  go_enter Tryz.func55, Tryz.ntmps55
  go_wp2_with (first
    | (go_at_call 73; (with_reducible refine Calls.mono (hl.out _ hE.out) ?_); rintro e w1 ⟨rfl, hb1⟩; have v0 := (hb1.walk.1 _ _ lx).trans x0; have v1 := (hb1.walk.1 _ _ lx).trans x1; have v2 := (hb1.walk.1 _ _ lx).trans x2; have v3 := (hb1.walk.1 _ _ lx).trans x3)
    | (go_at_call 56; (with_reducible refine Calls.mono (nothing_any _) ?_); rintro e w2 ⟨rfl, rfl⟩)
    | (go_at_call 116; (with_reducible refine Calls.mono (hm.out _) ?_); rintro e w3 ⟨rfl, hb3⟩; have u0 := (hb3.walk.1 _ _ (Nat.lt_of_lt_of_le lx hb1.size)).trans v0; have u1 := (hb3.walk.1 _ _ (Nat.lt_of_lt_of_le lx hb1.size)).trans v1; have u2 := (hb3.walk.1 _ _ (Nat.lt_of_lt_of_le lx hb1.size)).trans v2; have u3 := (hb3.walk.1 _ _ (Nat.lt_of_lt_of_le lx hb1.size)).trans v3)
    | (go_at_call 74; (with_reducible refine Calls.mono (hL.out _ ((hE.out.trans hb1).trans hb3)) ?_); rintro e w4 ⟨base, bb, ms, ml, mh, q, mr, n, rfl, hLM, hRM, hb4⟩))
  have hres : AtR tp tn tc T r d t w (.returned (.tuple #[.pointer (some ⟨bb, 0, none⟩), .int .i64 0])) w4 := ⟨base, bb, ms, ml, mh, q, rfl, hLM, ((hE.out.trans hb1).trans hb3).trans hb4⟩
  go_ret2
  exact hres
end Go.Proofs.YtjggcofjgeiapaaGreatDoor

namespace Go.Proofs.YtjggcofjgeiapaaGreatDoor
open Go Go.RowKit Go.Maps

def lpC (x : ByteArray × ByteArray) : List Value := [.string x.1, .string x.2]
theorem lpC_len (x : ByteArray × ByteArray) : (lpC x).length = 2 := rfl
theorem lpC_one (x : ByteArray × ByteArray) : ∀ u ∈ lpC x, u.oneCell' = true := by simp [lpC, Value.oneCell']
theorem lpInfo : (Tryz.prog.info? 57).map (fun i => (i.zero, i.size, i.bytes)) = some (some (.agg #[.string ⟨#[]⟩, .string ⟨#[]⟩]), 2, 32) := by kernel_rfl
set_option maxRecDepth 100000 in
set_option maxHeartbeats 1600000 in
theorem indexW_any (p : Option Addr) (n c : Nat) (G : List ByteArray) (nm : ByteArray) (w : World) (h : Slc 1 strC w p n c G) (hn : n ≤ 1000) :
    Calls Tryz.prog 107 #[.slice p n c, .string nm] w fun e w' => ∃ i : Int, e = .returned (.int .i64 i) ∧ (0 ≤ i ↔ nm ∈ G) ∧ Ext w w' := by
  obtain ⟨hl, hp⟩ := slcC h
  subst hl
  replace hp := Lib.hid hp
  clear h
  go_enter Tryz.func107, Tryz.ntmps107
  go_wp2
  go_loopw [8] (fun i wr => ∃ k : Nat, k ≤ G.length ∧ i = .int .i64 k ∧ nm ∉ G.take k ∧ Ext w wr) (fun i _ => G.length - (intOf i).toNat)
  case atStart => exact ⟨0, Nat.zero_le _, rfl, by simp, Ext.refl _⟩
  case round =>
    obtain ⟨k, hk, rfl, hno, hE⟩ := hrel
    by_cases hlt : k < G.length
    · obtain ⟨x, hx⟩ := getD_some (rfl : G.length = G.length) hlt
      rcases hp.out with ⟨-, e⟩ | ⟨b1, o1, rfl, hb1, hE1⟩
      · rw [e] at hx; cases hx
      have c1 := (hE1.ext hE hb1).str hx
      have l1 := Nat.lt_of_lt_of_le hb1 hE.size
      have hkI : (k : Int) < G.length := by omega
      have htk := take_snocL hx
      have hxm := List.mem_of_getElem? hx
      replace hno := Lib.hid hno
      replace htk := Lib.hid htk
      clear hx hE1
      cases hq : (nm.toList == x.toList)
      · have hne : nm ≠ x := fun e => by rw [bytesB.2 e] at hq; cases hq
        go_wp2
        go_roundw
        case rel => exact ⟨k + 1, by omega, by go_num, by rw [htk.out]; simp only [List.mem_append, List.mem_singleton, not_or]; exact ⟨hno.out, hne⟩, hE⟩
        case measure => simp [intOf]; omega
      · have hne : nm = x := bytesB.1 hq
        go_wp2
        go_ret
        exact ⟨k, rfl, ⟨fun _ => by rw [hne]; exact hxm, fun _ => by omega⟩, hE⟩
    · obtain rfl : k = G.length := by omega
      rw [List.take_length] at hno
      replace hno := Lib.hid hno
      go_wp2
      go_ret
      exact ⟨-1, rfl, ⟨fun h => by omega, fun h => absurd h hno.out⟩, hE⟩
set_option maxRecDepth 100000 in
theorem containsW_any (p : Option Addr) (n c : Nat) (G : List ByteArray) (nm : ByteArray) (w : World) (h : Slc 1 strC w p n c G) (hn : n ≤ 1000) :
    Calls Tryz.prog 106 #[.slice p n c, .string nm] w fun e w' => ∃ b : Bool, e = .returned (.bool b) ∧ (b = true ↔ nm ∈ G) ∧ Ext w w' := by
  have hi := indexW_any p n c G nm w h hn
  replace hi := Lib.hid hi
  clear h
  go_enter Tryz.func106, Tryz.ntmps106
  go_wp2_with (go_at_call 107; (with_reducible refine Calls.mono hi.out ?_); rintro e w1 ⟨i, rfl, hi2, hb1⟩)
  go_ret
  exact ⟨_, rfl, by simp, hb1⟩
set_option maxRecDepth 100000 in
set_option maxHeartbeats 3200000 in
theorem many_any {base : Nat} {w : World} {bb ms ml mh q : Nat} {tp : Option Addr} {tn tc : Nat} {r : LendR} {L : LibS} (h : LibM base w bb ms ml mh q tp tn tc r L) (x : TitleV) (hx : x.piece.size ≤ 1000000) (hx0 : 0 ≤ x.owned) (hx5 : x.owned ≤ 500) (p : Option Addr) (n c : Nat) (W : List ByteArray) (hW : Slc 1 strC w p n c W) (hn : n ≤ 1000) :
    Calls Tryz.prog 64 #[.pointer (some ⟨bb, 0, none⟩), titleVal x, .slice p n c] w fun e w' => e = .returned (.int .i64 (cntT L x W)) ∧ Ext w w' := by
  unfold cntT titleVal
  obtain ⟨m, hm⟩ : ∃ m : Nat, x.owned = (m : Int) := ⟨x.owned.toNat, by omega⟩
  rw [hm, Int.toNat_natCast]
  have hE0 : Ext w (w.alloc (.cells #[.string x.piece, .int .i64 (m : Int), .int .i64 x.cost] 77)) := (Ext.refl w).alloc _
  have hX := Blk.new' (w := w) (g := w.heap.size) (t := 77) (cs := #[.string x.piece, .int .i64 (m : Int), .int .i64 x.cost]) rfl
  have hst := fun u (hu : Ext w u) (no : Int) (h1 : 0 ≤ no) (h2 : no ≤ 1000) => state_any (h.ext hu) x.piece no ⟨hx, by show _ ≤ no; omega, by show no ≤ _; omega⟩
  have hct := fun u (hu : Ext w u) (nm : ByteArray) => containsW_any p n c W nm u (hW.ext hu) hn
  replace hst := Lib.hid hst
  replace hct := Lib.hid hct
  replace hE0 := Lib.hid hE0
  replace hX := Lib.hid hX
  have hm5 : m ≤ 500 := by omega
  clear h hW hx0 hx5 hm
  go_enter Tryz.func64, Tryz.ntmps64
  go_wp2
  generalize (w.alloc (.cells #[.string x.piece, .int .i64 (m : Int), .int .i64 x.cost] 77)) = W1 at *
  generalize hgx : w.heap.size = gx at *
  clear hgx
  go_loopw [7, 8] (fun v7 v8 wr => ∃ k : Nat, k ≤ m ∧ v8 = .int .i64 ((k : Int) + 1) ∧ v7 = .int .i64 (cntN L x.piece W k : Int) ∧ Ext W1 wr) (fun _ v8 _ => m + 1 - (intOf v8).toNat)
  case atStart => exact ⟨0, Nat.zero_le _, rfl, rfl, Ext.refl _⟩
  case round =>
    obtain ⟨k, hk, rfl, rfl, he⟩ := hrel
    have hXr := hX.out.ext he
    have c0 := hXr.cell 0
    have c1 := hXr.cell 1
    have lx := hXr.lt
    have hew := hE0.out.trans he
    have hcle := cntN_le L x.piece W k
    by_cases hlt : k < m
    · have hkI : (k : Int) + 1 ≤ (m : Int) := by omega
      have hsu := cntN_succ L x.piece W k
      have hs := hst.out wr hew ((k : Int) + 1) (by omega) (by omega)
      have hc := fun u (hu : Ext wr u) => hct.out u (hew.trans hu) (L.at_ (x.piece, (k : Int) + 1))
      rw [show (((k + 1 : Nat) : Nat) : Int) = (k : Int) + 1 by omega] at hsu
      generalize cntN L x.piece W k = cn at *
      have z1 : IntKind.i64.wrap ((cn : Int) + 1) = (cn : Int) + 1 := IntWalk.i64_in _ (by omega)
      have z2 : IntKind.i64.wrap ((k : Int) + 1 + 1) = (k : Int) + 1 + 1 := IntWalk.i64_in _ (by omega)
      replace hs := Lib.hid hs
      replace hc := Lib.hid hc
      replace hsu := Lib.hid hsu
      go_wp2_with (first
        | (go_at_call 59; (with_reducible refine Calls.mono hs.out ?_); rintro e w2 ⟨rfl, hb2⟩)
        | (go_at_call 106; (with_reducible refine Calls.mono (hc.out _ hb2) ?_); rintro e w3 ⟨bo, rfl, hbo, hb3⟩; replace hbo := Lib.hid hbo; cases bo))
      · have hno : ¬ L.at_ (x.piece, (k : Int) + 1) ∈ W := fun hm => Bool.false_ne_true (hbo.out.2 hm)
        go_roundw
        case rel => exact ⟨k + 1, by omega, by go_num, by rw [hsu.out, if_neg hno]; rfl, (he.trans hb2).trans hb3⟩
        case measure => simp [intOf]; omega
      · have hno : L.at_ (x.piece, (k : Int) + 1) ∈ W := hbo.out.1 (by simp)
        go_roundw
        case rel => exact ⟨k + 1, by omega, by go_num, by rw [hsu.out, if_pos hno]; go_num, (he.trans hb2).trans hb3⟩
        case measure => simp [intOf]; omega
    · obtain rfl : k = m := by omega
      have hkI : ¬ (k : Int) + 1 ≤ (k : Int) := by omega
      go_wp2
      go_ret
      exact ⟨rfl, hew⟩
end Go.Proofs.YtjggcofjgeiapaaGreatDoor
