/- A divider is made, by the program. Conditions: sizes. -/
import Derived.Test.YtdehmioobkneiaaGreatDoorVsDvG
import Derived.Test.YtdehmioobkneiaaGreatDoorVsDvH
import Derived.Test.YtdehmioobkneiaaGreatDoorVsJ36
set_option linter.unusedSimpArgs false
set_option linter.unusedVariables false
namespace Go.Proofs.YtdehmioobkneiaaGreatDoor
open Go Go.RowKit Go.Maps

theorem mapInfo : (Tryz.prog.info? 137).map (fun i => (i.zero, i.size, i.bytes)) = some (some (.map none), 1, 8) := by kernel_rfl
theorem own_map_ne {P : Program} {κ ν : Type} {M : KMap P κ ν} {w : World} {b n : Nat} {f : κ → Option ν} (h : OwnK M w b n f) {base k m : Nat} {e : TypeId} {v : Value} {xs : List Value} (ho : w.ownsRow base e k v m xs) : some b ≠ v.ownBlock := by
  obtain ⟨D, ⟨es, clock, hb, -⟩, -⟩ := h
  rcases ho.2 with ⟨rfl, _⟩ | ⟨g, cap, cur, rfl, _, h3, _⟩
  · simp [Value.ownBlock]
  · intro e1
    have e2 : b = g := by simpa [Value.ownBlock] using e1
    subst e2
    rw [h3] at hb
    cases hb
/-- A divider that is being made. -/
structure DivB (w0 w : World) (cb db : Nat) (bp : Option Addr) (bc : Nat) (gs : List Nat) : Prop where
  ext : Ext w0 w
  low : w0.heap.size ≤ db
  blk : Blk w db 88 #[.pointer (some ⟨cb, 0, none⟩), .slice bp gs.length bc]
  row : w.ownsRow (db + 1) 137 1 (.slice bp gs.length bc) gs.length (gs.flatMap mapC)
  nodup : gs.Nodup
  far : ∀ g ∈ gs, db < g ∧ OwnK manyI w g 0 (fun _ => none)
theorem DivB.step {w0 w : World} {cb db : Nat} {bp : Option Addr} {bc : Nat} {gs : List Nat} (h : DivB w0 w cb db bp bc gs) {w' : World} {b c' : Nat}
    (ho : w'.ownsRow (db + 1) 137 1 (.slice (some ⟨b, 0, none⟩) (gs.length + 1) c') (gs.length + 1) (gs.flatMap mapC ++ mapC w.heap.size))
    (hg : ((w.alloc (.map #[] 0)).alloc (.cells #[.map (some w.heap.size)] 137)).grownBy w' (Value.slice bp gs.length bc).ownBlock) :
    DivB w0 (w'.setCell ⟨db, 1, none⟩ (.slice (some ⟨b, 0, none⟩) (gs.length + 1) c')) cb db (some ⟨b, 0, none⟩) c' (gs ++ [w.heap.size]) := by
  rw [show gs.length + 1 = (gs ++ [w.heap.size]).length by simp]
  have hE : Ext w ((w.alloc (.map #[] 0)).alloc (.cells #[.map (some w.heap.size)] 137)) := ((Ext.refl _).alloc _).alloc _
  have hO := own_ext hE h.row
  have hN : OwnK manyI ((w.alloc (.map #[] 0)).alloc (.cells #[.map (some w.heap.size)] 137)) w.heap.size 0 (fun _ => none) := (OwnK.made w).ext ((Ext.refl _).alloc _)
  generalize (w.alloc (.map #[] 0)).alloc (.cells #[.map (some w.heap.size)] 137) = W2 at *
  have hgs := grown_set w' ⟨db, 1, none⟩ (.slice (some ⟨b, 0, none⟩) (gs ++ [w.heap.size]).length c')
  have hB : Blk w' db 88 _ := (hg.block db (h.blk.ext hE).lt fun e => own_no hO (h.blk.ext hE) (by decide) e.symm).trans (h.blk.ext hE)
  have hdl := h.blk.lt
  refine ⟨?_, h.low, ?_, ?_, ?_, fun g hg' => ?_⟩
  · exact (((h.ext.trans hE).app hO (by have := h.low; omega) hg)).setCell (p := ⟨db, 1, none⟩) h.low _
  · exact (hB.set_ 1 (.slice (some ⟨b, 0, none⟩) (gs ++ [w.heap.size]).length c')).cast (by simp)
  · have ho2 := ho.kept hgs (.inr (own_no ho hB (by decide)))
    rw [List.flatMap_append, show (gs ++ [w.heap.size]).length = gs.length + 1 by simp]
    rw [show (gs ++ [w.heap.size]).length = gs.length + 1 by simp] at ho2
    exact ho2
  · refine List.nodup_append.2 ⟨h.nodup, by simp, fun a ha b hb e => ?_⟩
    rw [List.mem_singleton] at hb
    have := (h.far a ha).2.lt
    omega
  · rcases List.mem_append.1 hg' with h1 | h1
    · obtain ⟨h2, h3⟩ := h.far g h1
      exact ⟨h2, ((h3.ext hE).grown hg (own_map_ne (h3.ext hE) hO)).grown hgs (by simp; omega)⟩
    · rw [List.mem_singleton.1 h1]
      exact ⟨hdl, (hN.grown hg (own_map_ne hN hO)).grown hgs (by simp; omega)⟩
theorem DivB.done {w0 w : World} {cb db : Nat} {bp : Option Addr} {bc : Nat} {gs : List Nat} (h : DivB w0 w cb db bp bc gs) {P : List PartV} {C : List (List Int)} (hl : gs.length = C.length) (hn : gs.length ≤ 1000) : DivM w0 w cb db bp bc gs P C 0 := by
  obtain ⟨p, c, e, hS⟩ := slc_of_own mapC_len h.row (by decide) (by omega)
  cases e
  refine ⟨h.ext, h.low, h.blk, hS, hl, h.nodup, fun g hg => ?_, fun i g hg => ?_⟩
  · obtain ⟨h1, h2⟩ := h.far g hg
    refine ⟨by have := h.low; omega, by omega, fun a ha e => ?_⟩
    obtain ⟨_, ⟨h3, -⟩ | ⟨b, off, e2, -, -⟩⟩ := slcC hS
    · rw [h3] at ha; cases ha
    · rw [e2] at ha
      cases ha
      have hon := own_map_ne h2 h.row
      refine hon ?_
      rw [← e, e2]
      rfl
  · exact ⟨_, (h.far g (List.mem_of_getElem? hg)).2.le (Nat.zero_le _), fun N s _ h => by cases h⟩

section
variable {w : World} {vp pp : Option Addr} {vc pc : Nat} {V : List VoiceV} {P : List PartV}
/-- A divider is made. -/
def DivR (w : World) (P : List PartV) (pp : Option Addr) (pc : Nat) (C : List (List Int)) (S : List ByteArray) (e : Ending) (w' : World) : Prop :=
  ∃ (w0 : World) (cb db : Nat) (sp : Option Addr) (sc : Nat) (cp : Option Addr) (cc : Nat) (bp : Option Addr) (bc : Nat) (gs : List Nat),
    e = .returned (.tuple #[.pointer (some ⟨db, 0, none⟩), .int .i64 0]) ∧ Ext w w0 ∧ ChoirM w0 cb P pp pc C sp sc cp cc ∧ Slc 1 strC w0 sp C.length sc S ∧ DivM w0 w' cb db bp bc gs P C 0
set_option maxRecDepth 100000 in
set_option maxHeartbeats 3200000 in
theorem dividerOf_good (h : VpM w vp vc V pp pc P) (t : Int) (hz : errL V P t = 0) (hl1 : (singersL V t).length ≤ 24) (hl2 : P.length ≤ 4) :
    Calls Tryz.prog 28 #[.slice vp V.length vc, .slice pp P.length pc, .int .i64 t] w (DivR w P pp pc (comL V t P) (singersL V t)) := by
  obtain ⟨z1, z2, z3⟩ := errL_zero.1 hz
  obtain ⟨hP, hN⟩ := parts_need z2
  have hb0 : bothF V P = 0 := by unfold bothF; rw [if_pos z1, z2]
  have hbo : Calls Tryz.prog 57 #[.slice vp V.length vc, .slice pp P.length pc] w fun e w' => e = .returned (.int .i64 (bothF V P)) ∧ Ext w w' := bothFault_any h
  have hmo := mom_call t
  have hch := fun u (hu : Ext w u) => choirOf_own (h.more hu) t hP hN
  rw [hb0] at hbo
  rw [z3] at hmo
  have hCS := comL_len V t P
  generalize comL V t P = C at *
  generalize singersL V t = S at *
  rw [← hCS] at hch hl1
  have hmm := @run_makeMap Tryz.prog
  replace hmo := Lib.hid hmo
  replace hbo := Lib.hid hbo
  replace hch := Lib.hid hch
  replace hN := Lib.hid hN
  replace hCS := Lib.hid hCS
  clear h z1 z2 z3 hb0 hz
  go_enter Tryz.func28, Tryz.ntmps28
  go_upto_region 8 with (first
    | (go_at_call 57; (with_reducible refine Calls.mono hbo.out ?_); rintro e w1 ⟨rfl, hb1⟩)
    | (go_at_call 58; (with_reducible refine Calls.mono (hmo.out _ _ _ _ (by exact Blk.new' rfl)) ?_); rintro e w2 ⟨rfl, hb2⟩; simp only [if_true]; have hE2 := (hb1.alloc _).trans hb2)
    | (go_at_call 59; (with_reducible refine Calls.mono (hch.out _ hE2) ?_); rintro e w3 ⟨cb, sp, sc, cp, cc, rfl, hC, hSn, hb3⟩; have hE3 := hE2.trans hb3; replace hC := Lib.hid hC))
  have hB1 : Blk (w3.alloc (.cells #[.pointer (some ⟨cb, 0, none⟩), .slice none 0 0] 88)) w3.heap.size 88 #[.pointer (some ⟨cb, 0, none⟩), .slice none 0 0] := Blk.new' rfl
  have hE1 : Ext w3 (w3.alloc (.cells #[.pointer (some ⟨cb, 0, none⟩), .slice none 0 0] 88)) := (Ext.refl _).alloc _
  have hC1 := hC.out.ext hE1
  obtain ⟨z1, -⟩ := hC1.blk.walk
  obtain ⟨z2, -⟩ := hB1.walk
  have hlo : w3.heap.size ≤ w3.heap.size := Nat.le_refl _
  have hnC := hC.out.nC
  generalize w3.alloc (.cells #[.pointer (some ⟨cb, 0, none⟩), .slice none 0 0] 88) = W1 at *
  generalize hdb : w3.heap.size = db at *
  replace hdb := Lib.hid hdb
  replace hC1 := Lib.hid hC1
  replace hB1 := Lib.hid hB1
  replace hSn := Lib.hid hSn
  clear hbo hmo hch hb1 hb2 hb3 hE2
  have hn1 : ¬ (24 : Int) < C.length := by omega
  have hn2 : ¬ (4 : Int) < P.length := by omega
  go_wp2
  go_loopw [51] (fun v51 wr => ∃ (bp : Option Addr) (bc : Nat) (gs : List Nat), v51 = .int .i64 gs.length ∧ gs.length ≤ C.length ∧ DivB w3 wr cb db bp bc gs) (fun v51 _ => C.length - (intOf v51).toNat)
  case atStart => exact ⟨none, 0, [], rfl, Nat.zero_le _, hE1, by rw [hdb.out]; exact Nat.le_refl _, hB1.out, World.ownsRow_nil _ _ _ _, List.nodup_nil, fun g hg => by cases hg⟩
  case round =>
    clear z1 z2
    obtain ⟨bp, bc, gs, rfl, hgs, hD⟩ := hrel
    by_cases hlt : gs.length < C.length
    · obtain ⟨z1, -⟩ := hD.blk.walk
      have hdl := hD.blk.lt
      have hrow := own_ext (((Ext.refl wr).alloc (.map #[] 0)).alloc (.cells #[.map (some wr.heap.size)] 137)) hD.row
      have hBx := (hD.blk.ext (((Ext.refl wr).alloc (.map #[] 0)).alloc (.cells #[.map (some wr.heap.size)] 137)))
      have hst := fun w' b c' ho hg => hD.step (w' := w') (b := b) (c' := c') ho hg
      have hgI : (gs.length : Int) < C.length := by omega
      have hNb : Blk ((wr.alloc (.map #[] 0)).alloc (.cells #[.map (some wr.heap.size)] 137)) (wr.heap.size + 1) 137 (mapC wr.heap.size).toArray := by simpa [mapC] using Blk.new' (w := wr.alloc (.map #[] 0)) (t := 137) (cs := #[.map (some wr.heap.size)]) rfl
      replace hst := Lib.hid hst
      replace hD := Lib.hid hD
      go_wp2_with (first
        | (at_builtin; go_loud (refine wp_appL _ (.tmp 57) (.tmp 59) 86 137 1 8 _ rfl rfl Tryz.underlying86 mapInfo rfl (by decide) (by decide) (db + 1) _ gs.length _ _ rfl hrow (wr.heap.size + 1) (mapC wr.heap.size) rfl rfl hNb (by simp [mapC, Value.oneCell']) (by omega) (by simp; omega) ?_; intro b6 c6 w6 hown6 hgrow6 hb6; have hD6 := hst.out _ _ _ hown6 hgrow6; have hB6 : Blk w6 db 88 #[.pointer (some ⟨cb, 0, none⟩), .slice bp gs.length bc] := (hgrow6.block db hBx.lt fun e => own_no hrow hBx (by decide) e.symm).trans hBx; obtain ⟨y1, y2⟩ := hB6.walk; have hdl6 := hB6.lt)))
      go_roundw
      case rel => exact ⟨_, _, gs ++ [wr.heap.size], by rw [List.length_append]; go_num, by rw [List.length_append, List.length_singleton]; omega, hD6⟩
      case measure => simp [intOf]; omega
    · have hDM : DivM w3 wr cb db bp bc gs P C 0 := hD.done (by omega) (by omega)
      replace hDM := Lib.hid hDM
      replace hE3 := Lib.hid hE3
      clear hD
      go_wp2
      go_ret2
      exact ⟨_, _, _, _, _, _, _, _, _, _, rfl, hE3.out, hC.out, hSn.out, hDM.out⟩
end
end Go.Proofs.YtdehmioobkneiaaGreatDoor
