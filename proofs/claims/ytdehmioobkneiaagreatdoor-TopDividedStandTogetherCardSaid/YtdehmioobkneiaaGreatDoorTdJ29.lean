/- A divider is made, by the program. Conditions: sizes. The first of the best divisions, by the program. Conditions: sizes. -/
import Derived.Test.YtdehmioobkneiaaGreatDoorTdDvG
import Derived.Test.YtdehmioobkneiaaGreatDoorTdJ24
import Derived.Test.YtdehmioobkneiaaGreatDoorTdJ25
set_option linter.unusedSimpArgs false
set_option linter.unusedVariables false
namespace Go.Proofs.YtdehmioobkneiaaGreatDoor
open Go Go.RowKit Go.Maps
theorem mapInfo : (Tryz.prog.info? 137).map (fun i => (i.zero, i.size, i.bytes)) = some (some (.map none), 1, 8) := by kernel_rfl
theorem own_map_ne {P : Program} {κ ν : Type} {M : KMap P κ ν} {w : World} {b n : Nat} {f : κ → Option ν} (h : OwnK M w b n f) {base k m : Nat} {e : TypeId} {v : Value} {xs : List Value} (ho : w.ownsRow base e k v m xs) : some b ≠ v.ownBlock := by
  obtain ⟨D, ⟨es, clock, hb, -⟩, -⟩ := h
  rcases ho.2 with ⟨rfl, _⟩ | ⟨g, cap, cur, rfl, _, h3, _⟩
  · simp [Value.ownBlock]
  · intro e1
    have e2 : b = g := by simpa [Value.ownBlock] using e1
    subst e2
    rw [h3] at hb
    cases hb
/-- A divider that is being made. -/
structure DivB (w0 w : World) (cb db : Nat) (bp : Option Addr) (bc : Nat) (gs : List Nat) : Prop where
  ext : Ext w0 w
  low : w0.heap.size ≤ db
  blk : Blk w db 88 #[.pointer (some ⟨cb, 0, none⟩), .slice bp gs.length bc]
  row : w.ownsRow (db + 1) 137 1 (.slice bp gs.length bc) gs.length (gs.flatMap mapC)
  nodup : gs.Nodup
  far : ∀ g ∈ gs, db < g ∧ OwnK manyI w g 0 (fun _ => none)
theorem DivB.step {w0 w : World} {cb db : Nat} {bp : Option Addr} {bc : Nat} {gs : List Nat} (h : DivB w0 w cb db bp bc gs) {w' : World} {b c' : Nat}
    (ho : w'.ownsRow (db + 1) 137 1 (.slice (some ⟨b, 0, none⟩) (gs.length + 1) c') (gs.length + 1) (gs.flatMap mapC ++ mapC w.heap.size))
    (hg : ((w.alloc (.map #[] 0)).alloc (.cells #[.map (some w.heap.size)] 137)).grownBy w' (Value.slice bp gs.length bc).ownBlock) :
    DivB w0 (w'.setCell ⟨db, 1, none⟩ (.slice (some ⟨b, 0, none⟩) (gs.length + 1) c')) cb db (some ⟨b, 0, none⟩) c' (gs ++ [w.heap.size]) := by
  rw [show gs.length + 1 = (gs ++ [w.heap.size]).length by simp]
  have hE : Ext w ((w.alloc (.map #[] 0)).alloc (.cells #[.map (some w.heap.size)] 137)) := ((Ext.refl _).alloc _).alloc _
  have hO := own_ext hE h.row
  have hN : OwnK manyI ((w.alloc (.map #[] 0)).alloc (.cells #[.map (some w.heap.size)] 137)) w.heap.size 0 (fun _ => none) := (OwnK.made w).ext ((Ext.refl _).alloc _)
  generalize (w.alloc (.map #[] 0)).alloc (.cells #[.map (some w.heap.size)] 137) = W2 at *
  have hgs := grown_set w' ⟨db, 1, none⟩ (.slice (some ⟨b, 0, none⟩) (gs ++ [w.heap.size]).length c')
  have hB : Blk w' db 88 _ := (hg.block db (h.blk.ext hE).lt fun e => own_no hO (h.blk.ext hE) (by decide) e.symm).trans (h.blk.ext hE)
  have hdl := h.blk.lt
  refine ⟨?_, h.low, ?_, ?_, ?_, fun g hg' => ?_⟩
  · exact (((h.ext.trans hE).app hO (by have := h.low; omega) hg)).setCell (p := ⟨db, 1, none⟩) h.low _
  · exact (hB.set_ 1 (.slice (some ⟨b, 0, none⟩) (gs ++ [w.heap.size]).length c')).cast (by simp)
  · have ho2 := ho.kept hgs (.inr (own_no ho hB (by decide)))
    rw [List.flatMap_append, show (gs ++ [w.heap.size]).length = gs.length + 1 by simp]
    rw [show (gs ++ [w.heap.size]).length = gs.length + 1 by simp] at ho2
    exact ho2
  · refine List.nodup_append.2 ⟨h.nodup, by simp, fun a ha b hb e => ?_⟩
    rw [List.mem_singleton] at hb
    have := (h.far a ha).2.lt
    omega
  · rcases List.mem_append.1 hg' with h1 | h1
    · obtain ⟨h2, h3⟩ := h.far g h1
      exact ⟨h2, ((h3.ext hE).grown hg (own_map_ne (h3.ext hE) hO)).grown hgs (by simp; omega)⟩
    · rw [List.mem_singleton.1 h1]
      exact ⟨hdl, (hN.grown hg (own_map_ne hN hO)).grown hgs (by simp; omega)⟩
theorem DivB.done {w0 w : World} {cb db : Nat} {bp : Option Addr} {bc : Nat} {gs : List Nat} (h : DivB w0 w cb db bp bc gs) {P : List PartV} {C : List (List Int)} (hl : gs.length = C.length) (hn : gs.length ≤ 1000) : DivM w0 w cb db bp bc gs P C 0 := by
  obtain ⟨p, c, e, hS⟩ := slc_of_own mapC_len h.row (by decide) (by omega)
  cases e
  refine ⟨h.ext, h.low, h.blk, hS, hl, h.nodup, fun g hg => ?_, fun i g hg => ?_⟩
  · obtain ⟨h1, h2⟩ := h.far g hg
    refine ⟨by have := h.low; omega, by omega, fun a ha e => ?_⟩
    obtain ⟨_, ⟨h3, -⟩ | ⟨b, off, e2, -, -⟩⟩ := slcC hS
    · rw [h3] at ha; cases ha
    · rw [e2] at ha
      cases ha
      have hon := own_map_ne h2 h.row
      refine hon ?_
      rw [← e, e2]
      rfl
  · exact ⟨_, (h.far g (List.mem_of_getElem? hg)).2.le (Nat.zero_le _), fun N s _ h => by cases h⟩
section
variable {w : World} {vp pp : Option Addr} {vc pc : Nat} {V : List VoiceV} {P : List PartV}
/-- A divider is made. -/
def DivR (w : World) (P : List PartV) (pp : Option Addr) (pc : Nat) (C : List (List Int)) (S : List ByteArray) (e : Ending) (w' : World) : Prop :=
  ∃ (w0 : World) (cb db : Nat) (sp : Option Addr) (sc : Nat) (cp : Option Addr) (cc : Nat) (bp : Option Addr) (bc : Nat) (gs : List Nat),
    e = .returned (.tuple #[.pointer (some ⟨db, 0, none⟩), .int .i64 0]) ∧ Ext w w0 ∧ ChoirM w0 cb P pp pc C sp sc cp cc ∧ Slc 1 strC w0 sp C.length sc S ∧ DivM w0 w' cb db bp bc gs P C 0
set_option maxRecDepth 100000 in
set_option maxHeartbeats 3200000 in
theorem dividerOf_good (h : VpM w vp vc V pp pc P) (t : Int) (hz : errL V P t = 0) (hl1 : (singersL V t).length ≤ 24) (hl2 : P.length ≤ 4) :
    Calls Tryz.prog 28 #[.slice vp V.length vc, .slice pp P.length pc, .int .i64 t] w (DivR w P pp pc (comL V t P) (singersL V t)) := by
  obtain ⟨z1, z2, z3⟩ := errL_zero.1 hz
  obtain ⟨hP, hN⟩ := parts_need z2
  have hb0 : bothF V P = 0 := by unfold bothF; rw [if_pos z1, z2]
  have hbo : Calls Tryz.prog 57 #[.slice vp V.length vc, .slice pp P.length pc] w fun e w' => e = .returned (.int .i64 (bothF V P)) ∧ Ext w w' := bothFault_any h
  have hmo := mom_call t
  have hch := fun u (hu : Ext w u) => choirOf_own (h.more hu) t hP hN
  rw [hb0] at hbo
  rw [z3] at hmo
  have hCS := comL_len V t P
  generalize comL V t P = C at *
  generalize singersL V t = S at *
  rw [← hCS] at hch hl1
  have hmm := @run_makeMap Tryz.prog
  replace hmo := Lib.hid hmo; replace hbo := Lib.hid hbo; replace hch := Lib.hid hch; replace hN := Lib.hid hN; replace hCS := Lib.hid hCS; clear h z1 z2 z3 hb0 hz
  go_enter Tryz.func28, Tryz.ntmps28
  go_upto_region 8 with (first
    | (go_at_call 57; (with_reducible refine Calls.mono hbo.out ?_); rintro e w1 ⟨rfl, hb1⟩)
    | (go_at_call 58; (with_reducible refine Calls.mono (hmo.out _ _ _ _ (by exact Blk.new' rfl)) ?_); rintro e w2 ⟨rfl, hb2⟩; simp only [if_true]; have hE2 := (hb1.alloc _).trans hb2)
    | (go_at_call 59; (with_reducible refine Calls.mono (hch.out _ hE2) ?_); rintro e w3 ⟨cb, sp, sc, cp, cc, rfl, hC, hSn, hb3⟩; have hE3 := hE2.trans hb3; replace hC := Lib.hid hC))
  have hB1 : Blk (w3.alloc (.cells #[.pointer (some ⟨cb, 0, none⟩), .slice none 0 0] 88)) w3.heap.size 88 #[.pointer (some ⟨cb, 0, none⟩), .slice none 0 0] := Blk.new' rfl
  have hE1 : Ext w3 (w3.alloc (.cells #[.pointer (some ⟨cb, 0, none⟩), .slice none 0 0] 88)) := (Ext.refl _).alloc _
  have hC1 := hC.out.ext hE1
  obtain ⟨z1, -⟩ := hC1.blk.walk
  obtain ⟨z2, -⟩ := hB1.walk
  have hlo : w3.heap.size ≤ w3.heap.size := Nat.le_refl _
  have hnC := hC.out.nC
  generalize w3.alloc (.cells #[.pointer (some ⟨cb, 0, none⟩), .slice none 0 0] 88) = W1 at *
  generalize hdb : w3.heap.size = db at *
  replace hdb := Lib.hid hdb; replace hC1 := Lib.hid hC1; replace hB1 := Lib.hid hB1; replace hSn := Lib.hid hSn; clear hbo hmo hch hb1 hb2 hb3 hE2
  have hn1 : ¬ (24 : Int) < C.length := by omega
  have hn2 : ¬ (4 : Int) < P.length := by omega
  go_wp2
  go_loopw [51] (fun v51 wr => ∃ (bp : Option Addr) (bc : Nat) (gs : List Nat), v51 = .int .i64 gs.length ∧ gs.length ≤ C.length ∧ DivB w3 wr cb db bp bc gs) (fun v51 _ => C.length - (intOf v51).toNat)
  case atStart => exact ⟨none, 0, [], rfl, Nat.zero_le _, hE1, by rw [hdb.out]; exact Nat.le_refl _, hB1.out, World.ownsRow_nil _ _ _ _, List.nodup_nil, fun g hg => by cases hg⟩
  case round =>
    clear z1 z2
    obtain ⟨bp, bc, gs, rfl, hgs, hD⟩ := hrel
    by_cases hlt : gs.length < C.length
    · obtain ⟨z1, -⟩ := hD.blk.walk
      have hdl := hD.blk.lt
      have hrow := own_ext (((Ext.refl wr).alloc (.map #[] 0)).alloc (.cells #[.map (some wr.heap.size)] 137)) hD.row
      have hBx := (hD.blk.ext (((Ext.refl wr).alloc (.map #[] 0)).alloc (.cells #[.map (some wr.heap.size)] 137)))
      have hst := fun w' b c' ho hg => hD.step (w' := w') (b := b) (c' := c') ho hg
      have hgI : (gs.length : Int) < C.length := by omega
      have hNb : Blk ((wr.alloc (.map #[] 0)).alloc (.cells #[.map (some wr.heap.size)] 137)) (wr.heap.size + 1) 137 (mapC wr.heap.size).toArray := by simpa [mapC] using Blk.new' (w := wr.alloc (.map #[] 0)) (t := 137) (cs := #[.map (some wr.heap.size)]) rfl
      replace hst := Lib.hid hst; replace hD := Lib.hid hD
      go_wp2_with (first
        | (at_builtin; go_loud (refine wp_appL _ (.tmp 57) (.tmp 59) 86 137 1 8 _ rfl rfl Tryz.underlying86 mapInfo rfl (by decide) (by decide) (db + 1) _ gs.length _ _ rfl hrow (wr.heap.size + 1) (mapC wr.heap.size) rfl rfl hNb (by simp [mapC, Value.oneCell']) (by omega) (by simp; omega) ?_; intro b6 c6 w6 hown6 hgrow6 hb6; have hD6 := hst.out _ _ _ hown6 hgrow6; have hB6 : Blk w6 db 88 #[.pointer (some ⟨cb, 0, none⟩), .slice bp gs.length bc] := (hgrow6.block db hBx.lt fun e => own_no hrow hBx (by decide) e.symm).trans hBx; obtain ⟨y1, y2⟩ := hB6.walk; have hdl6 := hB6.lt)))
      go_roundw
      case rel => exact ⟨_, _, gs ++ [wr.heap.size], by rw [List.length_append]; go_num, by rw [List.length_append, List.length_singleton]; omega, hD6⟩
      case measure => simp [intOf]; omega
    · have hDM : DivM w3 wr cb db bp bc gs P C 0 := hD.done (by omega) (by omega)
      replace hDM := Lib.hid hDM; replace hE3 := Lib.hid hE3; clear hD
      go_wp2
      go_ret2
      exact ⟨_, _, _, _, _, _, _, _, _, _, rfl, hE3.out, hC.out, hSn.out, hDM.out⟩
end
end Go.Proofs.YtdehmioobkneiaaGreatDoor
namespace Go.Proofs.YtdehmioobkneiaaGreatDoor
open Go Go.RowKit Go.Maps
theorem results_tmp4 {fn : Func} {t u v x : Tmp} (h : fn.results = #[.tmp t, .tmp u, .tmp v, .tmp x]) (tmps : Array Value) (P : Program) (w : World) :
    (results fn tmps).run P w = .ok (.tuple #[tmps.getD t undef, tmps.getD u undef, tmps.getD v undef, tmps.getD x undef]) w := by
  simp [results, h]
theorem comL_bound {V : List VoiceV} {P : List PartV} (hV : ∀ x ∈ V, x.Small) (hP : ∀ x ∈ P, x.Small) (t : Int) : ∀ r ∈ comL V t P, ∀ x ∈ r, -2000 ≤ x ∧ x ≤ 2000 := fun r hr x hx => by
  obtain ⟨s, -, rfl⟩ := List.mem_map.1 hr
  obtain ⟨q, hq, rfl⟩ := List.mem_map.1 hx
  obtain ⟨s1, ⟨s2, s3⟩, ⟨s4, s5⟩, s6, s7⟩ := hP q hq
  obtain ⟨⟨h1, h2⟩, h3, h4⟩ := rg_bounds hV t s
  unfold comF
  simp only
  omega
def nmpC (x : ByteArray × ByteArray) : List Value := [.string x.1, .string x.2]
theorem nmpC_len (x : ByteArray × ByteArray) : (nmpC x).length = 2 := rfl
theorem nmpInfo : (Tryz.prog.info? 39).map (fun i => (i.zero, i.size, i.bytes)) = some (some (.agg #[.string ⟨#[]⟩, .string ⟨#[]⟩]), 2, 32) := by kernel_rfl
theorem own_keeps {gs : List Nat} {a b : World} (h : Keeps gs a b) {base : Nat} {e : TypeId} {k n : Nat} {v : Value} {xs : List Value} (ho : a.ownsRow base e k v n xs) : b.ownsRow base e k v n xs :=
  ⟨ho.1, ho.2.imp id fun ⟨g, cap, cur, x1, x2, x3, x4⟩ => ⟨g, cap, cur, x1, x2, h.2.1 _ _ _ x3, x4⟩⟩
/-- The pairs of singers and parts, from a singer on. -/
def divN (P : List PartV) (S : List ByteArray) (C : List (List Int)) (N : List Nat) : List (ByteArray × ByteArray) := List.zipWith (fun s p => (s, (P.getD p default).name)) S (divG P C N)
theorem divN_cons {P : List PartV} {S : List ByteArray} {C : List (List Int)} (hl : C.length = S.length) {i : Nat} {s : ByteArray} (hs : S[i]? = some s) (N : List Nat) {k : Nat} (hk : pickP P (C.drop (i + 1)) (C.getD i []) N = k) {x : PartV} (hx : P[k]? = some x) :
    divN P (S.drop i) (C.drop i) N = (s, x.name) :: divN P (S.drop (i + 1)) (C.drop (i + 1)) (incN N k) := by
  obtain ⟨hi, rfl⟩ := List.getElem?_eq_some_iff.1 hs
  unfold divN
  rw [drop_at (show i < C.length by omega), List.drop_eq_getElem_cons hi]
  simp only [divG, List.zipWith_cons_cons]
  rw [hk]
  simp only [List.getD_eq_getElem?_getD, hx, Option.getD_some]
section
variable {w0 w w' : World} {cb db : Nat} {bp : Option Addr} {bc : Nat} {gs : List Nat} {P : List PartV} {C : List (List Int)} {n : Nat}
theorem DivM.below (h : DivM w0 w cb db bp bc gs P C n) : db < w.heap.size ∧ (∀ a, bp = some a → a.block < w.heap.size) ∧ ∀ g ∈ gs, g < w.heap.size := by
  refine ⟨h.blk.lt, fun a ha => ?_, fun g hg => ?_⟩
  · obtain ⟨-, ⟨e, -⟩ | ⟨b, off, e, hb, -⟩⟩ := slcC h.row
    · rw [e] at ha; cases ha
    · rw [e] at ha; cases ha; exact hb
  · obtain ⟨i, hi⟩ := List.getElem?_of_mem hg
    obtain ⟨f, ho, -⟩ := h.maps i g hi
    exact ho.lt
theorem DivM.aside (h : DivM w0 w cb db bp bc gs P C n) {row : Option Nat} (hg : w.grownBy w' row) {B : Nat} (hb : db < B ∧ (∀ a, bp = some a → a.block < B) ∧ ∀ g ∈ gs, g < B) (hr : ∀ j, row = some j → B ≤ j) : DivM w0 w' cb db bp bc gs P C n := by
  have hlo := h.low
  refine ⟨h.ext.grown hg (fun j e => by have := hr j e; omega), h.low, (hg.block db h.blk.lt fun e => by have := hr db e.symm; omega).trans h.blk, ?_, h.len, h.nodup, h.far, fun i g hi => ?_⟩
  · cases row with
    | none => exact h.row.ext ⟨hg.os, hg.tape, hg.output, hg.size, fun k hk => hg.block k hk (by simp)⟩
    | some j => exact slc_grown h.row hg fun a ha e => by have := hb.2.1 a ha; have := hr j rfl; omega
  · obtain ⟨f, ho, hf⟩ := h.maps i g hi
    exact ⟨f, ho.grown hg fun e => by have := hr g e.symm; have := hb.2.2 g (List.mem_of_getElem? hi); omega, hf⟩
end
theorem tF24 {k : Nat} (h : k ≤ 24) : 0 + tF k ≤ 100000000000000000 := by
  have h1 := tF_le k
  have h2 : 4 ^ k ≤ 4 ^ 24 := Nat.pow_le_pow_right (by decide) h
  omega
section
variable {w0 w : World} {cb : Nat} {P : List PartV} {pp : Option Addr} {pc : Nat} {C : List (List Int)} {sp : Option Addr} {sc : Nat} {cp : Option Addr} {cc : Nat} {db : Nat} {bp : Option Addr} {bc : Nat} {gs : List Nat}
/-- What is greatest from a singer on. -/
theorem div_from (hC : ChoirM w0 cb P pp pc C sp sc cp cc) (hP4 : P.length ≤ 4) (hCl : C.length ≤ 24) (hCb : ∀ r ∈ C, ∀ x ∈ r, -2000 ≤ x ∧ x ≤ 2000) (hD : DivM w0 w cb db bp bc gs P C 0) {i a b c d : Nat} (hi : i ≤ C.length) (hN : NOk i [a, b, c, d]) :
    Calls Tryz.prog 29 #[.pointer (some ⟨db, 0, none⟩), .int .i64 i, .agg #[.int .i64 a, .int .i64 b, .int .i64 c, .int .i64 d]] w fun e w' => e = .returned (.int .i64 (fromF P (C.drop i) [a, b, c, d])) ∧ DivM w0 w' cb db bp bc gs P C 0 ∧ Keeps gs w w' :=
  (from_any hC hP4 hCl hCb db bp bc gs (C.length - i) i [a, b, c, d] 0 w (by omega) hN (tF24 (by omega)) hD).mono fun _ _ h => ⟨h.1, h.2.1.any 0, h.2.2⟩
theorem div_with (hC : ChoirM w0 cb P pp pc C sp sc cp cc) (hP4 : P.length ≤ 4) (hCl : C.length ≤ 24) (hCb : ∀ r ∈ C, ∀ x ∈ r, -2000 ≤ x ∧ x ≤ 2000) (hD : DivM w0 w cb db bp bc gs P C 0) {i p a b c d : Nat} (hi : i < C.length) (hp : p < P.length) (hN : NOk i [a, b, c, d]) :
    Calls Tryz.prog 30 #[.pointer (some ⟨db, 0, none⟩), .int .i64 i, .agg #[.int .i64 a, .int .i64 b, .int .i64 c, .int .i64 d], .int .i64 p] w fun e w' => e = .returned (.int .i64 (withV P (fromF P (C.drop (i + 1))) (C.getD i []) [a, b, c, d] p)) ∧ DivM w0 w' cb db bp bc gs P C 0 ∧ Keeps gs w w' :=
  (with_any hC hP4 hCl hCb db bp bc gs (C.length - (i + 1)) i (by omega) (fun N' m u' hN' hm hu' => by
      have := from_any hC hP4 hCl hCb db bp bc gs (C.length - (i + 1)) (i + 1) N' m u' (by omega) hN' hm hu'
      rw [show ((i + 1 : Nat) : Int) = (i : Int) + 1 by omega] at this
      exact this) [a, b, c, d] 0 p w hN hp (tF24 (by omega)) hD).mono fun _ _ h => ⟨h.1, h.2.1.any 0, h.2.2⟩
end
section
variable {w : World} {vp pp : Option Addr} {vc pc : Nat} {V : List VoiceV} {P : List PartV}
/-- What is wrong with a division. -/
def errV (V : List VoiceV) (P : List PartV) (t : Int) : Int := if errL V P t = 0 then (if (singersL V t).length ≤ 24 ∧ P.length ≤ 4 then 0 else 2) else errL V P t
theorem errV_zero {t : Int} (h : errV V P t = 0) : errL V P t = 0 ∧ (singersL V t).length ≤ 24 ∧ P.length ≤ 4 := by
  unfold errV at h
  by_cases h1 : errL V P t = 0
  · rw [if_pos h1] at h
    by_cases h2 : (singersL V t).length ≤ 24 ∧ P.length ≤ 4
    · exact ⟨h1, h2⟩
    · rw [if_neg h2] at h; cases h
  · rw [if_neg h1] at h
    exact absurd h h1
set_option maxRecDepth 100000 in
set_option maxHeartbeats 1600000 in
theorem divide_none (h : VpM w vp vc V pp pc P) (t : Int) (hz : errV V P t = 0) (hf : fromF P (comL V t P) [0, 0, 0, 0] = -1) :
    Calls Tryz.prog 8 #[.slice vp V.length vc, .slice pp P.length pc, .int .i64 t] w fun e w' => e = .returned (.tuple #[.slice none 0 0, .int .i64 0, .bool false, .int .i64 0]) ∧ Ext w w' := by
  obtain ⟨h1, h2, h3⟩ := errV_zero hz
  have hd := dividerOf_good h t h1 h2 h3
  have hCb := comL_bound h.sV h.sP t
  rw [← comL_len V t P] at h2
  generalize comL V t P = C at *
  replace hd := Lib.hid hd; replace hCb := Lib.hid hCb; clear h h1 hz
  go_enter Tryz.func8, Tryz.ntmps8
  go_upto_region 4 with (go_at_call 28; (with_reducible refine Calls.mono hd.out ?_); rintro e w1 ⟨w0, cb, db, sp, sc, cp, cc, bp, bc, gs, rfl, hE0, hC, hSn, hD⟩)
  have hfr := div_from (i := 0) (a := 0) (b := 0) (c := 0) (d := 0) hC h3 h2 hCb.out hD (Nat.zero_le _) ⟨rfl, by simp⟩
  rw [show ((0 : Nat) : Int) = 0 from rfl, List.drop_zero, hf] at hfr
  replace hfr := Lib.hid hfr; clear hSn hC hD
  go_wp2_with (go_at_call 29; (with_reducible refine Calls.mono hfr.out ?_); rintro e w2 ⟨rfl, hD2, hK2⟩)
  (try simp only [Exit.inBlock, Exit.then]); refine bodyPost_ret (results_tmp4 rfl _ _ _) rfl ?_
  exact ⟨rfl, hE0.trans hD2.ext⟩
end
end Go.Proofs.YtdehmioobkneiaaGreatDoor
