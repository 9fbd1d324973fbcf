/- All best divisions, by the document. Conditions: right voices and parts; sizes. -/
import Derived.Test.YtcdjkgfdhngmeaaGreatDoorSdDvT
import Derived.Laws.EntriesVeiled
set_option linter.unusedSimpArgs false
set_option linter.unusedVariables false
namespace Go.Proofs.YtcdjkgfdhngmeaaGreatDoor
open Go Go.RowKit

theorem compl_len {P : List PartV} : ∀ (C : List (List Int)) (N : List Nat), ∀ g ∈ complL P C N, g.length = C.length
  | [], N, g, h => by
    unfold complL at h
    split at h
    · rw [List.mem_singleton.1 h]; rfl
    · cases h
  | r :: C, N, g, h => by
    obtain ⟨p, g', rfl, -, -, h'⟩ := compl_mem.1 h
    rw [List.length_cons, List.length_cons, compl_len C _ g' h']
set_option maxRecDepth 100000 in
set_option maxHeartbeats 6400000 in
theorem divisions_any {w : World} {vp pp : Option Addr} {vc pc : Nat} {V : List VoiceV} {P : List PartV} (h : VpM w vp vc V pp pc P) (t : Int) (hP4 : P.length ≤ 4) (hC12 : (singersL V t).length ≤ 12) (hmo : ∀ x ∈ P, 0 ≤ x.most) :
    Calls Tryz.prog 38 #[.slice vp V.length vc, .slice pp P.length pc, .int .i64 t] w fun e w' =>
      ∃ (q : Option Addr) (d : Nat), e = .returned (.tuple #[.slice q (bestL P (comL V t P) [0, 0, 0, 0]).length d, .int .i64 (fromF P (comL V t P) [0, 0, 0, 0])]) ∧ RowsR natC w' q (bestL P (comL V t P) [0, 0, 0, 0]).length d (bestL P (comL V t P) [0, 0, 0, 0]) ∧ Ext w w' := by
  have hCS := comL_len V t P
  have hfold : foldG P (comL V t P) 0 [] ([], -1) = (bestL P (comL V t P) [0, 0, 0, 0], fromF P (comL V t P) [0, 0, 0, 0]) := by
    unfold foldG
    rw [List.drop_zero]
    simp only [List.nil_append]
    exact search_is (by simpa using hP4) fun p hp => by
      have e : ([0, 0, 0, 0] : List Nat).getD p 0 = 0 := by
        rw [List.getD_eq_getElem?_getD]
        rcases p with _ | _ | _ | _ | p <;> simp
      rw [e]
      obtain ⟨x, hx⟩ := getD_some (rfl : P.length = P.length) hp
      unfold mostP
      rw [List.getD_eq_getElem?_getD, hx]
      exact hmo x (List.mem_of_getElem? hx)
  have hlen := foldG_len hP4 (comL V t P) 0 [] ([], -1)
  rw [hfold] at hlen
  simp only [List.length_nil, Nat.sub_zero, Nat.zero_add] at hlen
  have hlens : ∀ g ∈ bestL P (comL V t P) [0, 0, 0, 0], g.length = (comL V t P).length := fun g hg => by
    unfold bestL at hg
    exact compl_len _ _ g (List.mem_filter.1 hg).1
  generalize bestL P (comL V t P) [0, 0, 0, 0] = L at *
  generalize fromF P (comL V t P) [0, 0, 0, 0] = best at *
  have hso := fun u (hu : Ext w u) => singersOf_any vp V.length vc V t u (h.voi.ext hu).1 h.sV h.nV
  replace hso := Lib.hid hso
  have hmf : ∀ (fn : Fn) (first cap : Array Value) (w : World), (Instr.makeFunc fn first cap).run Tryz.prog w = .ok (.func fn first cap) w := fun _ _ _ _ => rfl
  go_enter Tryz.func38, Tryz.ntmps38
  go_upto_region 1 with fail
  have hl : Blk (((w.alloc (.cells #[.slice vp V.length vc] 26)).alloc (.cells #[.slice pp P.length pc] 28)).alloc (.cells #[.int .i64 t] 3)) w.heap.size 26 #[.slice vp V.length vc] := ((Blk.new' rfl).alloc _).alloc _
  have hp : Blk (((w.alloc (.cells #[.slice vp V.length vc] 26)).alloc (.cells #[.slice pp P.length pc] 28)).alloc (.cells #[.int .i64 t] 3)) (w.heap.size + 1) 28 #[.slice pp P.length pc] := (Blk.new' (by simp)).alloc _
  have ht : Blk (((w.alloc (.cells #[.slice vp V.length vc] 26)).alloc (.cells #[.slice pp P.length pc] 28)).alloc (.cells #[.int .i64 t] 3)) (w.heap.size + 1 + 1) 3 #[.int .i64 t] := Blk.new' (by simp)
  have hE1 : Ext w (((w.alloc (.cells #[.slice vp V.length vc] 26)).alloc (.cells #[.slice pp P.length pc] 28)).alloc (.cells #[.int .i64 t] 3)) := (((Ext.refl w).alloc _).alloc _).alloc _
  generalize ((w.alloc (.cells #[.slice vp V.length vc] 26)).alloc (.cells #[.slice pp P.length pc] 28)).alloc (.cells #[.int .i64 t] 3) = W1 at *
  generalize w.heap.size + 1 + 1 = bt at *
  generalize w.heap.size + 1 = bp at *
  generalize w.heap.size = bl at *
  obtain ⟨y1, -⟩ := hl.walk
  obtain ⟨y2, -⟩ := ht.walk
  have y1l := hl.lt
  have y2l := ht.lt
  go_upto_region 6 with (go_at_call 33; (with_reducible refine Calls.mono (hso.out _ hE1) ?_); rintro e w2 ⟨sp, sc, rfl, ho2, hb2⟩)
  have hE12 : Ext w w2 := hE1.trans hb2
  have hl2 := hl.ext hb2
  have hp2 := hp.ext hb2
  have ht2 := ht.ext hb2
  have hz2 : bt < w2.heap.size := ht2.lt
  have hS2 : ∃ sp' sc', Value.slice sp (singersL V t).length sc = .slice sp' (singersL V t).length sc' ∧ Slc 1 strC w2 sp' (singersL V t).length sc' (singersL V t) := slc_of_own (enc := strC) (fun _ => rfl) ho2 (by decide) (by omega)
  obtain ⟨sp', sc', e9, hSn⟩ := hS2
  cases e9
  obtain ⟨W3, hW3⟩ : ∃ W, W = ((((w2.alloc (.cells #[.slice sp (singersL V t).length sc] 39)).alloc (.cells #[.slice none 0 0] 81)).alloc (.cells #[.int .i64 (-1)] 3)).alloc (.cells #[(.func (.func 56) #[] #[.pointer (some ⟨w2.heap.size, 0, none⟩), .pointer (some ⟨bl, 0, none⟩), .pointer (some ⟨bt, 0, none⟩), .pointer (some ⟨bp, 0, none⟩), .pointer (some ⟨w2.heap.size + 1 + 1 + 1, 0, none⟩), .pointer (some ⟨w2.heap.size + 1 + 1, 0, none⟩), .pointer (some ⟨w2.heap.size + 1, 0, none⟩)])] 107)) := ⟨_, rfl⟩
  have hE3 : Ext w2 W3 := hW3 ▸ ((((Ext.refl _).alloc _).alloc _).alloc _).alloc _
  have hz3 : W3.heap.size = w2.heap.size + 1 + 1 + 1 + 1 := by rw [hW3]; simp
  have hE4 : Ext W3 (W3.alloc (.cells #[] 3)) := (Ext.refl _).alloc _
  have hT : TryD w2 (w2.heap.size + 1 + 1 + 1 + 1) w2.heap.size (w2.heap.size + 1 + 1 + 1) (w2.heap.size + 1 + 1) (w2.heap.size + 1) (.slice sp (singersL V t).length sc) (.func (.func 56) #[] #[.pointer (some ⟨w2.heap.size, 0, none⟩), .pointer (some ⟨bl, 0, none⟩), .pointer (some ⟨bt, 0, none⟩), .pointer (some ⟨bp, 0, none⟩), .pointer (some ⟨w2.heap.size + 1 + 1 + 1, 0, none⟩), .pointer (some ⟨w2.heap.size + 1 + 1, 0, none⟩), .pointer (some ⟨w2.heap.size + 1, 0, none⟩)]) ([], -1) (W3.alloc (.cells #[] 3)) := by
    refine ⟨hE3.trans hE4, hW3 ▸ ((((Blk.new' rfl).alloc _).alloc _).alloc _).alloc _, hW3 ▸ (Blk.new' (by simp)).alloc _, hW3 ▸ ((Blk.new' (by simp)).alloc _).alloc _, ⟨.slice none 0 0, hW3 ▸ (((Blk.new' (by simp)).alloc _).alloc _).alloc _, OwnRows.nil⟩, ⟨by omega, by omega, by omega⟩, ⟨by omega, by omega, by omega, by omega⟩, by rw [World.size_alloc]; omega⟩
  have hgo : (W3.alloc (.cells #[] 3)).ownsRow (w2.heap.size + 1 + 1 + 1 + 1) 3 1 (.slice (some ⟨W3.heap.size, 0, none⟩) ([] : List Nat).length 0) ([] : List Nat).length (([] : List Nat).flatMap natC) :=
    ⟨rfl, .inr ⟨W3.heap.size, 0, #[], rfl, by omega, heap_alloc_new W3 _, Nat.le_refl _, by unfold maxLen; omega, rfl, rfl⟩⟩
  have hVP := (h.more (hE12.trans (Ext.refl w2)))
  have h4 : 4 ^ (comL V t P).length ≤ 4 ^ 12 := Nat.pow_le_pow_right (by decide) (by omega)
  have h412 : 4 ^ 12 = 16777216 := by decide
  have hcall := try_any hVP hP4 hl2 ht2 hp2 hSn hC12 (by omega : bt ≠ w2.heap.size + 1 + 1) (comL V t P).length 0 [] ([], -1) (W3.alloc (.cells #[] 3)) (some ⟨W3.heap.size, 0, none⟩) 0 (by omega) rfl (fun x hx => by cases hx) ⟨by rw [sumG_nil]; omega, by rw [sumG_nil]; omega⟩ (by simp only [List.length_nil]; omega) hT hgo
  rw [hfold, sumG_nil] at hcall
  simp only [List.length_nil] at hcall
  rw [hz3] at hcall
  change Code.wp _ _ _ _ ((((w2.alloc (.cells #[.slice sp (singersL V t).length sc] 39)).alloc (.cells #[.slice none 0 0] 81)).alloc (.cells #[.int .i64 (-1)] 3)).alloc (.cells #[(.func (.func 56) #[] #[.pointer (some ⟨w2.heap.size, 0, none⟩), .pointer (some ⟨bl, 0, none⟩), .pointer (some ⟨bt, 0, none⟩), .pointer (some ⟨bp, 0, none⟩), .pointer (some ⟨w2.heap.size + 1 + 1 + 1, 0, none⟩), .pointer (some ⟨w2.heap.size + 1 + 1, 0, none⟩), .pointer (some ⟨w2.heap.size + 1, 0, none⟩)])] 107))
  rw [← hW3]
  have hfn := hT.fn
  have hfn3 : Blk W3 (w2.heap.size + 1 + 1 + 1) 107 #[(.func (.func 56) #[] #[.pointer (some ⟨w2.heap.size, 0, none⟩), .pointer (some ⟨bl, 0, none⟩), .pointer (some ⟨bt, 0, none⟩), .pointer (some ⟨bp, 0, none⟩), .pointer (some ⟨w2.heap.size + 1 + 1 + 1, 0, none⟩), .pointer (some ⟨w2.heap.size + 1 + 1, 0, none⟩), .pointer (some ⟨w2.heap.size + 1, 0, none⟩)])] := hW3 ▸ Blk.new' (by simp)
  clear hW3 hfn hT hgo hVP hso hfold y1 y2 y1l y2l hmo
  obtain ⟨y1, y2⟩ := hfn3.walk
  have y3 := hfn3.lt
  replace hcall := Lib.hid hcall
  replace hlens := Lib.hid hlens
  go_upto_region 7 with (go_at_call 56; go_loud (with_reducible refine Calls.mono hcall.out ?_); rintro e w5 ⟨rfl, -, hT5⟩)
  obtain ⟨v, hbb, hOwn⟩ := hT5.best
  have hbm := hT5.most
  have hE5 := hE12.trans hT5.ext
  simp only at hOwn hbm
  clear y1 y2 y3
  obtain ⟨z1, -⟩ := hbb.walk
  obtain ⟨z2, -⟩ := hbm.walk
  have z1l := hbb.lt
  have z2l := hbm.lt
  obtain ⟨q, d, rfl, hR⟩ := OwnRows.rows hOwn (fun _ => rfl) (by omega) (fun r hr => by rw [hlens.out r hr]; omega)
  replace hR := Lib.hid hR
  replace hT5 := Lib.hid hT5
  clear hOwn
  refine wp_region_facts [] [([], false, false), ([], false, false), ([0], false, false), ([1], false, false)] (Ext) Ext (fun _ => True) (by kernel_rfl) (by kernel_rfl) Ext.refl (fun _ _ _ => Ext.trans) (fun _ _ h => h) (fun _ _ h => h.size) (fun _ _ h _ => h) trivial ?_
  dsimp only [List.length_cons, List.length_nil, List.drop_succ_cons, List.drop_zero, List.drop_nil]
  refine fac_quiet 0 rfl rfl rfl (fun _ _ h _ => h) rfl rfl ?_
  apply Exists.intro
  refine ⟨fun sv w' hw' hfa => ?_, ?_⟩
  · have hk9 := (Ext.refl w5).drew.trans hw'; obtain ⟨y1, -⟩ := (hbb.ext hk9).walk; obtain ⟨y2, -⟩ := (hbm.ext hk9).walk
    refine ⟨rfl, ?_⟩
    simp only [putsL]
    change quietTo _ _ _ _ (Sem.run _ (execOp (Act.eval _) _) _)
    try simp only [Act.put, List.setIfInBounds_toArray, List.set_cons_succ, List.set_cons_zero]
    simp [go_sem, quietTo, Ext.refl, ↓IntWalk.iteOmega, y1]
    all_goals try simp (disch := omega) only [IntWalk.i64_in]
    all_goals first
      | rfl
  refine fac_quiet 1 rfl rfl rfl (fun _ _ h _ => h) rfl rfl ?_
  apply Exists.intro
  refine ⟨fun sv w' hw' hfa => ?_, ?_⟩
  · have hk9 := (Ext.refl w5).drew.trans hw'; obtain ⟨y1, -⟩ := (hbb.ext hk9).walk; obtain ⟨y2, -⟩ := (hbm.ext hk9).walk
    refine ⟨rfl, ?_⟩
    simp only [putsL]
    change quietTo _ _ _ _ (Sem.run _ (execOp (Act.eval _) _) _)
    try simp only [Act.put, List.setIfInBounds_toArray, List.set_cons_succ, List.set_cons_zero]
    simp [go_sem, quietTo, Ext.refl, ↓IntWalk.iteOmega, y2]
    all_goals try simp (disch := omega) only [IntWalk.i64_in]
    all_goals first
      | rfl
  refine fac_quiet 2 rfl rfl rfl (fun _ _ h _ => h) rfl rfl ?_
  apply Exists.intro
  refine ⟨fun sv w' hw' hfa => ?_, ?_⟩
  · obtain ⟨f0, -⟩ := hfa
    replace f0 : sv 0 = _ := f0
    try dsimp only at f0
    refine ⟨rfl, ?_⟩
    simp only [putsL]
    change quietTo _ _ _ _ (Sem.run _ (execOp (Act.eval (Act.put _ (some 19) (sv 0))) _) _)
    try simp only [Act.put, List.setIfInBounds_toArray, List.set_cons_succ, List.set_cons_zero]
    simp [go_sem, quietTo, Ext.refl, f0]
    all_goals first
      | rfl
  refine fac_quiet 3 rfl rfl rfl (fun _ _ h _ => h) rfl rfl ?_
  apply Exists.intro
  refine ⟨fun sv w' hw' hfa => ?_, ?_⟩
  · obtain ⟨f1, -⟩ := hfa
    replace f1 : sv 1 = _ := f1
    try dsimp only at f1
    refine ⟨rfl, ?_⟩
    simp only [putsL]
    change quietTo _ _ _ _ (Sem.run _ (execOp (Act.eval (Act.put _ (some 20) (sv 1))) _) _)
    try simp only [Act.put, List.setIfInBounds_toArray, List.set_cons_succ, List.set_cons_zero]
    simp [go_sem, quietTo, Ext.refl, f1]
    all_goals first
      | rfl
  refine fac_nil fun xq wrq herq hfrq hcrq holdq hapq => ?_
  obtain ⟨f0, f1, f2, f3, -⟩ := hfrq
  replace f0 : xq 0 = _ := f0
  try dsimp only at f0
  replace f1 : xq 1 = _ := f1
  try dsimp only at f1
  replace f2 : xq 2 = _ := f2
  try dsimp only at f2
  replace f3 : xq 3 = _ := f3
  try dsimp only at f3
  change wpList _ _ _ _ (Act.put (Act.put (Act.put (Act.put _ (some 19) (xq 0)) (some 20) (xq 1)) (some 6) (xq 2)) (some 7) (xq 3)) _
  simp only [putsL, Nat.reduceAdd, List.drop_succ_cons, List.drop_zero, List.drop_nil, Act.put, List.setIfInBounds_toArray, List.set_cons_succ, List.set_cons_zero]
  try simp only [f0, f1, f2, f3]
  clear f0 f1 f2 f3
  clear holdq hapq
  go_wp2
  go_ret2
  exact ⟨q, d, rfl, hR.out.ext ((Ext.refl _).drew.trans herq), hE5.trans ((Ext.refl _).drew.trans herq)⟩
end Go.Proofs.YtcdjkgfdhngmeaaGreatDoor
