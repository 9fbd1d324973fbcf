/- The document's search for buses, walked. Conditions: its variables and the groups lie in memory. -/
import Derived.Test.YtlmbpgjdepmlcaaDoorBusR
namespace Go.Proofs.YtlmbpgjdepmlcaaDoor
open Go Go.RowKit

def stepR (seat n : Int) (ns : List Int) (of : List Nat) (full : List Int) (st : List Nat × Nat) (k : Nat) : List Nat × Nat :=
  if (fullF full k).getD k 0 + n ≤ seat then rfF seat ns (of ++ [k]) ((fullF full k).set k ((fullF full k).getD k 0 + n)) st else st
theorem rfF_cons (seat n : Int) (ns : List Int) (of : List Nat) (full : List Int) (st : List Nat × Nat) : rfF seat (n :: ns) of full st = (List.range (full.length + 1)).foldl (stepR seat n ns of full) st := rfl
theorem foldR_succ (seat n : Int) (ns : List Int) (of : List Nat) (full : List Int) (st : List Nat × Nat) (k : Nat) : (List.range (k + 1)).foldl (stepR seat n ns of full) st = stepR seat n ns of full ((List.range k).foldl (stepR seat n ns of full) st) k := by
  rw [List.range_succ, List.foldl_append]
  rfl
theorem full_len {full : List Int} {k : Nat} (hk : k ≤ full.length) : k < (fullF full k).length := by
  unfold fullF
  split
  · rw [List.length_append, List.length_singleton]; omega
  · omega
theorem full_all {full : List Int} {k : Nat} (h : ∀ x ∈ full, 0 ≤ x ∧ x ≤ 1000) : ∀ x ∈ fullF full k, 0 ≤ x ∧ x ≤ 1000 := fun x hx => by
  unfold fullF at hx
  split at hx
  · rcases List.mem_append.1 hx with h1 | h1
    · exact h x h1
    · obtain rfl : x = 0 := by simpa using h1
      omega
  · exact h x hx
/-- What the search leaves. -/
def TryRes (z G F Bb Sx T : Nat) (gp : Option Addr) (gc : Nat) (L : List GrpV) (seat : Int) (w : World) (r : List Nat × Nat) (e : Ending) (w' : World) : Prop :=
  e = .returned (.tuple #[]) ∧ ExtP F Bb w w' ∧ ∃ pb cb, TryM z G F Bb Sx T gp gc L seat w' r.1 r.2 pb cb

set_option maxRecDepth 100000 in
set_option maxHeartbeats 6400000 in
theorem try_any (z G F Bb Sx T : Nat) (gp : Option Addr) (gc : Nat) (L : List GrpV) (seat : Int) (hL : L.length ≤ 12) (hm : ∀ x ∈ L, 1 ≤ x.many ∧ x.many ≤ 100) (hs : 0 ≤ seat ∧ seat ≤ 100) :
    ∀ (ns : List Int) (of : List Nat) (full : List Int) (w : World) (best : List Nat) (few : Nat) (pb : Option Addr) (cb : Nat) (po : Option Addr) (co : Nat) (pf : Option Addr) (cf : Nat), manyL (L.drop of.length) = ns → of.length ≤ L.length → full.length ≤ of.length → (∀ x ∈ full, 0 ≤ x ∧ x ≤ 1000) →
      TryM z G F Bb Sx T gp gc L seat w best few pb cb → Slc 1 natC w po of.length co of → (∀ a, po = some a → z ≤ a.block) → Slc 1 intC w pf full.length cf full → (∀ a, pf = some a → z ≤ a.block) → z ≤ w.heap.size →
      Calls Tryd.prog 49 #[.slice po of.length co, .slice pf full.length cf, .pointer (some ⟨G, 0, none⟩), .pointer (some ⟨F, 0, none⟩), .pointer (some ⟨Bb, 0, none⟩), .pointer (some ⟨Sx, 0, none⟩), .pointer (some ⟨T, 0, none⟩)] w (TryRes z G F Bb Sx T gp gc L seat w (rfF seat ns of full (best, few))) := by
  intro ns
  induction ns with
  | nil =>
    intro of full w best few pb cb po co pf cf hns hol hfl hfx hM hof hpo hfull hpf hzw
    have hk : of.length = L.length := by
      have h1 := congrArg List.length hns
      rw [manyL_len, List.length_drop, List.length_nil] at h1
      omega
    have hk2 : (of.length : Int) = (L.length : Int) := by omega
    clear hk
    obtain ⟨g1, -⟩ := hM.bG.walk
    obtain ⟨f1, f2⟩ := hM.bF.walk
    obtain ⟨b1, b2⟩ := hM.bB.walk
    have hne := hM.ne.2.1
    have hne2 : Bb ≠ F := fun e => hne e.symm
    replace hM := Lib.hid hM
    replace hof := Lib.hid hof
    replace hpo := Lib.hid hpo
    clear hm hns hfx hfull hpf
    by_cases hlf : full.length < few
    · have hr : rfF seat [] of full (best, few) = (of, full.length) := by simp only [rfF]; rw [if_pos hlf]
      rw [hr]
      clear hr
      have hM2 := hM.out.leaf (k := full.length) hof.out hpo.out
      have hE2 : ExtP F Bb w ((w.setCell ⟨Bb, 0, none⟩ (.slice po of.length co)).setCell ⟨F, 0, none⟩ (.int .i64 full.length)) := ((ExtP.refl F Bb w).set (.inr rfl) _).set (.inl rfl) _
      replace hM2 := Lib.hid hM2
      go_enter Tryd.func49, Tryd.ntmps49
      go_wp2
      go_end0
      exact ⟨rfl, hE2, _, _, hM2.out⟩
    · have hr : rfF seat [] of full (best, few) = (best, few) := by simp only [rfF]; rw [if_neg hlf]
      rw [hr]
      clear hr
      go_enter Tryd.func49, Tryd.ntmps49
      go_wp2
      go_end0
      exact ⟨rfl, ExtP.refl _ _ _, _, _, hM.out⟩
  | cons n ns ih =>
    intro of full w best few pb cb po co pf cf hns hol hfl hfx hM hof hpo hfull hpf hzw
    have hk : of.length < L.length := by
      have h1 := congrArg List.length hns
      rw [manyL_len, List.length_drop, List.length_cons] at h1
      omega
    obtain ⟨x, hx⟩ := getD_some (rfl : L.length = L.length) hk
    have hdr : n = x.many ∧ manyL (L.drop (of.length + 1)) = ns := by
      have h1 : L.drop of.length = x :: L.drop (of.length + 1) := by
        obtain ⟨h2, h3⟩ := List.getElem?_eq_some_iff.1 hx
        rw [List.drop_eq_getElem_cons h2, h3]
      unfold manyL at hns ⊢
      rw [h1, List.map_cons, List.cons.injEq] at hns
      exact ⟨hns.1.symm, hns.2⟩
    obtain ⟨rfl, hns'⟩ := hdr
    obtain ⟨hn1, hn2⟩ := hm x (List.mem_of_getElem? hx)
    rcases hM.gE with ⟨_, rfl⟩ | ⟨b, off, rfl, hb, hb1, hb2, hE⟩
    · cases hx
    have e1 := (hE.grp hx).2
    obtain ⟨lz1, lz2, lz3, lz4, lz5⟩ := hM.lt
    have hkI : (of.length : Int) < (L.length : Int) := by omega
    have hkB : ((of.length : Int) == (L.length : Int)) = false := by simp; omega
    obtain ⟨g1, -⟩ := hM.bG.walk
    rw [rfF_cons]
    replace hM := Lib.hid hM
    replace ih := Lib.hid ih
    replace hm := Lib.hid hm
    replace hns' := Lib.hid hns'
    replace hfx := Lib.hid hfx
    replace hx := Lib.hid hx
    replace hof := Lib.hid hof
    replace hpo := Lib.hid hpo
    replace hfull := Lib.hid hfull
    replace hpf := Lib.hid hpf
    clear hns hE
    go_enter Tryd.func49, Tryd.ntmps49
    go_wp2
    go_loopw [33] (fun v33 wr => ∃ (k : Nat) (pb : Option Addr) (cb : Nat), v33 = .int .i64 k ∧ k ≤ full.length + 1 ∧ TryM z G F Bb Sx T (some ⟨b, off, none⟩) gc L seat wr ((List.range k).foldl (stepR seat x.many ns of full) (best, few)).1 ((List.range k).foldl (stepR seat x.many ns of full) (best, few)).2 pb cb ∧ ExtP F Bb w wr) (fun v33 _ => 20 - (intOf v33).toNat)
    case atStart => exact ⟨0, pb, cb, rfl, by omega, hM.out, ExtP.refl _ _ _⟩
    case round =>
      clear hM g1 e1 hb
      obtain ⟨k, pb, cb, rfl, hk1, hM, hE2⟩ := hrel
      have hwr : z ≤ wr.heap.size := Nat.le_trans hzw hE2.2.2.2.1
      have hst := foldR_succ seat x.many ns of full (best, few) k
      generalize hstd : (List.range k).foldl (stepR seat x.many ns of full) (best, few) = st at *
      replace hstd := Lib.hid hstd
      replace hst := Lib.hid hst
      by_cases hkl : k ≤ full.length
      · have hfu := hfull.out.extP hE2 fun a ha => by have := hpf.out a ha; omega
        have hofw := hof.out.extP hE2 fun a ha => by have := hpo.out a ha; omega
        have hcl := clone_int (enc := intC) id (fun _ => rfl) pf full.length cf full wr hfu (by omega)
        replace hcl := Lib.hid hcl
        replace hM := Lib.hid hM
        replace hofw := Lib.hid hofw
        clear hfu
        go_upto_if 41 with (go_at_call 50; (with_reducible refine Calls.mono hcl.out ?_); rintro e w1 ⟨p1, c1, rfl, ho1, hb1⟩)
        generalize hfr : ((k : Int) == (full.length : Int)) = fr
        have hsz1 := hb1.size
        replace ho1 := Lib.hid ho1
        go_cut [11] (fun v11 w' => ∃ p2 c2, v11 = .slice p2 (fullF full k).length c2 ∧ w'.ownsRow wr.heap.size 3 1 (.slice p2 (fullF full k).length c2) (fullF full k).length ((fullF full k).flatMap intC) ∧ Ext wr w')
        case first =>
          cases fr
          · have hfl2 : fullF full k = full := by unfold fullF; rw [if_neg fun e => by subst e; simp at hfr]
            replace hfl2 := Lib.hid hfl2
            go_wp2
            go_meet
            exact ⟨p1, c1, by rw [hfl2.out], by rw [hfl2.out]; exact ho1.out, hb1⟩
          · have hfl2 : fullF full k = full ++ [0] := by unfold fullF; rw [if_pos (by have := eq_of_beq hfr; omega)]
            replace hfl2 := Lib.hid hfl2
            clear hfr
            go_wp2_with (at_builtin; go_loud (refine wp_appL _ (.tmp 42) (.tmp 43) 22 3 1 8 (.int .i64 0) rfl rfl Tryd.underlying22 intInfo rfl (by decide) (by decide) wr.heap.size p1 full.length c1 _ rfl (ho1.out.alloc _) w1.heap.size (intC 0) rfl rfl (Blk.new' rfl) (by simp [intC, Value.oneCell']) (by omega) (by simp; omega) ?_; intro b2 c2 w6 hown6 hgrow6 _))
            go_meet
            exact ⟨_, _, by rw [hfl2.out, List.length_append, List.length_singleton], by rw [hfl2.out, List.length_append, List.length_singleton, flat_snoc]; exact hown6, (hb1.alloc _).grown hgrow6 fun j e => (ho1.out.lt j e).1⟩
        case rest =>
          obtain ⟨p2, c2, rfl, ho2, hE3⟩ := hcut
          have hkF := full_len hkl
          have hFx := full_all (k := k) hfx.out
          have hFl : (fullF full k).length ≤ full.length + 1 := by
            unfold fullF
            split
            · rw [List.length_append, List.length_singleton]; omega
            · omega
          obtain ⟨y, hy⟩ := getD_some (rfl : (fullF full k).length = (fullF full k).length) hkF
          have hstep : stepR seat x.many ns of full st k = if y + x.many ≤ seat then rfF seat ns (of ++ [k]) ((fullF full k).set k (y + x.many)) st else st := by
            have e2 : (fullF full k).getD k 0 = y := by rw [List.getD_eq_getElem?_getD, hy]; rfl
            unfold stepR
            rw [e2]
          replace hst := hst.out
          rw [hstep] at hst
          generalize fullF full k = F2 at *
          clear hstep hfr
          have hyb := hFx y (List.mem_of_getElem? hy)
          obtain ⟨b2, c2', hpe, hb2z, hb2w⟩ := ho2.form (by omega)
          cases hpe
          have hkF2 : (k : Int) < F2.length := by omega
          have hcy : wc.cell? ⟨b2, k, none⟩ = some (.int .i64 y) := by
            have := own_cell intC_len ho2 hy 0 (v := .int .i64 y) rfl hkF
            simpa using this
          have z3 : ∀ o, wc.frozen? ⟨b2, o, none⟩ = false := fun o => ho2.frozenAt o
          have ho4 := own_set1 intC_len ho2 (y + x.many) hy 0 (by decide) (.int .i64 (y + x.many)) rfl
          simp only [Nat.mul_one, Nat.add_zero] at ho4
          have hE4 : Ext wr (wc.setCell ⟨b2, k, none⟩ (.int .i64 (y + x.many))) := hE3.setCell (p := ⟨b2, k, none⟩) hb2z _
          have hyF : (F2.set k (y + x.many))[k]? = some (y + x.many) := List.getElem?_set_self hkF
          have hFs : ∀ v ∈ F2.set k (y + x.many), 0 ≤ v ∧ v ≤ 1100 := fun v hv => by
            rcases List.mem_or_eq_of_mem_set hv with h1 | h1
            · have := hFx v h1; omega
            · subst h1; omega
          replace hst := Lib.hid hst
          replace hFs := Lib.hid hFs
          replace hFx := Lib.hid hFx
          replace ho2 := Lib.hid ho2
          replace ho4 := Lib.hid ho4
          replace hy := Lib.hid hy
          clear hcl ho1 hb1
          go_upto_region 11 with fail
          obtain ⟨W4, hW4⟩ : ∃ W, W = wc.setCell ⟨b2, k, none⟩ (.int .i64 (y + x.many)) := ⟨_, rfl⟩
          replace ho4 := ho4.out
          rw [← hW4] at ho4 hE4
          change Code.wp _ _ _ _ (wc.setCell ⟨b2, k, none⟩ (.int .i64 (y + x.many)))
          rw [← hW4]
          clear hW4 hcy z3 hE3
          have hM4 := hM.out.more hE4
          have hof4 := hofw.out.ext hE4
          have c4 : W4.cell? ⟨b2, k, none⟩ = some (.int .i64 (y + x.many)) := by
            have h9 : (F2.set k (y + x.many)).length = F2.length := List.length_set
            have := own_cell intC_len (show W4.ownsRow wr.heap.size 3 1 (.slice (some ⟨b2, 0, none⟩) F2.length c2) F2.length ((F2.set k (y + x.many)).flatMap intC) from ho4) hyF 0 (v := .int .i64 (y + x.many)) rfl hkF
            simpa using this
          have l4 := (ho4.lt b2 rfl).2
          have cS := hM4.bS
          replace hM4 := Lib.hid hM4
          replace hof4 := Lib.hid hof4
          replace ho4 := Lib.hid ho4
          refine wp_region_facts [] [([], false, false), ([], false, false), ([0, 1], false, false), ([0, 1, 2], false, false), ([], false, false), ([0, 1, 2, 3, 4], false, false)] (Ext) Ext (fun _ => True) (by kernel_rfl) (by kernel_rfl) Ext.refl (fun _ _ _ => Ext.trans) (fun _ _ h => h) (fun _ _ h => h.size) (fun _ _ h _ => h) trivial ?_
          dsimp only [List.length_cons, List.length_nil, List.drop_succ_cons, List.drop_zero, List.drop_nil]
          refine fac_quiet 0 rfl rfl rfl (fun _ _ h _ => h) rfl rfl ?_
          apply Exists.intro
          refine ⟨fun sv w' hw' hfa => ?_, ?_⟩
          · have hk9 := (Ext.refl W4).drew.trans hw'; obtain ⟨hc, hff, hz9⟩ := hk9.walk; have y1 := (hc _ _ l4).trans c4; obtain ⟨y2, -⟩ := (cS.ext hk9).walk
            refine ⟨rfl, ?_⟩
            simp only [putsL]
            change quietTo _ _ _ _ (Sem.run _ (execOp (Act.eval _) _) _)
            try simp only [Act.put, List.setIfInBounds_toArray, List.set_cons_succ, List.set_cons_zero]
            simp [go_sem, quietTo, Ext.refl]
            all_goals try simp (disch := omega) only [IntWalk.i64_in]
            all_goals first
              | rfl
          refine fac_quiet 1 rfl rfl rfl (fun _ _ h _ => h) rfl rfl ?_
          apply Exists.intro
          refine ⟨fun sv w' hw' hfa => ?_, ?_⟩
          · have hk9 := (Ext.refl W4).drew.trans hw'; obtain ⟨hc, hff, hz9⟩ := hk9.walk; have y1 := (hc _ _ l4).trans c4; obtain ⟨y2, -⟩ := (cS.ext hk9).walk
            refine ⟨rfl, ?_⟩
            simp only [putsL]
            change quietTo _ _ _ _ (Sem.run _ (execOp (Act.eval _) _) _)
            try simp only [Act.put, List.setIfInBounds_toArray, List.set_cons_succ, List.set_cons_zero]
            simp [go_sem, quietTo, Ext.refl]
            all_goals try simp (disch := omega) only [IntWalk.i64_in]
            all_goals first
              | rfl
          refine fac_quiet 2 rfl rfl rfl (fun _ _ h _ => h) rfl rfl ?_
          apply Exists.intro
          refine ⟨fun sv w' hw' hfa => ?_, ?_⟩
          · obtain ⟨f0, f1, -⟩ := hfa
            replace f0 : sv 0 = _ := f0
            try dsimp only at f0
            replace f1 : sv 1 = _ := f1
            try dsimp only at f1
            have hk9 := (Ext.refl W4).drew.trans hw'; obtain ⟨hc, hff, hz9⟩ := hk9.walk; have y1 := (hc _ _ l4).trans c4; obtain ⟨y2, -⟩ := (cS.ext hk9).walk
            refine ⟨rfl, ?_⟩
            simp only [putsL]
            change quietTo _ _ _ _ (Sem.run _ (execOp (Act.eval (Act.put (Act.put _ (some 53) (sv 1)) (some 52) (sv 0))) _) _)
            try simp only [Act.put, List.setIfInBounds_toArray, List.set_cons_succ, List.set_cons_zero]
            simp [go_sem, quietTo, Ext.refl, ↓IntWalk.iteOmega, f0, f1, hkF2]
            all_goals try simp (disch := omega) only [IntWalk.i64_in]
            all_goals first
              | rfl
          refine fac_quiet 3 rfl rfl rfl (fun _ _ h _ => h) rfl rfl ?_
          apply Exists.intro
          refine ⟨fun sv w' hw' hfa => ?_, ?_⟩
          · obtain ⟨f0, f1, f2, -⟩ := hfa
            replace f0 : sv 0 = _ := f0
            try dsimp only at f0
            replace f1 : sv 1 = _ := f1
            try dsimp only at f1
            replace f2 : sv 2 = _ := f2
            try dsimp only at f2
            have hk9 := (Ext.refl W4).drew.trans hw'; obtain ⟨hc, hff, hz9⟩ := hk9.walk; have y1 := (hc _ _ l4).trans c4; obtain ⟨y2, -⟩ := (cS.ext hk9).walk
            refine ⟨rfl, ?_⟩
            simp only [putsL]
            change quietTo _ _ _ _ (Sem.run _ (execOp (Act.eval (Act.put (Act.put (Act.put _ (some 54) (sv 2)) (some 53) (sv 1)) (some 52) (sv 0))) _) _)
            try simp only [Act.put, List.setIfInBounds_toArray, List.set_cons_succ, List.set_cons_zero]
            simp [go_sem, quietTo, Ext.refl, ↓IntWalk.iteOmega, f2, y1]
            all_goals try simp (disch := omega) only [IntWalk.i64_in]
            all_goals first
              | rfl
          refine fac_quiet 4 rfl rfl rfl (fun _ _ h _ => h) rfl rfl ?_
          apply Exists.intro
          refine ⟨fun sv w' hw' hfa => ?_, ?_⟩
          · have hk9 := (Ext.refl W4).drew.trans hw'; obtain ⟨hc, hff, hz9⟩ := hk9.walk; have y1 := (hc _ _ l4).trans c4; obtain ⟨y2, -⟩ := (cS.ext hk9).walk
            refine ⟨rfl, ?_⟩
            simp only [putsL]
            change quietTo _ _ _ _ (Sem.run _ (execOp (Act.eval _) _) _)
            try simp only [Act.put, List.setIfInBounds_toArray, List.set_cons_succ, List.set_cons_zero]
            simp [go_sem, quietTo, Ext.refl, ↓IntWalk.iteOmega, y2]
            all_goals try simp (disch := omega) only [IntWalk.i64_in]
            all_goals first
              | rfl
          refine fac_quiet 5 rfl rfl rfl (fun _ _ h _ => h) rfl rfl ?_
          apply Exists.intro
          refine ⟨fun sv w' hw' hfa => ?_, ?_⟩
          · obtain ⟨f0, f1, f2, f3, f4, -⟩ := hfa
            replace f0 : sv 0 = _ := f0
            try dsimp only at f0
            replace f1 : sv 1 = _ := f1
            try dsimp only at f1
            replace f2 : sv 2 = _ := f2
            try dsimp only at f2
            replace f3 : sv 3 = _ := f3
            try dsimp only at f3
            replace f4 : sv 4 = _ := f4
            try dsimp only at f4
            have hk9 := (Ext.refl W4).drew.trans hw'; obtain ⟨hc, hff, hz9⟩ := hk9.walk; have y1 := (hc _ _ l4).trans c4; obtain ⟨y2, -⟩ := (cS.ext hk9).walk
            refine ⟨rfl, ?_⟩
            simp only [putsL]
            change quietTo _ _ _ _ (Sem.run _ (execOp (Act.eval (Act.put (Act.put (Act.put (Act.put (Act.put _ (some 56) (sv 4)) (some 55) (sv 3)) (some 54) (sv 2)) (some 53) (sv 1)) (some 52) (sv 0))) _) _)
            try simp only [Act.put, List.setIfInBounds_toArray, List.set_cons_succ, List.set_cons_zero]
            simp [go_sem, quietTo, Ext.refl, ↓IntWalk.iteOmega, f3, f4]
            all_goals try simp (disch := omega) only [IntWalk.i64_in]
            all_goals first
              | rfl
          refine fac_nil fun xq wrq herq hfrq hcrq holdq hapq => ?_
          obtain ⟨f0, f1, f2, f3, f4, f5, -⟩ := hfrq
          replace f0 : xq 0 = _ := f0
          try dsimp only at f0
          replace f1 : xq 1 = _ := f1
          try dsimp only at f1
          replace f2 : xq 2 = _ := f2
          try dsimp only at f2
          replace f3 : xq 3 = _ := f3
          try dsimp only at f3
          replace f4 : xq 4 = _ := f4
          try dsimp only at f4
          replace f5 : xq 5 = _ := f5
          try dsimp only at f5
          change wpList _ _ _ _ (Act.put (Act.put (Act.put (Act.put (Act.put (Act.put _ (some 52) (xq 0)) (some 53) (xq 1)) (some 54) (xq 2)) (some 55) (xq 3)) (some 56) (xq 4)) (some 57) (xq 5)) _
          simp only [putsL, Nat.reduceAdd, List.drop_succ_cons, List.drop_zero, List.drop_nil, Act.put, List.setIfInBounds_toArray, List.set_cons_succ, List.set_cons_zero]
          try simp only [f0, f1, f2, f3, f4, f5]
          clear f0 f1 f2 f3 f4 f5
          clear holdq hapq
          have hk9 := (Ext.refl W4).drew.trans herq
          by_cases hle : y + x.many ≤ seat
          · have hst2 := hst.out
            rw [if_pos hle] at hst2
            replace hst2 := Lib.hid hst2
            have hMa := hM4.out.more hk9
            have hTa := hMa.bT
            have hofa := hof4.out.ext hk9
            have hoa := own_ext hk9 ho4.out
            have hwz : z ≤ wrq.heap.size := Nat.le_trans (Nat.le_trans hwr (hE4.size)) hk9.size
            have hrc : ∀ (b9 c9 : Nat) (u : World) (bs9 : Nat), Ext wrq u → z ≤ bs9 → u.ownsRow bs9 3 1 (.slice (some ⟨b9, 0, none⟩) (of.length + 1) c9) (of.length + 1) ((of ++ [k]).flatMap natC) →
                Calls Tryd.prog 49 #[.slice (some ⟨b9, 0, none⟩) (of.length + 1) c9, .slice (some ⟨b2, 0, none⟩) F2.length c2, .pointer (some ⟨G, 0, none⟩), .pointer (some ⟨F, 0, none⟩), .pointer (some ⟨Bb, 0, none⟩), .pointer (some ⟨Sx, 0, none⟩), .pointer (some ⟨T, 0, none⟩)] u (TryRes z G F Bb Sx T (some ⟨b, off, none⟩) gc L seat u (rfF seat ns (of ++ [k]) (F2.set k (y + x.many)) st)) := fun b9 c9 u bs9 hu hz9 ho9 => by
              obtain ⟨q9, d9, hq9, hs9⟩ := slc_of_own (enc := natC) (fun _ => rfl) ho9 (by decide) (by omega)
              cases hq9
              obtain ⟨q2, d2, hq2, hs2⟩ := slc_of_own (enc := intC) (fun _ => rfl) (own_ext hu hoa) (by decide) (by omega)
              cases hq2
              have := ih.out (of ++ [k]) (F2.set k (y + x.many)) u st.1 st.2 pb cb (some ⟨b9, 0, none⟩) c9 (some ⟨b2, 0, none⟩) c2 (by rw [List.length_append, List.length_singleton]; exact hns'.out) (by rw [List.length_append, List.length_singleton]; omega) (by rw [List.length_append, List.length_singleton, List.length_set]; omega) (fun v hv => by
                rcases List.mem_or_eq_of_mem_set hv with h1 | h1
                · exact hFx.out v h1
                · subst h1; omega) (hMa.more hu) (by rw [List.length_append, List.length_singleton]; exact hs9) (fun a ha => by cases ha; exact Nat.le_trans hz9 (ho9.lt b9 rfl).1) (by simpa using hs2) (fun a ha => by cases ha; exact Nat.le_trans hwr hb2z) (Nat.le_trans hwz hu.size)
              rw [List.length_append, List.length_singleton, List.length_set] at this
              exact this
            replace hrc := Lib.hid hrc
            replace hofa := Lib.hid hofa
            replace hoa := Lib.hid hoa
            replace hMa := Lib.hid hMa
            clear hM4 hof4 ho4 c4 cS hFs
            go_upto_region 12 with fail
            refine wp_region_forks [0, 1, 3, 6] 4 (fun w' => Blk w' T 91 #[.func (.func 49) #[] #[.pointer (some ⟨G, 0, none⟩), .pointer (some ⟨F, 0, none⟩), .pointer (some ⟨Bb, 0, none⟩), .pointer (some ⟨Sx, 0, none⟩), .pointer (some ⟨T, 0, none⟩)]] ∧ (ExtP F Bb wrq w')) Ext (by kernel_rfl) (by kernel_rfl) Ext.refl (fun _ _ _ => Ext.trans) (fun _ _ h he => ⟨h.1.ext he, h.2.ext he⟩) ⟨(by (repeat (with_reducible first | assumption | exact Blk.new' (by simp) | refine Blk.drew ?_ | refine Blk.alloc ?_ _ | exact Ext.refl _ | refine Ext.drew ?_ | refine Ext.alloc ?_ _))), ((ExtP.refl F Bb wrq).ext (Ext.drew (Ext.refl _)))⟩ ?_
            repeat
              first
                | (refine q_quiet rfl rfl (fun _ _ _ _ h => h) ?_
                   apply Exists.intro
                   refine ⟨fun w' hw' => ?_, ?_⟩
                   · obtain ⟨hH0, hH1⟩ := hw'
                     unfold Blk at hH0
                     simp [go_sem, quietTo, World.cell?, hH0, Ext.refl, ↓IntWalk.iteOmega]
                     first
                       | rfl
                   simp only [Act.put, List.setIfInBounds_toArray, List.set_cons_succ, List.set_cons_zero])
                | (refine q_skip rfl rfl (fun _ _ _ _ h => h) ?_
                   simp only [Act.put, List.setIfInBounds_toArray, List.set_cons_succ, List.set_cons_zero])
            refine q_nil ?_
            try simp only [List.length_cons, List.length_nil, Nat.reduceAdd, Array.replicate_succ, Array.replicate_zero, List.push_toArray, List.nil_append, List.cons_append, List.setIfInBounds_toArray, List.set_cons_succ, List.set_cons_zero]
            refine ww_two (i := 2) (j := 4) rfl rfl rfl rfl (by kernel_rfl) ?_ ?_
            · intro w5 e5 h5 K5 hK5
              have hE5 : Ext wrq w5 := (Ext.refl wrq).drew.trans e5
              go_wp2_with (go_at_call 50; (with_reducible refine Calls.mono (clone_int (enc := natC) (fun n => (n : Int)) (fun _ => rfl) po of.length co of _ (hofa.out.ext hE5) (by omega)) ?_); rintro e w6 ⟨p6, c6, rfl, ho6, hb6⟩)
              refine ⟨⟨h5.1.ext hb6, h5.2.ext hb6⟩, ?_⟩
              simp only [List.setIfInBounds_toArray, List.set_cons_succ, List.set_cons_zero]
              refine ww_one (i := 4) rfl rfl (by kernel_rfl) ?_
              intro w7 e7 h7 K7 hK7
              go_wp2_with fail
              refine ⟨⟨h7.1.alloc _, h7.2.ext ((Ext.refl _).alloc _)⟩, ?_⟩
              simp only [List.setIfInBounds_toArray, List.set_cons_succ, List.set_cons_zero]
              refine ww_one (i := 5) rfl rfl (by kernel_rfl) ?_
              intro w8 e8 h8 K8 hK8
              have own8 : w8.ownsRow w5.heap.size 3 1 (.slice p6 of.length c6) of.length (of.flatMap natC) := own_ext e8 ((own_ext e7 ho6).alloc _)
              have lit8 : Blk w8 w7.heap.size 3 #[.int .i64 k] := (Blk.new' rfl).ext e8
              have hE8 : Ext wrq w8 := (((hE5.trans hb6).trans e7).alloc _).trans e8
              refine wp_appO w8 (.tmp 60) (.tmp 62) 22 3 1 8 (.int .i64 0) rfl Tryd.underlying22 intInfo rfl (by decide) (by decide) w5.heap.size p6 of.length c6 _ rfl own8 w7.heap.size (natC k) rfl rfl lit8 (by simp [natC, Value.oneCell']) (by omega) (by have := (((Ext.refl _).trans hb6).trans ((e7.alloc _).trans e8)).size; omega) fun b9 c9 w9 hown9 hgrow9 _ => ?_
              have hE9 : Ext wrq w9 := hE8.grown hgrow9 fun j e => Nat.le_trans hE5.size (own8.lt j e).1
              refine hK8 _ _ ⟨⟨hTa.ext hE9, hE9.extP⟩, ?_⟩
              simp only [List.setIfInBounds_toArray, List.set_cons_succ, List.set_cons_zero]
              refine ww_one (i := 7) rfl rfl (by kernel_rfl) ?_
              intro w10 e10 h10 K10 hK10
              have hE10 := hE9.trans e10
              have own10 := own_ext e10 hown9
              rw [← flat_snoc] at own10
              have hih := hrc.out b9 c9 w10 w5.heap.size hE10 (Nat.le_trans hwz hE5.size) own10
              replace hih := Lib.hid hih
              go_wp2_with (go_at_call 49; (with_reducible refine Calls.mono hih.out ?_); rintro e w11 ⟨rfl, hEx, pb', cb', hM11⟩)
              refine ⟨⟨hM11.bT, (hE10.extP).trans hEx⟩, ?_⟩
              simp only [List.setIfInBounds_toArray, List.set_cons_succ, List.set_cons_zero]
              refine ww_done (by kernel_rfl) fun w12 e12 h12 => ?_
              have hEend : ExtP F Bb w w12 := (hE2.ext (hE4.trans hk9)).trans (((hE10.extP).trans hEx).ext e12)
              have hMend := hM11.more e12
              replace hMend := Lib.hid hMend
              try dsimp only [Exit.then]
              go_wp2
              go_roundw
              case rel => exact ⟨k + 1, pb', cb', by go_num, by omega, by rw [hst2.out]; exact hMend.out, hEend⟩
              case measure => simp [intOf]; omega
            · intro w5 e5 h5 K5 hK5
              have hE5 : Ext wrq w5 := (Ext.refl wrq).drew.trans e5
              go_wp2_with fail
              refine ⟨⟨h5.1.alloc _, h5.2.ext ((Ext.refl _).alloc _)⟩, ?_⟩
              simp only [List.setIfInBounds_toArray, List.set_cons_succ, List.set_cons_zero]
              refine ww_one (i := 2) rfl rfl (by kernel_rfl) ?_
              intro w7 e7 h7 K7 hK7
              go_wp2_with (go_at_call 50; (with_reducible refine Calls.mono (clone_int (enc := natC) (fun n => (n : Int)) (fun _ => rfl) po of.length co of _ (hofa.out.ext ((hE5.alloc _).trans e7)) (by omega)) ?_); rintro e w6 ⟨p6, c6, rfl, ho6, hb6⟩)
              refine ⟨⟨h7.1.ext hb6, h7.2.ext hb6⟩, ?_⟩
              simp only [List.setIfInBounds_toArray, List.set_cons_succ, List.set_cons_zero]
              refine ww_one (i := 5) rfl rfl (by kernel_rfl) ?_
              intro w8 e8 h8 K8 hK8
              have own8 : w8.ownsRow w7.heap.size 3 1 (.slice p6 of.length c6) of.length (of.flatMap natC) := own_ext e8 ho6
              have lit8 : Blk w8 w5.heap.size 3 #[.int .i64 k] := ((Blk.new' rfl).ext e7).ext (hb6.trans e8)
              have hE8 : Ext wrq w8 := ((((hE5.alloc _).trans e7).trans hb6).trans e8)
              refine wp_appO w8 (.tmp 60) (.tmp 62) 22 3 1 8 (.int .i64 0) rfl Tryd.underlying22 intInfo rfl (by decide) (by decide) w7.heap.size p6 of.length c6 _ rfl own8 w5.heap.size (natC k) rfl rfl lit8 (by simp [natC, Value.oneCell']) (by omega) (by have := (hb6.trans e8).size; omega) fun b9 c9 w9 hown9 hgrow9 _ => ?_
              have hE9 : Ext wrq w9 := hE8.grown hgrow9 fun j e => Nat.le_trans ((hE5.alloc _).trans e7).size (own8.lt j e).1
              refine hK8 _ _ ⟨⟨hTa.ext hE9, hE9.extP⟩, ?_⟩
              simp only [List.setIfInBounds_toArray, List.set_cons_succ, List.set_cons_zero]
              refine ww_one (i := 7) rfl rfl (by kernel_rfl) ?_
              intro w10 e10 h10 K10 hK10
              have hE10 := hE9.trans e10
              have own10 := own_ext e10 hown9
              rw [← flat_snoc] at own10
              have hih := hrc.out b9 c9 w10 w7.heap.size hE10 (Nat.le_trans hwz ((hE5.alloc _).trans e7).size) own10
              replace hih := Lib.hid hih
              go_wp2_with (go_at_call 49; (with_reducible refine Calls.mono hih.out ?_); rintro e w11 ⟨rfl, hEx, pb', cb', hM11⟩)
              refine ⟨⟨hM11.bT, (hE10.extP).trans hEx⟩, ?_⟩
              simp only [List.setIfInBounds_toArray, List.set_cons_succ, List.set_cons_zero]
              refine ww_done (by kernel_rfl) fun w12 e12 h12 => ?_
              have hEend : ExtP F Bb w w12 := (hE2.ext (hE4.trans hk9)).trans (((hE10.extP).trans hEx).ext e12)
              have hMend := hM11.more e12
              replace hMend := Lib.hid hMend
              try dsimp only [Exit.then]
              go_wp2
              go_roundw
              case rel => exact ⟨k + 1, pb', cb', by go_num, by omega, by rw [hst2.out]; exact hMend.out, hEend⟩
              case measure => simp [intOf]; omega
          · have hst2 := hst.out
            rw [if_neg hle] at hst2
            have hMq := hM4.out.more hk9
            replace hst2 := Lib.hid hst2
            go_wp2
            go_roundw
            case rel => exact ⟨k + 1, pb, cb, by go_num, by omega, by rw [hst2.out]; exact hMq, hE2.ext (hE4.trans hk9)⟩
            case measure => simp [intOf]; omega
      · obtain rfl : k = full.length + 1 := by omega
        go_wp2
        go_end0
        exact ⟨rfl, hE2, _, _, by rw [hstd.out]; exact hM⟩
end Go.Proofs.YtlmbpgjdepmlcaaDoor
