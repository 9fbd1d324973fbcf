/- All that can stand are tried: the solver's walk. Conditions: at most four people; the places are different ones, on the stage. -/
import Derived.Test.YtfbegdcmnfkhgaaGreatDoorLxJ37
set_option linter.unusedSimpArgs false
set_option linter.unusedVariables false
namespace Go.Proofs.YtfbegdcmnfkhgaaGreatDoor
open Go Go.RowKit

theorem count_hid (P : List PersonV) (wide high : List Int) (T : List StandV) (h4 : T.length ≤ 4) (w : World) :
    Calls Tryz.prog 79 #[.int .u64 (bitsN (hsL P wide high T) : Nat)] w fun e w' => e = .returned (.int .i64 (hidT P wide high T)) ∧ Ext w w' := by
  have hl : (hsL P wide high T).length ≤ 4 := by rw [hsL_len]; exact h4
  refine (count_any _ (bits_lt _ hl) w).mono fun e w' ⟨he, hw⟩ => ⟨?_, hw ▸ Ext.refl _⟩
  rw [he, popN_bits _ hl, hsL_cnt]
  rfl
section
variable {w0 : World} {v gk ck : Nat} {pp : Option Addr} {pc : Nat} {P : List PersonV} {wp : Option Addr} {wcap : Nat} {wide : List Int} {hp : Option Addr} {hc : Nat} {high : List Int} {plp : Option Addr} {plc : Nat} {all : List StandV}
set_option maxRecDepth 100000 in
set_option maxHeartbeats 6400000 in
theorem svTry_any (h4 : P.length ≤ 4) (hal : all.length ≤ 1000) (hap : AllApart all) (hon : ∀ x ∈ all, OnStage wide x) : ∀ (m : Nat) (T : List StandV) (w : World) (np : Option Addr) (nc : Nat) (bp : Option Addr) (bc : Nat) (fw : Int) (bst : List StandV), T.length + m = P.length → SvT P wide high T →
    SvM w0 w v gk ck pp pc P wp wcap wide hp hc high plp plc all (flagsL all T) np nc T bp bc fw bst →
    Calls Tryz.prog 40 #[.pointer (some ⟨v, 0, none⟩), .int .u64 (bitsN (hsL P wide high T) : Nat)] w fun e w' => e = .returned (.tuple #[]) ∧ ∃ (np' : Option Addr) (nc' : Nat) (bp' : Option Addr) (bc' : Nat),
      SvM w0 w' v gk ck pp pc P wp wcap wide hp hc high plp plc all (flagsL all T) np' nc' T bp' bc' (leF P wide high all m T (fw, bst)).1 (leF P wide high all m T (fw, bst)).2
  | 0, T, w, np, nc, bp, bc, fw, bst, hm, hT, hM => by
    have hTP : T.length = P.length := by omega
    have hTPI : ((T.length : Int) == (P.length : Int)) = true := by rw [hTP]; exact beq_self_eq_true _
    have hcnt := fun u => count_hid P wide high T (by omega) u
    have hcl := fun u (hu : Ext w u) => cloneSta_any np T.length nc T u ((hM.nlen (by omega)).ext hu) (by omega)
    obtain ⟨y1, -⟩ := hM.blk.walk
    have bl := hM.blk.lt
    have hlf : leF P wide high all 0 T (fw, bst) = (hidT P wide high T, T) := rfl
    rw [hlf]
    generalize hidT P wide high T = hd at *
    replace hcnt := Lib.hid hcnt
    replace hcl := Lib.hid hcl
    replace hM := Lib.hid hM
    replace hm := Lib.hid hm
    replace hTP := Lib.hid hTP
    go_enter Tryz.func40, Tryz.ntmps40
    go_upto_region 2 with fail
    refine wp_region_facts [1] [([], false, false), ([], false, false), ([], false, false), ([2], false, false), ([], false, false), ([4], false, false), ([4, 5], false, false), ([4, 5, 6], false, false), ([4, 5, 6, 7], false, false)] (Ext) Ext (fun _ => True) (by kernel_rfl) (by kernel_rfl) Ext.refl (fun _ _ _ => Ext.trans) (fun _ _ h => h) (fun _ _ h => h.size) (fun _ _ h _ => h) trivial ?_
    dsimp only [List.length_cons, List.length_nil, List.drop_succ_cons, List.drop_zero, List.drop_nil]
    refine fac_quiet 0 rfl rfl rfl (fun _ _ h _ => h) rfl rfl ?_
    apply Exists.intro
    refine ⟨fun sv w' hw' hfa => ?_, ?_⟩
    · refine ⟨rfl, ?_⟩
      simp only [putsL]
      change quietTo _ _ _ _ (Sem.run _ (execOp (Act.eval _) _) _)
      try simp only [Act.put, List.setIfInBounds_toArray, List.set_cons_succ, List.set_cons_zero]
      simp [go_sem, quietTo, Ext.refl]
      all_goals first
        | rfl
    refine fac_late 1 rfl rfl Ext.refl (fun _ _ h _ => h) rfl rfl (fun _ _ _ _ h => h) ?_
    apply Exists.intro
    refine ⟨fun sv w' hw' hfa => ?_, ?_⟩
    · refine ⟨rfl, fun w2 => ?_⟩
      simp only [putsL]
      change pureTo _ _ (Sem.run _ (execOp (Act.eval _) _) _)
      try simp only [Act.put, List.setIfInBounds_toArray, List.set_cons_succ, List.set_cons_zero]
      simp [go_sem, pureTo]
      all_goals try simp (disch := omega) only [IntWalk.i64_in]
      all_goals first
        | rfl
    refine fac_quiet 2 rfl rfl rfl (fun _ _ h _ => h) rfl rfl ?_
    apply Exists.intro
    refine ⟨fun sv w' hw' hfa => ?_, ?_⟩
    · refine ⟨rfl, ?_⟩
      simp only [putsL]
      change quietTo _ _ _ _ (Sem.run _ (execOp (Act.eval _) _) _)
      try simp only [Act.put, List.setIfInBounds_toArray, List.set_cons_succ, List.set_cons_zero]
      simp [go_sem, quietTo, Ext.refl]
      all_goals first
        | rfl
    refine fac_quiet 3 rfl rfl rfl (fun _ _ h _ => h) rfl rfl ?_
    apply Exists.intro
    refine ⟨fun sv w' hw' hfa => ?_, ?_⟩
    · obtain ⟨f2, -⟩ := hfa
      replace f2 : sv 2 = _ := f2
      try dsimp only at f2
      have hk9 := (Ext.refl w).drew.trans hw'; obtain ⟨y1, -⟩ := (hM.out.blk.ext hk9).walk
      refine ⟨rfl, ?_⟩
      simp only [putsL]
      change quietTo _ _ _ _ (Sem.run _ (execOp (Act.eval (Act.put _ (some 22) (sv 2))) _) _)
      try simp only [Act.put, List.setIfInBounds_toArray, List.set_cons_succ, List.set_cons_zero]
      simp [go_sem, quietTo, Ext.refl, ↓IntWalk.iteOmega, f2]
      all_goals try simp (disch := omega) only [IntWalk.i64_in]
      all_goals first
        | rfl
        | (exact hcnt.out _)
    refine fac_quiet 4 rfl rfl rfl (fun _ _ h _ => h) rfl rfl ?_
    apply Exists.intro
    refine ⟨fun sv w' hw' hfa => ?_, ?_⟩
    · refine ⟨rfl, ?_⟩
      simp only [putsL]
      change quietTo _ _ _ _ (Sem.run _ (execOp (Act.eval _) _) _)
      try simp only [Act.put, List.setIfInBounds_toArray, List.set_cons_succ, List.set_cons_zero]
      simp [go_sem, quietTo, Ext.refl]
      all_goals first
        | rfl
    refine fac_quiet 5 rfl rfl rfl (fun _ _ h _ => h) rfl rfl ?_
    apply Exists.intro
    refine ⟨fun sv w' hw' hfa => ?_, ?_⟩
    · obtain ⟨f4, -⟩ := hfa
      replace f4 : sv 4 = _ := f4
      try dsimp only at f4
      refine ⟨rfl, ?_⟩
      simp only [putsL]
      change quietTo _ _ _ _ (Sem.run _ (execOp (Act.eval (Act.put _ (some 24) (sv 4))) _) _)
      try simp only [Act.put, List.setIfInBounds_toArray, List.set_cons_succ, List.set_cons_zero]
      simp [go_sem, quietTo, Ext.refl, f4]
      all_goals first
        | rfl
    refine fac_quiet 6 rfl rfl rfl (fun _ _ h _ => h) rfl rfl ?_
    apply Exists.intro
    refine ⟨fun sv w' hw' hfa => ?_, ?_⟩
    · obtain ⟨_, f5, -⟩ := hfa
      replace f5 : sv 5 = _ := f5
      try dsimp only at f5
      refine ⟨rfl, ?_⟩
      simp only [putsL]
      change quietTo _ _ _ _ (Sem.run _ (execOp (Act.eval (Act.put (Act.put _ (some 25) (sv 5)) (some 24) (sv 4))) _) _)
      try simp only [Act.put, List.setIfInBounds_toArray, List.set_cons_succ, List.set_cons_zero]
      simp [go_sem, quietTo, Ext.refl, f5]
      all_goals first
        | rfl
    refine fac_quiet 7 rfl rfl rfl (fun _ _ h _ => h) rfl rfl ?_
    apply Exists.intro
    refine ⟨fun sv w' hw' hfa => ?_, ?_⟩
    · obtain ⟨_, _, f6, -⟩ := hfa
      replace f6 : sv 6 = _ := f6
      try dsimp only at f6
      have hk9 := (Ext.refl w).drew.trans hw'; obtain ⟨y1, -⟩ := (hM.out.blk.ext hk9).walk
      refine ⟨rfl, ?_⟩
      simp only [putsL]
      change quietTo _ _ _ _ (Sem.run _ (execOp (Act.eval (Act.put (Act.put (Act.put _ (some 26) (sv 6)) (some 25) (sv 5)) (some 24) (sv 4))) _) _)
      try simp only [Act.put, List.setIfInBounds_toArray, List.set_cons_succ, List.set_cons_zero]
      simp [go_sem, quietTo, Ext.refl, ↓IntWalk.iteOmega, f6, y1]
      all_goals try simp (disch := omega) only [IntWalk.i64_in]
      all_goals first
        | rfl
    refine fac_any 8 rfl rfl rfl (fun _ _ h _ => h) ?_
    refine ⟨(fun y u => ∃ (p9 : Option Addr) (c9 : Nat), y 8 = .slice p9 T.length c9 ∧ u.ownsRow w.heap.size 46 3 (.slice p9 T.length c9) T.length (T.flatMap staC)), fun sv w' hw' hfa => ?_, ?_, ?_⟩
    · obtain ⟨f4, f5, f6, f7, -⟩ := hfa
      replace f4 : sv 4 = _ := f4
      try dsimp only at f4
      replace f5 : sv 5 = _ := f5
      try dsimp only at f5
      replace f6 : sv 6 = _ := f6
      try dsimp only at f6
      replace f7 : sv 7 = _ := f7
      try dsimp only at f7
      have hk9 := (Ext.refl w).drew.trans hw'; obtain ⟨y1, -⟩ := (hM.out.blk.ext hk9).walk
      refine ⟨rfl, ?_⟩
      simp only [putsL]
      change outc _ _ (Sem.run _ (execOp (Act.eval (Act.put (Act.put (Act.put (Act.put _ (some 27) (sv 7)) (some 26) (sv 6)) (some 25) (sv 5)) (some 24) (sv 4))) _) _)
      try simp only [Act.put, List.setIfInBounds_toArray, List.set_cons_succ, List.set_cons_zero]
      simp [go_sem, outc, f7]
      refine (hcl.out _ hk9).mono ?_
      rintro e w9 ⟨v9, rfl, ho9, hb9⟩
      obtain ⟨p9, c9, rfl, -⟩ := slc_of_own staC_len ho9 (by decide) (by have := hm.out; omega)
      exact ⟨_, rfl, hb9, p9, c9, by simp [upd], own_lowT ho9 hk9.size⟩
    · exact fun x w w' ⟨p9, c9, h1, h2⟩ he => ⟨p9, c9, h1, own_ext he h2⟩
    refine fac_nil fun xq wrq herq hfrq hcrq holdq hapq => ?_
    obtain ⟨f0, f1, f2, f3, f4, f5, f6, f7, f8, -⟩ := hfrq
    replace f0 : xq 0 = _ := f0
    try dsimp only at f0
    replace f1 : xq 1 = _ := f1
    try dsimp only at f1
    replace f2 : xq 2 = _ := f2
    try dsimp only at f2
    replace f3 : xq 3 = _ := f3
    try dsimp only at f3
    replace f4 : xq 4 = _ := f4
    try dsimp only at f4
    replace f5 : xq 5 = _ := f5
    try dsimp only at f5
    replace f6 : xq 6 = _ := f6
    try dsimp only at f6
    replace f7 : xq 7 = _ := f7
    try dsimp only at f7
    obtain ⟨p8, c8, f8, ho8⟩ := f8
    replace f8 : xq 8 = _ := f8
    change wpList _ _ _ _ (Act.put (Act.put (Act.put (Act.put (Act.put (Act.put (Act.put (Act.put (Act.put _ (some 20) (xq 0)) (some 21) (xq 1)) (some 22) (xq 2)) (some 23) (xq 3)) (some 24) (xq 4)) (some 25) (xq 5)) (some 26) (xq 6)) (some 27) (xq 7)) (some 28) (xq 8)) _
    simp only [putsL, Nat.reduceAdd, List.drop_succ_cons, List.drop_zero, List.drop_nil, Act.put, List.setIfInBounds_toArray, List.set_cons_succ, List.set_cons_zero]
    try simp only [f0, f1, f2, f3, f4, f5, f6, f7, f8]
    clear f0 f1 f2 f3 f4 f5 f6 f7
    clear holdq hapq
    have hkq := (Ext.refl w).drew.trans herq
    have hMq := hM.out.more hkq
    obtain ⟨z1, z2⟩ := hMq.blk.walk
    have zl := hMq.blk.lt
    clear y1 bl
    go_wp2
    go_light
    (try simp only [Exit.inBlock, Exit.then]); refine bodyPost_ret (results_none rfl _ _ _) rfl ?_
    refine ⟨rfl, np, nc, p8, c8, ?_⟩
    exact hMq.keep ho8 hM.out.tak.lt (fun a ha => by subst ha; exact (own_block_ge hM.out.now (g := a.block) (by simp [Value.ownBlock])).2) hd
  | m + 1, T, w, np, nc, bp, bc, fw, bst, hm, hT, hM => by
    have hTP : T.length < P.length := by omega
    have hTPI : ((T.length : Int) == (P.length : Int)) = false := by rw [beq_eq_false_iff_ne]; omega
    have hkI : (T.length : Int) < P.length := by omega
    obtain ⟨q, hq⟩ : ∃ q, P[T.length]? = some q := ⟨_, List.getElem?_eq_getElem hTP⟩
    have hqn : (P.getD T.length default) = q := by rw [List.getD_eq_getElem?_getD, hq]; rfl
    have ih := fun (T' : List StandV) (u : World) (np : Option Addr) (nc : Nat) (bp : Option Addr) (bc : Nat) (fw : Int) (bst : List StandV) => svTry_any h4 hal hap hon m T' u np nc bp bc fw bst
    have hlf := toF_all (P := P) (wide := wide) (high := high) (all := all) m T (fw, bst)
    obtain ⟨y1, -⟩ := hM.blk.walk
    have bl := hM.blk.lt
    rcases (slcC hM.per).2 with ⟨-, e⟩ | ⟨pb, po, rfl, hpb, hEp⟩
    · rw [e] at hq; cases hq
    obtain ⟨e0, -, -⟩ := hEp.per hq
    rw [← hlf]
    replace ih := Lib.hid ih
    replace hM := Lib.hid hM
    replace hm := Lib.hid hm
    replace hTP := Lib.hid hTP
    replace hq := Lib.hid hq
    replace hqn := Lib.hid hqn
    replace hT := Lib.hid hT
    clear hlf hEp
    go_enter Tryz.func40, Tryz.ntmps40
    go_upto_region 3 with fail
    go_wp2
    go_loopw [38] (fun v38 wr => ∃ (i : Nat) (np : Option Addr) (nc : Nat) (bp : Option Addr) (bc : Nat), v38 = .int .i64 i ∧ i ≤ all.length ∧ SvM w0 wr v gk ck (some ⟨pb, po, none⟩) pc P wp wcap wide hp hc high plp plc all (flagsL all T) np nc T bp bc (toF P wide high all m T (fw, bst) i).1 (toF P wide high all m T (fw, bst) i).2) (fun v38 _ => all.length - (intOf v38).toNat)
    case atStart => exact ⟨0, np, nc, bp, bc, rfl, Nat.zero_le _, hM.out⟩
    case round =>
      clear hM y1 bl
      obtain ⟨i, np, nc, bp, bc, rfl, hi, hM⟩ := hrel
      by_cases hlt : i < all.length
      · obtain ⟨x, hx⟩ := getD_some (rfl : all.length = all.length) hlt
        have hst := toF_succ (P := P) (wide := wide) (high := high) (m := m) (T := T) (st := (fw, bst)) hx
        have hxs := hon x (List.mem_of_getElem? hx)
        have hiI : (i : Int) < all.length := by omega
        have hfa := flagsL_at (T := T) hx
        have hbk := fun h => flags_back (T := T) hx h
        have hfs := flags_set hap P T hx
        rcases (slcC hM.pla).2 with ⟨-, e⟩ | ⟨lb, lo, rfl, hlb, hEl⟩
        · rw [e] at hx; cases hx
        obtain ⟨c0, c1, c2⟩ := hEl.sta hx
        obtain ⟨y1, -⟩ := hM.blk.walk
        have bl := hM.blk.lt
        have k1 : wr.cell? ⟨gk, i, none⟩ = some (.bool (inT T x)) := by rw [hM.tak.cell]; exact bolR_at hfa
        have kl := hM.tak.lt
        have hpw : pb < wr.heap.size := Nat.lt_of_lt_of_le hpb hM.ext.size
        have e1 : wr.cell? ⟨pb, po + T.length * 3, none⟩ = some (.string q.name) := (hM.ext.walk.1 _ _ hpb).trans e0
        have hck := hM.ckl
        have hEa : Ext wr (wr.alloc (.cells #[.string x.name, .int .i64 x.row, .int .i64 x.place] 46)) := (Ext.refl _).alloc _
        have hMa := hM.more hEa
        have hMr := Lib.hid hM
        generalize toF P wide high all m T (fw, bst) i = st at *
        replace hst := Lib.hid hst
        replace hfa := Lib.hid hfa
        replace hbk := Lib.hid hbk
        replace hfs := Lib.hid hfs
        replace hx := Lib.hid hx
        replace hMa := Lib.hid hMa
        clear hEl hM
        cases hin : inT T x
        · rw [hin] at k1
          have hst2 : stepF P wide high all m T st x = if hidT P wide high (nxt P T x) < st.1 then leF P wide high all m (nxt P T x) st else st := by unfold stepF; rw [hin]; rfl
          rw [hst2] at hst
          replace hst := Lib.hid hst.out
          clear hst2
          go_upto_region 8 with fail
          obtain ⟨W1, hW1⟩ : ∃ W, W = wr.alloc (.cells #[.string q.name, .int .i64 x.row, .int .i64 x.place] 46) := ⟨_, rfl⟩
          have hE1 : Ext wr W1 := by rw [hW1]; exact (Ext.refl _).alloc _
          have hY1 : Blk W1 wr.heap.size 46 #[.string q.name, .int .i64 x.row, .int .i64 x.place] := by rw [hW1]; exact Blk.new' rfl
          have hM1 := hMr.out.more hE1
          rw [← hW1]
          clear hW1 hE1 hMr hMa hEa y1 bl k1 kl e1 c0 c1 c2 hlb
          have hput : [Value.string q.name, .int .i64 x.row, .int .i64 x.place] = staC (putN P T.length x) := by unfold staC putN; rw [hqn.out]
          have hT' := svT_next hT.out hTP.out hxs
          have hnl := nxt_len P T x
          have hn4 : (nxt P T x).length ≤ 4 := by have := hTP.out; omega
          have hTl : T.length ≤ 4 := by omega
          have hcnt := fun u => count_hid P wide high (nxt P T x) hn4 u
          replace hput := Lib.hid hput
          replace hT' := Lib.hid hT'
          replace hM1 := Lib.hid hM1
          replace hcnt := Lib.hid hcnt
          replace hnl := Lib.hid hnl
          refine wp_region_facts [0] [([], false, false), ([], false, false), ([1], false, false), ([1, 2], false, false), ([1, 2, 3], false, false), ([], false, false), ([5], false, true)] (Ext) Ext (fun _ => True) (by kernel_rfl) (by kernel_rfl) Ext.refl (fun _ _ _ => Ext.trans) (fun _ _ h => h) (fun _ _ h => h.size) (fun _ _ h _ => h) trivial ?_
          dsimp only [List.length_cons, List.length_nil, List.drop_succ_cons, List.drop_zero, List.drop_nil]
          refine fac_late 0 rfl rfl Ext.refl (fun _ _ h _ => h) rfl rfl (fun _ _ _ _ h => h) ?_
          apply Exists.intro
          refine ⟨fun sv w' hw' hfa => ?_, ?_⟩
          · refine ⟨rfl, fun w2 => ?_⟩
            simp only [putsL]
            change pureTo _ _ (Sem.run _ (execOp (Act.eval _) _) _)
            try simp only [Act.put, List.setIfInBounds_toArray, List.set_cons_succ, List.set_cons_zero]
            simp [go_sem, pureTo]
            all_goals try simp (disch := omega) only [IntWalk.i64_in]
            all_goals first
              | rfl
          refine fac_quiet 1 rfl rfl rfl (fun _ _ h _ => h) rfl rfl ?_
          apply Exists.intro
          refine ⟨fun sv w' hw' hfa => ?_, ?_⟩
          · refine ⟨rfl, ?_⟩
            simp only [putsL]
            change quietTo _ _ _ _ (Sem.run _ (execOp (Act.eval _) _) _)
            try simp only [Act.put, List.setIfInBounds_toArray, List.set_cons_succ, List.set_cons_zero]
            simp [go_sem, quietTo, Ext.refl]
            all_goals first
              | rfl
          refine fac_quiet 2 rfl rfl rfl (fun _ _ h _ => h) rfl rfl ?_
          apply Exists.intro
          refine ⟨fun sv w' hw' hfa => ?_, ?_⟩
          · obtain ⟨f1, -⟩ := hfa
            replace f1 : sv 1 = _ := f1
            try dsimp only at f1
            refine ⟨rfl, ?_⟩
            simp only [putsL]
            change quietTo _ _ _ _ (Sem.run _ (execOp (Act.eval (Act.put _ (some 60) (sv 1))) _) _)
            try simp only [Act.put, List.setIfInBounds_toArray, List.set_cons_succ, List.set_cons_zero]
            simp [go_sem, quietTo, Ext.refl, f1]
            all_goals first
              | rfl
          refine fac_quiet 3 rfl rfl rfl (fun _ _ h _ => h) rfl rfl ?_
          apply Exists.intro
          refine ⟨fun sv w' hw' hfa => ?_, ?_⟩
          · obtain ⟨_, f2, -⟩ := hfa
            replace f2 : sv 2 = _ := f2
            try dsimp only at f2
            refine ⟨rfl, ?_⟩
            simp only [putsL]
            change quietTo _ _ _ _ (Sem.run _ (execOp (Act.eval (Act.put (Act.put _ (some 61) (sv 2)) (some 60) (sv 1))) _) _)
            try simp only [Act.put, List.setIfInBounds_toArray, List.set_cons_succ, List.set_cons_zero]
            simp [go_sem, quietTo, Ext.refl, f2]
            all_goals first
              | rfl
          refine fac_quiet 4 rfl rfl rfl (fun _ _ h _ => h) rfl rfl ?_
          apply Exists.intro
          refine ⟨fun sv w' hw' hfa => ?_, ?_⟩
          · obtain ⟨_, _, f3, -⟩ := hfa
            replace f3 : sv 3 = _ := f3
            try dsimp only at f3
            have hk9 := (Ext.refl W1).drew.trans hw'; obtain ⟨y1, -⟩ := (hM1.out.blk.ext hk9).walk; obtain ⟨y2, -⟩ := (hY1.ext hk9).walk
            refine ⟨rfl, ?_⟩
            simp only [putsL]
            change quietTo _ _ _ _ (Sem.run _ (execOp (Act.eval (Act.put (Act.put (Act.put _ (some 62) (sv 3)) (some 61) (sv 2)) (some 60) (sv 1))) _) _)
            try simp only [Act.put, List.setIfInBounds_toArray, List.set_cons_succ, List.set_cons_zero]
            simp [go_sem, quietTo, Ext.refl, ↓IntWalk.iteOmega, f3, y1]
            all_goals try simp (disch := omega) only [IntWalk.i64_in]
            all_goals first
              | rfl
          refine fac_quiet 5 rfl rfl rfl (fun _ _ h _ => h) rfl rfl ?_
          apply Exists.intro
          refine ⟨fun sv w' hw' hfa => ?_, ?_⟩
          · have hk9 := (Ext.refl W1).drew.trans hw'; obtain ⟨y1, -⟩ := (hM1.out.blk.ext hk9).walk; obtain ⟨y2, -⟩ := (hY1.ext hk9).walk
            refine ⟨rfl, ?_⟩
            simp only [putsL]
            change quietTo _ _ _ _ (Sem.run _ (execOp (Act.eval _) _) _)
            try simp only [Act.put, List.setIfInBounds_toArray, List.set_cons_succ, List.set_cons_zero]
            simp [go_sem, quietTo, Ext.refl, ↓IntWalk.iteOmega, y2]
            all_goals try simp (disch := omega) only [IntWalk.i64_in]
            all_goals first
              | rfl
          refine fac_row 6 rfl rfl rfl (fun _ _ h _ => h) (fun _ _ h => h.size) (fun _ _ _ _ _ he _ hb => hb.ext he) ?_
          apply Exists.intro
          apply Exists.intro
          apply Exists.intro
          apply Exists.intro
          refine ⟨fun sv w' hw' hfa => ?_, ?_⟩
          · obtain ⟨f5, -⟩ := hfa
            replace f5 : sv 5 = _ := f5
            try dsimp only at f5
            refine ⟨rfl, ?_⟩
            simp only [putsL]
            change rowTo _ _ _ _ _ (Sem.run _ (execOp (Act.eval (Act.put _ (some 64) (sv 5))) _) _)
            try simp only [Act.put, List.setIfInBounds_toArray, List.set_cons_succ, List.set_cons_zero]
            simp [go_sem, rowTo, Ext.refl, f5]
            all_goals try simp (disch := omega) only [IntWalk.i64_in]
            all_goals first
              | rfl
              | exact ⟨rfl, rfl⟩
              | exact ⟨⟨rfl, rfl⟩, rfl⟩
          refine fac_nil fun xq wrq herq hfrq hcrq holdq hapq => ?_
          obtain ⟨f0, f1, f2, f3, f4, f5, f6, -⟩ := hfrq
          replace f0 : xq 0 = _ := f0
          try dsimp only at f0
          replace f1 : xq 1 = _ := f1
          try dsimp only at f1
          replace f2 : xq 2 = _ := f2
          try dsimp only at f2
          replace f3 : xq 3 = _ := f3
          try dsimp only at f3
          replace f4 : xq 4 = _ := f4
          try dsimp only at f4
          replace f5 : xq 5 = _ := f5
          try dsimp only at f5
          obtain ⟨g6, f6, l6, b6⟩ := f6
          replace f6 : xq 6 = _ := f6
          obtain ⟨p6, q6⟩ := b6.walk
          change wpList _ _ _ _ (Act.put (Act.put (Act.put (Act.put (Act.put (Act.put (Act.put _ (some 59) (xq 0)) (some 60) (xq 1)) (some 61) (xq 2)) (some 62) (xq 3)) (some 63) (xq 4)) (some 64) (xq 5)) (some 65) (xq 6)) _
          simp only [putsL, Nat.reduceAdd, List.drop_succ_cons, List.drop_zero, List.drop_nil, Act.put, List.setIfInBounds_toArray, List.set_cons_succ, List.set_cons_zero]
          try simp only [f0, f1, f2, f3, f4, f5, f6]
          clear f0 f1 f2 f3 f4 f5
          clear holdq hapq
          have hkq := (Ext.refl W1).drew.trans herq
          have hMq := hM1.out.more hkq
          have hqs := hMq.tak.lt
          clear hM1
          go_upto_region 9 with (at_builtin; go_loud (refine wp_appL _ (.tmp 63) (.tmp 65) 34 46 3 32 _ rfl rfl Tryz.underlying34 staInfo rfl (by decide) (by decide) (gk + 1) np T.length nc _ rfl hMq.now _ [.string q.name, .int .i64 x.row, .int .i64 x.place] rfl rfl b6 (by simp [Value.oneCell']) (by omega) (by omega) ?_; intro b1 c1 w6 hown6 hgrow6 hloc6; rw [hput.out] at hown6; have hM6 := hMq.app hown6 hgrow6 hloc6; have hB6 : Blk w6 v 77 _ := (hgrow6.block v hMq.blk.lt fun e => by have := (own_block_ge hMq.now e.symm).1; have := hMq.vk; omega).trans hMq.blk; obtain ⟨z1, z2⟩ := hB6.walk; have zl := hB6.lt))
          obtain ⟨W2, hW2⟩ : ∃ W, W = w6.setCell ⟨v, 5, none⟩ (.slice (some ⟨b1, 0, none⟩) (T.length + 1) c1) := ⟨_, rfl⟩
          rw [← hW2] at hM6
          change Code.wp _ _ _ _ (w6.setCell ⟨v, 5, none⟩ (.slice (some ⟨b1, 0, none⟩) (T.length + 1) c1))
          rw [← hW2]
          change SvM _ _ _ _ _ _ _ _ _ _ _ _ _ _ _ _ _ _ _ _ (nxt P T x) _ _ _ _ at hM6
          clear hW2 hMq hown6 hgrow6 hloc6 hB6 z1 z2 zl
          have hwi := svWith_any (hM6.read (by omega)) hT'.out rfl hn4
          replace hwi := Lib.hid hwi
          go_upto_region 10 with (go_at_call 80; (with_reducible refine Calls.mono hwi.out ?_); rintro e w3 ⟨rfl, hb3⟩)
          have hM3 := hM6.more hb3
          clear hwi hM6 hb3
          generalize hhd : hidT P wide high (nxt P T x) = hd at *
          replace hhd := Lib.hid hhd
          replace hM3 := Lib.hid hM3
          by_cases hless : hd < st.1
          · rw [if_pos hless] at hst
            replace hst := Lib.hid hst
            refine wp_region_facts [] [([], false, false), ([0], false, false), ([], false, false), ([2], false, false), ([2, 3], false, false), ([2, 3, 4], false, false), ([0, 1, 2, 3, 4, 5], false, false)] (Ext) Ext (fun _ => True) (by kernel_rfl) (by kernel_rfl) Ext.refl (fun _ _ _ => Ext.trans) (fun _ _ h => h) (fun _ _ h => h.size) (fun _ _ h _ => h) trivial ?_
            dsimp only [List.length_cons, List.length_nil, List.drop_succ_cons, List.drop_zero, List.drop_nil]
            refine fac_quiet 0 rfl rfl rfl (fun _ _ h _ => h) rfl rfl ?_
            apply Exists.intro
            refine ⟨fun sv w' hw' hfa => ?_, ?_⟩
            · refine ⟨rfl, ?_⟩
              simp only [putsL]
              change quietTo _ _ _ _ (Sem.run _ (execOp (Act.eval _) _) _)
              try simp only [Act.put, List.setIfInBounds_toArray, List.set_cons_succ, List.set_cons_zero]
              simp [go_sem, quietTo, Ext.refl]
              all_goals first
                | rfl
            refine fac_quiet 1 rfl rfl rfl (fun _ _ h _ => h) rfl rfl ?_
            apply Exists.intro
            refine ⟨fun sv w' hw' hfa => ?_, ?_⟩
            · obtain ⟨f0, -⟩ := hfa
              replace f0 : sv 0 = _ := f0
              try dsimp only at f0
              have hk9 := (Ext.refl w3).drew.trans hw'; obtain ⟨y1, -⟩ := (hM3.out.blk.ext hk9).walk
              refine ⟨rfl, ?_⟩
              simp only [putsL]
              change quietTo _ _ _ _ (Sem.run _ (execOp (Act.eval (Act.put _ (some 72) (sv 0))) _) _)
              try simp only [Act.put, List.setIfInBounds_toArray, List.set_cons_succ, List.set_cons_zero]
              simp [go_sem, quietTo, Ext.refl, ↓IntWalk.iteOmega, f0]
              all_goals try simp (disch := omega) only [IntWalk.i64_in]
              all_goals first
                | rfl
                | (exact hcnt.out _)
            refine fac_quiet 2 rfl rfl rfl (fun _ _ h _ => h) rfl rfl ?_
            apply Exists.intro
            refine ⟨fun sv w' hw' hfa => ?_, ?_⟩
            · refine ⟨rfl, ?_⟩
              simp only [putsL]
              change quietTo _ _ _ _ (Sem.run _ (execOp (Act.eval _) _) _)
              try simp only [Act.put, List.setIfInBounds_toArray, List.set_cons_succ, List.set_cons_zero]
              simp [go_sem, quietTo, Ext.refl]
              all_goals first
                | rfl
            refine fac_quiet 3 rfl rfl rfl (fun _ _ h _ => h) rfl rfl ?_
            apply Exists.intro
            refine ⟨fun sv w' hw' hfa => ?_, ?_⟩
            · obtain ⟨f2, -⟩ := hfa
              replace f2 : sv 2 = _ := f2
              try dsimp only at f2
              refine ⟨rfl, ?_⟩
              simp only [putsL]
              change quietTo _ _ _ _ (Sem.run _ (execOp (Act.eval (Act.put _ (some 74) (sv 2))) _) _)
              try simp only [Act.put, List.setIfInBounds_toArray, List.set_cons_succ, List.set_cons_zero]
              simp [go_sem, quietTo, Ext.refl, f2]
              all_goals first
                | rfl
            refine fac_quiet 4 rfl rfl rfl (fun _ _ h _ => h) rfl rfl ?_
            apply Exists.intro
            refine ⟨fun sv w' hw' hfa => ?_, ?_⟩
            · obtain ⟨_, f3, -⟩ := hfa
              replace f3 : sv 3 = _ := f3
              try dsimp only at f3
              refine ⟨rfl, ?_⟩
              simp only [putsL]
              change quietTo _ _ _ _ (Sem.run _ (execOp (Act.eval (Act.put (Act.put _ (some 75) (sv 3)) (some 74) (sv 2))) _) _)
              try simp only [Act.put, List.setIfInBounds_toArray, List.set_cons_succ, List.set_cons_zero]
              simp [go_sem, quietTo, Ext.refl, f3]
              all_goals first
                | rfl
            refine fac_quiet 5 rfl rfl rfl (fun _ _ h _ => h) rfl rfl ?_
            apply Exists.intro
            refine ⟨fun sv w' hw' hfa => ?_, ?_⟩
            · obtain ⟨_, _, f4, -⟩ := hfa
              replace f4 : sv 4 = _ := f4
              try dsimp only at f4
              have hk9 := (Ext.refl w3).drew.trans hw'; obtain ⟨y1, -⟩ := (hM3.out.blk.ext hk9).walk
              refine ⟨rfl, ?_⟩
              simp only [putsL]
              change quietTo _ _ _ _ (Sem.run _ (execOp (Act.eval (Act.put (Act.put (Act.put _ (some 76) (sv 4)) (some 75) (sv 3)) (some 74) (sv 2))) _) _)
              try simp only [Act.put, List.setIfInBounds_toArray, List.set_cons_succ, List.set_cons_zero]
              simp [go_sem, quietTo, Ext.refl, ↓IntWalk.iteOmega, f4, y1]
              all_goals try simp (disch := omega) only [IntWalk.i64_in]
              all_goals first
                | rfl
            refine fac_quiet 6 rfl rfl rfl (fun _ _ h _ => h) rfl rfl ?_
            apply Exists.intro
            refine ⟨fun sv w' hw' hfa => ?_, ?_⟩
            · obtain ⟨_, f1, _, _, _, f5, -⟩ := hfa
              replace f1 : sv 1 = _ := f1
              try dsimp only at f1
              replace f5 : sv 5 = _ := f5
              try dsimp only at f5
              have hk9 := (Ext.refl w3).drew.trans hw'; obtain ⟨y1, -⟩ := (hM3.out.blk.ext hk9).walk
              refine ⟨rfl, ?_⟩
              simp only [putsL]
              change quietTo _ _ _ _ (Sem.run _ (execOp (Act.eval (Act.put (Act.put (Act.put (Act.put (Act.put (Act.put _ (some 77) (sv 5)) (some 76) (sv 4)) (some 75) (sv 3)) (some 74) (sv 2)) (some 73) (sv 1)) (some 72) (sv 0))) _) _)
              try simp only [Act.put, List.setIfInBounds_toArray, List.set_cons_succ, List.set_cons_zero]
              simp [go_sem, quietTo, Ext.refl, ↓IntWalk.iteOmega, f1, f5, hless]
              all_goals try simp (disch := omega) only [IntWalk.i64_in]
              all_goals first
                | rfl
            refine fac_nil fun xr wrr herr hfrr hcrr holdr hapr => ?_
            obtain ⟨f0, f1, f2, f3, f4, f5, f6, -⟩ := hfrr
            replace f0 : xr 0 = _ := f0
            try dsimp only at f0
            replace f1 : xr 1 = _ := f1
            try dsimp only at f1
            replace f2 : xr 2 = _ := f2
            try dsimp only at f2
            replace f3 : xr 3 = _ := f3
            try dsimp only at f3
            replace f4 : xr 4 = _ := f4
            try dsimp only at f4
            replace f5 : xr 5 = _ := f5
            try dsimp only at f5
            replace f6 : xr 6 = _ := f6
            try dsimp only at f6
            change wpList _ _ _ _ (Act.put (Act.put (Act.put (Act.put (Act.put (Act.put (Act.put _ (some 72) (xr 0)) (some 73) (xr 1)) (some 74) (xr 2)) (some 75) (xr 3)) (some 76) (xr 4)) (some 77) (xr 5)) (some 78) (xr 6)) _
            simp only [putsL, Nat.reduceAdd, List.drop_succ_cons, List.drop_zero, List.drop_nil, Act.put, List.setIfInBounds_toArray, List.set_cons_succ, List.set_cons_zero]
            try simp only [f0, f1, f2, f3, f4, f5, f6]
            clear f0 f1 f2 f3 f4 f5 f6
            clear holdr hapr
            have hMr := hM3.out.more ((Ext.refl w3).drew.trans herr)
            have k1 : wrr.cell? ⟨gk, i, none⟩ = some (.bool false) := by rw [hMr.tak.cell]; exact bolR_at (by rw [hfa.out, hin])
            have k2 : ∀ o, wrr.frozen? ⟨gk, o, none⟩ = false := hMr.tak.frozen
            obtain ⟨z1, z2⟩ := hMr.blk.walk
            have zl := hMr.blk.lt
            have kl := hMr.tak.lt
            have hM4 := hMr.setT i true
            rw [hfs.out] at hM4
            clear hMr hM3 hcnt
            go_upto_region 12 with fail
            obtain ⟨W4, hW4⟩ : ∃ W, W = wrr.setCell ⟨gk, i, none⟩ (.bool true) := ⟨_, rfl⟩
            rw [← hW4] at hM4
            change Code.wp _ _ _ _ (wrr.setCell ⟨gk, i, none⟩ (.bool true))
            rw [← hW4]
            clear hW4 k1 k2 z1 z2 zl kl
            have hih := ih.out (nxt P T x) W4 _ _ _ _ st.1 st.2 (by have := hnl.out; have := hm.out; omega) hT'.out hM4
            replace hih := Lib.hid hih
            clear hM4
            go_upto_region 13 with (go_at_call 40; (with_reducible refine Calls.mono hih.out ?_); rintro e w5 ⟨rfl, np5, nc5, bp5, bc5, hM5⟩)
            obtain ⟨b5, rfl, hb5g, hb5l, hcap5⟩ := hM5.nform (by have := hnl.out; omega)
            have k1 : w5.cell? ⟨gk, i, none⟩ = some (.bool true) := by rw [hM5.tak.cell]; exact bolR_at (by rw [flagsL_at hx.out, inT_nxt, sameP_self, Bool.or_true])
            have k2 : ∀ o, w5.frozen? ⟨gk, o, none⟩ = false := hM5.tak.frozen
            obtain ⟨z1, z2⟩ := hM5.blk.walk
            have zl := hM5.blk.lt
            have kl := hM5.tak.lt
            have hM6 := hM5.setT i false
            rw [← hfs.out, hbk.out hin] at hM6
            clear hM5 hih
            go_upto_region 14 with fail
            obtain ⟨W5, hW5⟩ : ∃ W, W = w5.setCell ⟨gk, i, none⟩ (.bool false) := ⟨_, rfl⟩
            rw [← hW5] at hM6
            change Code.wp _ _ _ _ (w5.setCell ⟨gk, i, none⟩ (.bool false))
            rw [← hW5]
            clear hW5 k1 k2 z1 z2 zl kl
            obtain ⟨z1, z2⟩ := hM6.blk.walk
            have zl := hM6.blk.lt
            rw [hnl.out] at z1
            have hcut := hM6.cut (m := T.length) (by have := hnl.out; omega)
            rw [show (nxt P T x).take T.length = T from List.take_left' rfl] at hcut
            obtain ⟨b9, e9, -, -, hcap⟩ := hM6.nform (by have := hnl.out; omega)
            have hcapI : T.length ≤ nc5 := by have := hnl.out; omega
            clear e9 hcap
            go_wp2
            go_roundw
            case rel => exact ⟨i + 1, _, _, _, _, by go_num, by omega, by rw [hst.out]; exact hcut⟩
            case measure => simp [intOf]; omega
          · rw [if_neg hless] at hst
            replace hst := Lib.hid hst
            refine wp_region_facts [] [([], false, false), ([0], false, false), ([], false, false), ([2], false, false), ([2, 3], false, false), ([2, 3, 4], false, false), ([0, 1, 2, 3, 4, 5], false, false)] (Ext) Ext (fun _ => True) (by kernel_rfl) (by kernel_rfl) Ext.refl (fun _ _ _ => Ext.trans) (fun _ _ h => h) (fun _ _ h => h.size) (fun _ _ h _ => h) trivial ?_
            dsimp only [List.length_cons, List.length_nil, List.drop_succ_cons, List.drop_zero, List.drop_nil]
            refine fac_quiet 0 rfl rfl rfl (fun _ _ h _ => h) rfl rfl ?_
            apply Exists.intro
            refine ⟨fun sv w' hw' hfa => ?_, ?_⟩
            · refine ⟨rfl, ?_⟩
              simp only [putsL]
              change quietTo _ _ _ _ (Sem.run _ (execOp (Act.eval _) _) _)
              try simp only [Act.put, List.setIfInBounds_toArray, List.set_cons_succ, List.set_cons_zero]
              simp [go_sem, quietTo, Ext.refl]
              all_goals first
                | rfl
            refine fac_quiet 1 rfl rfl rfl (fun _ _ h _ => h) rfl rfl ?_
            apply Exists.intro
            refine ⟨fun sv w' hw' hfa => ?_, ?_⟩
            · obtain ⟨f0, -⟩ := hfa
              replace f0 : sv 0 = _ := f0
              try dsimp only at f0
              have hk9 := (Ext.refl w3).drew.trans hw'; obtain ⟨y1, -⟩ := (hM3.out.blk.ext hk9).walk
              refine ⟨rfl, ?_⟩
              simp only [putsL]
              change quietTo _ _ _ _ (Sem.run _ (execOp (Act.eval (Act.put _ (some 72) (sv 0))) _) _)
              try simp only [Act.put, List.setIfInBounds_toArray, List.set_cons_succ, List.set_cons_zero]
              simp [go_sem, quietTo, Ext.refl, ↓IntWalk.iteOmega, f0]
              all_goals try simp (disch := omega) only [IntWalk.i64_in]
              all_goals first
                | rfl
                | (exact hcnt.out _)
            refine fac_quiet 2 rfl rfl rfl (fun _ _ h _ => h) rfl rfl ?_
            apply Exists.intro
            refine ⟨fun sv w' hw' hfa => ?_, ?_⟩
            · refine ⟨rfl, ?_⟩
              simp only [putsL]
              change quietTo _ _ _ _ (Sem.run _ (execOp (Act.eval _) _) _)
              try simp only [Act.put, List.setIfInBounds_toArray, List.set_cons_succ, List.set_cons_zero]
              simp [go_sem, quietTo, Ext.refl]
              all_goals first
                | rfl
            refine fac_quiet 3 rfl rfl rfl (fun _ _ h _ => h) rfl rfl ?_
            apply Exists.intro
            refine ⟨fun sv w' hw' hfa => ?_, ?_⟩
            · obtain ⟨f2, -⟩ := hfa
              replace f2 : sv 2 = _ := f2
              try dsimp only at f2
              refine ⟨rfl, ?_⟩
              simp only [putsL]
              change quietTo _ _ _ _ (Sem.run _ (execOp (Act.eval (Act.put _ (some 74) (sv 2))) _) _)
              try simp only [Act.put, List.setIfInBounds_toArray, List.set_cons_succ, List.set_cons_zero]
              simp [go_sem, quietTo, Ext.refl, f2]
              all_goals first
                | rfl
            refine fac_quiet 4 rfl rfl rfl (fun _ _ h _ => h) rfl rfl ?_
            apply Exists.intro
            refine ⟨fun sv w' hw' hfa => ?_, ?_⟩
            · obtain ⟨_, f3, -⟩ := hfa
              replace f3 : sv 3 = _ := f3
              try dsimp only at f3
              refine ⟨rfl, ?_⟩
              simp only [putsL]
              change quietTo _ _ _ _ (Sem.run _ (execOp (Act.eval (Act.put (Act.put _ (some 75) (sv 3)) (some 74) (sv 2))) _) _)
              try simp only [Act.put, List.setIfInBounds_toArray, List.set_cons_succ, List.set_cons_zero]
              simp [go_sem, quietTo, Ext.refl, f3]
              all_goals first
                | rfl
            refine fac_quiet 5 rfl rfl rfl (fun _ _ h _ => h) rfl rfl ?_
            apply Exists.intro
            refine ⟨fun sv w' hw' hfa => ?_, ?_⟩
            · obtain ⟨_, _, f4, -⟩ := hfa
              replace f4 : sv 4 = _ := f4
              try dsimp only at f4
              have hk9 := (Ext.refl w3).drew.trans hw'; obtain ⟨y1, -⟩ := (hM3.out.blk.ext hk9).walk
              refine ⟨rfl, ?_⟩
              simp only [putsL]
              change quietTo _ _ _ _ (Sem.run _ (execOp (Act.eval (Act.put (Act.put (Act.put _ (some 76) (sv 4)) (some 75) (sv 3)) (some 74) (sv 2))) _) _)
              try simp only [Act.put, List.setIfInBounds_toArray, List.set_cons_succ, List.set_cons_zero]
              simp [go_sem, quietTo, Ext.refl, ↓IntWalk.iteOmega, f4, y1]
              all_goals try simp (disch := omega) only [IntWalk.i64_in]
              all_goals first
                | rfl
            refine fac_quiet 6 rfl rfl rfl (fun _ _ h _ => h) rfl rfl ?_
            apply Exists.intro
            refine ⟨fun sv w' hw' hfa => ?_, ?_⟩
            · obtain ⟨_, f1, _, _, _, f5, -⟩ := hfa
              replace f1 : sv 1 = _ := f1
              try dsimp only at f1
              replace f5 : sv 5 = _ := f5
              try dsimp only at f5
              have hk9 := (Ext.refl w3).drew.trans hw'; obtain ⟨y1, -⟩ := (hM3.out.blk.ext hk9).walk
              refine ⟨rfl, ?_⟩
              simp only [putsL]
              change quietTo _ _ _ _ (Sem.run _ (execOp (Act.eval (Act.put (Act.put (Act.put (Act.put (Act.put (Act.put _ (some 77) (sv 5)) (some 76) (sv 4)) (some 75) (sv 3)) (some 74) (sv 2)) (some 73) (sv 1)) (some 72) (sv 0))) _) _)
              try simp only [Act.put, List.setIfInBounds_toArray, List.set_cons_succ, List.set_cons_zero]
              simp [go_sem, quietTo, Ext.refl, ↓IntWalk.iteOmega, f1, f5, hless]
              all_goals try simp (disch := omega) only [IntWalk.i64_in]
              all_goals first
                | rfl
            refine fac_nil fun xr wrr herr hfrr hcrr holdr hapr => ?_
            obtain ⟨f0, f1, f2, f3, f4, f5, f6, -⟩ := hfrr
            replace f0 : xr 0 = _ := f0
            try dsimp only at f0
            replace f1 : xr 1 = _ := f1
            try dsimp only at f1
            replace f2 : xr 2 = _ := f2
            try dsimp only at f2
            replace f3 : xr 3 = _ := f3
            try dsimp only at f3
            replace f4 : xr 4 = _ := f4
            try dsimp only at f4
            replace f5 : xr 5 = _ := f5
            try dsimp only at f5
            replace f6 : xr 6 = _ := f6
            try dsimp only at f6
            change wpList _ _ _ _ (Act.put (Act.put (Act.put (Act.put (Act.put (Act.put (Act.put _ (some 72) (xr 0)) (some 73) (xr 1)) (some 74) (xr 2)) (some 75) (xr 3)) (some 76) (xr 4)) (some 77) (xr 5)) (some 78) (xr 6)) _
            simp only [putsL, Nat.reduceAdd, List.drop_succ_cons, List.drop_zero, List.drop_nil, Act.put, List.setIfInBounds_toArray, List.set_cons_succ, List.set_cons_zero]
            try simp only [f0, f1, f2, f3, f4, f5, f6]
            clear f0 f1 f2 f3 f4 f5 f6
            clear holdr hapr
            have hMr := hM3.out.more ((Ext.refl w3).drew.trans herr)
            obtain ⟨z1, z2⟩ := hMr.blk.walk
            have zl := hMr.blk.lt
            rw [hnl.out] at z1
            have hcut := hMr.cut (m := T.length) (by have := hnl.out; omega)
            rw [show (nxt P T x).take T.length = T from List.take_left' rfl] at hcut
            obtain ⟨b9, e9, -, -, hcap⟩ := hMr.nform (by have := hnl.out; omega)
            have hcapI : T.length ≤ c1 := by have := hnl.out; omega
            clear e9 hcap
            go_wp2
            go_roundw
            case rel => exact ⟨i + 1, _, _, _, _, by go_num, by omega, by rw [hst.out]; exact hcut⟩
            case measure => simp [intOf]; omega
        · rw [hin] at k1
          have hst2 : stepF P wide high all m T st x = st := by unfold stepF; rw [hin]; rfl
          rw [hst2] at hst
          replace hst := Lib.hid hst.out
          go_wp2
          go_roundw
          case rel => exact ⟨i + 1, np, nc, bp, bc, by go_num, by omega, by rw [hst.out]; exact hMa.out⟩
          case measure => simp [intOf]; omega
      · obtain rfl : i = all.length := by omega
        replace hM := Lib.hid hM
        go_wp2
        go_end0
        exact ⟨rfl, np, nc, bp, bc, hM.out⟩
end
end Go.Proofs.YtfbegdcmnfkhgaaGreatDoor
