/- load puts all further groups into buses, or tells that they do not fit. Conditions: the groups and the loader lie in memory. -/
import Derived.Test.YtlmbpgjdepmlcaaDoorBusD
namespace Go.Proofs.YtlmbpgjdepmlcaaDoor
open Go Go.RowKit

/-- What load answers. -/
def LoadRes (w0 : World) (l : Nat) (gv : Value) (seat : Int) (most : Nat) (ns left : List Int) (ins : List Nat) (e : Ending) (w' : World) : Prop :=
  ∃ r : Bool, e = .returned (.bool r) ∧ (r = true → ∃ bs lp lc ip ic left', ldF seat most ns left = some bs ∧ LdM w0 w' l gv seat most lp lc ip ic left' (ins ++ bs)) ∧
    (r = false → ldF seat most ns left = none ∧ ∃ lp lc ip ic, LdM w0 w' l gv seat most lp lc ip ic left ins)

theorem fresh_all {seat : Int} {left : List Int} {j : Nat} (hs : 0 ≤ seat ∧ seat ≤ 100) (hl : ∀ x ∈ left, 0 ≤ x ∧ x ≤ 100) : ∀ x ∈ freshL seat left j, 0 ≤ x ∧ x ≤ 100 := by
  intro x hx
  unfold freshL at hx
  split at hx
  · rcases List.mem_append.1 hx with h | h
    · exact hl x h
    · obtain rfl : x = seat := by simpa using h
      exact hs
  · exact hl x hx
theorem fresh_most {seat : Int} {left : List Int} {j most : Nat} (hj : j < most) (hl : left.length ≤ most) : (freshL seat left j).length ≤ most := by
  unfold freshL
  split
  · rw [List.length_append, List.length_singleton]; omega
  · exact hl
theorem set_all {l : List Int} {j : Nat} {y : Int} (hy : 0 ≤ y ∧ y ≤ 100) (hl : ∀ x ∈ l, 0 ≤ x ∧ x ≤ 100) : ∀ x ∈ l.set j y, 0 ≤ x ∧ x ≤ 100 := fun x hx => by
  rcases List.mem_or_eq_of_mem_set hx with h | h
  · exact hl x h
  · rw [h]; exact hy

set_option maxRecDepth 100000 in
set_option maxHeartbeats 6400000 in
theorem load_any (w0 : World) (l gc : Nat) (gp : Option Addr) (L : List GrpV) (seat : Int) (most : Nat) (hG : (gp = none ∧ L = []) ∨ ∃ b off, gp = some ⟨b, off, none⟩ ∧ b < w0.heap.size ∧ Elems 2 grpC w0 b off L) (hL : L.length ≤ 12) (hm : ∀ x ∈ L, 1 ≤ x.many ∧ x.many ≤ 100) (hs : 0 ≤ seat ∧ seat ≤ 100) (hmost : most ≤ 12) :
    ∀ (ns : List Int) (ins : List Nat) (left : List Int) (w : World) (lp : Option Addr) (lc : Nat) (ip : Option Addr) (ic : Nat), (L.drop ins.length).map (·.many) = ns → ins.length ≤ L.length → (∀ x ∈ left, 0 ≤ x ∧ x ≤ 100) → left.length ≤ most → LdM w0 w l (.slice gp L.length gc) seat most lp lc ip ic left ins →
      Calls Tryd.prog 46 #[.pointer (some ⟨l, 0, none⟩)] w (LoadRes w0 l (.slice gp L.length gc) seat most ns left ins) := by
  intro ns
  induction ns with
  | nil =>
    intro ins left w lp lc ip ic hns hil hlx hll hM
    have hk : ins.length = L.length := by
      have h1 := congrArg List.length hns
      rw [List.length_map, List.length_drop, List.length_nil] at h1
      omega
    have hk2 : (ins.length : Int) = (L.length : Int) := by omega
    obtain ⟨z1, -⟩ := hM.blk.walk
    replace hM := Lib.hid hM
    clear hG hm hns hlx
    go_enter Tryd.func46, Tryd.ntmps46
    go_wp2
    go_ret
    exact ⟨true, rfl, (fun _ => ⟨[], lp, lc, ip, ic, left, rfl, by rw [List.append_nil]; exact hM.out⟩), fun h => by cases h⟩
  | cons n ns ih =>
    intro ins left w lp lc ip ic hns hil hlx hll hM
    have hk : ins.length < L.length := by
      have h1 := congrArg List.length hns
      rw [List.length_map, List.length_drop, List.length_cons] at h1
      omega
    obtain ⟨x, hx⟩ := getD_some (rfl : L.length = L.length) hk
    have hdr : n = x.many ∧ (L.drop (ins.length + 1)).map (·.many) = ns := by
      have h1 : L.drop ins.length = x :: L.drop (ins.length + 1) := by
        obtain ⟨h2, h3⟩ := List.getElem?_eq_some_iff.1 hx
        rw [List.drop_eq_getElem_cons h2, h3]
      rw [h1, List.map_cons, List.cons.injEq] at hns
      exact ⟨hns.1.symm, hns.2⟩
    obtain ⟨rfl, hns'⟩ := hdr
    obtain ⟨hn1, hn2⟩ := hm x (List.mem_of_getElem? hx)
    rcases hG with ⟨_, rfl⟩ | ⟨b, off, rfl, hb, hE⟩
    · cases hx
    have hlow := hM.low
    have e1 := ((hE.ext hM.ext hb).grp hx).2
    have hbw := Nat.lt_of_lt_of_le hb hM.ext.size
    have hkI : (ins.length : Int) < (L.length : Int) := by omega
    have hkN : ¬ (ins.length : Int) = (L.length : Int) := by omega
    obtain ⟨z1, -⟩ := hM.blk.walk
    replace hM := Lib.hid hM
    replace ih := Lib.hid ih
    replace hE := Lib.hid hE
    replace hm := Lib.hid hm
    replace hns' := Lib.hid hns'
    replace hlx := Lib.hid hlx
    replace hx := Lib.hid hx
    clear hns
    go_enter Tryd.func46, Tryd.ntmps46
    go_wp2
    rw [show ((ins.length : Int) == (L.length : Int)) = false from beq_eq_false_iff_ne.2 hkN]
    go_loopw [5] (fun v5 wr => ∃ (j : Nat) (lp : Option Addr) (lc : Nat) (ip : Option Addr) (ic : Nat), v5 = .int .i64 j ∧ j ≤ left.length + 1 ∧ j ≤ most ∧ (∀ q, q < j → putB (ldF seat most ns) seat x.many left q = none) ∧ LdM w0 wr l (.slice (some ⟨b, off, none⟩) L.length gc) seat most lp lc ip ic left ins) (fun v5 _ => 14 - (intOf v5).toNat)
    case atStart => exact ⟨0, lp, lc, ip, ic, rfl, by omega, by omega, (fun q hq => absurd hq (Nat.not_lt_zero _)), hM.out⟩
    case round =>
      clear hM z1 e1 hbw
      obtain ⟨j, lp, lc, ip, ic, rfl, hj1, hj2, hno, hM⟩ := hrel
      obtain ⟨z1, z2⟩ := hM.blk.walk
      replace hno := Lib.hid hno
      by_cases hj : j ≤ left.length ∧ j < most
      · obtain ⟨hja, hjb⟩ := hj
        replace hM := Lib.hid hM
        go_upto_if 51 with fail
        generalize hfr : ((j : Int) == (left.length : Int)) = fr
        have hl2 := fresh_len (seat := seat) hja
        have hcap := fresh_at (seat := seat) (left := left) hja
        go_cut [52] (fun _ w' => ∃ (lp : Option Addr) (lc : Nat) (ip : Option Addr) (ic : Nat), LdM w0 w' l (.slice (some ⟨b, off, none⟩) L.length gc) seat most lp lc ip ic (freshL seat left j) ins)
        case first =>
          cases fr
          · have hne : ¬ j = left.length := fun e => by subst e; simp at hfr
            have hfl : freshL seat left j = left := by unfold freshL; rw [if_neg hne]
            replace hfl := Lib.hid hfl
            clear hl2 hcap hne
            go_wp2
            go_meet
            exact ⟨lp, lc, ip, ic, by rw [hfl.out]; exact hM.out⟩
          · have hje : j = left.length := by have := eq_of_beq hfr; omega
            have hfl : freshL seat left j = left ++ [seat] := by unfold freshL; rw [if_pos hje]
            replace hfl := Lib.hid hfl
            clear hl2 hcap hje
            go_upto_region 10 with fail
            refine wp_region_facts [0] [([], false, false), ([], false, false), ([1], false, false), ([1, 2], false, false), ([1, 2, 3], false, false), ([], false, false), ([5], false, false), ([5, 6], false, false), ([5, 6, 7], false, false), ([5, 6, 7, 8], false, true)] (Ext) Ext (fun _ => True) (by kernel_rfl) (by kernel_rfl) Ext.refl (fun _ _ _ => Ext.trans) (fun _ _ h => h) (fun _ _ h => h.size) (fun _ _ h _ => h) trivial ?_
            dsimp only [List.length_cons, List.length_nil, List.drop_succ_cons, List.drop_zero, List.drop_nil]
            refine fac_late 0 rfl rfl Ext.refl (fun _ _ h _ => h) rfl rfl (fun _ _ _ _ h => h) ?_
            apply Exists.intro
            refine ⟨fun sv w' hw' hfa => ?_, ?_⟩
            · refine ⟨rfl, fun w2 => ?_⟩
              simp only [putsL]
              change pureTo _ _ (Sem.run _ (execOp (Act.eval _) _) _)
              try simp only [Act.put, List.setIfInBounds_toArray, List.set_cons_succ, List.set_cons_zero]
              simp [go_sem, pureTo]
              all_goals try simp (disch := omega) only [IntWalk.i64_in]
              all_goals first
                | rfl
            refine fac_quiet 1 rfl rfl rfl (fun _ _ h _ => h) rfl rfl ?_
            apply Exists.intro
            refine ⟨fun sv w' hw' hfa => ?_, ?_⟩
            · have hk9 := (Ext.refl wr).drew.trans hw'; obtain ⟨y1, -⟩ := (hM.out.blk.ext hk9).walk
              refine ⟨rfl, ?_⟩
              simp only [putsL]
              change quietTo _ _ _ _ (Sem.run _ (execOp (Act.eval _) _) _)
              try simp only [Act.put, List.setIfInBounds_toArray, List.set_cons_succ, List.set_cons_zero]
              simp [go_sem, quietTo, Ext.refl]
              all_goals try simp (disch := omega) only [IntWalk.i64_in]
              all_goals first
                | rfl
            refine fac_quiet 2 rfl rfl rfl (fun _ _ h _ => h) rfl rfl ?_
            apply Exists.intro
            refine ⟨fun sv w' hw' hfa => ?_, ?_⟩
            · obtain ⟨f1, -⟩ := hfa
              replace f1 : sv 1 = _ := f1
              try dsimp only at f1
              have hk9 := (Ext.refl wr).drew.trans hw'; obtain ⟨y1, -⟩ := (hM.out.blk.ext hk9).walk
              refine ⟨rfl, ?_⟩
              simp only [putsL]
              change quietTo _ _ _ _ (Sem.run _ (execOp (Act.eval (Act.put _ (some 53) (sv 1))) _) _)
              try simp only [Act.put, List.setIfInBounds_toArray, List.set_cons_succ, List.set_cons_zero]
              simp [go_sem, quietTo, Ext.refl, f1]
              all_goals try simp (disch := omega) only [IntWalk.i64_in]
              all_goals first
                | rfl
            refine fac_quiet 3 rfl rfl rfl (fun _ _ h _ => h) rfl rfl ?_
            apply Exists.intro
            refine ⟨fun sv w' hw' hfa => ?_, ?_⟩
            · obtain ⟨f1, f2, -⟩ := hfa
              replace f1 : sv 1 = _ := f1
              try dsimp only at f1
              replace f2 : sv 2 = _ := f2
              try dsimp only at f2
              have hk9 := (Ext.refl wr).drew.trans hw'; obtain ⟨y1, -⟩ := (hM.out.blk.ext hk9).walk
              refine ⟨rfl, ?_⟩
              simp only [putsL]
              change quietTo _ _ _ _ (Sem.run _ (execOp (Act.eval (Act.put (Act.put _ (some 54) (sv 2)) (some 53) (sv 1))) _) _)
              try simp only [Act.put, List.setIfInBounds_toArray, List.set_cons_succ, List.set_cons_zero]
              simp [go_sem, quietTo, Ext.refl, f2]
              all_goals try simp (disch := omega) only [IntWalk.i64_in]
              all_goals first
                | rfl
            refine fac_quiet 4 rfl rfl rfl (fun _ _ h _ => h) rfl rfl ?_
            apply Exists.intro
            refine ⟨fun sv w' hw' hfa => ?_, ?_⟩
            · obtain ⟨f1, f2, f3, -⟩ := hfa
              replace f1 : sv 1 = _ := f1
              try dsimp only at f1
              replace f2 : sv 2 = _ := f2
              try dsimp only at f2
              replace f3 : sv 3 = _ := f3
              try dsimp only at f3
              have hk9 := (Ext.refl wr).drew.trans hw'; obtain ⟨y1, -⟩ := (hM.out.blk.ext hk9).walk
              refine ⟨rfl, ?_⟩
              simp only [putsL]
              change quietTo _ _ _ _ (Sem.run _ (execOp (Act.eval (Act.put (Act.put (Act.put _ (some 55) (sv 3)) (some 54) (sv 2)) (some 53) (sv 1))) _) _)
              try simp only [Act.put, List.setIfInBounds_toArray, List.set_cons_succ, List.set_cons_zero]
              simp [go_sem, quietTo, Ext.refl, ↓IntWalk.iteOmega, f3, y1]
              all_goals try simp (disch := omega) only [IntWalk.i64_in]
              all_goals first
                | rfl
            refine fac_quiet 5 rfl rfl rfl (fun _ _ h _ => h) rfl rfl ?_
            apply Exists.intro
            refine ⟨fun sv w' hw' hfa => ?_, ?_⟩
            · have hk9 := (Ext.refl wr).drew.trans hw'; obtain ⟨y1, -⟩ := (hM.out.blk.ext hk9).walk
              refine ⟨rfl, ?_⟩
              simp only [putsL]
              change quietTo _ _ _ _ (Sem.run _ (execOp (Act.eval _) _) _)
              try simp only [Act.put, List.setIfInBounds_toArray, List.set_cons_succ, List.set_cons_zero]
              simp [go_sem, quietTo, Ext.refl]
              all_goals try simp (disch := omega) only [IntWalk.i64_in]
              all_goals first
                | rfl
            refine fac_quiet 6 rfl rfl rfl (fun _ _ h _ => h) rfl rfl ?_
            apply Exists.intro
            refine ⟨fun sv w' hw' hfa => ?_, ?_⟩
            · obtain ⟨f5, -⟩ := hfa
              replace f5 : sv 5 = _ := f5
              try dsimp only at f5
              have hk9 := (Ext.refl wr).drew.trans hw'; obtain ⟨y1, -⟩ := (hM.out.blk.ext hk9).walk
              refine ⟨rfl, ?_⟩
              simp only [putsL]
              change quietTo _ _ _ _ (Sem.run _ (execOp (Act.eval (Act.put _ (some 57) (sv 5))) _) _)
              try simp only [Act.put, List.setIfInBounds_toArray, List.set_cons_succ, List.set_cons_zero]
              simp [go_sem, quietTo, Ext.refl, f5]
              all_goals try simp (disch := omega) only [IntWalk.i64_in]
              all_goals first
                | rfl
            refine fac_quiet 7 rfl rfl rfl (fun _ _ h _ => h) rfl rfl ?_
            apply Exists.intro
            refine ⟨fun sv w' hw' hfa => ?_, ?_⟩
            · obtain ⟨f5, f6, -⟩ := hfa
              replace f5 : sv 5 = _ := f5
              try dsimp only at f5
              replace f6 : sv 6 = _ := f6
              try dsimp only at f6
              have hk9 := (Ext.refl wr).drew.trans hw'; obtain ⟨y1, -⟩ := (hM.out.blk.ext hk9).walk
              refine ⟨rfl, ?_⟩
              simp only [putsL]
              change quietTo _ _ _ _ (Sem.run _ (execOp (Act.eval (Act.put (Act.put _ (some 58) (sv 6)) (some 57) (sv 5))) _) _)
              try simp only [Act.put, List.setIfInBounds_toArray, List.set_cons_succ, List.set_cons_zero]
              simp [go_sem, quietTo, Ext.refl, f6]
              all_goals try simp (disch := omega) only [IntWalk.i64_in]
              all_goals first
                | rfl
            refine fac_quiet 8 rfl rfl rfl (fun _ _ h _ => h) rfl rfl ?_
            apply Exists.intro
            refine ⟨fun sv w' hw' hfa => ?_, ?_⟩
            · obtain ⟨f5, f6, f7, -⟩ := hfa
              replace f5 : sv 5 = _ := f5
              try dsimp only at f5
              replace f6 : sv 6 = _ := f6
              try dsimp only at f6
              replace f7 : sv 7 = _ := f7
              try dsimp only at f7
              have hk9 := (Ext.refl wr).drew.trans hw'; obtain ⟨y1, -⟩ := (hM.out.blk.ext hk9).walk
              refine ⟨rfl, ?_⟩
              simp only [putsL]
              change quietTo _ _ _ _ (Sem.run _ (execOp (Act.eval (Act.put (Act.put (Act.put _ (some 59) (sv 7)) (some 58) (sv 6)) (some 57) (sv 5))) _) _)
              try simp only [Act.put, List.setIfInBounds_toArray, List.set_cons_succ, List.set_cons_zero]
              simp [go_sem, quietTo, Ext.refl, ↓IntWalk.iteOmega, f7, y1]
              all_goals try simp (disch := omega) only [IntWalk.i64_in]
              all_goals first
                | rfl
            refine fac_row 9 rfl rfl rfl (fun _ _ h _ => h) (fun _ _ h => h.size) (fun _ _ _ _ _ he _ hb => hb.ext he) ?_
            apply Exists.intro
            apply Exists.intro
            apply Exists.intro
            apply Exists.intro
            refine ⟨fun sv w' hw' hfa => ?_, ?_⟩
            · obtain ⟨f5, f6, f7, f8, -⟩ := hfa
              replace f5 : sv 5 = _ := f5
              try dsimp only at f5
              replace f6 : sv 6 = _ := f6
              try dsimp only at f6
              replace f7 : sv 7 = _ := f7
              try dsimp only at f7
              replace f8 : sv 8 = _ := f8
              try dsimp only at f8
              have hk9 := (Ext.refl wr).drew.trans hw'; obtain ⟨y1, -⟩ := (hM.out.blk.ext hk9).walk
              refine ⟨rfl, ?_⟩
              simp only [putsL]
              change rowTo _ _ _ _ _ (Sem.run _ (execOp (Act.eval (Act.put (Act.put (Act.put (Act.put _ (some 60) (sv 8)) (some 59) (sv 7)) (some 58) (sv 6)) (some 57) (sv 5))) _) _)
              try simp only [Act.put, List.setIfInBounds_toArray, List.set_cons_succ, List.set_cons_zero]
              simp [go_sem, rowTo, Ext.refl, f8]
              all_goals try simp (disch := omega) only [IntWalk.i64_in]
              all_goals first
                | rfl
                | exact ⟨rfl, rfl⟩
                | exact ⟨⟨rfl, rfl⟩, rfl⟩
            refine fac_nil fun xq wrq herq hfrq hcrq holdq hapq => ?_
            obtain ⟨f0, f1, f2, f3, f4, f5, f6, f7, f8, f9, -⟩ := hfrq
            replace f0 : xq 0 = _ := f0
            try dsimp only at f0
            replace f1 : xq 1 = _ := f1
            try dsimp only at f1
            replace f2 : xq 2 = _ := f2
            try dsimp only at f2
            replace f3 : xq 3 = _ := f3
            try dsimp only at f3
            replace f4 : xq 4 = _ := f4
            try dsimp only at f4
            replace f5 : xq 5 = _ := f5
            try dsimp only at f5
            replace f6 : xq 6 = _ := f6
            try dsimp only at f6
            replace f7 : xq 7 = _ := f7
            try dsimp only at f7
            replace f8 : xq 8 = _ := f8
            try dsimp only at f8
            obtain ⟨g9, f9, l9, b9⟩ := f9
            replace f9 : xq 9 = _ := f9
            obtain ⟨p9, q9⟩ := b9.walk
            change wpList _ _ _ _ (Act.put (Act.put (Act.put (Act.put (Act.put (Act.put (Act.put (Act.put (Act.put (Act.put _ (some 52) (xq 0)) (some 53) (xq 1)) (some 54) (xq 2)) (some 55) (xq 3)) (some 56) (xq 4)) (some 57) (xq 5)) (some 58) (xq 6)) (some 59) (xq 7)) (some 60) (xq 8)) (some 61) (xq 9)) _
            simp only [putsL, Nat.reduceAdd, List.drop_succ_cons, List.drop_zero, List.drop_nil, Act.put, List.setIfInBounds_toArray, List.set_cons_succ, List.set_cons_zero]
            try simp only [f0, f1, f2, f3, f4, f5, f6, f7, f8, f9]
            clear f0 f1 f2 f3 f4 f5 f6 f7 f8
            clear holdq hapq
            have hMq := hM.out.more ((Ext.refl wr).drew.trans herq)
            have hlowq := hMq.low
            have hbl := hMq.blk.lt
            clear z1 z2 hM
            go_wp2_with (at_builtin; go_loud (refine wp_appL _ (.tmp 56) (.tmp 61) 22 3 1 8 (.int .i64 0) rfl rfl Tryd.underlying22 intInfo rfl (by decide) (by decide) (l + 1) lp left.length lc _ rfl hMq.lo _ (intC seat) rfl rfl b9 (by simp [intC, Value.oneCell']) (by omega) (by omega) ?_; intro b1 c1 w6 hown6 hgrow6 hloc6; have hB6 : Blk w6 l 88 _ := (hgrow6.block l hMq.blk.lt fun e => own_no hMq.lo hMq.blk (by decide) e.symm).trans hMq.blk; obtain ⟨z1, z2⟩ := hB6.walk))
            go_meet
            exact ⟨_, _, ip, ic, by rw [hfl.out]; exact hMq.appL hown6 hgrow6 hloc6⟩
        case rest =>
          clear z1 z2 hM
          obtain ⟨lp, lc, ip, ic, hM⟩ := hcut
          have hFx := fresh_all (j := j) hs hlx.out
          have hFm := fresh_most (seat := seat) hjb hll
          have hFr : (fr = true → freshL seat left j = left ++ [seat] ∧ j = left.length) ∧ (fr = false → freshL seat left j = left) := by
            refine ⟨fun e => ?_, fun e => ?_⟩
            · rw [e] at hfr
              have hje : j = left.length := by have := eq_of_beq hfr; omega
              exact ⟨by unfold freshL; rw [if_pos hje], hje⟩
            · rw [e] at hfr
              have hne : ¬ j = left.length := fun e => by subst e; simp at hfr
              unfold freshL; rw [if_neg hne]
          obtain ⟨y, hy⟩ := getD_some (rfl : (freshL seat left j).length = (freshL seat left j).length) hl2
          have hput : putB (ldF seat most ns) seat x.many left j = if x.many ≤ y then (ldF seat most ns ((freshL seat left j).set j (y - x.many))).map (j :: ·) else none := by
            have e2 : (freshL seat left j).getD j 0 = y := by rw [List.getD_eq_getElem?_getD, hy]; rfl
            unfold putB
            rw [e2]
          generalize freshL seat left j = F at *
          clear hcap hfr
          have hyb := hFx y (List.mem_of_getElem? hy)
          obtain ⟨lb, rfl, hlb, hlbw⟩ := hM.lform (by omega)
          have hjI : (j : Int) < (F.length : Int) := by omega
          have hcy := hM.at_ hy
          obtain ⟨z1, z2⟩ := hM.blk.walk
          have z3 : ∀ o, wc.frozen? ⟨lb, o, none⟩ = false := fun o => hM.lo.frozenAt o
          have hne1 : l ≠ lb := by omega
          replace hFx := Lib.hid hFx
          replace hFr := Lib.hid hFr
          replace hput := Lib.hid hput
          replace hy := Lib.hid hy
          replace hM := Lib.hid hM
          go_upto_if 73 with fail
          go_cut [74] (fun _ w' => ∃ (lp : Option Addr) (lc : Nat) (ip : Option Addr) (ic : Nat), putB (ldF seat most ns) seat x.many left j = none ∧ LdM w0 w' l (.slice (some ⟨b, off, none⟩) L.length gc) seat most lp lc ip ic F ins)
          case first =>
            by_cases hny : x.many ≤ y
            · go_upto_region 13 with fail
              obtain ⟨W1, hW1⟩ : ∃ W, W = wc.setCell ⟨lb, j, none⟩ (.int .i64 (y - x.many)) := ⟨_, rfl⟩
              have hM1 := hM.out.set_ hy.out (y - x.many)
              rw [← hW1] at hM1
              change Code.wp _ _ _ _ (wc.setCell ⟨lb, j, none⟩ (.int .i64 (y - x.many)))
              rw [← hW1]
              clear hW1 z1 z2 z3 hcy hM
              obtain ⟨z1, z2⟩ := hM1.blk.walk
              have hl1 := hM1.blk.lt
              have hMa := hM1.more ((Ext.refl W1).alloc (.cells #[.int .i64 j] 3))
              replace hM1 := Lib.hid hM1
              replace hMa := Lib.hid hMa
              go_upto_region 14 with (at_builtin; go_loud (refine wp_appL _ (.tmp 88) (.tmp 90) 22 3 1 8 (.int .i64 0) rfl rfl Tryd.underlying22 intInfo rfl (by decide) (by decide) (l + 1) ip ins.length ic _ rfl hMa.out.io W1.heap.size (natC j) rfl rfl (Blk.new' rfl) (by simp [natC, Value.oneCell']) (by omega) (by simp; omega) ?_; intro b1 c1 w6 hown6 hgrow6 hloc6; have hM2 := hMa.out.appI hown6 hgrow6 hloc6; have hB6 : Blk w6 l 88 _ := (hgrow6.block l hMa.out.blk.lt fun e => own_no hMa.out.io hMa.out.blk (by decide) e.symm).trans hMa.out.blk; clear z1 z2; obtain ⟨z1, z2⟩ := hB6.walk))
              obtain ⟨W2, hW2⟩ : ∃ W, W = w6.setCell ⟨l, 4, none⟩ (.slice (some ⟨b1, 0, none⟩) (ins.length + 1) c1) := ⟨_, rfl⟩
              rw [← hW2] at hM2
              change Code.wp _ _ _ _ (w6.setCell ⟨l, 4, none⟩ (.slice (some ⟨b1, 0, none⟩) (ins.length + 1) c1))
              rw [← hW2]
              have hih := ih.out (ins ++ [j]) (F.set j (y - x.many)) W2 _ _ _ _ (by rw [List.length_append, List.length_singleton]; exact hns'.out) (by rw [List.length_append, List.length_singleton]; omega) (set_all (by omega) hFx.out) (by rw [List.length_set]; exact hFm) hM2
              clear hW2 hown6 hgrow6 hloc6 hB6 z1 z2 hM2 hMa hM1 hl1
              replace hih := Lib.hid hih
              go_upto_if 95 with (go_at_call 46; (with_reducible refine Calls.mono hih.out ?_); rintro e w7 ⟨r, rfl, hr1, hr2⟩)
              cases r
              · obtain ⟨hld, lp, lc, ip, ic, hM3⟩ := hr2 rfl
                have hpn : putB (ldF seat most ns) seat x.many left j = none := by rw [hput.out, if_pos hny, hld]; rfl
                obtain ⟨ib, rfl, hib, hibw⟩ := hM3.iform (by rw [List.length_append, List.length_singleton]; omega)
                obtain ⟨lb, rfl, hlb, hlbw⟩ := hM3.lform (by rw [List.length_set]; omega)
                obtain ⟨z1, z2⟩ := hM3.blk.walk
                have hM4 := hM3.cutI (m := ins.length) (by rw [List.length_append]; omega)
                rw [List.take_left' rfl] at hM4
                have hicap : ins.length ≤ ic := by
                  rcases hM3.io.2 with ⟨h3, _⟩ | ⟨g, cap, cur, h3, _, _, h4, _⟩
                  · cases h3
                  · cases h3
                    rw [List.length_append] at h4
                    omega
                replace hM3 := Lib.hid hM3
                replace hM4 := Lib.hid hM4
                replace hpn := Lib.hid hpn
                clear hih hr1 hr2
                rw [List.length_append, List.length_singleton, List.length_set] at z1
                go_upto_region 17 with fail
                obtain ⟨W3, hW3⟩ : ∃ W, W = w7.setCell ⟨l, 4, none⟩ (.slice (some ⟨ib, 0, none⟩) ins.length ic) := ⟨_, rfl⟩
                replace hM4 := hM4.out
                rw [← hW3] at hM4
                change Code.wp _ _ _ _ (w7.setCell ⟨l, 4, none⟩ (.slice (some ⟨ib, 0, none⟩) ins.length ic))
                rw [← hW3]
                clear hW3 z1 z2 hM3
                obtain ⟨z1, z2⟩ := hM4.blk.walk
                rw [List.length_set] at z1
                have hgj : (F.set j (y - x.many))[j]? = some (y - x.many) := List.getElem?_set_self hl2
                have hcy := hM4.at_ hgj
                have z3 : ∀ o, W3.frozen? ⟨lb, o, none⟩ = false := fun o => hM4.lo.frozenAt o
                have hM5 := hM4.set_ hgj y
                have hFj : (F.set j (y - x.many)).set j y = F := by
                  obtain ⟨h7, h8⟩ := List.getElem?_eq_some_iff.1 hy.out
                  rw [List.set_set, ← h8]
                  exact List.set_getElem_self h7
                rw [hFj] at hM5
                replace hM4 := Lib.hid hM4
                replace hM5 := Lib.hid hM5
                clear hFj hgj
                go_wp2
                go_meet
                exact ⟨_, _, _, _, hpn.out, hM5.out⟩
              · obtain ⟨bs, lp, lc, ip, ic, left', hld, hM3⟩ := hr1 rfl
                have hps : putB (ldF seat most ns) seat x.many left j = some (j :: bs) := by rw [hput.out, if_pos hny, hld]; rfl
                have hl3 : ldF seat most (x.many :: ns) left = some (j :: bs) := range_first (by omega) hno.out hps
                rw [List.append_assoc] at hM3
                replace hM3 := Lib.hid hM3
                replace hl3 := Lib.hid hl3
                clear hih hr1 hr2 hld hps
                go_wp2
                go_ret
                exact ⟨true, rfl, (fun _ => ⟨j :: bs, lp, lc, ip, ic, left', hl3.out, hM3.out⟩), fun h => by cases h⟩
            · have hpn : putB (ldF seat most ns) seat x.many left j = none := by rw [hput.out, if_neg hny]
              replace hpn := Lib.hid hpn
              go_wp2
              go_meet
              exact ⟨_, _, ip, ic, hpn.out, hM.out⟩
          case rest =>
            clear hM z1 z2 z3 hcy hput hlb hlbw hne1
            obtain ⟨lp, lc, ip, ic, hpn, hM⟩ := hcut
            obtain ⟨lb, rfl, hlb, hlbw⟩ := hM.lform (by omega)
            obtain ⟨z1, z2⟩ := hM.blk.walk
            replace hpn := Lib.hid hpn
            cases fr
            · obtain rfl := hFr.out.2 rfl
              replace hM := Lib.hid hM
              go_wp2
              go_roundw
              case rel => exact ⟨j + 1, _, lc, ip, ic, by go_num, by omega, by omega, (fun q hq => by
                rcases Nat.lt_or_ge q j with h1 | h1
                · exact hno.out q h1
                · obtain rfl : q = j := by omega
                  exact hpn.out), hM.out⟩
              case measure => simp [intOf]; omega
            · obtain ⟨rfl, hje⟩ := hFr.out.1 rfl
              have hM4 := hM.cutL (m := j) (by omega)
              have hcapL : j ≤ lc := by
                rcases hM.lo.2 with ⟨h3, _⟩ | ⟨g, cap, cur, h3, _, _, h4, _⟩
                · cases h3
                · cases h3
                  omega
              have htk : (left ++ [seat]).take j = left := by rw [hje, List.take_left']; rfl
              rw [htk] at hM4
              have hl3 : ldF seat most (x.many :: ns) left = none := range_none fun q hq => by
                rcases Nat.lt_or_ge q j with h1 | h1
                · exact hno.out q h1
                · obtain rfl : q = j := by omega
                  exact hpn.out
              replace hM := Lib.hid hM
              replace hM4 := Lib.hid hM4
              replace hl3 := Lib.hid hl3
              replace htk := Lib.hid htk
              replace hje := Lib.hid hje
              go_wp2
              go_ret
              exact ⟨false, rfl, (fun h => by cases h), fun _ => ⟨hl3.out, _, _, _, _, hM4.out⟩⟩
      · have hl3 : ldF seat most (x.many :: ns) left = none := range_none fun q hq => hno.out q (by omega)
        replace hl3 := Lib.hid hl3
        replace hM := Lib.hid hM
        rcases Nat.lt_or_ge left.length j with h1 | h1
        · go_wp2
          go_ret
          exact ⟨false, rfl, (fun h => by cases h), fun _ => ⟨hl3.out, _, _, _, _, hM.out⟩⟩
        · have h2 : ¬ j < most := fun h => hj ⟨h1, h⟩
          clear hj
          go_wp2
          go_ret
          exact ⟨false, rfl, (fun h => by cases h), fun _ => ⟨hl3.out, _, _, _, _, hM.out⟩⟩
end Go.Proofs.YtlmbpgjdepmlcaaDoor
