/- All that can stand are tried, by the document's text: the walk. Conditions: four people at most; the places are on the stage. -/
import Derived.Test.YtfbegdcmnfkhgaaGreatDoorBtBeL
set_option linter.unusedSimpArgs false
set_option linter.unusedVariables false
namespace Go.Proofs.YtfbegdcmnfkhgaaGreatDoor
open Go Go.RowKit

/-- What the search leaves. -/
def LrRes (z cP cS cF cB cA cT : Nat) (pp : Option Addr) (pc : Nat) (P : List PersonV) (wp : Option Addr) (wcap : Nat) (wide : List Int) (hp : Option Addr) (hc : Nat) (high : List Int) (plp : Option Addr) (plc : Nat) (all : List StandV) (w : World) (r : Int × List StandV) (e : Ending) (w' : World) : Prop :=
  e = .returned (.tuple #[]) ∧ ExtP cF cB w w' ∧ ∃ pb cb, LrM z cP cS cF cB cA cT pp pc P wp wcap wide hp hc high plp plc all w' r.1 r.2 pb cb

section
variable {z cP cS cF cB cA cT : Nat} {pp : Option Addr} {pc : Nat} {P : List PersonV} {wp : Option Addr} {wcap : Nat} {wide : List Int} {hp : Option Addr} {hc : Nat} {high : List Int} {plp : Option Addr} {plc : Nat} {all : List StandV}
set_option maxRecDepth 100000 in
set_option maxHeartbeats 6400000 in
theorem lrTry_any (h4 : P.length ≤ 4) (hal : all.length ≤ 1000) (hon : ∀ x ∈ all, OnStage wide x) : ∀ (m : Nat) (L : List StandV) (w : World) (few : Int) (best : List StandV) (pb : Option Addr) (cb : Nat) (po : Option Addr) (co : Nat), L.length + m = P.length → SvT P wide high L →
    LrM z cP cS cF cB cA cT pp pc P wp wcap wide hp hc high plp plc all w few best pb cb → Slc 3 staC w po L.length co L → (∀ x ∈ L, x.Small) → (∀ a, po = some a → z ≤ a.block) → z ≤ w.heap.size →
    Calls Tryz.prog 45 #[.slice po L.length co, .pointer (some ⟨cP, 0, none⟩), .pointer (some ⟨cS, 0, none⟩), .pointer (some ⟨cF, 0, none⟩), .pointer (some ⟨cB, 0, none⟩), .pointer (some ⟨cA, 0, none⟩), .pointer (some ⟨cT, 0, none⟩)] w (LrRes z cP cS cF cB cA cT pp pc P wp wcap wide hp hc high plp plc all w (leR P wide high all m L (few, best)))
  | 0, L, w, few, best, pb, cb, po, co, hm, hT, hM, hL, hLs, hpo, hzw => by
    have hk2 : ((L.length : Int) == (P.length : Int)) = true := by rw [show L.length = P.length by omega]; exact beq_self_eq_true _
    have hps : PsM w pp pc P wp wcap wide hp hc high po co L := ⟨hM.ps.per, hM.ps.wid, hM.ps.hig, hL, hM.ps.sP, hM.ps.sw, hM.ps.sh, hLs, hM.ps.nP, by omega⟩
    have hhm := hiddenMany_any pp pc P wp wcap wide hp hc high po co L w hps hT.ok
    have hr0 : leR P wide high all 0 L (few, best) = if few < 0 ∨ hidT P wide high L < few then (hidT P wide high L, L) else (few, best) := rfl
    rw [hr0]
    change Calls _ _ _ _ fun e w' => e = .returned (.int .i64 (hidT P wide high L)) ∧ Ext w w' at hhm
    generalize hidT P wide high L = hd at *
    obtain ⟨g1, -⟩ := hM.bP.walk
    obtain ⟨s1, -⟩ := hM.bS.walk
    have gl := hM.bP.lt
    have sl := hM.bS.lt
    have hne := hM.ne.2.2.1
    have hne2 : cB ≠ cF := fun e => hne e.symm
    replace hhm := Lib.hid hhm
    replace hM := Lib.hid hM
    replace hL := Lib.hid hL
    replace hpo := Lib.hid hpo
    clear hps hT hLs hr0
    by_cases hlf : few < 0 ∨ hd < few
    · rw [if_pos hlf]
      by_cases hf0 : few < 0
      all_goals
        first
          | (have hf1 : ¬ few < 0 := hf0; have hf2 : hd < few := hlf.resolve_left hf0; clear hlf)
          | clear hlf
        go_enter Tryz.func45, Tryz.ntmps45
        go_wp2_with (go_at_call 46; (with_reducible refine Calls.mono hhm.out ?_); rintro e w1 ⟨rfl, hb1⟩; have hM1 := hM.out.more hb1; obtain ⟨f1, f2⟩ := hM1.bF.walk; obtain ⟨b1, b2⟩ := hM1.bB.walk; have fl := hM1.bF.lt; have bl := hM1.bB.lt; have hM2 := hM1.leaf (hL.out.ext hb1) hpo.out hd; have hE2 : ExtP cF cB w ((w1.setCell ⟨cB, 0, none⟩ (.slice po L.length co)).setCell ⟨cF, 0, none⟩ (.int .i64 hd)) := ((hb1.extP).set (.inr rfl) _).set (.inl rfl) _; replace hM2 := Lib.hid hM2; replace hM1 := Lib.hid hM1)
        (try simp only [Exit.inBlock, Exit.then]); refine bodyPost_ret (results_none rfl _ _ _) rfl ?_
        exact ⟨rfl, hE2, _, _, hM2.out⟩
    · rw [if_neg hlf]
      have hf1 : ¬ few < 0 := fun h => hlf (.inl h)
      have hf2 : ¬ hd < few := fun h => hlf (.inr h)
      clear hlf
      go_enter Tryz.func45, Tryz.ntmps45
      go_wp2_with (go_at_call 46; (with_reducible refine Calls.mono hhm.out ?_); rintro e w1 ⟨rfl, hb1⟩; have hM1 := hM.out.more hb1; obtain ⟨f1, f2⟩ := hM1.bF.walk; have fl := hM1.bF.lt; replace hM1 := Lib.hid hM1)
      (try simp only [Exit.inBlock, Exit.then]); refine bodyPost_ret (results_none rfl _ _ _) rfl ?_
      exact ⟨rfl, hb1.extP, _, _, hM1.out⟩
  | m + 1, L, w, few, best, pb, cb, po, co, hm, hT, hM, hL, hLs, hpo, hzw => by
    have hTP : L.length < P.length := by omega
    have hkB : ((L.length : Int) == (P.length : Int)) = false := by rw [beq_eq_false_iff_ne]; omega
    have hkI : (L.length : Int) < P.length := by omega
    obtain ⟨q, hq⟩ : ∃ q, P[L.length]? = some q := ⟨_, List.getElem?_eq_getElem hTP⟩
    have hqn : (P.getD L.length default) = q := by rw [List.getD_eq_getElem?_getD, hq]; rfl
    have hqs := hM.ps.sP q (List.mem_of_getElem? hq)
    have ih := fun (L' : List StandV) (u : World) (few : Int) (best : List StandV) (pb : Option Addr) (cb : Nat) (po : Option Addr) (co : Nat) => lrTry_any h4 hal hon m L' u few best pb cb po co
    have hlf := toR_all (P := P) (wide := wide) (high := high) (all := all) m L (few, best)
    obtain ⟨g1, -⟩ := hM.bP.walk
    obtain ⟨a1, -⟩ := hM.bA.walk
    have gl := hM.bP.lt
    have al := hM.bA.lt
    obtain ⟨lz1, lz2, lz3, lz4, lz5, lz6⟩ := hM.lt
    have hw10 := hT.ok.wo.1
    rw [← hlf]
    replace hM := Lib.hid hM
    replace ih := Lib.hid ih
    replace hm := Lib.hid hm
    replace hTP := Lib.hid hTP
    replace hq := Lib.hid hq
    replace hqn := Lib.hid hqn
    replace hT := Lib.hid hT
    replace hL := Lib.hid hL
    replace hLs := Lib.hid hLs
    replace hpo := Lib.hid hpo
    clear hlf
    go_enter Tryz.func45, Tryz.ntmps45
    go_wp2
    go_loopw [31] (fun v31 wr => ∃ (i : Nat) (pb : Option Addr) (cb : Nat), v31 = .int .i64 i ∧ i ≤ all.length ∧ LrM z cP cS cF cB cA cT pp pc P wp wcap wide hp hc high plp plc all wr (toR P wide high all m L (few, best) i).1 (toR P wide high all m L (few, best) i).2 pb cb ∧ ExtP cF cB w wr) (fun v31 _ => all.length - (intOf v31).toNat)
    case atStart => exact ⟨0, pb, cb, rfl, Nat.zero_le _, hM.out, ExtP.refl _ _ _⟩
    case round =>
      clear hM g1 a1 gl al
      obtain ⟨i, pb, cb, rfl, hi, hM, hE2⟩ := hrel
      have hwr : z ≤ wr.heap.size := Nat.le_trans hzw hE2.2.2.2.1
      by_cases hlt : i < all.length
      · obtain ⟨x, hx⟩ := getD_some (rfl : all.length = all.length) hlt
        have hst := toR_succ (P := P) (wide := wide) (high := high) (m := m) (T := L) (st := (few, best)) hx
        have hxs := hon x (List.mem_of_getElem? hx)
        have hiI : (i : Int) < all.length := by omega
        have hLw := hL.out.extP hE2 fun a ha => by have := hpo.out a ha; omega
        rcases (slcC hM.pa).2 with ⟨-, e⟩ | ⟨lb, lo, rfl, hlb, hEl⟩
        · rw [e] at hx; cases hx
        obtain ⟨c0, c1, c2⟩ := hEl.sta hx
        have hEa : Ext wr (wr.alloc (.cells #[.string x.name, .int .i64 x.row, .int .i64 x.place] 46)) := (Ext.refl _).alloc _
        have hY : Blk (wr.alloc (.cells #[.string x.name, .int .i64 x.row, .int .i64 x.place] 46)) wr.heap.size 46 #[.string x.name, .int .i64 x.row, .int .i64 x.place] := Blk.new' rfl
        have hha := has_any (hLw.ext hEa) (by omega) x wr.heap.size hY
        generalize toR P wide high all m L (few, best) i = st at *
        replace hst := Lib.hid hst
        replace hha := Lib.hid hha
        replace hM := Lib.hid hM
        replace hLw := Lib.hid hLw
        replace hx := Lib.hid hx
        clear hEl
        cases hin : inT L x
        · have hst2 : stepR P wide high all m L st x = leR P wide high all m (nxt P L x) st := by unfold stepR; rw [hin]; rfl
          rw [hst2] at hst
          replace hst := Lib.hid hst.out
          rw [hin] at hha
          replace hha := Lib.hid hha.out
          clear hst2
          have hper := hM.out.ps.per
          rcases (slcC hper).2 with ⟨-, e⟩ | ⟨pb9, po9, rfl, hpb9, hEp⟩
          · have := hq.out; rw [e] at this; cases this
          obtain ⟨e0, -, -⟩ := hEp.per hq.out
          clear hper hEp
          go_upto_region 8 with (go_at_call 47; (with_reducible refine Calls.mono hha.out ?_); rintro e w1 ⟨rfl, hb1⟩)
          have hE1 := hEa.trans hb1
          have hY1 := hY.ext hb1
          have hM1 := hM.out.more hE1
          obtain ⟨g1, -⟩ := hM1.bP.walk
          have gl := hM1.bP.lt
          obtain ⟨y1, y2⟩ := hY1.walk
          have yl := hY1.lt
          have e1 : w1.cell? ⟨pb9, po9 + L.length * 3, none⟩ = some (.string q.name) := (hE1.walk.1 _ _ hpb9).trans e0
          have el := Nat.lt_of_lt_of_le hpb9 hE1.size
          replace hM1 := Lib.hid hM1
          clear hha hY c0 c1 c2
          go_upto_region 9 with fail
          obtain ⟨W1, hW1⟩ : ∃ W, W = w1.setCell ⟨wr.heap.size, 0, none⟩ (.string q.name) := ⟨_, rfl⟩
          have hEW : Ext wr W1 := by rw [hW1]; exact hE1.setCell (Nat.le_refl _) _
          have hX1 : Blk W1 wr.heap.size 46 #[.string q.name, .int .i64 x.row, .int .i64 x.place] := by rw [hW1]; exact (hY1.set_ 0 _).cast (by simp)
          change Code.wp _ _ _ _ (w1.setCell ⟨wr.heap.size, 0, none⟩ (.string q.name))
          rw [← hW1]
          have hMa := hM.out.more hEW
          have hLa := hLw.out.ext hEW
          have hput : [Value.string q.name, .int .i64 x.row, .int .i64 x.place] = staC (putN P L.length x) := by unfold staC putN; rw [hqn.out]
          have hT' := svT_next hT.out hTP.out hxs
          have hnl := nxt_len P L x
          have hTa := hMa.bT
          have hwz : z ≤ W1.heap.size := Nat.le_trans hwr hEW.size
          have hsm : ∀ y ∈ nxt P L x, y.Small := fun y hy => by
            rcases List.mem_append.1 hy with h | h
            · exact hLs.out y h
            · rw [List.mem_singleton.1 h]
              obtain ⟨o1, o2, o3, o4⟩ := hxs
              refine ⟨?_, ?_, ?_, ?_, ?_⟩
              · show (P.getD L.length default).name.size ≤ 1000
                rw [hqn.out]; exact hqs.1
              all_goals (simp only [putN]; omega)
          have hrc : ∀ (b9 c9 : Nat) (u : World) (bs9 : Nat), Ext W1 u → z ≤ bs9 → u.ownsRow bs9 46 3 (.slice (some ⟨b9, 0, none⟩) (L.length + 1) c9) (L.length + 1) ((L ++ [putN P L.length x]).flatMap staC) →
              Calls Tryz.prog 45 #[.slice (some ⟨b9, 0, none⟩) (L.length + 1) c9, .pointer (some ⟨cP, 0, none⟩), .pointer (some ⟨cS, 0, none⟩), .pointer (some ⟨cF, 0, none⟩), .pointer (some ⟨cB, 0, none⟩), .pointer (some ⟨cA, 0, none⟩), .pointer (some ⟨cT, 0, none⟩)] u (LrRes z cP cS cF cB cA cT (some ⟨pb9, po9, none⟩) pc P wp wcap wide hp hc high (some ⟨lb, lo, none⟩) plc all u (leR P wide high all m (nxt P L x) st)) := fun b9 c9 u bs9 hu hz9 ho9 => by
            obtain ⟨q9, d9, hq9, hs9⟩ := slc_of_own staC_len ho9 (by decide) (by omega)
            cases hq9
            have := ih.out (nxt P L x) u st.1 st.2 pb cb (some ⟨b9, 0, none⟩) c9 (by rw [nxt_len]; have := hm.out; omega) hT' (hMa.more hu) (by rw [nxt_len]; exact hs9) hsm (fun a ha => by cases ha; exact Nat.le_trans hz9 (ho9.lt b9 rfl).1) (Nat.le_trans hwz hu.size)
            rw [nxt_len] at this
            exact this
          replace hrc := Lib.hid hrc
          replace hput := Lib.hid hput
          replace hMa := Lib.hid hMa
          replace hLa := Lib.hid hLa
          clear hW1 hM1 hE1 hY1 g1 gl y1 y2 yl e1 el hb1 hT' hnl hsm hM
          refine wp_region_forks [0, 1, 3] 4 (fun w' => Blk w' cT 85 #[.func (.func 45) #[] #[.pointer (some ⟨cP, 0, none⟩), .pointer (some ⟨cS, 0, none⟩), .pointer (some ⟨cF, 0, none⟩), .pointer (some ⟨cB, 0, none⟩), .pointer (some ⟨cA, 0, none⟩), .pointer (some ⟨cT, 0, none⟩)]] ∧ Blk w' wr.heap.size 46 #[.string q.name, .int .i64 x.row, .int .i64 x.place] ∧ (ExtP cF cB W1 w')) Ext (by kernel_rfl) (by kernel_rfl) Ext.refl (fun _ _ _ => Ext.trans) (fun _ _ h he => ⟨h.1.ext he, h.2.1.ext he, h.2.2.ext he⟩) ⟨(by (repeat (with_reducible first | assumption | exact Blk.new' (by simp) | refine Blk.drew ?_ | refine Blk.alloc ?_ _ | exact Ext.refl _ | refine Ext.drew ?_ | refine Ext.alloc ?_ _))), (by (repeat (with_reducible first | assumption | exact Blk.new' (by simp) | refine Blk.drew ?_ | refine Blk.alloc ?_ _ | exact Ext.refl _ | refine Ext.drew ?_ | refine Ext.alloc ?_ _))), ((ExtP.refl cF cB W1).ext (Ext.drew (Ext.refl _)))⟩ ?_
          repeat
            first
              | (refine q_quiet rfl rfl (fun _ _ _ _ h => h) ?_
                 apply Exists.intro
                 refine ⟨fun w' hw' => ?_, ?_⟩
                 · obtain ⟨hH0, hH1, hH2⟩ := hw'
                   unfold Blk at hH0 hH1
                   simp [go_sem, quietTo, World.cell?, hH0, hH1, Ext.refl, ↓IntWalk.iteOmega]
                   first
                     | rfl
                 simp only [Act.put, List.setIfInBounds_toArray, List.set_cons_succ, List.set_cons_zero])
              | (refine q_skip rfl rfl (fun _ _ _ _ h => h) ?_
                 simp only [Act.put, List.setIfInBounds_toArray, List.set_cons_succ, List.set_cons_zero])
          refine q_nil ?_
          try simp only [List.length_cons, List.length_nil, Nat.reduceAdd, Array.replicate_succ, Array.replicate_zero, List.push_toArray, List.nil_append, List.cons_append, List.setIfInBounds_toArray, List.set_cons_succ, List.set_cons_zero]
          refine ww_two (i := 2) (j := 4) rfl rfl rfl rfl (by kernel_rfl) ?_ ?_
          · intro w5 e5 h5 K5 hK5
            have hE5 : Ext W1 w5 := (Ext.refl W1).drew.trans e5
            go_wp2_with (go_at_call 50; (with_reducible refine Calls.mono (cloneSta_any po L.length co L _ (hLa.out.ext hE5) (by omega)) ?_); rintro e w6 ⟨v6, rfl, ho6, hb6⟩; obtain ⟨p6, c6, rfl, -⟩ := slc_of_own staC_len ho6 (by decide) (by omega))
            refine ⟨⟨h5.1.ext hb6, h5.2.1.ext hb6, h5.2.2.ext hb6⟩, ?_⟩
            simp only [List.setIfInBounds_toArray, List.set_cons_succ, List.set_cons_zero]
            refine ww_one (i := 4) rfl rfl (by kernel_rfl) ?_
            intro w7 e7 h7 K7 hK7
            go_wp2_with fail
            refine ⟨⟨h7.1.alloc _, h7.2.1.alloc _, h7.2.2.ext ((Ext.refl _).alloc _)⟩, ?_⟩
            simp only [List.setIfInBounds_toArray, List.set_cons_succ, List.set_cons_zero]
            refine ww_one (i := 5) rfl rfl (by kernel_rfl) ?_
            intro w8 e8 h8 K8 hK8
            have own8 : w8.ownsRow w5.heap.size 46 3 (.slice p6 L.length c6) L.length (L.flatMap staC) := own_ext e8 ((own_ext e7 ho6).alloc _)
            have lit8 : Blk w8 w7.heap.size 46 #[.string q.name, .int .i64 x.row, .int .i64 x.place] := (Blk.new' rfl).ext e8
            have hE8 : Ext W1 w8 := (((hE5.trans hb6).trans e7).alloc _).trans e8
            refine wp_appO w8 (.tmp 48) (.tmp 50) 34 46 3 32 (.agg #[.string ⟨#[]⟩, .int .i64 0, .int .i64 0]) rfl Tryz.underlying34 staInfo rfl (by decide) (by decide) w5.heap.size p6 L.length c6 _ rfl own8 w7.heap.size [.string q.name, .int .i64 x.row, .int .i64 x.place] rfl rfl lit8 (by simp [Value.oneCell']) (by omega) (by have := (((Ext.refl _).trans hb6).trans ((e7.alloc _).trans e8)).size; omega) fun b9 c9 w9 hown9 hgrow9 _ => ?_
            have hE9 : Ext W1 w9 := hE8.grown hgrow9 fun j e => Nat.le_trans hE5.size (own8.lt j e).1
            refine hK8 _ _ ⟨⟨hTa.ext hE9, hX1.ext hE9, hE9.extP⟩, ?_⟩
            simp only [List.setIfInBounds_toArray, List.set_cons_succ, List.set_cons_zero]
            refine ww_one (i := 6) rfl rfl (by kernel_rfl) ?_
            intro w10 e10 h10 K10 hK10
            have hE10 := hE9.trans e10
            have own10 := own_ext e10 hown9
            rw [hput.out, ← flat_snoc] at own10
            have hih := hrc.out b9 c9 w10 w5.heap.size hE10 (Nat.le_trans hwz hE5.size) own10
            replace hih := Lib.hid hih
            go_wp2_with (go_at_call 45; (with_reducible refine Calls.mono hih.out ?_); rintro e w11 ⟨rfl, hEx, pb', cb', hM11⟩)
            refine ⟨⟨hM11.bT, (hX1.ext hE10).extP (by omega) (by omega) hEx, (hE10.extP).trans hEx⟩, ?_⟩
            simp only [List.setIfInBounds_toArray, List.set_cons_succ, List.set_cons_zero]
            refine ww_done (by kernel_rfl) fun w12 e12 h12 => ?_
            have hEend : ExtP cF cB w w12 := (hE2.ext hEW).trans (((hE10.extP).trans hEx).ext e12)
            have hMend := hM11.more e12
            replace hMend := Lib.hid hMend
            try dsimp only [Exit.then]
            go_wp2
            go_roundw
            case rel => exact ⟨i + 1, pb', cb', by go_num, by omega, by rw [hst.out]; exact hMend.out, hEend⟩
            case measure => simp [intOf]; omega
          · intro w5 e5 h5 K5 hK5
            have hE5 : Ext W1 w5 := (Ext.refl W1).drew.trans e5
            go_wp2_with fail
            refine ⟨⟨h5.1.alloc _, h5.2.1.alloc _, h5.2.2.ext ((Ext.refl _).alloc _)⟩, ?_⟩
            simp only [List.setIfInBounds_toArray, List.set_cons_succ, List.set_cons_zero]
            refine ww_one (i := 2) rfl rfl (by kernel_rfl) ?_
            intro w7 e7 h7 K7 hK7
            go_wp2_with (go_at_call 50; (with_reducible refine Calls.mono (cloneSta_any po L.length co L _ (hLa.out.ext ((hE5.alloc _).trans e7)) (by omega)) ?_); rintro e w6 ⟨v6, rfl, ho6, hb6⟩; obtain ⟨p6, c6, rfl, -⟩ := slc_of_own staC_len ho6 (by decide) (by omega))
            refine ⟨⟨h7.1.ext hb6, h7.2.1.ext hb6, h7.2.2.ext hb6⟩, ?_⟩
            simp only [List.setIfInBounds_toArray, List.set_cons_succ, List.set_cons_zero]
            refine ww_one (i := 5) rfl rfl (by kernel_rfl) ?_
            intro w8 e8 h8 K8 hK8
            have own8 : w8.ownsRow w7.heap.size 46 3 (.slice p6 L.length c6) L.length (L.flatMap staC) := own_ext e8 ho6
            have lit8 : Blk w8 w5.heap.size 46 #[.string q.name, .int .i64 x.row, .int .i64 x.place] := ((Blk.new' rfl).ext e7).ext (hb6.trans e8)
            have hE8 : Ext W1 w8 := ((((hE5.alloc _).trans e7).trans hb6).trans e8)
            refine wp_appO w8 (.tmp 48) (.tmp 50) 34 46 3 32 (.agg #[.string ⟨#[]⟩, .int .i64 0, .int .i64 0]) rfl Tryz.underlying34 staInfo rfl (by decide) (by decide) w7.heap.size p6 L.length c6 _ rfl own8 w5.heap.size [.string q.name, .int .i64 x.row, .int .i64 x.place] rfl rfl lit8 (by simp [Value.oneCell']) (by omega) (by have := (hb6.trans e8).size; omega) fun b9 c9 w9 hown9 hgrow9 _ => ?_
            have hE9 : Ext W1 w9 := hE8.grown hgrow9 fun j e => Nat.le_trans ((hE5.alloc _).trans e7).size (own8.lt j e).1
            refine hK8 _ _ ⟨⟨hTa.ext hE9, hX1.ext hE9, hE9.extP⟩, ?_⟩
            simp only [List.setIfInBounds_toArray, List.set_cons_succ, List.set_cons_zero]
            refine ww_one (i := 6) rfl rfl (by kernel_rfl) ?_
            intro w10 e10 h10 K10 hK10
            have hE10 := hE9.trans e10
            have own10 := own_ext e10 hown9
            rw [hput.out, ← flat_snoc] at own10
            have hih := hrc.out b9 c9 w10 w7.heap.size hE10 (Nat.le_trans hwz ((hE5.alloc _).trans e7).size) own10
            replace hih := Lib.hid hih
            go_wp2_with (go_at_call 45; (with_reducible refine Calls.mono hih.out ?_); rintro e w11 ⟨rfl, hEx, pb', cb', hM11⟩)
            refine ⟨⟨hM11.bT, (hX1.ext hE10).extP (by omega) (by omega) hEx, (hE10.extP).trans hEx⟩, ?_⟩
            simp only [List.setIfInBounds_toArray, List.set_cons_succ, List.set_cons_zero]
            refine ww_done (by kernel_rfl) fun w12 e12 h12 => ?_
            have hEend : ExtP cF cB w w12 := (hE2.ext hEW).trans (((hE10.extP).trans hEx).ext e12)
            have hMend := hM11.more e12
            replace hMend := Lib.hid hMend
            try dsimp only [Exit.then]
            go_wp2
            go_roundw
            case rel => exact ⟨i + 1, pb', cb', by go_num, by omega, by rw [hst.out]; exact hMend.out, hEend⟩
            case measure => simp [intOf]; omega
        · have hst2 : stepR P wide high all m L st x = st := by unfold stepR; rw [hin]; rfl
          rw [hst2] at hst
          replace hst := Lib.hid hst.out
          rw [hin] at hha
          replace hha := Lib.hid hha.out
          go_wp2_with (go_at_call 47; (with_reducible refine Calls.mono hha.out ?_); rintro e w1 ⟨rfl, hb1⟩)
          go_roundw
          case rel => exact ⟨i + 1, pb, cb, by go_num, by omega, by rw [hst.out]; exact hM.out.more (hEa.trans hb1), hE2.ext (hEa.trans hb1)⟩
          case measure => simp [intOf]; omega
      · obtain rfl : i = all.length := by omega
        replace hM := Lib.hid hM
        go_wp2
        go_end0
        exact ⟨rfl, hE2, pb, cb, hM.out⟩
end
end Go.Proofs.YtfbegdcmnfkhgaaGreatDoor
