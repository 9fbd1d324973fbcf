/- BusesOf: the fewest buses, as the document finds them. Conditions: the groups are right and lie in memory, the seats are right. -/
import Derived.Test.YtlmbpgjdepmlcaaDoorBusS
import Derived.Laws.EntriesVeiled
namespace Go.Proofs.YtlmbpgjdepmlcaaDoor
open Go Go.RowKit

theorem few_min {P : Nat → Bool} : ∀ {K : Nat}, P K = true → ∃ m, m ≤ K ∧ P m = true ∧ ∀ q, q < m → P q = false
  | 0, h => ⟨0, Nat.le_refl _, h, fun q hq => absurd hq (Nat.not_lt_zero _)⟩
  | K + 1, h => by
    rcases Classical.em (∃ q, q ≤ K ∧ P q = true) with ⟨q, hq, hp⟩ | hn
    · have key : ∀ n q, q ≤ n → P q = true → ∃ m, m ≤ q ∧ P m = true ∧ ∀ r, r < m → P r = false := by
        intro n
        induction n with
        | zero => exact fun q hq hp => ⟨q, Nat.le_refl _, hp, fun r hr => by omega⟩
        | succ n ih =>
          intro q hq hp
          rcases Classical.em (∃ r, r < q ∧ P r = true) with ⟨r, hr, hpr⟩ | hno
          · obtain ⟨m, h1, h2, h3⟩ := ih r (by omega) hpr
            exact ⟨m, by omega, h2, h3⟩
          · refine ⟨q, Nat.le_refl _, hp, fun r hr => ?_⟩
            cases e : P r
            · rfl
            · exact absurd ⟨r, hr, e⟩ hno
      obtain ⟨m, h1, h2, h3⟩ := key K q hq hp
      exact ⟨m, by omega, h2, h3⟩
    · refine ⟨K + 1, Nat.le_refl _, h, fun q hq => ?_⟩
      cases e : P q
      · rfl
      · exact absurd ⟨q, by omega, e⟩ hn
theorem fewest_ex {seat : Int} {L : List GrpV} (h : (ldF seat L.length (manyL L) []).isSome = true) : ∃ most bs, Fewest seat L most bs ∧ most ≤ L.length := by
  obtain ⟨m, h1, h2, h3⟩ := few_min (P := fun m => (ldF seat m (manyL L) []).isSome) h
  obtain ⟨bs, hb⟩ := Option.isSome_iff_exists.1 h2
  exact ⟨m, bs, ⟨hb, fun q hq => by have := h3 q hq; simpa using this⟩, h1⟩
theorem Fewest.one {seat : Int} {L : List GrpV} {m m' : Nat} {bs bs' : List Nat} (h : Fewest seat L m bs) (h' : Fewest seat L m' bs') : m = m' ∧ bs = bs' := by
  have e : m = m' := by
    rcases Nat.lt_trichotomy m m' with h1 | h1 | h1
    · have := h'.2 m h1; rw [h.1] at this; cases this
    · exact h1
    · have := h.2 m' h1; rw [h'.1] at this; cases this
  subst e
  have := h.1.symm.trans h'.1
  cases this
  exact ⟨rfl, rfl⟩
/-- What BusesOf answers. -/
def OfRes (w : World) (L : List GrpV) (seat : Int) (e : Ending) (w' : World) : Prop :=
  (L.any (overB seat) = true ∧ e = .returned (.tuple #[.slice none 0 0, .bool false]) ∧ Ext w w') ∨
  (L.any (overB seat) = false ∧ ∃ most bs, Fewest seat L most bs ∧ Ext w w' ∧ ((L = [] ∧ e = .returned (.tuple #[.slice none 0 0, .bool true])) ∨ ∃ og vs, e = .returned (.tuple #[.slice (some ⟨og, 0, none⟩) most most, .bool true]) ∧ OutM w w' og (rowsN most (nameL L) bs) vs))

set_option maxRecDepth 100000 in
set_option maxHeartbeats 6400000 in
theorem of_buses (p : Option Addr) (c : Nat) (L : List GrpV) (seat : Int) (w : World) (hS : Slc 2 grpC w p L.length c L) (hok : GrpsOk L) (hs : 1 ≤ seat ∧ seat ≤ 100) :
    Calls Tryd.prog 24 #[.slice p L.length c, .int .i64 seat] w (OfRes w L seat) := by
  have hL12 := hok.len
  have hG0 : Blk ((w.alloc (.cells #[.slice p L.length c] 40)).alloc (.cells #[.int .i64 seat] 3)) w.heap.size 40 #[.slice p L.length c] := (Blk.new' rfl).alloc _
  have hB0 : Blk ((w.alloc (.cells #[.slice p L.length c] 40)).alloc (.cells #[.int .i64 seat] 3)) (w.heap.size + 1) 3 #[.int .i64 seat] := Blk.new' (by simp)
  have hE0 : Ext w ((w.alloc (.cells #[.slice p L.length c] 40)).alloc (.cells #[.int .i64 seat] 3)) := ((Ext.refl _).alloc _).alloc _
  have hhas := ofHas seat (w.heap.size + 1) p L.length c L _ hB0 (hS.ext hE0) (by omega)
  have hmf : ∀ (fn : Fn) (first cap : Array Value) (w : World), (Instr.makeFunc fn first cap).run Tryd.prog w = .ok (.func fn first cap) w := fun _ _ _ _ => rfl
  go_enter Tryd.func24, Tryd.ntmps24
  go_upto_region 1 with fail
  generalize (w.alloc (.cells #[.slice p L.length c] 40)).alloc (.cells #[.int .i64 seat] 3) = W0 at *
  obtain ⟨z1, z2⟩ := hG0.walk
  cases ha : L.any (overB seat)
  · rw [ha] at hhas
    replace hhas := Lib.hid hhas
    replace hok := Lib.hid hok
    go_upto_region 3 with (go_at_call 44; (with_reducible refine Calls.mono hhas.out ?_); rintro e w2 ⟨rfl, hb2⟩)
    have hall := over_all hok.out ha
    have hex := ld_each (seat := seat) (ns := manyL L) (by omega) fun n hn => ⟨by have := (hall n hn).1; omega, (hall n hn).2⟩
    rw [manyL_len] at hex
    obtain ⟨most, bs, hfew, hml⟩ := fewest_ex hex
    have hG2 := hG0.ext hb2
    have hB2 := hB0.ext hb2
    have hE2 := hE0.trans hb2
    have hS2 := hS.ext hE2
    clear hG0 hB0 hb2 hE0 hhas z1 z2
    obtain ⟨z1, z2⟩ := hG2.walk
    replace ha := Lib.hid ha
    replace hfew := Lib.hid hfew
    replace hall := Lib.hid hall
    have lG := hG2.lt
    have lB := hB2.lt
    go_upto_region 7 with fail
    have hone := hok.out.one
    have hsz2 := hE2.size
    obtain ⟨W3, hW3⟩ : ∃ W, W = (((w2.alloc (.cells #[.slice none 0 0] 22)).alloc (.cells #[.int .i64 ((L.length : Int) + 1)] 3)).alloc (.cells #[.func (.func 49) #[] #[.pointer (some ⟨w.heap.size, 0, none⟩), .pointer (some ⟨w2.heap.size + 1, 0, none⟩), .pointer (some ⟨w2.heap.size, 0, none⟩), .pointer (some ⟨w.heap.size + 1, 0, none⟩), .pointer (some ⟨w2.heap.size + 1 + 1, 0, none⟩)]] 91)) := ⟨_, rfl⟩
    have hE3 : Ext w2 W3 := hW3 ▸ (((Ext.refl _).alloc _).alloc _).alloc _
    have hT : TryM (w2.heap.size + 1 + 1 + 1) w.heap.size (w2.heap.size + 1) w2.heap.size (w.heap.size + 1) (w2.heap.size + 1 + 1) p c L seat W3 [] (L.length + 1) none 0 := by
      refine ⟨hG2.ext hE3, hW3 ▸ (((Blk.new' (by simp)).alloc _).cast (by push_cast; rfl)), hW3 ▸ ((Blk.new' rfl).alloc _).alloc _, hB2.ext hE3, hW3 ▸ Blk.new' (by simp), ?_, Slc.nil _ _ _, (fun a ha => by cases ha), ⟨by omega, by omega, by omega, by omega, by omega⟩, ⟨by omega, by omega, by omega, by omega, by omega, by omega, by omega⟩⟩
      refine (slcC hS).2.imp id fun ⟨b, off, e, hb, hE⟩ => ⟨b, off, e, Nat.lt_of_lt_of_le hb (hE2.trans hE3).size, by omega, by omega, hE.ext (hE2.trans hE3) hb⟩
    have hzs : w2.heap.size + 1 + 1 + 1 ≤ W3.heap.size := by rw [hW3]; simp
    change Code.wp _ _ _ _ (((w2.alloc (.cells #[.slice none 0 0] 22)).alloc (.cells #[.int .i64 ((L.length : Int) + 1)] 3)).alloc (.cells #[.func (.func 49) #[] #[.pointer (some ⟨w.heap.size, 0, none⟩), .pointer (some ⟨w2.heap.size + 1, 0, none⟩), .pointer (some ⟨w2.heap.size, 0, none⟩), .pointer (some ⟨w.heap.size + 1, 0, none⟩), .pointer (some ⟨w2.heap.size + 1 + 1, 0, none⟩)]] 91))
    rw [← hW3]
    clear hW3
    have hcall := try_any (w2.heap.size + 1 + 1 + 1) w.heap.size (w2.heap.size + 1) w2.heap.size (w.heap.size + 1) (w2.heap.size + 1 + 1) p c L seat hL12 hone ⟨by omega, by omega⟩ (manyL L) [] [] W3 [] (L.length + 1) none 0 none 0 none 0 rfl (Nat.zero_le _) (Nat.le_refl _) (fun x hx => by cases hx) hT (Slc.nil _ _ _) (fun a ha => by cases ha) (Slc.nil _ _ _) (fun a ha => by cases ha) hzs
    rw [rf_few hfew.out.1 hfew.out.2 (by omega)] at hcall
    clear z1 z2
    obtain ⟨t1, -⟩ := hT.bT.walk
    have lT := hT.bT.lt
    have hEw3 := hE2.trans hE3
    clear hT
    replace hcall := Lib.hid hcall
    obtain ⟨i0, hi, hz0, hz1, hz2⟩ := info_parts strsInfo
    replace hi := Lib.hid hi
    replace hz0 := Lib.hid hz0
    replace hz1 := Lib.hid hz1
    replace hz2 := Lib.hid hz2
    replace hone := Lib.hid hone
    go_upto_region 8 with (go_at_call 49; (with_reducible refine Calls.mono hcall.out ?_); rintro e w4 ⟨rfl, hEx, pb, cb, hM4⟩)
    have hE4 : Ext w w4 := ExtP.back hEw3 (by omega) (by omega) hEx
    obtain ⟨f1, -⟩ := hM4.bF.walk
    have lF := hM4.bF.lt
    replace hM4 := Lib.hid hM4
    clear hcall t1 hEx
    go_upto_region 9 with (refine wpList_make_full _ rfl _ _ 44 rfl w4.heap.size 32 i0 (.slice none 0 0) 1 Tryd.underlying44 hi.out hz0.out hz1.out .i64 .i64 most most most rfl rfl rfl rfl (by rw [hz2.out]; omega) (by unfold maxLen; omega) (Nat.le_refl _) ?_; intro w5 hown5 hg5)
    have hE5 : Ext w4 w5 := (Ext.refl w4).grown hg5 fun k e => by cases e
    have hO5 := OutM.made hE5 (Nat.le_refl _) hown5
    rw [← rowsN_zero] at hO5
    generalize hog : w4.heap.size = og at *
    have hM5 := hM4.out.more hE5
    obtain ⟨b1, -⟩ := hM5.bB.walk
    have lB5 := hM5.bB.lt
    have hbl : bs.length = L.length := by have := (ld_fits hfew.out.1 fun b => by simp; omega).len; rw [manyL_len] at this; exact this
    have hlt : ∀ x ∈ bs, x < most := (ld_fits hfew.out.1 fun b => by simp; omega).lt
    have hnb : (nameL L).length = bs.length := by rw [hbl]; exact List.length_map _
    clear hown5 hg5 f1
    replace hM5 := Lib.hid hM5
    replace hO5 := Lib.hid hO5
    replace hlt := Lib.hid hlt
    go_wp2
    go_loopw [25] (fun v25 wq => ∃ (i : Nat) (vs : List Value), v25 = .int .i64 i ∧ i ≤ bs.length ∧ OutM w4 wq og (rowsN most ((nameL L).take i) (bs.take i)) vs) (fun v25 _ => bs.length - (intOf v25).toNat)
    case atStart => exact ⟨0, _, rfl, Nat.zero_le _, hO5.out⟩
    case round =>
      clear hO5 hM5 b1 lB5
      obtain ⟨i, vs, rfl, hi9, hO⟩ := hrel
      have hMr := hM4.out.more hO.ext
      by_cases hil : i < bs.length
      · obtain ⟨x, hx⟩ := getD_some (rfl : bs.length = bs.length) hil
        obtain ⟨g, hg⟩ := getD_some hbl.symm hil
        have hxm : x < most := hlt.out x (List.mem_of_getElem? hx)
        have hnm : (nameL L)[i]? = some g.name := by unfold nameL; rw [List.getElem?_map, hg]; rfl
        rcases (slcC hMr.bR).2 with ⟨-, hbn⟩ | ⟨rb, ro, rfl, hrb, hEr⟩
        · rw [hbn] at hx; cases hx
        have c0 : wr.cell? ⟨rb, ro + i, none⟩ = some (.int .i64 x) := by
          have := hEr i x hx 0 (.int .i64 x) rfl
          simpa using this
        rcases hMr.gE with ⟨-, hLn⟩ | ⟨b, off, rfl, hb, -, -, hEl⟩
        · rw [hLn] at hg; cases hg
        have c1 := (hEl.grp hg).1
        have cG := hMr.bG
        have hiL : (i : Int) < L.length := by omega
        have hiB : (i : Int) < bs.length := by omega
        have hxI : (x : Int) < most := by omega
        obtain ⟨pp, cc, hvx, hcx, hox⟩ := hO.at_ (rowsN_at (ss := (nameL L).take i) (bs := bs.take i) hxm)
        have hpl := pickN_len x ((nameL L).take i) (bs.take i)
        have hstep := rowsN_snoc (most := most) (x := x) (s := g.name) (ss := (nameL L).take i) (bs := bs.take i) (by rw [List.length_take, List.length_take, hnb]) hxm
        have htl : ((nameL L).take i).length ≤ 12 := by rw [List.length_take]; omega
        rw [← take_snocL hnm, ← take_snocL hx] at hstep
        have hrx := rowsN_at (ss := (nameL L).take i) (bs := bs.take i) hxm
        generalize pickN x ((nameL L).take i) (bs.take i) = r at *
        have hogw := hO.blk.lt
        replace hstep := Lib.hid hstep
        replace hx := Lib.hid hx
        replace hg := Lib.hid hg
        replace hnm := Lib.hid hnm
        replace hvx := Lib.hid hvx
        replace hrx := Lib.hid hrx
        replace hO := Lib.hid hO
        replace hox := Lib.hid hox
        replace hMr := Lib.hid hMr
        clear hEl hEr
        go_upto_region 12 with fail
        refine wp_region_facts [0, 1] [([], false, false), ([], false, false), ([], false, false), ([], false, false), ([2, 3], false, false), ([2, 3, 4], false, false), ([], false, false), ([], false, false), ([6, 7], false, false), ([6, 7, 8], false, false), ([6, 7, 8, 9], false, false), ([6, 7, 8, 9, 10], false, true)] (Ext) Ext (fun _ => True) (by kernel_rfl) (by kernel_rfl) Ext.refl (fun _ _ _ => Ext.trans) (fun _ _ h => h) (fun _ _ h => h.size) (fun _ _ h _ => h) trivial ?_
        dsimp only [List.length_cons, List.length_nil, List.drop_succ_cons, List.drop_zero, List.drop_nil]
        refine fac_late 0 rfl rfl Ext.refl (fun _ _ h _ => h) rfl rfl (fun _ _ _ _ h => h) ?_
        apply Exists.intro
        refine ⟨fun sv w' hw' hfa => ?_, ?_⟩
        · refine ⟨rfl, fun w2 => ?_⟩
          simp only [putsL]
          change pureTo _ _ (Sem.run _ (execOp (Act.eval _) _) _)
          try simp only [Act.put, List.setIfInBounds_toArray, List.set_cons_succ, List.set_cons_zero]
          simp [go_sem, pureTo]
          all_goals try simp (disch := omega) only [IntWalk.i64_in]
          all_goals first
            | rfl
        refine fac_late 1 rfl rfl Ext.refl (fun _ _ h _ => h) rfl rfl (fun _ _ _ _ h => h) ?_
        apply Exists.intro
        refine ⟨fun sv w' hw' hfa => ?_, ?_⟩
        · refine ⟨rfl, fun w2 => ?_⟩
          simp only [putsL]
          change pureTo _ _ (Sem.run _ (execOp (Act.eval _) _) _)
          try simp only [Act.put, List.setIfInBounds_toArray, List.set_cons_succ, List.set_cons_zero]
          simp [go_sem, pureTo]
          all_goals try simp (disch := omega) only [IntWalk.i64_in]
          all_goals first
            | rfl
        refine fac_quiet 2 rfl rfl rfl (fun _ _ h _ => h) rfl rfl ?_
        apply Exists.intro
        refine ⟨fun sv w' hw' hfa => ?_, ?_⟩
        · have hk := (Ext.refl wr).drew.trans hw'; obtain ⟨hc, hff, hz9⟩ := hk.walk; have y2 := (hc _ _ hogw).trans hcx; have y3 := (hc _ _ hb).trans c1; obtain ⟨yG, -⟩ := (cG.ext hk).walk
          refine ⟨rfl, ?_⟩
          simp only [putsL]
          change quietTo _ _ _ _ (Sem.run _ (execOp (Act.eval _) _) _)
          try simp only [Act.put, List.setIfInBounds_toArray, List.set_cons_succ, List.set_cons_zero]
          simp [go_sem, quietTo, Ext.refl]
          all_goals try simp (disch := omega) only [IntWalk.i64_in]
          all_goals first
            | rfl
        refine fac_quiet 3 rfl rfl rfl (fun _ _ h _ => h) rfl rfl ?_
        apply Exists.intro
        refine ⟨fun sv w' hw' hfa => ?_, ?_⟩
        · have hk := (Ext.refl wr).drew.trans hw'; obtain ⟨hc, hff, hz9⟩ := hk.walk; have y2 := (hc _ _ hogw).trans hcx; have y3 := (hc _ _ hb).trans c1; obtain ⟨yG, -⟩ := (cG.ext hk).walk
          refine ⟨rfl, ?_⟩
          simp only [putsL]
          change quietTo _ _ _ _ (Sem.run _ (execOp (Act.eval _) _) _)
          try simp only [Act.put, List.setIfInBounds_toArray, List.set_cons_succ, List.set_cons_zero]
          simp [go_sem, quietTo, Ext.refl]
          all_goals try simp (disch := omega) only [IntWalk.i64_in]
          all_goals first
            | rfl
        refine fac_quiet 4 rfl rfl rfl (fun _ _ h _ => h) rfl rfl ?_
        apply Exists.intro
        refine ⟨fun sv w' hw' hfa => ?_, ?_⟩
        · obtain ⟨f2, f3, -⟩ := hfa
          replace f2 : sv 2 = _ := f2
          try dsimp only at f2
          replace f3 : sv 3 = _ := f3
          try dsimp only at f3
          have hk := (Ext.refl wr).drew.trans hw'; obtain ⟨hc, hff, hz9⟩ := hk.walk; have y2 := (hc _ _ hogw).trans hcx; have y3 := (hc _ _ hb).trans c1; obtain ⟨yG, -⟩ := (cG.ext hk).walk
          refine ⟨rfl, ?_⟩
          simp only [putsL]
          change quietTo _ _ _ _ (Sem.run _ (execOp (Act.eval (Act.put (Act.put _ (some 33) (sv 3)) (some 32) (sv 2))) _) _)
          try simp only [Act.put, List.setIfInBounds_toArray, List.set_cons_succ, List.set_cons_zero]
          simp [go_sem, quietTo, Ext.refl, ↓IntWalk.iteOmega, f2, f3, hxI]
          all_goals try simp (disch := omega) only [IntWalk.i64_in]
          all_goals first
            | rfl
        refine fac_quiet 5 rfl rfl rfl (fun _ _ h _ => h) rfl rfl ?_
        apply Exists.intro
        refine ⟨fun sv w' hw' hfa => ?_, ?_⟩
        · obtain ⟨f2, f3, f4, -⟩ := hfa
          replace f2 : sv 2 = _ := f2
          try dsimp only at f2
          replace f3 : sv 3 = _ := f3
          try dsimp only at f3
          replace f4 : sv 4 = _ := f4
          try dsimp only at f4
          have hk := (Ext.refl wr).drew.trans hw'; obtain ⟨hc, hff, hz9⟩ := hk.walk; have y2 := (hc _ _ hogw).trans hcx; have y3 := (hc _ _ hb).trans c1; obtain ⟨yG, -⟩ := (cG.ext hk).walk
          refine ⟨rfl, ?_⟩
          simp only [putsL]
          change quietTo _ _ _ _ (Sem.run _ (execOp (Act.eval (Act.put (Act.put (Act.put _ (some 34) (sv 4)) (some 33) (sv 3)) (some 32) (sv 2))) _) _)
          try simp only [Act.put, List.setIfInBounds_toArray, List.set_cons_succ, List.set_cons_zero]
          simp [go_sem, quietTo, Ext.refl, ↓IntWalk.iteOmega, f4, y2]
          all_goals try simp (disch := omega) only [IntWalk.i64_in]
          all_goals first
            | rfl
        refine fac_quiet 6 rfl rfl rfl (fun _ _ h _ => h) rfl rfl ?_
        apply Exists.intro
        refine ⟨fun sv w' hw' hfa => ?_, ?_⟩
        · have hk := (Ext.refl wr).drew.trans hw'; obtain ⟨hc, hff, hz9⟩ := hk.walk; have y2 := (hc _ _ hogw).trans hcx; have y3 := (hc _ _ hb).trans c1; obtain ⟨yG, -⟩ := (cG.ext hk).walk
          refine ⟨rfl, ?_⟩
          simp only [putsL]
          change quietTo _ _ _ _ (Sem.run _ (execOp (Act.eval _) _) _)
          try simp only [Act.put, List.setIfInBounds_toArray, List.set_cons_succ, List.set_cons_zero]
          simp [go_sem, quietTo, Ext.refl, ↓IntWalk.iteOmega, yG]
          all_goals try simp (disch := omega) only [IntWalk.i64_in]
          all_goals first
            | rfl
        refine fac_quiet 7 rfl rfl rfl (fun _ _ h _ => h) rfl rfl ?_
        apply Exists.intro
        refine ⟨fun sv w' hw' hfa => ?_, ?_⟩
        · have hk := (Ext.refl wr).drew.trans hw'; obtain ⟨hc, hff, hz9⟩ := hk.walk; have y2 := (hc _ _ hogw).trans hcx; have y3 := (hc _ _ hb).trans c1; obtain ⟨yG, -⟩ := (cG.ext hk).walk
          refine ⟨rfl, ?_⟩
          simp only [putsL]
          change quietTo _ _ _ _ (Sem.run _ (execOp (Act.eval _) _) _)
          try simp only [Act.put, List.setIfInBounds_toArray, List.set_cons_succ, List.set_cons_zero]
          simp [go_sem, quietTo, Ext.refl]
          all_goals try simp (disch := omega) only [IntWalk.i64_in]
          all_goals first
            | rfl
        refine fac_quiet 8 rfl rfl rfl (fun _ _ h _ => h) rfl rfl ?_
        apply Exists.intro
        refine ⟨fun sv w' hw' hfa => ?_, ?_⟩
        · obtain ⟨f6, f7, -⟩ := hfa
          replace f6 : sv 6 = _ := f6
          try dsimp only at f6
          replace f7 : sv 7 = _ := f7
          try dsimp only at f7
          have hk := (Ext.refl wr).drew.trans hw'; obtain ⟨hc, hff, hz9⟩ := hk.walk; have y2 := (hc _ _ hogw).trans hcx; have y3 := (hc _ _ hb).trans c1; obtain ⟨yG, -⟩ := (cG.ext hk).walk
          refine ⟨rfl, ?_⟩
          simp only [putsL]
          change quietTo _ _ _ _ (Sem.run _ (execOp (Act.eval (Act.put (Act.put _ (some 37) (sv 7)) (some 36) (sv 6))) _) _)
          try simp only [Act.put, List.setIfInBounds_toArray, List.set_cons_succ, List.set_cons_zero]
          simp [go_sem, quietTo, Ext.refl, ↓IntWalk.iteOmega, f6, f7, hiL]
          all_goals try simp (disch := omega) only [IntWalk.i64_in]
          all_goals first
            | rfl
        refine fac_quiet 9 rfl rfl rfl (fun _ _ h _ => h) rfl rfl ?_
        apply Exists.intro
        refine ⟨fun sv w' hw' hfa => ?_, ?_⟩
        · obtain ⟨f6, f7, f8, -⟩ := hfa
          replace f6 : sv 6 = _ := f6
          try dsimp only at f6
          replace f7 : sv 7 = _ := f7
          try dsimp only at f7
          replace f8 : sv 8 = _ := f8
          try dsimp only at f8
          have hk := (Ext.refl wr).drew.trans hw'; obtain ⟨hc, hff, hz9⟩ := hk.walk; have y2 := (hc _ _ hogw).trans hcx; have y3 := (hc _ _ hb).trans c1; obtain ⟨yG, -⟩ := (cG.ext hk).walk
          refine ⟨rfl, ?_⟩
          simp only [putsL]
          change quietTo _ _ _ _ (Sem.run _ (execOp (Act.eval (Act.put (Act.put (Act.put _ (some 38) (sv 8)) (some 37) (sv 7)) (some 36) (sv 6))) _) _)
          try simp only [Act.put, List.setIfInBounds_toArray, List.set_cons_succ, List.set_cons_zero]
          simp [go_sem, quietTo, Ext.refl, f8]
          all_goals try simp (disch := omega) only [IntWalk.i64_in]
          all_goals first
            | rfl
        refine fac_quiet 10 rfl rfl rfl (fun _ _ h _ => h) rfl rfl ?_
        apply Exists.intro
        refine ⟨fun sv w' hw' hfa => ?_, ?_⟩
        · obtain ⟨f6, f7, f8, f9, -⟩ := hfa
          replace f6 : sv 6 = _ := f6
          try dsimp only at f6
          replace f7 : sv 7 = _ := f7
          try dsimp only at f7
          replace f8 : sv 8 = _ := f8
          try dsimp only at f8
          replace f9 : sv 9 = _ := f9
          try dsimp only at f9
          have hk := (Ext.refl wr).drew.trans hw'; obtain ⟨hc, hff, hz9⟩ := hk.walk; have y2 := (hc _ _ hogw).trans hcx; have y3 := (hc _ _ hb).trans c1; obtain ⟨yG, -⟩ := (cG.ext hk).walk
          refine ⟨rfl, ?_⟩
          simp only [putsL]
          change quietTo _ _ _ _ (Sem.run _ (execOp (Act.eval (Act.put (Act.put (Act.put (Act.put _ (some 39) (sv 9)) (some 38) (sv 8)) (some 37) (sv 7)) (some 36) (sv 6))) _) _)
          try simp only [Act.put, List.setIfInBounds_toArray, List.set_cons_succ, List.set_cons_zero]
          simp [go_sem, quietTo, Ext.refl, ↓IntWalk.iteOmega, f9, y3]
          all_goals try simp (disch := omega) only [IntWalk.i64_in]
          all_goals first
            | rfl
        refine fac_row 11 rfl rfl rfl (fun _ _ h _ => h) (fun _ _ h => h.size) (fun _ _ _ _ _ he _ hb => hb.ext he) ?_
        apply Exists.intro
        apply Exists.intro
        apply Exists.intro
        apply Exists.intro
        refine ⟨fun sv w' hw' hfa => ?_, ?_⟩
        · obtain ⟨f6, f7, f8, f9, f10, -⟩ := hfa
          replace f6 : sv 6 = _ := f6
          try dsimp only at f6
          replace f7 : sv 7 = _ := f7
          try dsimp only at f7
          replace f8 : sv 8 = _ := f8
          try dsimp only at f8
          replace f9 : sv 9 = _ := f9
          try dsimp only at f9
          replace f10 : sv 10 = _ := f10
          try dsimp only at f10
          have hk := (Ext.refl wr).drew.trans hw'; obtain ⟨hc, hff, hz9⟩ := hk.walk; have y2 := (hc _ _ hogw).trans hcx; have y3 := (hc _ _ hb).trans c1; obtain ⟨yG, -⟩ := (cG.ext hk).walk
          refine ⟨rfl, ?_⟩
          simp only [putsL]
          change rowTo _ _ _ _ _ (Sem.run _ (execOp (Act.eval (Act.put (Act.put (Act.put (Act.put (Act.put _ (some 40) (sv 10)) (some 39) (sv 9)) (some 38) (sv 8)) (some 37) (sv 7)) (some 36) (sv 6))) _) _)
          try simp only [Act.put, List.setIfInBounds_toArray, List.set_cons_succ, List.set_cons_zero]
          simp [go_sem, rowTo, Ext.refl, f10]
          all_goals try simp (disch := omega) only [IntWalk.i64_in]
          all_goals first
            | rfl
            | exact ⟨rfl, rfl⟩
            | exact ⟨⟨rfl, rfl⟩, rfl⟩
        refine fac_nil fun xq wrq herq hfrq hcrq holdq hapq => ?_
        obtain ⟨f0, f1, f2, f3, f4, f5, f6, f7, f8, f9, f10, f11, -⟩ := hfrq
        replace f0 : xq 0 = _ := f0
        try dsimp only at f0
        replace f1 : xq 1 = _ := f1
        try dsimp only at f1
        replace f2 : xq 2 = _ := f2
        try dsimp only at f2
        replace f3 : xq 3 = _ := f3
        try dsimp only at f3
        replace f4 : xq 4 = _ := f4
        try dsimp only at f4
        replace f5 : xq 5 = _ := f5
        try dsimp only at f5
        replace f6 : xq 6 = _ := f6
        try dsimp only at f6
        replace f7 : xq 7 = _ := f7
        try dsimp only at f7
        replace f8 : xq 8 = _ := f8
        try dsimp only at f8
        replace f9 : xq 9 = _ := f9
        try dsimp only at f9
        replace f10 : xq 10 = _ := f10
        try dsimp only at f10
        obtain ⟨g11, f11, l11, b11⟩ := f11
        replace f11 : xq 11 = _ := f11
        obtain ⟨p11, q11⟩ := b11.walk
        change wpList _ _ _ _ (Act.put (Act.put (Act.put (Act.put (Act.put (Act.put (Act.put (Act.put (Act.put (Act.put (Act.put (Act.put _ (some 30) (xq 0)) (some 31) (xq 1)) (some 32) (xq 2)) (some 33) (xq 3)) (some 34) (xq 4)) (some 35) (xq 5)) (some 36) (xq 6)) (some 37) (xq 7)) (some 38) (xq 8)) (some 39) (xq 9)) (some 40) (xq 10)) (some 41) (xq 11)) _
        simp only [putsL, Nat.reduceAdd, List.drop_succ_cons, List.drop_zero, List.drop_nil, Act.put, List.setIfInBounds_toArray, List.set_cons_succ, List.set_cons_zero]
        try simp only [f0, f1, f2, f3, f4, f5, f6, f7, f8, f9, f10, f11]
        clear f0 f1 f2 f3 f4 f5 f6 f7 f8 f9 f10
        clear holdq hapq
        have hkq := (Ext.refl wr).drew.trans herq
        have hOq := hO.out.more hkq
        have hoq := own_ext hkq hox.out
        have hlowq := hOq.blk.lt
        go_wp2_with (at_builtin; go_loud (refine wp_appL _ (.tmp 35) (.tmp 41) 32 9 1 16 (.string ⟨#[]⟩) rfl rfl Tryd.underlying32 strInfo rfl (by decide) (by decide) (og + 1) pp r.length cc _ rfl hoq _ (strC g.name) rfl rfl b11 (by simp [strC, Value.oneCell']) (by omega) (by omega) ?_; intro b1 c1 w6 hown6 hgrow6 hloc6; have hB6 : Blk w6 og 32 vs.toArray := (hgrow6.block og hOq.blk.lt fun e => own_no hoq hOq.blk (by decide) e.symm).trans hOq.blk; have hz6 : w6.cell? ⟨og, x, none⟩ = some (.slice pp r.length cc) := (hB6.cell x).trans (by simpa using hvx.out); obtain ⟨-, hf6⟩ := hB6.walk))
        go_roundw
        case rel => exact ⟨i + 1, _, by go_num, by omega, by rw [hstep.out]; exact hOq.app hrx.out hvx.out hown6 hgrow6 hloc6⟩
        case measure => simp [intOf]; omega
      · obtain rfl : i = bs.length := by omega
        rw [List.take_of_length_le (show (nameL L).length ≤ bs.length by omega), List.take_of_length_le (Nat.le_refl _)] at hO
        have hOw := hO.base hE4
        obtain ⟨g1, -⟩ := hMr.bG.walk
        have hEend := hE4.trans hO.ext
        replace hOw := Lib.hid hOw
        clear hO
        rcases Nat.eq_zero_or_pos L.length with hl0 | hl0
        · have hLn : L = [] := List.eq_nil_of_length_eq_zero hl0
          have hlz : ((L.length : Int) == 0) = true := by simp; exact hLn
          replace hLn := Lib.hid hLn
          go_wp2
          go_ret2
          exact .inr ⟨ha.out, most, bs, hfew.out, hEend, .inl ⟨hLn.out, rfl⟩⟩
        · have hlz : ((L.length : Int) == 0) = false := by simp; intro e; subst e; simp at hl0
          go_wp2
          go_ret2
          exact .inr ⟨ha.out, most, bs, hfew.out, hEend, .inr ⟨og, vs, rfl, hOw.out⟩⟩
  · rw [ha] at hhas
    replace hhas := Lib.hid hhas
    replace ha := Lib.hid ha
    go_wp2_with (go_at_call 44; (with_reducible refine Calls.mono hhas.out ?_); rintro e w2 ⟨rfl, hb2⟩)
    go_ret2
    exact .inl ⟨ha.out, rfl, hE0.trans hb2⟩
end Go.Proofs.YtlmbpgjdepmlcaaDoor
