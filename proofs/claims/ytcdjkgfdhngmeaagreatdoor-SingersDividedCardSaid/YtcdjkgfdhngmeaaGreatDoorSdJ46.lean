/- DividedOf and the equality of pairs, walked. Conditions: right voices and parts; sizes. UnsureOf, walked. Conditions: right voices and parts; sizes. -/
import Derived.Test.YtcdjkgfdhngmeaaGreatDoorSdDvU
import Derived.Test.YtcdjkgfdhngmeaaGreatDoorSdJ40
import Derived.Test.YtcdjkgfdhngmeaaGreatDoorSdJ16
set_option linter.unusedSimpArgs false
set_option linter.unusedVariables false
namespace Go.Proofs.YtcdjkgfdhngmeaaGreatDoor
open Go Go.RowKit

theorem best_none {P : List PartV} {C : List (List Int)} (h : fromF P C [0, 0, 0, 0] = -1) : bestL P C [0, 0, 0, 0] = [] := by
  refine List.eq_nil_iff_forall_not_mem.2 fun g hg => ?_
  unfold bestL at hg
  exact (compl_le C _ g (List.mem_filter.1 hg).1).2.2 h
set_option maxRecDepth 100000 in
theorem divided_none {w : World} {vp pp : Option Addr} {vc pc : Nat} {V : List VoiceV} {P : List PartV} (h : VpM w vp vc V pp pc P) (t : Int) (hP4 : P.length ≤ 4) (hC12 : (singersL V t).length ≤ 12) (hmo : ∀ x ∈ P, 0 ≤ x.most) (hf : fromF P (comL V t P) [0, 0, 0, 0] = -1) :
    Calls Tryz.prog 14 #[.slice vp V.length vc, .slice pp P.length pc, .int .i64 t] w fun e w' => e = .returned (.tuple #[.slice none 0 0, .int .i64 0, .bool false]) ∧ Ext w w' := by
  have hd := divisions_any h t hP4 hC12 hmo
  rw [best_none hf] at hd
  replace hd := Lib.hid hd
  replace hf := Lib.hid hf
  go_enter Tryz.func14, Tryz.ntmps14
  go_wp2_with (go_at_call 38; go_loud ((with_reducible refine Calls.mono hd.out ?_); rintro e w1 ⟨q, d, rfl, hR, hb1⟩))
  go_ret3
  exact ⟨rfl, hb1⟩
theorem Elems.nat {w : World} {b off : Nat} {g : List Nat} (h : Elems 1 natC w b off g) {j n : Nat} (hx : g[j]? = some n) : w.cell? ⟨b, off + j, none⟩ = some (.int .i64 (n : Int)) := by
  have := h j n hx 0 _ rfl
  simpa using this

set_option maxRecDepth 100000 in
set_option maxHeartbeats 3200000 in
theorem divided_some {w : World} {vp pp : Option Addr} {vc pc : Nat} {V : List VoiceV} {P : List PartV} (h : VpM w vp vc V pp pc P) (t : Int) (hP4 : P.length ≤ 4) (hC12 : (singersL V t).length ≤ 12) (hmo : ∀ x ∈ P, 0 ≤ x.most) (hf : fromF P (comL V t P) [0, 0, 0, 0] ≠ -1) :
    Calls Tryz.prog 14 #[.slice vp V.length vc, .slice pp P.length pc, .int .i64 t] w fun e w' =>
      ∃ (q : Option Addr) (d : Nat), e = .returned (.tuple #[.slice q (divN P (singersL V t) (comL V t P) [0, 0, 0, 0]).length d, .int .i64 (fromF P (comL V t P) [0, 0, 0, 0]), .bool true]) ∧ Slc 2 nmpC w' q (divN P (singersL V t) (comL V t P) [0, 0, 0, 0]).length d (divN P (singersL V t) (comL V t P) [0, 0, 0, 0]) ∧ Ext w w' := by
  have hd := divisions_any h t hP4 hC12 hmo
  have hso := fun u (hu : Ext w u) => singersOf_any vp V.length vc V t u (h.voi.ext hu).1 h.sV h.nV
  have hCS := comL_len V t P
  obtain ⟨l, hl⟩ := best_head _ _ hf
  obtain ⟨hgl, hgk⟩ := divG_ok _ _ hf
  have hTl := divN_len hf hCS
  have hNat := fun {i k : Nat} {s : ByteArray} {x : PartV} (hs : (singersL V t)[i]? = some s) (hk : (divG P (comL V t P) [0, 0, 0, 0])[i]? = some k) (hx : P[k]? = some x) => divN_at (C := comL V t P) (N := [0, 0, 0, 0]) hs hk hx
  rw [hl] at hd
  generalize divN P (singersL V t) (comL V t P) [0, 0, 0, 0] = T at *
  generalize divG P (comL V t P) [0, 0, 0, 0] = G at *
  generalize fromF P (comL V t P) [0, 0, 0, 0] = best at *
  generalize singersL V t = S at *
  generalize comL V t P = C at *
  have hpar := h.par
  have hll : (G :: l).length = l.length + 1 := rfl
  rw [hll] at hd
  replace hd := Lib.hid hd
  replace hf := Lib.hid hf
  replace hso := Lib.hid hso
  replace hl := Lib.hid hl
  replace hNat := Lib.hid (fun i k s x => @hNat i k s x)
  replace hTl := Lib.hid hTl
  replace hCS := Lib.hid hCS
  clear h hmo
  go_enter Tryz.func14, Tryz.ntmps14
  go_wp2_with (first
    | (go_at_call 38; go_loud ((with_reducible refine Calls.mono hd.out ?_); rintro e w1 ⟨q, d, rfl, hR, hb1⟩))
    | (go_at_call 33; go_loud ((with_reducible refine Calls.mono (hso.out _ hb1) ?_); rintro e w2 ⟨qs, ds, rfl, hoS, hb2⟩)))
  have hR2 := hR.ext hb2
  have hE2 := hb1.trans hb2
  have hpar2 := hpar.ext hE2
  obtain ⟨qs', ds', e9, hSn⟩ := slc_of_own (enc := strC) (fun _ => rfl) hoS (by decide) (by omega)
  cases e9
  obtain ⟨rb, roff, q0, d0, rfl, hrb, hrc, hG⟩ := hR2.at_ (i := 0) (r := G) rfl
  rw [Nat.add_zero] at hrc
  obtain ⟨B, hBe⟩ : ∃ B, w2.heap.size = B := ⟨_, rfl⟩
  replace hgk := Lib.hid hgk
  replace hR := Lib.hid hR
  replace hR2 := Lib.hid hR2
  clear hb1 hb2 hoS hpar hd hso
  go_loopw [11, 28] (fun v11 v28 wr => ∃ (k : Nat) (v : Value), v28 = .int .i64 k ∧ v11 = v ∧ k ≤ S.length ∧ wr.ownsRow B 49 2 v (T.take k).length ((T.take k).flatMap nmpC) ∧ Ext w2 wr) (fun _ v28 _ => S.length - (intOf v28).toNat)
  case atStart => exact ⟨0, _, rfl, rfl, Nat.zero_le _, World.ownsRow_nil _ _ _ _, Ext.refl _⟩
  case round =>
    obtain ⟨k, v, rfl, rfl, hk, hown, he⟩ := hrel
    by_cases hlt : k < S.length
    · obtain ⟨s, hs⟩ := getD_some (rfl : S.length = S.length) hlt
      have hlG : G.length = S.length := by rw [hgl, hCS.out]
      obtain ⟨g, hg⟩ := getD_some (rfl : G.length = G.length) (show k < G.length by omega)
      obtain ⟨hgP, -⟩ := hgk.out k g hg
      obtain ⟨x, hx⟩ := getD_some (rfl : P.length = P.length) hgP
      have hTk := hNat.out k g s x hs hg hx
      have hts := take_snocV hTk
      have hkI : (k : Int) < S.length := by omega
      have hkG : (k : Int) < G.length := by omega
      have hgI : (g : Int) < P.length := by omega
      obtain ⟨-, ⟨_, e9⟩ | ⟨sb, soff, rfl, hsb, hsE⟩⟩ := slcC (hSn.ext he)
      · rw [e9] at hs; cases hs
      obtain ⟨-, ⟨_, e9⟩ | ⟨pb, poff, rfl, hpb, hpE⟩⟩ := slcC (hpar2.ext he)
      · rw [e9] at hx; cases hx
      obtain ⟨-, ⟨_, e9⟩ | ⟨gb, goff, rfl, hgb, hgE⟩⟩ := slcC (hG.ext he)
      · rw [e9] at hg; cases hg
      have c1 := hsE.str hs
      obtain ⟨c2, -⟩ := hpE.part hx
      have c3 := hgE.nat hg
      have c4 := (he.walk.1 rb roff hrb).trans hrc
      have hrbw := Nat.lt_of_lt_of_le hrb he.size
      have hTk' : (T.take k).length = k := by rw [List.length_take]; have := hTl.out; have := hCS.out; omega
      have hszr := he.size
      rw [hBe] at hszr
      replace hts := Lib.hid hts
      replace hs := Lib.hid hs
      replace hg := Lib.hid hg
      replace hx := Lib.hid hx
      replace hTk := Lib.hid hTk
      replace hlG := Lib.hid hlG
      clear hsE hpE hgE hrc
      rw [hTk'] at hown
      go_wp2_with (at_builtin; go_loud (refine wp_app1 _ (.tmp 33) (.tmp 46) 36 49 2 32 _ rfl rfl Tryz.underlying36 nmpInfo rfl (by decide) (by decide) B _ k _ rfl (hown.alloc _) wr.heap.size (nmpC (s, x.name)) rfl rfl (Blk.new' rfl) (by simp [nmpC, Value.oneCell']) (by omega) (by simp; omega) ?_; intro v' w6 hown6 hgrow6 _))
      have hbl : ∀ q, u11.ownBlock = some q → B ≤ q := fun q e => (hown.lt q e).1
      go_roundw
      case rel => exact ⟨k + 1, v', by go_num, rfl, by omega, by rw [hts.out, flat_snoc, List.length_append, hTk']; exact hown6, (he.alloc _).grown hgrow6 (fun q e => by have := hbl q e; omega)⟩
      case measure => simp [intOf]; omega
    · obtain rfl : k = S.length := by omega
      rw [List.take_of_length_le (by have := hTl.out; have := hCS.out; omega)] at hown
      obtain ⟨q9, d9, rfl, hs9⟩ := slc_of_own nmpC_len hown (by decide) (by have := hTl.out; have := hCS.out; omega)
      have hEf := hE2.trans he
      replace hs9 := Lib.hid hs9
      clear hown hrc
      go_wp2
      go_ret3
      exact ⟨_, _, rfl, hs9.out, hEf⟩
end Go.Proofs.YtcdjkgfdhngmeaaGreatDoor

namespace Go.Proofs.YtcdjkgfdhngmeaaGreatDoor
open Go Go.RowKit

set_option maxRecDepth 100000 in
set_option maxHeartbeats 1600000 in
theorem unsCall (ai aa i n ac rb roff gb goff gl gd qb qoff ql qd x y : Nat) (w : World) (hai : Blk w ai 3 #[.int .i64 i]) (haa : Blk w aa 81 #[.slice (some ⟨rb, roff, none⟩) n ac]) (hn : 0 < n)
    (c1 : w.cell? ⟨rb, roff, none⟩ = some (.slice (some ⟨gb, goff, none⟩) gl gd)) (hgi : i < gl) (c2 : w.cell? ⟨gb, goff + i, none⟩ = some (.int .i64 (y : Int))) (hqi : i < ql) (c3 : w.cell? ⟨qb, qoff + i, none⟩ = some (.int .i64 (x : Int))) :
    Calls Tryz.prog 40 #[.slice (some ⟨qb, qoff, none⟩) ql qd, .pointer (some ⟨ai, 0, none⟩), .pointer (some ⟨aa, 0, none⟩)] w fun e w' => e = .returned (.bool (!decide (x = y))) ∧ Drw w w' := by
  have hn0 : (0 : Int) < n := by omega
  have hiG : (i : Int) < gl := by omega
  have hiQ : (i : Int) < ql := by omega
  by_cases hxy : x = y
  all_goals
    have hb : ((x : Int) == (y : Int)) = decide (x = y) := by simp [hxy] <;> omega
    rw [show decide (x = y) = _ from by simp [hxy]; rfl] at hb
    simp only [hxy]
    go_enter Tryz.func40, Tryz.ntmps40
    go_upto_region 1 with fail
    refine wp_region_planS [(0, true), (1, true), (2, true), (3, true), (4, true), (5, true), (6, true), (7, true), (8, true), (9, true), (10, true)] 11 (fun w' => Blk w' ai 3 #[.int .i64 i] ∧ Blk w' aa 81 #[.slice (some ⟨rb, roff, none⟩) n ac] ∧ (w'.cell? ⟨rb, roff, none⟩ = some (.slice (some ⟨gb, goff, none⟩) gl gd)) ∧ (w'.cell? ⟨gb, goff + i, none⟩ = some (.int .i64 (y : Int))) ∧ (w'.cell? ⟨qb, qoff + i, none⟩ = some (.int .i64 (x : Int)))) Drw (by kernel_rfl) (by kernel_rfl) Drw.refl (fun _ _ _ => Drw.trans) (fun _ _ h he => ⟨h.1.drw he, h.2.1.drw he, (by obtain ⟨q, rfl⟩ := he; exact h.2.2.1), (by obtain ⟨q, rfl⟩ := he; exact h.2.2.2.1), (by obtain ⟨q, rfl⟩ := he; exact h.2.2.2.2)⟩) ⟨(by (repeat (with_reducible first | assumption | exact Blk.new' (by simp) | refine Blk.drew ?_ | refine Blk.alloc ?_ _ | exact Drw.refl _ | refine Ext.drew ?_ | refine Ext.alloc ?_ _))), (by (repeat (with_reducible first | assumption | exact Blk.new' (by simp) | refine Blk.drew ?_ | refine Blk.alloc ?_ _ | exact Drw.refl _ | refine Ext.drew ?_ | refine Ext.alloc ?_ _))), c1, c2, c3⟩ ?_
    repeat
      first
        | (refine plan_quiet rfl rfl (fun _ _ _ _ h => h) ?_
           apply Exists.intro
           refine ⟨fun w' hw' => ?_, ?_⟩
           · obtain ⟨hHq0, hHq1, hHq2, hHq3, hHq4⟩ := hw'
             obtain ⟨w0, -⟩ := hHq0.walk; obtain ⟨w1, -⟩ := hHq1.walk
             skip
             simp [go_sem, quietTo, Drw.refl, ↓IntWalk.iteOmega, w0, w1, hHq2, hHq3, hHq4, hiG, hiQ, hn0, hb]
             first
               | rfl
           simp only [Act.put, List.setIfInBounds_toArray, List.set_cons_succ, List.set_cons_zero])
        | (refine plan_skip rfl rfl (fun _ _ _ _ h => h) ?_
           simp only [Act.put, List.setIfInBounds_toArray, List.set_cons_succ, List.set_cons_zero])
    refine plan_nil fun wrq herq hwrq => ?_
    obtain ⟨hHq0, hHq1, hHq2, hHq3, hHq4⟩ := hwrq
    obtain ⟨hCq0, hFq0⟩ := hHq0.walk
    obtain ⟨hCq1, hFq1⟩ := hHq1.walk
    simp only [List.drop_succ_cons, List.drop_zero, List.drop_nil]
    go_wp2
    go_ret
    exact ⟨by simp <;> omega, Drw.trans ⟨1, rfl⟩ herq⟩
theorem best_few {P : List PartV} {C : List (List Int)} (hP4 : P.length ≤ 4) (hC : C.length ≤ 12) (hm : ∀ p, p < P.length → (0 : Int) ≤ mostP P p) : (bestL P C [0, 0, 0, 0]).length ≤ 1000000000 := by
  have h1 := foldG_len hP4 C 0 [] ([], -1)
  have h2 : foldG P C 0 [] ([], -1) = (bestL P C [0, 0, 0, 0], fromF P C [0, 0, 0, 0]) := by
    unfold foldG
    rw [List.drop_zero]
    simp only [List.nil_append]
    exact search_is (by simpa using hP4) fun p hp => by
      have e : ([0, 0, 0, 0] : List Nat).getD p 0 = 0 := by
        rw [List.getD_eq_getElem?_getD]
        rcases p with _ | _ | _ | _ | p <;> simp
      rw [e]; exact hm p hp
  rw [h2] at h1
  have h3 : 4 ^ (C.length - 0) ≤ 4 ^ 12 := Nat.pow_le_pow_right (by decide) (by omega)
  have h4 : 4 ^ 12 = 16777216 := by decide
  simp only [List.length_nil] at h1
  omega
/-- Is a best division other than the first, at a singer? -/
def othB (L : List (List Nat)) (G : List Nat) (i j : Nat) : Bool := !decide ((L.getD j []).getD i 0 = G.getD i 0)
theorem oth_any {P : List PartV} {C : List (List Int)} (h : fromF P C [0, 0, 0, 0] ≠ -1) {i : Nat} (hi : i < C.length) (hlen : ∀ g ∈ bestL P C [0, 0, 0, 0], g.length = C.length) :
    ((List.finRange (bestL P C [0, 0, 0, 0]).length).any fun j => othB (bestL P C [0, 0, 0, 0]) (divG P C [0, 0, 0, 0]) i j.1) = unsB P C i := by
  have hG := hlen _ (divG_best h)
  unfold unsB othB
  generalize bestL P C [0, 0, 0, 0] = L at *
  generalize divG P C [0, 0, 0, 0] = G at *
  rw [Bool.eq_iff_iff, List.any_eq_true, List.any_eq_true]
  have key : ∀ g ∈ L, (!decide (g.getD i 0 = G.getD i 0)) = true ↔ decide (g[i]? ≠ G[i]?) = true := fun g hg => by
    have h1 := hlen g hg
    rw [List.getD_eq_getElem?_getD, List.getD_eq_getElem?_getD, List.getElem?_eq_getElem (by omega), List.getElem?_eq_getElem (by omega)]
    simp
  constructor
  · rintro ⟨⟨j, hj⟩, -, h2⟩
    refine ⟨L[j], List.getElem_mem _, (key _ (List.getElem_mem _)).1 ?_⟩
    rw [List.getD_eq_getElem?_getD (l := L), List.getElem?_eq_getElem hj] at h2
    exact h2
  · rintro ⟨g, hg, h2⟩
    obtain ⟨j, hj, rfl⟩ := List.mem_iff_getElem.1 hg
    refine ⟨⟨j, hj⟩, List.mem_finRange _, ?_⟩
    rw [List.getD_eq_getElem?_getD (l := L), List.getElem?_eq_getElem hj]
    exact (key _ hg).2 h2
theorem unsHas {w : World} {ai aa i d : Nat} {q : Option Addr} {L : List (List Nat)} {G : List Nat} {l : List (List Nat)} (hL : L = G :: l) (hai : Blk w ai 3 #[.int .i64 i]) (haa : Blk w aa 81 #[.slice q L.length d]) (hR : RowsR natC w q L.length d L) (hlen : ∀ g ∈ L, i < g.length) (hbig : L.length ≤ 1000000000) :
    Calls Tryz.prog 39 #[.slice q L.length d, .func (.func 40) #[] #[.pointer (some ⟨ai, 0, none⟩), .pointer (some ⟨aa, 0, none⟩)]] w fun e w' => e = .returned (.bool ((List.finRange L.length).any fun j => othB L G i j.1)) ∧ Ext w w' := by
  have hR' := hR
  obtain ⟨vs, h1, h2, h3⟩ := hR
  have hpos : 0 < L.length := by rw [hL]; simp
  haveI : Inhabited (Fin L.length) := ⟨⟨0, hpos⟩⟩
  obtain ⟨-, -, hsl⟩ := h1.1
  obtain ⟨rb, roff, rfl, hrb, hE⟩ := hsl (by omega)
  obtain ⟨rb', roff', q0, d0, e9, -, hrc, hG⟩ := hR'.at_ (i := 0) (r := G) (by rw [hL]; rfl)
  cases e9
  rw [Nat.add_zero] at hrc
  have hGl : i < G.length := hlen G (by rw [hL]; exact List.mem_cons_self ..)
  obtain ⟨gb, goff, rfl, hgb, hgE⟩ := hG.1.2.2 (by omega)
  have eg : ∀ args w, (callFunc 40 args).run Tryz.prog w = .ok (.enter 40 args) w := enters_of Tryz.func40 (by kernel_rfl) rfl
  have hp : PredAt Tryz.prog 40 #[.pointer (some ⟨ai, 0, none⟩), .pointer (some ⟨aa, 0, none⟩)] (fun j : Fin L.length => vs.getD j.1 (.int .i64 0)) (fun j => othB L G i j.1) w := fun W j hb => by
    show Calls Tryz.prog 40 #[vs.getD j.1 (.int .i64 0), .pointer (some ⟨ai, 0, none⟩), .pointer (some ⟨aa, 0, none⟩)] W _
    have hE : Ext w W := hb
    obtain ⟨j, hj⟩ := j
    obtain ⟨r, hr⟩ := getD_some (rfl : L.length = L.length) hj
    obtain ⟨q', d', hv, hS⟩ := h3 j r hr
    have hrl := hlen r (List.mem_of_getElem? hr)
    obtain ⟨qb, qoff, rfl, hqb, hqE⟩ := hS.1.2.2 (by omega)
    simp only [List.getD_eq_getElem?_getD, hv, Option.getD_some]
    have ho : othB L G i j = !decide (r.getD i 0 = G.getD i 0) := by unfold othB; rw [List.getD_eq_getElem?_getD (l := L), hr]; rfl
    rw [ho]
    have hx : r[i]? = some (r.getD i 0) := by rw [List.getD_eq_getElem?_getD, List.getElem?_eq_getElem hrl]; rfl
    have hy : G[i]? = some (G.getD i 0) := by rw [List.getD_eq_getElem?_getD, List.getElem?_eq_getElem hGl]; rfl
    have c1 := (hE.walk.1 rb roff hrb).trans hrc
    have c2 := (hgE.ext hE hgb).nat hy
    have c3 := (hqE.ext hE hqb).nat hx
    exact unsCall ai aa i L.length d rb roff gb goff G.length d0 qb qoff r.length d' _ _ W (hai.ext hE) (haa.ext hE) hpos c1 hGl c2 hrl c3
  have := AnyE.slices_ContainsFunc (α := Fin L.length) Tryz.lqcRows (fun j => vs.getD j.1 (.int .i64 0)) (fun j => othB L G i j.1) 40 _ eg rb roff L.length d (List.finRange L.length) w hp (by simp) (by omega) (fun j hj => by
    rw [List.length_finRange] at hj
    obtain ⟨r, hr⟩ := getD_some (rfl : L.length = L.length) hj
    obtain ⟨q', d', hv, hS⟩ := h3 j r hr
    have := hE j _ hv 0 _ rfl
    rw [getElem!_pos (List.finRange L.length) j (by simpa using hj)]
    simp only [List.getElem_finRange, Fin.cast_mk, List.getD_eq_getElem?_getD, hv, Option.getD_some]
    simpa using this)
  rw [List.take_of_length_le (by simp)] at this
  exact this.mono fun e w' ⟨he, r, hw⟩ => ⟨he, by rw [hw]; exact below_drewN' (Below.refl _ w) r⟩
end Go.Proofs.YtcdjkgfdhngmeaaGreatDoor
