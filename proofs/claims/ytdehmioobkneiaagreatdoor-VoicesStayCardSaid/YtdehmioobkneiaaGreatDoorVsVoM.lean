/- Who can sing in a range: voice.Who and gleeref1.WhoOf. Conditions: sizes. -/
import Derived.Test.YtdehmioobkneiaaGreatDoorVsJ29
import Derived.Maps.RangeWalk
import Derived.Sort.KeysCollected
set_option linter.unusedSimpArgs false
set_option linter.unusedVariables false
namespace Go.Proofs.YtdehmioobkneiaaGreatDoor
open Go Go.RowKit Go.Sort Go.Maps

theorem ableInfo : (Tryz.prog.info? 67).map (fun i => (i.zero, i.size, i.bytes)) = some (some (.agg #[.string ⟨#[]⟩, .int .i64 0]), 2, 24) := by kernel_rfl
/-- Those who can sing in a range: a rearrangement, in one order. -/
def WhoR (V : List VoiceV) (t : Int) (r : Int × Int) (M : List AbleV) : Prop := ByK ableN AbleV.name (ableL (rgS V t V.length) r (singersL V t)) M
theorem gathered {V : List VoiceV} {t : Int} {D : DataW Unit} (h1 : ∀ p, Maps.has D (keyLv p) = (rgS V t V.length p).isSome) {left : Lit → Bool} {ss : List (List UInt8)} (hC : Collected D left ss) (hl : ∀ kl, left kl = false) : (ss.map unB).Perm (singersL V t) := by
  have hnd : (ss.map unB).Nodup := by
    have := hC.1
    rw [List.nodup_iff_pairwise_ne] at this ⊢
    rw [List.pairwise_map]
    exact this.imp fun h e => h (unB_inj e)
  refine (List.perm_ext_iff_of_nodup hnd (singers_rise V t).nodup).2 fun p => ?_
  rw [singers_mem, ← h1]
  constructor
  · intro h
    obtain ⟨x, hx, rfl⟩ := List.mem_map.1 h
    have := ((hC.2 x).1 hx).1
    unfold keyLv
    rw [unB_data]
    exact this
  · intro h
    exact List.mem_map.2 ⟨p.data.toList, (hC.2 _).2 ⟨h, hl _⟩, unB_of p⟩

theorem rngR_shape (v : Value) (y : DataW Unit × List MemPlace) (h : rngR v = some y) : ∃ c, v = rngV c := by
  unfold rngR at h
  split at h
  · rename_i cs
    split at h
    · rename_i a b hc
      exact ⟨(a, b), by unfold rngV; congr 1; exact Array.toList_inj.1 hc⟩
    · cases h
  · cases h
set_option maxRecDepth 100000 in
set_option maxHeartbeats 3200000 in
theorem who_own (p : Option Addr) (c : Nat) (V : List VoiceV) (t lo hi : Int) (w : World) (h : Slc 4 voiC w p V.length c V) (hs : ∀ x ∈ V, x.Small) (hn : V.length ≤ 200) (hF : voicesF V = 0) (hr : rightR lo hi = true) (hm : momB t = true) (hlo : -1000 ≤ lo ∧ lo ≤ 1000) (hhi : -1000 ≤ hi ∧ hi ≤ 1000) :
    Calls Tryz.prog 17 #[.slice p V.length c, .agg #[.int .i64 lo, .int .i64 hi], .int .i64 t] w fun e w' => ∃ (q : Option Addr) (d : Nat) (M : List AbleV), e = .returned (.tuple #[.slice q M.length d, .int .i64 0]) ∧ WhoR V t (lo, hi) M ∧ w'.ownsRow w.heap.size 67 2 (.slice q M.length d) M.length (M.flatMap ableC) ∧ Ext w w' := by
  have hck := fun u (hu : Ext w u) => checkVoices_any p V.length c V u (h.1.ext hu) hs hn
  rw [hF] at hck
  have hri := fun u => isRight_any lo hi u
  rw [hr] at hri
  have hmo := fun u => isMom_any t u
  rw [hm] at hmo
  have hra := fun u (hu : Ext w u) => rangesAt_any p V.length c V t u (h.1.ext hu) hs hn
  have hbd := fun p => rg_bounds hs t p
  have hE0 : Ext w (w.alloc (.cells #[.int .i64 lo, .int .i64 hi] 44)) := (Ext.refl _).alloc _
  have hB0 : Blk (w.alloc (.cells #[.int .i64 lo, .int .i64 hi] 44)) w.heap.size 44 #[.int .i64 lo, .int .i64 hi] := Blk.new' rfl
  replace hck := Lib.hid hck
  replace hri := Lib.hid hri
  replace hmo := Lib.hid hmo
  replace hra := Lib.hid hra
  have h' := Lib.hid h
  clear h hF hr hm
  go_enter Tryz.func17, Tryz.ntmps17
  go_wp2_with (first
    | (go_at_call 47; (with_reducible refine Calls.mono (hck.out _ hE0) ?_); rintro e w1 ⟨rfl, hb1⟩; have hE1 := hE0.trans hb1; have hB1 := hB0.ext hb1; obtain ⟨y1, -⟩ := hB1.walk; have yl1 := hB1.lt)
    | (go_at_call 48; (with_reducible refine Calls.mono (hri.out _) ?_); rintro e w2 ⟨rfl, hb2⟩; have hE2 := hE1.trans hb2; have hB2 := hB1.ext hb2)
    | (go_at_call 49; (with_reducible refine Calls.mono (hmo.out _) ?_); rintro e w3 ⟨rfl, hb3⟩; have hE3 := hE2.trans hb3; have hB3 := hB2.ext hb3)
    | (go_at_call 50; (with_reducible refine Calls.mono (hra.out _ hE3) ?_); rintro e w4 ⟨gm, rfl, hgm, ⟨D, hD, hT, h1, h2, h3⟩, hb4⟩; have hE4 := hE3.trans hb4; have hB4 := hB3.ext hb4)
    | (at_range; go_loud (refine wpList_range_own _ rfl _ 114 rfl 9 44 (string_keyed Tryz.underlying9) Tryz.underlying114 rngR gm _ D rfl hD ?_; intro w5 hrg5 hg5 hs5)))
  go_frame
  have hE5 : Ext w w5 := hE4.grown hg5 (by simp)
  have hB5 : Blk w5 w.heap.size 44 #[.int .i64 lo, .int .i64 hi] := hB4.grownG hg5 (by simp)
  have hgl4 := hD.lt
  have hBl4 := hB4.lt
  have hC0 := Collected.start D
  clear hD hE0 hB0 hE1 hB1 y1 yl1 hE2 hB2 hE3 hB3 hE4 hB4 hb1 hb2 hb3 hb4 hck hri hmo hra hg5 hT
  generalize w4.heap.size = ri at *
  have hrn : ri + 1 ≤ w5.heap.size := by omega
  have hin : ∀ (x : List UInt8) (y v : _), D.atKey (.string x) y = v → True := fun _ _ _ _ => trivial
  clear hin hs5
  replace h1 := Lib.hid h1
  replace h2 := Lib.hid h2
  replace hbd := Lib.hid hbd
  obtain ⟨F, hFe⟩ : ∃ F, rgS V t V.length = F := ⟨_, rfl⟩
  rw [hFe] at h1 h2 hbd
  generalize hB : w5.heap.size = B at *
  go_loopw [9] (fun v9 wr => ∃ (left : Lit → Bool) (cnt : Nat) (ss : List (List UInt8)) (v : Value), v9 = v ∧ wr.ranges Tryz.prog 9 rngR gm ri (Maps.size D) D left cnt ∧ Collected D left ss ∧ ss.length + cnt ≤ V.length ∧
      wr.ownsRow B 67 2 v (ableL F (lo, hi) (ss.map unB)).length ((ableL F (lo, hi) (ss.map unB)).flatMap ableC) ∧ Blk wr w.heap.size 44 #[.int .i64 lo, .int .i64 hi] ∧ B ≤ wr.heap.size ∧ Ext w wr)
    (fun _ wr => wr.rangeLeft gm ri)
  case atStart => exact ⟨_, _, [], _, rfl, hrg5, hC0, by simpa using h3, World.ownsRow_nil _ _ _ _, hB5, by omega, hE5⟩
  case round =>
    clear hrg5 hC0 hB5 hE5
    obtain ⟨left, cnt, ss, v, rfl, hrg, hC, hcs, hown, hB6, hBw, hE6⟩ := hrel
    go_wp2_with (at_next; go_loud (refine wpList_next_ranges _ rfl _ rfl 9 (string_keyed Tryz.underlying9) rngR encStr rngV (fun key kl hk => by obtain ⟨x, hx, _⟩ := Maps.keyOf_str Tryz.underlying9 hk; exact ⟨x, hx⟩) rngR_shape gm ri _ _ _ _ rfl hrg ?_ ?_))
    · intro hc0 hl0
      have hper := gathered (V := V) (t := t) (D := D) (by rw [hFe]; exact h1.out) hC hl0
      have hap := ableL_perm (F := F) (r := (lo, hi)) hper
      have hdis : (ableL F (lo, hi) (ss.map unB)).Pairwise fun a b => a.name ≠ b.name := by
        refine ableL_pair (R := fun a b => a ≠ b) ?_
        have := hper.nodup_iff.2 (singers_rise V t).nodup
        rwa [List.nodup_iff_pairwise_ne] at this
      have hlen : (ableL F (lo, hi) (ss.map unB)).length ≤ 200 := Nat.le_trans (ableL_len _ _ _) (by rw [List.length_map]; omega)
      have hres : ∀ M, ByK ableN AbleV.name (ableL F (lo, hi) (ss.map unB)) M → WhoR V t (lo, hi) M := fun M hM => by unfold WhoR; rw [hFe]; exact ⟨hM.1.trans hap, hM.2⟩
      generalize ableL F (lo, hi) (ss.map unB) = T at *
      replace hap := Lib.hid hap
      replace hper := Lib.hid hper
      replace hres := Lib.hid hres
      replace hdis := Lib.hid hdis
      replace hl0 := Lib.hid hl0
      have hsz := hE6.size
      have hwB : w.heap.size ≤ B := by omega
      have hown' := own_lowV hown hwB
      clear hB6 hrg hown
      replace hE6 := Lib.hid hE6
      by_cases h0 : T.length = 0
      · have hT0 : T = [] := List.eq_nil_of_length_eq_zero h0
        subst hT0
        clear h0
        have hr0 := hres.out [] ⟨List.Perm.refl _, List.Pairwise.nil⟩
        replace hr0 := Lib.hid hr0
        obtain ⟨q, d, rfl, -⟩ := slc_of_own ableC_len hown' (by decide) (by decide)
        have hno := sortAbleNone_any q d (.func (.func 53) #[] #[]) wr
        replace hno := Lib.hid hno
        replace hown' := Lib.hid hown'
        go_wp2_with (go_at_call 52; go_loud ((with_reducible refine Calls.mono hno.out ?_); rintro e w3 ⟨rfl, rfl⟩))
        go_ret2
        exact ⟨q, d, [], rfl, hr0.out, hown'.out, hE6.out⟩
      · have h0' : 0 < T.length := by omega
        obtain ⟨g, d, rfl, hgk, hgl⟩ := hown'.form h0'
        have hso := sortAble_any hown' rfl (by omega) hdis.out
        replace hso := Lib.hid hso
        replace h0 := Lib.hid h0
        clear hown'
        go_wp2_with (go_at_call 52; go_loud ((with_reducible refine Calls.mono hso.out ?_); rintro e w3 ⟨rfl, M, hM, ho3, hx3⟩))
        have hMl := hM.1.length_eq
        rw [← hMl] at ho3
        replace ho3 := Lib.hid ho3
        go_ret2
        exact ⟨_, d, M, by rw [hMl]; rfl, hres.out M hM, ho3.out, hx3 w hE6.out hgk⟩
    · intro x ca cb kl yd yp w2 cnt2 hkey hlk hv hat hrg2 hlt hg2 hs2 hen
      obtain ⟨x', ex, rfl, hxl⟩ := Maps.keyOf_str Tryz.underlying9 hkey
      obtain rfl : x = x' := encStr_inj ex
      clear hs2 hkey ex
      have hFx : F (unB x) = some (ca, cb) := by
        have hh := Maps.has_true_of_atKey hat
        have k1 := h1.out (unB x)
        unfold keyLv at k1
        rw [unB_data, hh] at k1
        obtain ⟨u, hu⟩ := Option.isSome_iff_exists.1 k1.symm
        have k2 := h2.out _ _ hu (rngD (0, 0))
        unfold keyLv at k2
        rw [unB_data, hat] at k2
        have k3 : rngR (rngV (ca, cb)) = some (rngD (ca, cb), []) := rngR_mk _
        rw [k3] at hv
        simp only [Option.some.injEq, Prod.mk.injEq] at hv
        rw [← hv.1] at k2
        unfold rngD at k2
        simp only [DataW.agg.injEq, List.cons.injEq, DataW.lit.injEq, Lit.int.injEq, true_and, and_true] at k2
        rw [hu]
        obtain ⟨e1, e2⟩ := k2
        rw [e1, e2]
      obtain ⟨⟨b1, b2⟩, ⟨b3, b4⟩⟩ := hbd.out (unB x)
      rw [hFx] at b1 b2 b3 b4
      simp only [Option.getD_some] at b1 b2 b3 b4
      have hC1 := hC.step hlk hat
      have hss1 : (ss ++ [x]).map unB = ss.map unB ++ [unB x] := by rw [List.map_append]; rfl
      have hcf : ∀ u, Calls Tryz.prog 51 #[.agg #[.int .i64 ca, .int .i64 cb], .agg #[.int .i64 lo, .int .i64 hi]] u fun e w' => e = .returned (.int .i64 (comF (ca, cb) (lo, hi))) ∧ Ext u w' := fun u => comfortV_any (ca, cb) (lo, hi) u ⟨b1, b2⟩ ⟨b3, b4⟩ hlo hhi
      have hinn := fun h => ableL_in (F := F) (r := (lo, hi)) (S := ss.map unB) (p := unB x) h
      have hout := fun h => ableL_out (F := F) (r := (lo, hi)) (S := ss.map unB) (p := unB x) h
      rw [hFx] at hinn hout
      simp only [Option.getD_some] at hinn hout
      have hlen : (ableL F (lo, hi) (ss.map unB)).length ≤ 200 := Nat.le_trans (ableL_len _ _ _) (by rw [List.length_map]; omega)
      have hrgs := hrg2.left_eq
      have hrgs0 := hrg.left_eq
      have hown2 := hown.kept hg2 (.inr fun e => by have := (hown.lt _ e).1; omega)
      have hB7 := hB6.grownG hg2 (by rintro q h; cases h; omega)
      have hE7 : Ext w w2 := hE6.grown hg2 (fun q h => by cases h; omega)
      have hBw2 := Nat.le_trans hBw hg2.size
      have hri := hrg2.lt
      clear hv hat hlk hg2 hC hown hB6 hE6 hBw b1 b2 b3 b4 hFx hxl hrg
      generalize comF (ca, cb) (lo, hi) = cf at *
      generalize ableL F (lo, hi) (ss.map unB) = T at *
      replace hcf := Lib.hid hcf
      replace hC1 := Lib.hid hC1
      have hl1 : (ss ++ [x]).length = ss.length + 1 := by simp
      rw [show encStr x = .string (unB x) from rfl, show rngV (ca, cb) = .agg #[.int .i64 ca, .int .i64 cb] from rfl] at hen ⊢
      have he0 : Ext w2 (w2.alloc (.cells #[.int .i64 ca, .int .i64 cb] 44)) := (Ext.refl _).alloc _
      have hX := Blk.new' (w := w2) (t := 44) (cs := #[.int .i64 ca, .int .i64 cb]) rfl
      have hB8 := hB7.ext he0
      have hown3 := own_ext he0 hown2
      have hrg3 := hrg2.alloc (.cells #[.int .i64 ca, .int .i64 cb] 44)
      have hE8 := hE7.trans he0
      obtain ⟨y1, -⟩ := hB7.walk
      have yl := hB7.lt
      replace hrg3 := Lib.hid hrg3
      replace hX := Lib.hid hX
      clear he0 hB7 hown2 hE7 hrg2
      by_cases h0 : 0 ≤ cf
      · have hnx := hinn h0
        replace hnx := Lib.hid hnx
        clear hinn hout
        have hlT : (T ++ [(⟨unB x, cf⟩ : AbleV)]).length = T.length + 1 := by simp
        have hsz0 : (w2.alloc (.cells #[.int .i64 ca, .int .i64 cb] 44)).heap.size = w2.heap.size + 1 := by simp
        have hkeep : ∀ u r, (w2.alloc (.cells #[.int .i64 ca, .int .i64 cb] 44)).grownBy u r → (∀ q, r = some q → B ≤ q) → u.ranges Tryz.prog 9 rngR gm ri (Maps.size D) D (fun z => left z && !z.sameKey (Lit.string x)) cnt2 := fun u r hu hq => hrg3.out.kept hu (fun e => by have := hq gm e.symm; omega) (fun e => by have := hq ri e.symm; omega)
        replace hkeep := Lib.hid hkeep
        replace hsz0 := Lib.hid hsz0
        go_wp2_with (first
          | (go_at_call 51; go_loud ((with_reducible refine Calls.mono (hcf.out _) ?_); rintro e w3 ⟨rfl, hb3⟩; have hown4 := own_ext hb3 hown3; have hB9 := hB8.ext hb3; have hE9 := hE8.trans hb3; have hz3 := hb3.size; rw [hsz0.out] at hz3; clear hown3 hB8 hE8))
          | (at_builtin; go_loud (refine wp_app1 _ (.tmp 40) (.tmp 44) 61 67 2 24 _ rfl rfl Tryz.underlying61 ableInfo rfl (by decide) (by decide) B _ T.length _ rfl (hown4.alloc _) w3.heap.size (ableC ⟨unB x, cf⟩) rfl rfl (Blk.new' rfl) (by simp [ableC, Value.oneCell']) (by omega) (by simp; omega) ?_; intro v' w6 hown6 hgrow6 _)))
        have hg6 := (((World.grownBy_of_ext hb3).andThen (World.grownBy_alloc w3 (.cells #[.string (unB x), .int .i64 cf] 67) none) (by simp)).but u9.ownBlock).andThen hgrow6 (fun j e => .inr e)
        have hbl : ∀ q, u9.ownBlock = some q → B ≤ q := fun q e => (hown4.lt q e).1
        have hrg6 := hkeep.out _ _ hg6 hbl
        have hbl' : ∀ q, u9.ownBlock = some q → q ≠ w.heap.size := fun q e => by have := hbl q e; omega
        go_roundw
        case rel => exact ⟨_, cnt2, ss ++ [x], v', rfl, hrg6, hC1.out, by omega, by rw [hss1, hnx.out, flat_snoc, hlT]; exact hown6, (hB9.alloc _).grownG hgrow6 hbl', by have := hgrow6.size; simp at this; omega, (hE9.alloc _).grown hgrow6 (fun q e => by have := hbl q e; omega)⟩
        case measure => rw [hrg6.left_eq, hrgs0]; exact hlt
      · have hnx := hout h0
        replace hnx := Lib.hid hnx
        clear hinn hout
        replace hown3 := Lib.hid hown3
        replace hB8 := Lib.hid hB8
        replace hE8 := Lib.hid hE8
        have hkeep : ∀ u, Ext (w2.alloc (.cells #[.int .i64 ca, .int .i64 cb] 44)) u → u.ranges Tryz.prog 9 rngR gm ri (Maps.size D) D (fun z => left z && !z.sameKey (Lit.string x)) cnt2 := fun u hu => hrg3.out.kept (World.grownBy_of_ext hu) (by simp) (by simp)
        replace hkeep := Lib.hid hkeep
        go_wp2_with (go_at_call 51; go_loud ((with_reducible refine Calls.mono (hcf.out _) ?_); rintro e w3 ⟨rfl, hb3⟩))
        go_roundw
        case rel => exact ⟨_, cnt2, ss ++ [x], _, rfl, hkeep.out _ hb3, hC1.out, by omega, by rw [hss1, hnx.out]; exact own_ext hb3 hown3.out, hB8.out.ext hb3, by have := hb3.size; simp at this; omega, hE8.out.trans hb3⟩
        case measure => rw [(hkeep.out _ hb3).left_eq, hrgs0]; exact hlt
end Go.Proofs.YtdehmioobkneiaaGreatDoor
