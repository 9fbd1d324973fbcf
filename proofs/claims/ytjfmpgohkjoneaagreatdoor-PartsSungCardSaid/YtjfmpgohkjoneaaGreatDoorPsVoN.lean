/- Who can sing in a range: voice.Who where something is wrong; the document's WhoOf. Conditions: sizes. -/
import Derived.Test.YtjfmpgohkjoneaaGreatDoorPsVoM
set_option linter.unusedSimpArgs false
set_option linter.unusedVariables false
namespace Go.Proofs.YtjfmpgohkjoneaaGreatDoor
open Go Go.RowKit Go.Sort

set_option maxRecDepth 100000 in
set_option maxHeartbeats 3200000 in
theorem who_bad (p : Option Addr) (c : Nat) (V : List VoiceV) (t lo hi : Int) (w : World) (h : Slc 4 voiC w p V.length c V) (hs : ∀ x ∈ V, x.Small) (hn : V.length ≤ 200) (hz : ¬ (voicesF V = 0 ∧ rightR lo hi = true ∧ momB t = true)) :
    Calls Tryz.prog 38 #[.slice p V.length c, .agg #[.int .i64 lo, .int .i64 hi], .int .i64 t] w fun e w' => e = .returned (.tuple #[.slice none 0 0, .int .i64 (if voicesF V = 0 then 1 else voicesF V)]) ∧ Ext w w' := by
  have hck := fun u (hu : Ext w u) => checkVoices_any p V.length c V u (h.1.ext hu) hs hn
  have hri := fun u => isRight_any lo hi u
  have hmo := fun u => isMom_any t u
  have hE0 : Ext w (w.alloc (.cells #[.int .i64 lo, .int .i64 hi] 55)) := (Ext.refl _).alloc _
  have hB0 : Blk (w.alloc (.cells #[.int .i64 lo, .int .i64 hi] 55)) w.heap.size 55 #[.int .i64 lo, .int .i64 hi] := Blk.new' rfl
  clear h
  generalize voicesF V = f at *
  replace hck := Lib.hid hck
  by_cases h1 : f = 0
  · subst h1
    rw [if_pos rfl]
    cases hr : rightR lo hi
    · rw [hr] at hri
      replace hri := Lib.hid hri
      clear hr hz
      go_enter Tryz.func38, Tryz.ntmps38
      go_wp2_with (first
        | (go_at_call 76; (with_reducible refine Calls.mono (hck.out _ hE0) ?_); rintro e w1 ⟨rfl, hb1⟩; have hE1 := hE0.trans hb1; have hB1 := hB0.ext hb1; obtain ⟨y1, -⟩ := hB1.walk; have yl1 := hB1.lt)
        | (go_at_call 74; (with_reducible refine Calls.mono (hri.out _) ?_); rintro e w2 ⟨rfl, hb2⟩; have hE2 := hE1.trans hb2))
      go_ret2
      exact ⟨rfl, hE2⟩
    · rw [hr] at hri
      have hm : momB t = false := by
        cases hm : momB t
        · rfl
        · exact absurd ⟨rfl, hr, hm⟩ hz
      rw [hm] at hmo
      replace hri := Lib.hid hri
      replace hmo := Lib.hid hmo
      clear hr hz hm
      go_enter Tryz.func38, Tryz.ntmps38
      go_wp2_with (first
        | (go_at_call 76; (with_reducible refine Calls.mono (hck.out _ hE0) ?_); rintro e w1 ⟨rfl, hb1⟩; have hE1 := hE0.trans hb1; have hB1 := hB0.ext hb1; obtain ⟨y1, -⟩ := hB1.walk; have yl1 := hB1.lt)
        | (go_at_call 74; (with_reducible refine Calls.mono (hri.out _) ?_); rintro e w2 ⟨rfl, hb2⟩; have hE2 := hE1.trans hb2)
        | (go_at_call 77; (with_reducible refine Calls.mono (hmo.out _) ?_); rintro e w3 ⟨rfl, hb3⟩; have hE3 := hE2.trans hb3))
      go_ret2
      exact ⟨rfl, hE3⟩
  · rw [if_neg h1]
    clear hz
    go_enter Tryz.func38, Tryz.ntmps38
    go_wp2_with (go_at_call 76; (with_reducible refine Calls.mono (hck.out _ hE0) ?_); rintro e w1 ⟨rfl, hb1⟩; have hE1 := hE0.trans hb1)
    go_ret2
    exact ⟨rfl, hE1⟩

set_option maxRecDepth 100000 in
set_option maxHeartbeats 3200000 in
theorem whoOf_any (p : Option Addr) (c : Nat) (V : List VoiceV) (t lo hi : Int) (w : World) (h : Slc 4 voiC w p V.length c V) (hs : ∀ x ∈ V, x.Small) (hn : V.length ≤ 19) (hlo : -1000 ≤ lo ∧ lo ≤ 1000) (hhi : -1000 ≤ hi ∧ hi ≤ 1000) :
    Calls Tryz.prog 40 #[.slice p V.length c, .agg #[.int .i64 lo, .int .i64 hi], .int .i64 t] w fun e w' => ∃ (q : Option Addr) (d : Nat) (M : List AbleV), e = .returned (.slice q M.length d) ∧ WhoR V t (lo, hi) M ∧ Slc 2 ableC w' q M.length d M ∧ Ext w w' := by
  have hsi := fun u (hu : Ext w u) => singersOf_any p V.length c V t u (h.1.ext hu) hs (by omega)
  have hrg := fun u (hu : Ext w u) s (hs' : s.size ≤ 1000) => rangeOf_any p V.length c V s t u (h.1.ext hu) hs (by omega) hs'
  have hbd := fun p => rg_bounds hs t p
  have hsm := singers_small hs t
  have hln := singers_len V t
  have hres : ∀ M, ByK ableN AbleV.name (ableL (rgS V t V.length) (lo, hi) (singersL V t)) M → WhoR V t (lo, hi) M := fun M hM => hM
  have hri := rise_cmp (singers_rise V t)
  have hE0 : Ext w (w.alloc (.cells #[.int .i64 lo, .int .i64 hi] 55)) := (Ext.refl _).alloc _
  have hB0 : Blk (w.alloc (.cells #[.int .i64 lo, .int .i64 hi] 55)) w.heap.size 55 #[.int .i64 lo, .int .i64 hi] := Blk.new' rfl
  generalize rgS V t V.length = F at *
  generalize singersL V t = S at *
  have hdis := ableL_pair (F := F) (r := (lo, hi)) hri
  have hlen : ∀ k, (ableL F (lo, hi) (S.take k)).length ≤ 19 := fun k => Nat.le_trans (ableL_len _ _ _) (by rw [List.length_take]; omega)
  have h' := Lib.hid h
  clear h hri
  replace hsi := Lib.hid hsi
  replace hrg := Lib.hid hrg
  replace hbd := Lib.hid hbd
  replace hsm := Lib.hid hsm
  replace hres := Lib.hid hres
  replace hdis := Lib.hid hdis
  replace hlen := Lib.hid hlen
  go_enter Tryz.func40, Tryz.ntmps40
  go_wp2_with (go_at_call 81; (with_reducible refine Calls.mono (hsi.out _ hE0) ?_); rintro e w1 ⟨qs, ds, rfl, hoS, hb1⟩; have hE1 := hE0.trans hb1; have hB1 := hB0.ext hb1)
  obtain ⟨qs', ds', e9, hSS⟩ := slc_of_own (enc := strC) (fun _ => rfl) hoS (by decide) (by omega)
  cases e9
  clear hE0 hB0 hb1 hsi hoS
  have hwz := hB1.lt
  have hgS := hSS.1.2.2
  obtain ⟨B, hBe⟩ : ∃ B, w1.heap.size = B := ⟨_, rfl⟩
  rw [hBe] at hwz
  go_loopw [7, 17] (fun v7 v17 wr => ∃ (k : Nat) (v : Value), v17 = .int .i64 k ∧ v7 = v ∧ k ≤ S.length ∧ wr.ownsRow B 74 2 v (ableL F (lo, hi) (S.take k)).length ((ableL F (lo, hi) (S.take k)).flatMap ableC) ∧ Blk wr w.heap.size 55 #[.int .i64 lo, .int .i64 hi] ∧ Ext w1 wr) (fun _ v17 _ => S.length - (intOf v17).toNat)
  case atStart => exact ⟨0, _, rfl, rfl, Nat.zero_le _, World.ownsRow_nil _ _ _ _, hB1, Ext.refl _⟩
  case round =>
    clear hB1
    obtain ⟨k, v, rfl, rfl, hk, hown, hB2, he⟩ := hrel
    by_cases hlt : k < S.length
    · obtain ⟨b, off, hqe, hb, hE⟩ := hgS (by omega)
      subst hqe
      obtain ⟨x, hx⟩ := getD_some (rfl : S.length = S.length) hlt
      have hxs := hsm.out x (List.mem_of_getElem? hx)
      have hbw := Nat.lt_of_lt_of_le hb he.size
      have c0 := (hE.ext he hb).str hx
      have hrg1 := fun u (hu : Ext w u) => hrg.out u hu x hxs
      obtain ⟨⟨b1, b2⟩, ⟨b3, b4⟩⟩ := hbd.out x
      have hts := take_snocV hx
      have hinn := fun h => ableL_in (F := F) (r := (lo, hi)) (S := S.take k) (p := x) h
      have hout := fun h => ableL_out (F := F) (r := (lo, hi)) (S := S.take k) (p := x) h
      have hlk := hlen.out k
      generalize (F x).isSome = fb at hrg1
      generalize (F x).getD (0, 0) = fr at *
      obtain ⟨ra, rb⟩ := fr
      simp only at b1 b2 b3 b4
      have hcf : ∀ u, Calls Tryz.prog 37 #[.agg #[.int .i64 ra, .int .i64 rb], .agg #[.int .i64 lo, .int .i64 hi]] u fun e w' => e = .returned (.int .i64 (comF (ra, rb) (lo, hi))) ∧ Ext u w' := fun u => comfortOf_any (ra, rb) (lo, hi) u ⟨b1, b2⟩ ⟨b3, b4⟩ hlo hhi
      have hrg2 : ∀ u, Ext w u → Calls Tryz.prog 82 #[.slice p V.length c, .string x, .int .i64 t] u fun e w' => e = .returned (.tuple #[.agg #[.int .i64 ra, .int .i64 rb], .bool fb]) ∧ Ext u w' := hrg1
      have hEr := hE1.trans he
      have hkI : (k : Int) < S.length := by omega
      have hszr := he.size
      rw [hBe] at hszr
      clear hrg1 hE b1 b2 b3 b4
      generalize comF (ra, rb) (lo, hi) = cf at *
      generalize ableL F (lo, hi) (S.take k) = T at *
      replace hx := Lib.hid hx
      replace hts := Lib.hid hts
      replace hcf := Lib.hid hcf
      replace hrg2 := Lib.hid hrg2
      by_cases h0 : 0 ≤ cf
      · have hnx := hinn h0
        replace hnx := Lib.hid hnx
        clear hinn hout
        have hlT : (T ++ [(⟨x, cf⟩ : AbleV)]).length = T.length + 1 := by simp
        go_wp2_with (first
          | (go_at_call 82; go_loud ((with_reducible refine Calls.mono (hrg2.out _ hEr) ?_); rintro e w2 ⟨rfl, hb2⟩; have hB3 := (hB2.ext hb2).alloc (.cells #[.int .i64 ra, .int .i64 rb] 55); obtain ⟨y1, -⟩ := (hB2.ext hb2).walk; have yl := (hB2.ext hb2).lt))
          | (go_at_call 37; go_loud ((with_reducible refine Calls.mono (hcf.out _) ?_); rintro e w3 ⟨rfl, hb3⟩; have he3 := ((he.trans hb2).alloc _).trans hb3; have hown4 := own_ext ((hb2.alloc _).trans hb3) hown; have hB4 := hB3.ext hb3; have hz3 := ((he.trans hb2).alloc (.cells #[.int .i64 ra, .int .i64 rb] 55)).size; rw [hBe] at hz3; have hz4 := hb3.size; clear hown hB3))
          | (at_builtin; go_loud (refine wp_app1 _ (.tmp 33) (.tmp 37) 69 74 2 24 _ rfl rfl Tryz.underlying69 ableInfo rfl (by decide) (by decide) B _ T.length _ rfl (hown4.alloc _) w3.heap.size (ableC ⟨x, cf⟩) rfl rfl (Blk.new' rfl) (by simp [ableC, Value.oneCell']) (by omega) (by simp; omega) ?_; intro v' w6 hown6 hgrow6 _)))
        have hbl : ∀ q, u7.ownBlock = some q → B ≤ q := fun q e => (hown4.lt q e).1
        have hbl' : ∀ q, u7.ownBlock = some q → q ≠ w.heap.size := fun q e => by have := hbl q e; omega
        go_roundw
        case rel => exact ⟨k + 1, v', by go_num, rfl, by omega, by rw [hts.out, hnx.out, flat_snoc, hlT]; exact hown6, (hB4.alloc _).grownG hgrow6 hbl', (he3.alloc _).grown hgrow6 (fun q e => by have := hbl q e; omega)⟩
        case measure => simp [intOf]; omega
      · have hnx := hout h0
        replace hnx := Lib.hid hnx
        clear hinn hout
        go_wp2_with (first
          | (go_at_call 82; go_loud ((with_reducible refine Calls.mono (hrg2.out _ hEr) ?_); rintro e w2 ⟨rfl, hb2⟩; have hB3 := (hB2.ext hb2).alloc (.cells #[.int .i64 ra, .int .i64 rb] 55); obtain ⟨y1, -⟩ := (hB2.ext hb2).walk; have yl := (hB2.ext hb2).lt))
          | (go_at_call 37; go_loud ((with_reducible refine Calls.mono (hcf.out _) ?_); rintro e w3 ⟨rfl, hb3⟩; have he3 := ((he.trans hb2).alloc _).trans hb3; have hown4 := own_ext ((hb2.alloc _).trans hb3) hown; have hB4 := hB3.ext hb3; clear hown hB3)))
        replace hown4 := Lib.hid hown4
        go_roundw
        case rel => exact ⟨k + 1, _, by go_num, rfl, by omega, by rw [hts.out, hnx.out]; exact hown4.out, hB4, he3⟩
        case measure => simp [intOf]; omega
    · obtain rfl : k = S.length := by omega
      rw [List.take_length] at hown
      have hlT : (ableL F (lo, hi) S).length ≤ 19 := by have := hlen.out S.length; rwa [List.take_length] at this
      generalize ableL F (lo, hi) S = T at *
      have hsz := he.size
      have hwB : w.heap.size ≤ B := by omega
      have hown' := own_lowV hown hwB
      have hE6 := hE1.trans he
      clear hB2 hown hgS
      replace hE6 := Lib.hid hE6
      by_cases h0 : T.length = 0
      · have hT0 : T = [] := List.eq_nil_of_length_eq_zero h0
        subst hT0
        clear h0
        have hr0 := hres.out [] ⟨List.Perm.refl _, List.Pairwise.nil⟩
        replace hr0 := Lib.hid hr0
        obtain ⟨q, d, rfl, hS⟩ := slc_of_own ableC_len hown' (by decide) (by decide)
        have hno := stableAbleNone_any q d (.func (.func 84) #[] #[]) wr
        replace hno := Lib.hid hno
        clear hown'
        go_wp2_with (go_at_call 83; go_loud ((with_reducible refine Calls.mono hno.out ?_); rintro e w3 ⟨rfl, rfl⟩))
        go_ret
        exact ⟨q, d, [], rfl, hr0.out, hS, hE6.out⟩
      · have h0' : 0 < T.length := by omega
        obtain ⟨g, d, rfl, hgk, hgl⟩ := hown'.form h0'
        have hso := stableAble_any hown' rfl (by omega) hdis.out
        replace hso := Lib.hid hso
        replace h0 := Lib.hid h0
        clear hown'
        go_wp2_with (go_at_call 83; go_loud ((with_reducible refine Calls.mono hso.out ?_); rintro e w3 ⟨rfl, M, hM, ho3, hx3⟩))
        have hMl := hM.1.length_eq
        rw [← hMl] at ho3
        obtain ⟨q, d', e9, hS9⟩ := slc_of_own ableC_len ho3 (by decide) (by omega)
        cases e9
        go_ret
        exact ⟨_, d, M, by rw [hMl]; rfl, hres.out M hM, hS9, hx3 w hE6.out hgk⟩
end Go.Proofs.YtjfmpgohkjoneaaGreatDoor
