/- Stands that the stream makes. Conditions: sizes. -/
import Derived.Test.YtakfanmoepiagaaGreatDoorSmStY
set_option linter.unusedSimpArgs false
set_option linter.unusedVariables false
namespace Go.Proofs.YtakfanmoepiagaaGreatDoor
open Go Go.RowKit

theorem staInfo : (Tryz.prog.info? 46).map (fun i => (i.zero, i.size, i.bytes)) = some (some (.agg #[.string ⟨#[]⟩, .int .i64 0, .int .i64 0]), 3, 32) := by kernel_rfl
theorem sta_one (x : StandV) : ∀ u ∈ staC x, u.oneCell' = true := by simp [staC, Value.oneCell']
theorem sta_mod3 {w : World} {base g n cap : Nat} {xs : List StandV} (h : w.ownsRow base 46 3 (.slice (some ⟨g, 0, none⟩) n cap) n (xs.flatMap staC)) {i : Nat} {x : StandV} (hx : xs[i]? = some x) (nm : ByteArray) (m1 m2 : Int) :
    (((w.setCell ⟨g, i * 3, none⟩ (.string nm)).setCell ⟨g, i * 3 + 1, none⟩ (.int .i64 m1)).setCell ⟨g, i * 3 + 2, none⟩ (.int .i64 m2)).ownsRow base 46 3 (.slice (some ⟨g, 0, none⟩) n cap) n ((xs.set i ⟨nm, m1, m2⟩).flatMap staC) := by
  have hi := (List.getElem?_eq_some_iff.1 hx).1
  have hs : ∀ y : StandV, (xs.set i y)[i]? = some y := fun y => List.getElem?_set_self hi
  have h1 := own_set1 staC_len h ⟨nm, x.row, x.place⟩ hx 0 (by decide) (.string nm) rfl
  have h2 := own_set1 staC_len h1 ⟨nm, m1, x.place⟩ (hs _) 1 (by decide) (.int .i64 m1) rfl
  rw [List.set_set] at h2
  have h3 := own_set1 staC_len h2 ⟨nm, m1, m2⟩ (hs _) 2 (by decide) (.int .i64 m2) rfl
  rw [List.set_set] at h3
  exact h3
/-- Stands that are being made. -/
structure SlM (s k0 : Nat) (w : World) (base : Nat) (wr : World) (P : List PersonV) (p0 : Option Addr) (c0 lo : Nat) (v7 : Value) (po : Option Addr) (m co : Nat) (S : List StandV) : Prop where
  own : wr.ownsRow base 46 3 v7 S.length (S.flatMap staC)
  sum : S.length + m = P.length
  small : ∀ x ∈ S, x.Small
  cap : m ≤ co
  at_ : m ≠ 0 → ∃ bo off, po = some ⟨bo, off, none⟩ ∧ p0 = some ⟨bo, 0, none⟩ ∧ off + m ≤ P.length
  ord : OwG (fun x => 0 ≤ x ∧ x < P.length) wr lo p0 P.length c0
  low : s < lo ∧ s < base ∧ w.heap.size ≤ base
  szb : base ≤ wr.heap.size
  str : Str wr s k0
  ext : ExtS s w wr
theorem SlM.extS {s k0 k1 : Nat} {w : World} {base : Nat} {wr wq : World} {P : List PersonV} {p0 : Option Addr} {c0 lo : Nat} {v7 : Value} {po : Option Addr} {m co : Nat} {S : List StandV} (h : SlM s k0 w base wr P p0 c0 lo v7 po m co S) (he : ExtS s wr wq) (hs : Str wq s k1) : SlM s k1 w base wq P p0 c0 lo v7 po m co S :=
  ⟨own_extS he h.low.2.1 h.own, h.sum, h.small, h.cap, h.at_, h.ord.extS h.low.1 he, h.low, Nat.le_trans h.szb he.2.2.2.1, hs, h.ext.trans he⟩
theorem SlM.more {s k0 : Nat} {w : World} {base : Nat} {wr wq : World} {P : List PersonV} {p0 : Option Addr} {c0 lo : Nat} {v7 : Value} {po : Option Addr} {m co : Nat} {S : List StandV} (h : SlM s k0 w base wr P p0 c0 lo v7 po m co S) (he : Ext wr wq) : SlM s k0 w base wq P p0 c0 lo v7 po m co S := h.extS he.extS (h.str.ext he)

def StandsP (s k : Nat) (w : World) (e : Ending) (w' : World) : Prop := ∃ (lp : Option Addr) (lc : Nat) (S : List StandV), e = .returned (.slice lp S.length lc) ∧ S.length ≤ 9 ∧ Slc 3 staC w' lp S.length lc S ∧ (∀ x ∈ S, x.Small) ∧ (∀ a, lp = some a → w.heap.size ≤ a.block) ∧ Str w' s (k + 2000) ∧ ExtS s w w'

set_option maxRecDepth 100000 in
set_option maxHeartbeats 12800000 in
theorem standList_any (s k : Nat) (w : World) (pp : Option Addr) (pc : Nat) (P : List PersonV) (wp : Option Addr) (wcap : Nat) (wide : List Int) (hp : Option Addr) (hc : Nat) (high : List Int) (hk : k ≤ 900000) (hs : Str w s k)
    (h1 : Slc 3 perC w pp P.length pc P) (h2 : Slc 1 intC w wp wide.length wcap wide) (h3 : Slc 1 intC w hp high.length hc high) (n1 : ∀ a, pp = some a → a.block ≠ s) (n2 : ∀ a, wp = some a → a.block ≠ s)
    (sP : ∀ x ∈ P, x.Small) (sw : SmallL wide) (sh : SmallL high) (hP9 : P.length ≤ 9) (hw4 : wide.length ≤ 4) :
    Calls Tryz.prog 32 #[.pointer (some ⟨s, 0, none⟩), .slice pp P.length pc, .agg #[.slice wp wide.length wcap, .slice hp high.length hc]] w (StandsP s k w) := by
  have l0 := hs.lt
  have hX : Blk (w.alloc (.cells #[.slice wp wide.length wcap, .slice hp high.length hc] 29)) w.heap.size 29 #[.slice wp wide.length wcap, .slice hp high.length hc] := Blk.new' rfl
  have hE0 : Ext w (w.alloc (.cells #[.slice wp wide.length wcap, .slice hp high.length hc] 29)) := (Ext.refl _).alloc _
  have hf1 := fun u (hu : Ext w u) => faultPeople_any pp P.length pc P u (h1.ext hu).1 sP (by omega)
  have hf2 := fun u (hu : Ext w u) => faultStage_any wp wcap hp hc wide high u (h2.ext hu) (h3.ext hu) sw sh
  have hnil : ∀ u, Ext w u → StandsP s k w (.returned (.slice none 0 0)) u := fun u hu => ⟨none, 0, [], rfl, by simp, Slc.nil _ _ _, (fun x hx => by cases hx), (fun a ha => by cases ha), (hs.ext hu).more (by omega), hu.extS⟩
  replace hnil := Lib.hid hnil
  have hwo : stageF wide high = 0 → WideOk wide := fun h => (stageF_ok h).1
  generalize peopleF P = a at *
  generalize stageF wide high = b at *
  by_cases ha : a = 0
  rotate_left
  · replace hf1 := Lib.hid hf1
    go_enter Tryz.func32, Tryz.ntmps32
    go_wp2_with (go_at_call 14; (with_reducible refine Calls.mono (hf1.out _ hE0) ?_); rintro e w1 ⟨rfl, hb1⟩)
    go_ret
    exact hnil.out _ (hE0.trans hb1)
  subst ha
  by_cases hb : b = 0
  rotate_left
  · replace hf1 := Lib.hid hf1
    replace hf2 := Lib.hid hf2
    go_enter Tryz.func32, Tryz.ntmps32
    go_wp2_with (first
      | (go_at_call 14; (with_reducible refine Calls.mono (hf1.out _ hE0) ?_); rintro e w1 ⟨rfl, hb1⟩; obtain ⟨y1, -⟩ := (hX.ext hb1).walk; have ly := (hX.ext hb1).lt)
      | (go_at_call 15; (with_reducible refine Calls.mono (hf2.out _ (hE0.trans hb1)) ?_); rintro e w2 ⟨rfl, hb2⟩))
    go_ret
    exact hnil.out _ ((hE0.trans hb1).trans hb2)
  subst hb
  have hwk := hwo rfl
  clear hwo
  clear hnil
  have hor := fun u (hu : Ext w u) => order_any s k P.length u (by omega) hP9 (hs.ext hu)
  replace hf1 := Lib.hid hf1
  replace hf2 := Lib.hid hf2
  replace hor := Lib.hid hor
  replace h1 := Lib.hid h1
  replace h2 := Lib.hid h2
  go_enter Tryz.func32, Tryz.ntmps32
  go_wp2_with (first
      | (go_at_call 14; (with_reducible refine Calls.mono (hf1.out _ hE0) ?_); rintro e w1 ⟨rfl, hb1⟩; have hX1 := hX.ext hb1; obtain ⟨y1, -⟩ := hX1.walk; have ly := hX1.lt)
      | (go_at_call 15; (with_reducible refine Calls.mono (hf2.out _ (hE0.trans hb1)) ?_); rintro e w2 ⟨rfl, hb2⟩; have hX2 := hX1.ext hb2; clear y1)
      | (go_at_call 77; (with_reducible refine Calls.mono (hor.out _ ((hE0.trans hb1).trans hb2)) ?_); rintro e w3 ⟨p0, c0, rfl, hO3, hS3, hE3⟩; have hX3 := hX2.extS (by omega) hE3; obtain ⟨y3, -⟩ := hX3.walk; have ly3 := hX3.lt))
  have hE4 : ExtS s w w3 := (((hE0.trans hb1).trans hb2).extS).trans hE3
  have hsz := ((hE0.trans hb1).trans hb2).size
  have hsz3 := hE3.2.2.2.1
  have hM0 : SlM s (k + P.length) w w3.heap.size w3 P p0 c0 w2.heap.size (.slice none 0 0) p0 P.length c0 [] := by
    refine ⟨World.ownsRow_nil _ _ _ _, by simp, (fun x hx => by cases hx), ?_, fun hn => ?_, hO3, ⟨by omega, by omega, by omega⟩, Nat.le_refl _, hS3, hE4⟩
    · obtain ⟨xs, -, -, hS⟩ := hO3.slc (by omega)
      exact hS.2.1
    · obtain ⟨b, rfl, -, -⟩ := hO3.form (by omega)
      exact ⟨b, 0, rfl, rfl, by omega⟩
  have hp0 : ∀ a, p0 = some a → a.block < w3.heap.size := fun a ha => (hO3.lt ha).2
  replace hp0 := Lib.hid hp0
  clear hO3 hS3 hE3 hX3 hX2 hX1 hX hE0 hb1 hb2 hf1 hf2 hor y3 ly3 ly
  go_loopw [7, 8, 28] (fun v7 v8 v28 wr => ∃ (r m co : Nat) (po : Option Addr) (S : List StandV), v28 = .int .i64 r ∧ r ≤ wide.length ∧ v8 = .slice po m co ∧ SlM s (k + P.length + 30 * r) w w3.heap.size wr P p0 c0 w2.heap.size v7 po m co S) (fun _ _ v28 _ => wide.length - (intOf v28).toNat)
  case atStart => exact ⟨0, _, _, _, [], rfl, Nat.zero_le _, rfl, hM0⟩
  case round =>
    clear hM0
    obtain ⟨r, m, co, po, S, rfl, hr, rfl, hM⟩ := hrel
    by_cases hlt : r < wide.length
    · obtain ⟨v, hv⟩ := getD_some (rfl : wide.length = wide.length) hlt
      obtain ⟨hv1, hv2⟩ := hwk.2 v (List.mem_of_getElem? hv)
      obtain ⟨wd, rfl⟩ : ∃ n : Nat, v = n := ⟨v.toNat, by omega⟩
      have h2r := h2.out.extS hM.ext n2
      rcases (slcC h2r).2 with ⟨-, e⟩ | ⟨wb, wo, hwp, hwb, hwE⟩
      · rw [e] at hv; cases hv
      subst hwp
      have cw := hwE.int hv
      have hrI : (r : Int) < wide.length := by omega
      clear h2r hwE
      go_wp2
      go_loopw [7, 8, 34] (fun v7 v8 v34 wq => ∃ (q m co : Nat) (po : Option Addr) (S : List StandV), v34 = .int .i64 q ∧ q ≤ wd ∧ v8 = .slice po m co ∧ SlM s (k + P.length + 30 * r + q) w w3.heap.size wq P p0 c0 w2.heap.size v7 po m co S) (fun _ _ v34 _ => wd - (intOf v34).toNat)
      case atStart => exact ⟨0, _, _, _, S, rfl, Nat.zero_le _, rfl, hM⟩
      case round =>
        clear hM cw
        obtain ⟨q, m, co, po, S, rfl, hq, rfl, hM⟩ := hrel
        by_cases hql : q < wd
        · rcases Nat.eq_zero_or_pos m with hm0 | hm0
          · have hmI : ¬ (0 : Int) < m := by omega
            replace hM := Lib.hid hM
            replace hm0 := Lib.hid hm0
            go_wp2
            go_roundw
            case rel => exact ⟨q + 1, m, co, po, S, by go_num, by omega, rfl, hM.out.extS (ExtS.refl _ _) (hM.out.str.more (by omega))⟩
            case measure => simp [intOf]; omega
          · have hmI : (0 : Int) < m := by omega
            replace hM := Lib.hid hM
            go_upto_if 44 with (go_at_call 9; (with_reducible refine Calls.mono (flip_any s (k + P.length + 30 * r + q) 4 _ (by omega) (by omega) (by omega) (by exact hM.out.str)) ?_); rintro e w4 ⟨bb, rfl, hS4, hE4⟩)
            have hM4 := hM.out.extS hE4 hS4
            clear hM hS4 hE4
            cases bb
            · obtain ⟨bo, off, rfl, hp0e, hoff⟩ := hM4.at_ (by omega)
              subst hp0e
              have hO := hM4.ord
              obtain ⟨x0, ⟨hx0, hx1⟩, cx⟩ := hO.cell (i := off) (by omega)
              obtain ⟨xi, rfl⟩ : ∃ n : Nat, x0 = n := ⟨x0.toNat, by omega⟩
              have hbo := (hO.lt rfl).2
              simp only at hbo
              obtain ⟨y, hy⟩ := getD_some (rfl : P.length = P.length) (show xi < P.length by omega)
              have hys := sP y (List.mem_of_getElem? hy)
              have h1r := h1.out.extS hM4.ext n1
              rcases (slcC h1r).2 with ⟨-, e⟩ | ⟨pb, pof, hpp, hpb, hpE⟩
              · rw [e] at hy; cases hy
              subst hpp
              have cy := (hpE.per hy).1
              have hsz4 := hM4.ext.2.2.2.1
              have hsum := hM4.sum
              have hlo := hM4.low
              have hszb := hM4.szb
              have hcap := hM4.cap
              clear hO h1r hpE
              replace hM4 := Lib.hid hM4
              replace hy := Lib.hid hy
              rcases Nat.lt_or_ge 1 co with hco | hco
              all_goals
                go_wp2_with (at_builtin; go_loud (refine wp_app1 _ (.tmp 45) (.tmp 56) 34 46 3 32 _ rfl rfl Tryz.underlying34 staInfo rfl (by decide) (by decide) w3.heap.size _ _ _ rfl (hM4.out.own.alloc _) w4.heap.size (staC ⟨y.name, r, q⟩) rfl rfl (Blk.new' rfl) (sta_one _) (by omega) (by simp; omega) ?_; intro v' w6 hown6 hgrow6 _))
                have hbo2 := hp0.out _ rfl
                simp only at hbo2
                have hM6 : ∀ po' co', m - 1 ≤ co' → (m - 1 ≠ 0 → po' = some ⟨bo, off + 1, none⟩) → SlM s (k + P.length + 30 * r + (q + 1)) w w3.heap.size w6 P (some ⟨bo, 0, none⟩) c0 w2.heap.size v' po' (m - 1) co' (S ++ [⟨y.name, r, q⟩]) := fun po' co' h8 h9 =>
                  ⟨by rw [flat_snoc, List.length_append]; exact hown6, by rw [List.length_append, List.length_singleton]; omega, fun x hx => by
                    rcases List.mem_append.1 hx with h | h
                    · exact hM4.out.small x h
                    · rw [List.mem_singleton] at h
                      subst h
                      exact ⟨hys.1, by simp only; omega, by simp only; omega, by simp only; omega, by simp only; omega⟩, h8, fun h => ⟨bo, off + 1, h9 h, rfl, by omega⟩,
                    (hM4.out.ord.ext ((Ext.refl _).alloc _)).grown hgrow6 (fun a ha e => by cases ha; have := (hM4.out.own.lt bo e.symm).1; omega), hM4.out.low, Nat.le_trans (by simp; omega) hgrow6.size, ((hM4.out.str.ext ((Ext.refl _).alloc _)).grown hgrow6 (fun g hg => by have := (hM4.out.own.lt g hg).1; omega)).more (by omega), (hM4.out.ext.alloc _).grownX hgrow6 (fun g hg => by have := (hM4.out.own.lt g hg).1; omega)⟩
                go_roundw
                case rel => exact ⟨q + 1, m - 1, _, _, _, by go_num, by omega, rfl, hM6 _ _ (by omega) (fun h => by first | rfl | (exfalso; omega))⟩
                case measure => simp [intOf]; omega
            · replace hM4 := Lib.hid hM4
              go_wp2
              go_roundw
              case rel => exact ⟨q + 1, m, co, po, S, by go_num, by omega, rfl, hM4.out⟩
              case measure => simp [intOf]; omega
        · obtain rfl : q = wd := by omega
          replace hM := Lib.hid hM
          go_wp2
          go_roundw
          case rel => exact ⟨r + 1, m, co, po, S, by go_num, by omega, rfl, hM.out.extS (ExtS.refl _ _) (hM.out.str.more (by omega))⟩
          case measure => simp [intOf]; omega
    · obtain rfl : r = wide.length := by omega
      have hsum := hM.sum
      have hlow := hM.low
      obtain ⟨lp, lc, rfl, hSl⟩ := slc_of_own staC_len hM.own (by decide) (by omega)
      have hfr : ∀ a, lp = some a → w.heap.size ≤ a.block := fun a ha => by
        subst ha
        have := (hM.own.lt a.block rfl).1
        omega
      rcases Nat.eq_zero_or_pos S.length with h0 | h0
      · have hres : StandsP s k w (.returned (.slice lp S.length lc)) wr := ⟨lp, lc, S, rfl, by omega, hSl, hM.small, hfr, hM.str.more (by omega), hM.ext⟩
        have h0I : ¬ (0 : Int) < (S.length : Int) := by omega
        replace hM := Lib.hid hM
        replace hres := Lib.hid hres
        replace h0 := Lib.hid h0
        clear hSl hfr hsum
        go_wp2
        go_ret
        exact hres.out
      · have h0I : (0 : Int) < (S.length : Int) := by omega
        obtain ⟨g, cap, hlp, hg, hgl⟩ := hM.own.form h0
        cases hlp
        replace hM := Lib.hid hM
        clear hSl
        go_upto_if 68 with (go_at_call 9; (with_reducible refine Calls.mono (flip_any s (k + P.length + 30 * wide.length) 15 _ (by omega) (by omega) (by omega) (by exact hM.out.str)) ?_); rintro e w4 ⟨bb, rfl, hS4, hE4⟩)
        have hM4 := hM.out.extS hE4 hS4
        clear hM hS4 hE4
        cases bb
        · obtain ⟨lp, lc, hlp, hSl⟩ := slc_of_own staC_len hM4.own (by decide) (by omega)
          cases hlp
          have hres : StandsP s k w (.returned (.slice (some ⟨g, 0, none⟩) S.length lc)) w4 := ⟨_, _, S, rfl, by omega, hSl, hM4.small, hfr, hM4.str.more (by omega), hM4.ext⟩
          replace hres := Lib.hid hres
          clear hM4 hSl
          go_wp2
          go_ret
          exact hres.out
        · have hnx := next_any s (k + P.length + 30 * wide.length + 1) S.length w4 (by omega) (by omega) (by omega) hM4.str
          replace hnx := Lib.hid hnx
          replace hM4 := Lib.hid hM4
          go_upto_region 18 with (go_at_call 43; (with_reducible refine Calls.mono hnx.out ?_); rintro e w5 ⟨i, rfl, hi, hS5, hE5⟩)
          have hM5 := hM4.out.extS hE5 hS5
          clear hM4 hS5 hE5 hgl hnx
          obtain ⟨x, hx⟩ := getD_some (rfl : S.length = S.length) hi
          obtain ⟨s1, s2, s3, s4, s5⟩ := hM5.small x (List.mem_of_getElem? hx)
          have ho5 := hM5.own
          have hgl : g < w5.heap.size := (ho5.lt g rfl).2
          have hgs : g ≠ s := by omega
          have hsl : s < w5.heap.size := hM5.str.lt
          have hsl' : s < w5.drew.heap.size := hsl
          have c0x : w5.cell? ⟨g, i * 3, none⟩ = some (.string x.name) := own_cell staC_len ho5 hx 0 rfl hi
          have c1x : w5.cell? ⟨g, i * 3 + 1, none⟩ = some (.int .i64 x.row) := own_cell staC_len ho5 hx 1 rfl hi
          have c2x : w5.cell? ⟨g, i * 3 + 2, none⟩ = some (.int .i64 x.place) := own_cell staC_len ho5 hx 2 rfl hi
          obtain ⟨K, hK⟩ : ∃ K, K = k + P.length + 30 * wide.length + 1 + 1 := ⟨_, rfl⟩
          have hKb : K ≤ k + 1000 := by omega
          have hS5d : Str w5.drew s K := by rw [hK]; exact hM5.str.ext (Ext.drew (Ext.refl _))
          replace ho5 := Lib.hid ho5
          replace hM5 := Lib.hid hM5
          replace hx := Lib.hid hx
          replace hK := Lib.hid hK
          refine wp_region_facts [1, 2] [([], false, false), ([], false, false), ([], false, false), ([], false, false), ([], false, false), ([4], false, false), ([4, 5], false, false), ([4, 5, 6], false, false), ([4, 5, 6, 7], false, true), ([3, 4, 5, 6, 7, 8], true, false), ([], false, false), ([], false, false), ([11], false, false), ([11, 12], false, false), ([11, 12, 13], false, false), ([11, 12, 13, 14], false, true), ([10, 11, 12, 13, 14, 15], true, false), ([], false, false), ([], false, false), ([18], false, false), ([18, 19], false, false), ([18, 19, 20], false, false), ([18, 19, 20, 21], false, true), ([17, 18, 19, 20, 21, 22], true, false), ([0], false, false), ([0, 24], false, false)] (ExtS s) Ext (fun w => Str w s K) (by kernel_rfl) (by kernel_rfl) Ext.refl (fun _ _ _ => ExtS.trans) (fun _ _ h => h.extS) (fun _ _ h => h.2.2.2.1) (fun _ _ h he => h.ext he) hS5d ?_
          dsimp only [List.length_cons, List.length_nil, List.drop_succ_cons, List.drop_zero, List.drop_nil]
          refine fac_quiet 0 rfl rfl rfl (fun _ _ h he => h.ext he) rfl rfl ?_
          apply Exists.intro
          refine ⟨fun sv w' hw' hfa => ?_, ?_⟩
          · refine ⟨rfl, ?_⟩
            simp only [putsL]
            change quietTo _ _ _ _ (Sem.run _ (execOp (Act.eval _) _) _)
            try simp only [Act.put, List.setIfInBounds_toArray, List.set_cons_succ, List.set_cons_zero]
            simp [go_sem, quietTo, Ext.refl]
            all_goals first
              | rfl
          refine fac_late 1 rfl rfl Ext.refl (fun _ _ h he => h.ext he) rfl rfl (fun _ _ _ _ h => h) ?_
          apply Exists.intro
          refine ⟨fun sv w' hw' hfa => ?_, ?_⟩
          · refine ⟨rfl, fun w2 => ?_⟩
            simp only [putsL]
            change pureTo _ _ (Sem.run _ (execOp (Act.eval _) _) _)
            try simp only [Act.put, List.setIfInBounds_toArray, List.set_cons_succ, List.set_cons_zero]
            simp [go_sem, pureTo]
            all_goals try simp (disch := omega) only [IntWalk.i64_in]
            all_goals first
              | rfl
          refine fac_late 2 rfl rfl Ext.refl (fun _ _ h he => h.ext he) rfl rfl (fun _ _ _ _ h => h) ?_
          apply Exists.intro
          refine ⟨fun sv w' hw' hfa => ?_, ?_⟩
          · refine ⟨rfl, fun w2 => ?_⟩
            simp only [putsL]
            change pureTo _ _ (Sem.run _ (execOp (Act.eval _) _) _)
            try simp only [Act.put, List.setIfInBounds_toArray, List.set_cons_succ, List.set_cons_zero]
            simp [go_sem, pureTo]
            all_goals try simp (disch := omega) only [IntWalk.i64_in]
            all_goals first
              | rfl
          refine fac_quiet 3 rfl rfl rfl (fun _ _ h he => h.ext he) rfl rfl ?_
          apply Exists.intro
          refine ⟨fun sv w' hw' hfa => ?_, ?_⟩
          · refine ⟨rfl, ?_⟩
            simp only [putsL]
            change quietTo _ _ _ _ (Sem.run _ (execOp (Act.eval _) _) _)
            try simp only [Act.put, List.setIfInBounds_toArray, List.set_cons_succ, List.set_cons_zero]
            simp [go_sem, quietTo, Ext.refl]
            all_goals first
              | rfl
          refine fac_quiet 4 rfl rfl rfl (fun _ _ h he => h.ext he) rfl rfl ?_
          apply Exists.intro
          refine ⟨fun sv w' hw' hfa => ?_, ?_⟩
          · refine ⟨rfl, ?_⟩
            simp only [putsL]
            change quietTo _ _ _ _ (Sem.run _ (execOp (Act.eval _) _) _)
            try simp only [Act.put, List.setIfInBounds_toArray, List.set_cons_succ, List.set_cons_zero]
            simp [go_sem, quietTo, Ext.refl]
            all_goals first
              | rfl
          refine fac_quiet 5 rfl rfl rfl (fun _ _ h he => h.ext he) rfl rfl ?_
          apply Exists.intro
          refine ⟨fun sv w' hw' hfa => ?_, ?_⟩
          · obtain ⟨f4, -⟩ := hfa
            replace f4 : sv 4 = _ := f4
            try dsimp only at f4
            refine ⟨rfl, ?_⟩
            simp only [putsL]
            change quietTo _ _ _ _ (Sem.run _ (execOp (Act.eval (Act.put _ (some 79) (sv 4))) _) _)
            try simp only [Act.put, List.setIfInBounds_toArray, List.set_cons_succ, List.set_cons_zero]
            simp [go_sem, quietTo, Ext.refl, f4]
            all_goals first
              | rfl
          refine fac_quiet 6 rfl rfl rfl (fun _ _ h he => h.ext he) rfl rfl ?_
          apply Exists.intro
          refine ⟨fun sv w' hw' hfa => ?_, ?_⟩
          · obtain ⟨_, f5, -⟩ := hfa
            replace f5 : sv 5 = _ := f5
            try dsimp only at f5
            refine ⟨rfl, ?_⟩
            simp only [putsL]
            change quietTo _ _ _ _ (Sem.run _ (execOp (Act.eval (Act.put (Act.put _ (some 80) (sv 5)) (some 79) (sv 4))) _) _)
            try simp only [Act.put, List.setIfInBounds_toArray, List.set_cons_succ, List.set_cons_zero]
            simp [go_sem, quietTo, Ext.refl, f5]
            all_goals first
              | rfl
          refine fac_quiet 7 rfl rfl rfl (fun _ _ h he => h.ext he) rfl rfl ?_
          apply Exists.intro
          refine ⟨fun sv w' hw' hfa => ?_, ?_⟩
          · obtain ⟨_, _, f6, -⟩ := hfa
            replace f6 : sv 6 = _ := f6
            try dsimp only at f6
            have d0 : w'.cell? ⟨g, i * 3, none⟩ = some (.string x.name) := (hw'.cell hgl hgs _).trans c0x
            have d1 : w'.cell? ⟨g, i * 3 + 1, none⟩ = some (.int .i64 x.row) := (hw'.cell hgl hgs _).trans c1x
            have d2 : w'.cell? ⟨g, i * 3 + 2, none⟩ = some (.int .i64 x.place) := (hw'.cell hgl hgs _).trans c2x
            refine ⟨rfl, ?_⟩
            simp only [putsL]
            change quietTo _ _ _ _ (Sem.run _ (execOp (Act.eval (Act.put (Act.put (Act.put _ (some 81) (sv 6)) (some 80) (sv 5)) (some 79) (sv 4))) _) _)
            try simp only [Act.put, List.setIfInBounds_toArray, List.set_cons_succ, List.set_cons_zero]
            simp [go_sem, quietTo, Ext.refl, ↓IntWalk.iteOmega, f6, d0, d1, d2]
            all_goals try simp (disch := omega) only [IntWalk.i64_in]
            all_goals first
              | rfl
          refine fac_row 8 rfl rfl rfl (fun _ _ h he => h.ext he) (fun _ _ h => h.2.2.2.1) (fun _ _ _ _ _ he hg hb => hb.extS (Nat.ne_of_gt (Nat.lt_of_lt_of_le hsl hg)) he) ?_
          apply Exists.intro
          apply Exists.intro
          apply Exists.intro
          apply Exists.intro
          refine ⟨fun sv w' hw' hfa => ?_, ?_⟩
          · obtain ⟨_, _, _, f7, -⟩ := hfa
            replace f7 : sv 7 = _ := f7
            try dsimp only at f7
            refine ⟨rfl, ?_⟩
            simp only [putsL]
            change rowTo _ _ _ _ _ (Sem.run _ (execOp (Act.eval (Act.put (Act.put (Act.put (Act.put _ (some 82) (sv 7)) (some 81) (sv 6)) (some 80) (sv 5)) (some 79) (sv 4))) _) _)
            try simp only [Act.put, List.setIfInBounds_toArray, List.set_cons_succ, List.set_cons_zero]
            simp [go_sem, rowTo, Ext.refl, f7]
            all_goals try simp (disch := omega) only [IntWalk.i64_in]
            all_goals first
              | rfl
              | exact ⟨rfl, rfl⟩
              | exact ⟨⟨rfl, rfl⟩, rfl⟩
          refine fac_loud 9 rfl rfl rfl ?_
          refine ⟨(fun y _ => ∃ nm : ByteArray, nm.size ≤ 1000 ∧ y 9 = .string nm), (fun w => Str w s (K + 1)), fun sv w' hw' hfa hcc => ?_, ?_, ?_, ?_⟩
          · obtain ⟨f3, f4, f5, f6, f7, f8, -⟩ := hfa
            replace f3 : sv 3 = _ := f3
            try dsimp only at f3
            replace f4 : sv 4 = _ := f4
            try dsimp only at f4
            replace f5 : sv 5 = _ := f5
            try dsimp only at f5
            replace f6 : sv 6 = _ := f6
            try dsimp only at f6
            replace f7 : sv 7 = _ := f7
            try dsimp only at f7
            obtain ⟨g8, f8, l8, b8⟩ := f8
            replace f8 : sv 8 = _ := f8
            obtain ⟨p8, q8⟩ := b8.walk
            have d0 : w'.cell? ⟨g, i * 3, none⟩ = some (.string x.name) := (hw'.cell hgl hgs _).trans c0x
            have d1 : w'.cell? ⟨g, i * 3 + 1, none⟩ = some (.int .i64 x.row) := (hw'.cell hgl hgs _).trans c1x
            have d2 : w'.cell? ⟨g, i * 3 + 2, none⟩ = some (.int .i64 x.place) := (hw'.cell hgl hgs _).trans c2x
            refine ⟨rfl, ?_⟩
            simp only [putsL]
            change outc _ _ (Sem.run _ (execOp (Act.eval (Act.put (Act.put (Act.put (Act.put (Act.put (Act.put _ (some 83) (sv 8)) (some 82) (sv 7)) (some 81) (sv 6)) (some 80) (sv 5)) (some 79) (sv 4)) (some 78) (sv 3))) _) _)
            try simp only [Act.put, List.setIfInBounds_toArray, List.set_cons_succ, List.set_cons_zero]
            simp [go_sem, outc, f3, f8, p8, q8, d0, d1, d2]
            refine (somes_any s K _ _ 3 [x.name, ⟨#[122, 122]⟩, ⟨#[112, 48]⟩] _ (by omega) (by simp) (by simp) hcc (by omega) b8).mono ?_
            rintro e w4 ⟨y, hy, rfl, hS4, hE4⟩
            refine ⟨_, rfl, ⟨hE4, hS4⟩, y, ?_, rfl⟩
            rcases (by simpa using hy : y = x.name ∨ y = ⟨#[122, 122]⟩ ∨ y = ⟨#[112, 48]⟩) with rfl | rfl | rfl
            · exact s1
            · decide
            · decide
          · intro x w w' h he; exact h
          · exact fun _ _ h he => h.ext he
          refine fac_quiet 10 rfl rfl rfl (fun _ _ h he => h.ext he) rfl rfl ?_
          apply Exists.intro
          refine ⟨fun sv w' hw' hfa => ?_, ?_⟩
          · refine ⟨rfl, ?_⟩
            simp only [putsL]
            change quietTo _ _ _ _ (Sem.run _ (execOp (Act.eval _) _) _)
            try simp only [Act.put, List.setIfInBounds_toArray, List.set_cons_succ, List.set_cons_zero]
            simp [go_sem, quietTo, Ext.refl]
            all_goals first
              | rfl
          refine fac_quiet 11 rfl rfl rfl (fun _ _ h he => h.ext he) rfl rfl ?_
          apply Exists.intro
          refine ⟨fun sv w' hw' hfa => ?_, ?_⟩
          · refine ⟨rfl, ?_⟩
            simp only [putsL]
            change quietTo _ _ _ _ (Sem.run _ (execOp (Act.eval _) _) _)
            try simp only [Act.put, List.setIfInBounds_toArray, List.set_cons_succ, List.set_cons_zero]
            simp [go_sem, quietTo, Ext.refl]
            all_goals first
              | rfl
          refine fac_quiet 12 rfl rfl rfl (fun _ _ h he => h.ext he) rfl rfl ?_
          apply Exists.intro
          refine ⟨fun sv w' hw' hfa => ?_, ?_⟩
          · obtain ⟨f11, -⟩ := hfa
            replace f11 : sv 11 = _ := f11
            try dsimp only at f11
            refine ⟨rfl, ?_⟩
            simp only [putsL]
            change quietTo _ _ _ _ (Sem.run _ (execOp (Act.eval (Act.put _ (some 86) (sv 11))) _) _)
            try simp only [Act.put, List.setIfInBounds_toArray, List.set_cons_succ, List.set_cons_zero]
            simp [go_sem, quietTo, Ext.refl, f11]
            all_goals first
              | rfl
          refine fac_quiet 13 rfl rfl rfl (fun _ _ h he => h.ext he) rfl rfl ?_
          apply Exists.intro
          refine ⟨fun sv w' hw' hfa => ?_, ?_⟩
          · obtain ⟨_, f12, -⟩ := hfa
            replace f12 : sv 12 = _ := f12
            try dsimp only at f12
            refine ⟨rfl, ?_⟩
            simp only [putsL]
            change quietTo _ _ _ _ (Sem.run _ (execOp (Act.eval (Act.put (Act.put _ (some 87) (sv 12)) (some 86) (sv 11))) _) _)
            try simp only [Act.put, List.setIfInBounds_toArray, List.set_cons_succ, List.set_cons_zero]
            simp [go_sem, quietTo, Ext.refl, f12]
            all_goals first
              | rfl
          refine fac_quiet 14 rfl rfl rfl (fun _ _ h he => h.ext he) rfl rfl ?_
          apply Exists.intro
          refine ⟨fun sv w' hw' hfa => ?_, ?_⟩
          · obtain ⟨_, _, f13, -⟩ := hfa
            replace f13 : sv 13 = _ := f13
            try dsimp only at f13
            have d0 : w'.cell? ⟨g, i * 3, none⟩ = some (.string x.name) := (hw'.cell hgl hgs _).trans c0x
            have d1 : w'.cell? ⟨g, i * 3 + 1, none⟩ = some (.int .i64 x.row) := (hw'.cell hgl hgs _).trans c1x
            have d2 : w'.cell? ⟨g, i * 3 + 2, none⟩ = some (.int .i64 x.place) := (hw'.cell hgl hgs _).trans c2x
            refine ⟨rfl, ?_⟩
            simp only [putsL]
            change quietTo _ _ _ _ (Sem.run _ (execOp (Act.eval (Act.put (Act.put (Act.put _ (some 88) (sv 13)) (some 87) (sv 12)) (some 86) (sv 11))) _) _)
            try simp only [Act.put, List.setIfInBounds_toArray, List.set_cons_succ, List.set_cons_zero]
            simp [go_sem, quietTo, Ext.refl, ↓IntWalk.iteOmega, f13, d0, d1, d2]
            all_goals try simp (disch := omega) only [IntWalk.i64_in]
            all_goals first
              | rfl
          refine fac_row 15 rfl rfl rfl (fun _ _ h he => h.ext he) (fun _ _ h => h.2.2.2.1) (fun _ _ _ _ _ he hg hb => hb.extS (Nat.ne_of_gt (Nat.lt_of_lt_of_le hsl hg)) he) ?_
          apply Exists.intro
          apply Exists.intro
          apply Exists.intro
          apply Exists.intro
          refine ⟨fun sv w' hw' hfa => ?_, ?_⟩
          · obtain ⟨_, _, _, f14, -⟩ := hfa
            replace f14 : sv 14 = _ := f14
            try dsimp only at f14
            refine ⟨rfl, ?_⟩
            simp only [putsL]
            change rowTo _ _ _ _ _ (Sem.run _ (execOp (Act.eval (Act.put (Act.put (Act.put (Act.put _ (some 89) (sv 14)) (some 88) (sv 13)) (some 87) (sv 12)) (some 86) (sv 11))) _) _)
            try simp only [Act.put, List.setIfInBounds_toArray, List.set_cons_succ, List.set_cons_zero]
            simp [go_sem, rowTo, Ext.refl, f14]
            all_goals try simp (disch := omega) only [IntWalk.i64_in]
            all_goals first
              | rfl
              | exact ⟨rfl, rfl⟩
              | exact ⟨⟨rfl, rfl⟩, rfl⟩
          refine fac_loud 16 rfl rfl rfl ?_
          refine ⟨(fun y _ => ∃ z : Int, (-1099511627776 ≤ z ∧ z ≤ 1099511627776) ∧ y 16 = .int .i64 z), (fun w => Str w s (K + 1 + 1)), fun sv w' hw' hfa hcc => ?_, ?_, ?_, ?_⟩
          · obtain ⟨f10, f11, f12, f13, f14, f15, -⟩ := hfa
            replace f10 : sv 10 = _ := f10
            try dsimp only at f10
            replace f11 : sv 11 = _ := f11
            try dsimp only at f11
            replace f12 : sv 12 = _ := f12
            try dsimp only at f12
            replace f13 : sv 13 = _ := f13
            try dsimp only at f13
            replace f14 : sv 14 = _ := f14
            try dsimp only at f14
            obtain ⟨g15, f15, l15, b15⟩ := f15
            replace f15 : sv 15 = _ := f15
            obtain ⟨p15, q15⟩ := b15.walk
            have d0 : w'.cell? ⟨g, i * 3, none⟩ = some (.string x.name) := (hw'.cell hgl hgs _).trans c0x
            have d1 : w'.cell? ⟨g, i * 3 + 1, none⟩ = some (.int .i64 x.row) := (hw'.cell hgl hgs _).trans c1x
            have d2 : w'.cell? ⟨g, i * 3 + 2, none⟩ = some (.int .i64 x.place) := (hw'.cell hgl hgs _).trans c2x
            refine ⟨rfl, ?_⟩
            simp only [putsL]
            change outc _ _ (Sem.run _ (execOp (Act.eval (Act.put (Act.put (Act.put (Act.put (Act.put (Act.put _ (some 90) (sv 15)) (some 89) (sv 14)) (some 88) (sv 13)) (some 87) (sv 12)) (some 86) (sv 11)) (some 85) (sv 10))) _) _)
            try simp only [Act.put, List.setIfInBounds_toArray, List.set_cons_succ, List.set_cons_zero]
            simp [go_sem, outc, f10, f15, p15, q15, d0, d1, d2]
            refine (pick_in s (K + 1) _ _ 3 [x.row, 3, -1] (-1099511627776) 1099511627776 _ (by omega) (by simp) (by simp) hcc (by omega) b15 (by intro y hy; simp at hy; omega)).mono ?_
            rintro e w4 ⟨y, ya, yb, rfl, hS4, hE4⟩
            exact ⟨_, rfl, ⟨hE4, hS4⟩, y, ⟨ya, yb⟩, rfl⟩
          · intro x w w' h he; exact h
          · exact fun _ _ h he => h.ext he
          refine fac_quiet 17 rfl rfl rfl (fun _ _ h he => h.ext he) rfl rfl ?_
          apply Exists.intro
          refine ⟨fun sv w' hw' hfa => ?_, ?_⟩
          · refine ⟨rfl, ?_⟩
            simp only [putsL]
            change quietTo _ _ _ _ (Sem.run _ (execOp (Act.eval _) _) _)
            try simp only [Act.put, List.setIfInBounds_toArray, List.set_cons_succ, List.set_cons_zero]
            simp [go_sem, quietTo, Ext.refl]
            all_goals first
              | rfl
          refine fac_quiet 18 rfl rfl rfl (fun _ _ h he => h.ext he) rfl rfl ?_
          apply Exists.intro
          refine ⟨fun sv w' hw' hfa => ?_, ?_⟩
          · refine ⟨rfl, ?_⟩
            simp only [putsL]
            change quietTo _ _ _ _ (Sem.run _ (execOp (Act.eval _) _) _)
            try simp only [Act.put, List.setIfInBounds_toArray, List.set_cons_succ, List.set_cons_zero]
            simp [go_sem, quietTo, Ext.refl]
            all_goals first
              | rfl
          refine fac_quiet 19 rfl rfl rfl (fun _ _ h he => h.ext he) rfl rfl ?_
          apply Exists.intro
          refine ⟨fun sv w' hw' hfa => ?_, ?_⟩
          · obtain ⟨f18, -⟩ := hfa
            replace f18 : sv 18 = _ := f18
            try dsimp only at f18
            refine ⟨rfl, ?_⟩
            simp only [putsL]
            change quietTo _ _ _ _ (Sem.run _ (execOp (Act.eval (Act.put _ (some 93) (sv 18))) _) _)
            try simp only [Act.put, List.setIfInBounds_toArray, List.set_cons_succ, List.set_cons_zero]
            simp [go_sem, quietTo, Ext.refl, f18]
            all_goals first
              | rfl
          refine fac_quiet 20 rfl rfl rfl (fun _ _ h he => h.ext he) rfl rfl ?_
          apply Exists.intro
          refine ⟨fun sv w' hw' hfa => ?_, ?_⟩
          · obtain ⟨_, f19, -⟩ := hfa
            replace f19 : sv 19 = _ := f19
            try dsimp only at f19
            refine ⟨rfl, ?_⟩
            simp only [putsL]
            change quietTo _ _ _ _ (Sem.run _ (execOp (Act.eval (Act.put (Act.put _ (some 94) (sv 19)) (some 93) (sv 18))) _) _)
            try simp only [Act.put, List.setIfInBounds_toArray, List.set_cons_succ, List.set_cons_zero]
            simp [go_sem, quietTo, Ext.refl, f19]
            all_goals first
              | rfl
          refine fac_quiet 21 rfl rfl rfl (fun _ _ h he => h.ext he) rfl rfl ?_
          apply Exists.intro
          refine ⟨fun sv w' hw' hfa => ?_, ?_⟩
          · obtain ⟨_, _, f20, -⟩ := hfa
            replace f20 : sv 20 = _ := f20
            try dsimp only at f20
            have d0 : w'.cell? ⟨g, i * 3, none⟩ = some (.string x.name) := (hw'.cell hgl hgs _).trans c0x
            have d1 : w'.cell? ⟨g, i * 3 + 1, none⟩ = some (.int .i64 x.row) := (hw'.cell hgl hgs _).trans c1x
            have d2 : w'.cell? ⟨g, i * 3 + 2, none⟩ = some (.int .i64 x.place) := (hw'.cell hgl hgs _).trans c2x
            refine ⟨rfl, ?_⟩
            simp only [putsL]
            change quietTo _ _ _ _ (Sem.run _ (execOp (Act.eval (Act.put (Act.put (Act.put _ (some 95) (sv 20)) (some 94) (sv 19)) (some 93) (sv 18))) _) _)
            try simp only [Act.put, List.setIfInBounds_toArray, List.set_cons_succ, List.set_cons_zero]
            simp [go_sem, quietTo, Ext.refl, ↓IntWalk.iteOmega, f20, d0, d1, d2]
            all_goals try simp (disch := omega) only [IntWalk.i64_in]
            all_goals first
              | rfl
          refine fac_row 22 rfl rfl rfl (fun _ _ h he => h.ext he) (fun _ _ h => h.2.2.2.1) (fun _ _ _ _ _ he hg hb => hb.extS (Nat.ne_of_gt (Nat.lt_of_lt_of_le hsl hg)) he) ?_
          apply Exists.intro
          apply Exists.intro
          apply Exists.intro
          apply Exists.intro
          refine ⟨fun sv w' hw' hfa => ?_, ?_⟩
          · obtain ⟨_, _, _, f21, -⟩ := hfa
            replace f21 : sv 21 = _ := f21
            try dsimp only at f21
            refine ⟨rfl, ?_⟩
            simp only [putsL]
            change rowTo _ _ _ _ _ (Sem.run _ (execOp (Act.eval (Act.put (Act.put (Act.put (Act.put _ (some 96) (sv 21)) (some 95) (sv 20)) (some 94) (sv 19)) (some 93) (sv 18))) _) _)
            try simp only [Act.put, List.setIfInBounds_toArray, List.set_cons_succ, List.set_cons_zero]
            simp [go_sem, rowTo, Ext.refl, f21]
            all_goals try simp (disch := omega) only [IntWalk.i64_in]
            all_goals first
              | rfl
              | exact ⟨rfl, rfl⟩
              | exact ⟨⟨rfl, rfl⟩, rfl⟩
          refine fac_loud 23 rfl rfl rfl ?_
          refine ⟨(fun y _ => ∃ z : Int, (-1099511627776 ≤ z ∧ z ≤ 1099511627776) ∧ y 23 = .int .i64 z), (fun w => Str w s (K + 1 + 1 + 1)), fun sv w' hw' hfa hcc => ?_, ?_, ?_, ?_⟩
          · obtain ⟨f17, f18, f19, f20, f21, f22, -⟩ := hfa
            replace f17 : sv 17 = _ := f17
            try dsimp only at f17
            replace f18 : sv 18 = _ := f18
            try dsimp only at f18
            replace f19 : sv 19 = _ := f19
            try dsimp only at f19
            replace f20 : sv 20 = _ := f20
            try dsimp only at f20
            replace f21 : sv 21 = _ := f21
            try dsimp only at f21
            obtain ⟨g22, f22, l22, b22⟩ := f22
            replace f22 : sv 22 = _ := f22
            obtain ⟨p22, q22⟩ := b22.walk
            have d0 : w'.cell? ⟨g, i * 3, none⟩ = some (.string x.name) := (hw'.cell hgl hgs _).trans c0x
            have d1 : w'.cell? ⟨g, i * 3 + 1, none⟩ = some (.int .i64 x.row) := (hw'.cell hgl hgs _).trans c1x
            have d2 : w'.cell? ⟨g, i * 3 + 2, none⟩ = some (.int .i64 x.place) := (hw'.cell hgl hgs _).trans c2x
            refine ⟨rfl, ?_⟩
            simp only [putsL]
            change outc _ _ (Sem.run _ (execOp (Act.eval (Act.put (Act.put (Act.put (Act.put (Act.put (Act.put _ (some 97) (sv 22)) (some 96) (sv 21)) (some 95) (sv 20)) (some 94) (sv 19)) (some 93) (sv 18)) (some 92) (sv 17))) _) _)
            try simp only [Act.put, List.setIfInBounds_toArray, List.set_cons_succ, List.set_cons_zero]
            simp [go_sem, outc, f17, f22, p22, q22, d0, d1, d2]
            refine (pick_in s (K + 1 + 1) _ _ 3 [x.place, 4, -1] (-1099511627776) 1099511627776 _ (by omega) (by simp) (by simp) hcc (by omega) b22 (by intro y hy; simp at hy; omega)).mono ?_
            rintro e w4 ⟨y, ya, yb, rfl, hS4, hE4⟩
            exact ⟨_, rfl, ⟨hE4, hS4⟩, y, ⟨ya, yb⟩, rfl⟩
          · intro x w w' h he; exact h
          · exact fun _ _ h he => h.ext he
          refine fac_quiet 24 rfl rfl rfl (fun _ _ h he => h.ext he) rfl rfl ?_
          apply Exists.intro
          refine ⟨fun sv w' hw' hfa => ?_, ?_⟩
          · obtain ⟨f0, -⟩ := hfa
            replace f0 : sv 0 = _ := f0
            try dsimp only at f0
            refine ⟨rfl, ?_⟩
            simp only [putsL]
            change quietTo _ _ _ _ (Sem.run _ (execOp (Act.eval (Act.put _ (some 75) (sv 0))) _) _)
            try simp only [Act.put, List.setIfInBounds_toArray, List.set_cons_succ, List.set_cons_zero]
            simp [go_sem, quietTo, Ext.refl, f0]
            all_goals first
              | rfl
          refine fac_quiet 25 rfl rfl rfl (fun _ _ h he => h.ext he) rfl rfl ?_
          apply Exists.intro
          refine ⟨fun sv w' hw' hfa => ?_, ?_⟩
          · obtain ⟨_, f24, -⟩ := hfa
            replace f24 : sv 24 = _ := f24
            try dsimp only at f24
            refine ⟨rfl, ?_⟩
            simp only [putsL]
            change quietTo _ _ _ _ (Sem.run _ (execOp (Act.eval (Act.put (Act.put _ (some 99) (sv 24)) (some 75) (sv 0))) _) _)
            try simp only [Act.put, List.setIfInBounds_toArray, List.set_cons_succ, List.set_cons_zero]
            simp [go_sem, quietTo, Ext.refl, f24]
            all_goals first
              | rfl
          refine fac_nil fun xq wrq herq hfrq hcrq holdq hapq => ?_
          obtain ⟨f0, f1, f2, f3, f4, f5, f6, f7, f8, f9, f10, f11, f12, f13, f14, f15, f16, f17, f18, f19, f20, f21, f22, f23, f24, f25, -⟩ := hfrq
          replace f0 : xq 0 = _ := f0
          try dsimp only at f0
          replace f1 : xq 1 = _ := f1
          try dsimp only at f1
          replace f2 : xq 2 = _ := f2
          try dsimp only at f2
          replace f3 : xq 3 = _ := f3
          try dsimp only at f3
          replace f4 : xq 4 = _ := f4
          try dsimp only at f4
          replace f5 : xq 5 = _ := f5
          try dsimp only at f5
          replace f6 : xq 6 = _ := f6
          try dsimp only at f6
          replace f7 : xq 7 = _ := f7
          try dsimp only at f7
          obtain ⟨g8, f8, l8, b8⟩ := f8
          replace f8 : xq 8 = _ := f8
          obtain ⟨p8, q8⟩ := b8.walk
          obtain ⟨nm, hnm, f9⟩ := f9
          replace f9 : xq 9 = _ := f9
          replace f10 : xq 10 = _ := f10
          try dsimp only at f10
          replace f11 : xq 11 = _ := f11
          try dsimp only at f11
          replace f12 : xq 12 = _ := f12
          try dsimp only at f12
          replace f13 : xq 13 = _ := f13
          try dsimp only at f13
          replace f14 : xq 14 = _ := f14
          try dsimp only at f14
          obtain ⟨g15, f15, l15, b15⟩ := f15
          replace f15 : xq 15 = _ := f15
          obtain ⟨p15, q15⟩ := b15.walk
          obtain ⟨z1, hz1, f16⟩ := f16
          replace f16 : xq 16 = _ := f16
          replace f17 : xq 17 = _ := f17
          try dsimp only at f17
          replace f18 : xq 18 = _ := f18
          try dsimp only at f18
          replace f19 : xq 19 = _ := f19
          try dsimp only at f19
          replace f20 : xq 20 = _ := f20
          try dsimp only at f20
          replace f21 : xq 21 = _ := f21
          try dsimp only at f21
          obtain ⟨g22, f22, l22, b22⟩ := f22
          replace f22 : xq 22 = _ := f22
          obtain ⟨p22, q22⟩ := b22.walk
          obtain ⟨z2, hz2, f23⟩ := f23
          replace f23 : xq 23 = _ := f23
          replace f24 : xq 24 = _ := f24
          try dsimp only at f24
          replace f25 : xq 25 = _ := f25
          try dsimp only at f25
          change wpList _ _ _ _ (Act.put (Act.put (Act.put (Act.put (Act.put (Act.put (Act.put (Act.put (Act.put (Act.put (Act.put (Act.put (Act.put (Act.put (Act.put (Act.put (Act.put (Act.put (Act.put (Act.put (Act.put (Act.put (Act.put (Act.put (Act.put (Act.put _ (some 75) (xq 0)) (some 76) (xq 1)) (some 77) (xq 2)) (some 78) (xq 3)) (some 79) (xq 4)) (some 80) (xq 5)) (some 81) (xq 6)) (some 82) (xq 7)) (some 83) (xq 8)) (some 84) (xq 9)) (some 85) (xq 10)) (some 86) (xq 11)) (some 87) (xq 12)) (some 88) (xq 13)) (some 89) (xq 14)) (some 90) (xq 15)) (some 91) (xq 16)) (some 92) (xq 17)) (some 93) (xq 18)) (some 94) (xq 19)) (some 95) (xq 20)) (some 96) (xq 21)) (some 97) (xq 22)) (some 98) (xq 23)) (some 99) (xq 24)) (some 100) (xq 25)) _
          simp only [putsL, Nat.reduceAdd, List.drop_succ_cons, List.drop_zero, List.drop_nil, Act.put, List.setIfInBounds_toArray, List.set_cons_succ, List.set_cons_zero]
          try simp only [f0, f1, f2, f3, f4, f5, f6, f7, f8, f9, f10, f11, f12, f13, f14, f15, f16, f17, f18, f19, f20, f21, f22, f23, f24, f25]
          clear f0 f1 f2 f3 f4 f5 f6 f7 f10 f11 f12 f13 f14 f17 f18 f19 f20 f21 f24 f25
          clear holdq hapq
          have hoq := own_extS herq (by omega) (World.ownsRow.drew ho5.out)
          have hEq : ExtS s w wrq := ((hM5.out.ext.drew).trans herq)
          have hwb : w.heap.size ≤ g := by omega
          clear herq c0x c1x c2x b8 p8 q8 b15 p15 q15 b22 p22 q22 l8 l15 l22 hS5d hsl hsl' hgl
          have c0x : wrq.cell? ⟨g, i * 3, none⟩ = some (.string x.name) := own_cell staC_len hoq hx.out 0 rfl hi
          have c1x : wrq.cell? ⟨g, i * 3 + 1, none⟩ = some (.int .i64 x.row) := own_cell staC_len hoq hx.out 1 rfl hi
          have c2x : wrq.cell? ⟨g, i * 3 + 2, none⟩ = some (.int .i64 x.place) := own_cell staC_len hoq hx.out 2 rfl hi
          have z0 : ∀ o, wrq.frozen? ⟨g, o, none⟩ = false := fun o => hoq.frozenAt o
          have hset := sta_mod3 hoq hx.out nm z1 z2
          obtain ⟨p, c, hpc, hSl⟩ := slc_of_own staC_len hset (by decide) (by omega)
          cases hpc
          have hsg : s < g := by omega
          have hres : StandsP s k w (.returned (.slice (some ⟨g, 0, none⟩) S.length lc)) (((wrq.setCell ⟨g, i * 3, none⟩ (.string nm)).setCell ⟨g, i * 3 + 1, none⟩ (.int .i64 z1)).setCell ⟨g, i * 3 + 2, none⟩ (.int .i64 z2)) :=
            ⟨_, _, S.set i ⟨nm, z1, z2⟩, by rw [List.length_set], by rw [List.length_set]; omega, by rw [List.length_set]; exact hSl, (fun y hy => by
              rcases List.mem_or_eq_of_mem_set hy with h1 | h1
              · exact hM5.out.small y h1
              · subst h1
                exact ⟨hnm, hz1.1, hz1.2, hz2.1, hz2.2⟩), (fun a ha => by cases ha; exact hwb), (((hcrq.set (p := ⟨g, i * 3, none⟩) hsg _).set (p := ⟨g, i * 3 + 1, none⟩) hsg _).set (p := ⟨g, i * 3 + 2, none⟩) hsg _).more (by omega), ((hEq.setCell (p := ⟨g, i * 3, none⟩) (.inr hwb) _).setCell (p := ⟨g, i * 3 + 1, none⟩) (.inr hwb) _).setCell (p := ⟨g, i * 3 + 2, none⟩) (.inr hwb) _⟩
          replace hoq := Lib.hid hoq
          replace hset := Lib.hid hset
          replace hSl := Lib.hid hSl
          replace hres := Lib.hid hres
          go_wp2
          go_ret
          exact hres.out
end Go.Proofs.YtakfanmoepiagaaGreatDoor
