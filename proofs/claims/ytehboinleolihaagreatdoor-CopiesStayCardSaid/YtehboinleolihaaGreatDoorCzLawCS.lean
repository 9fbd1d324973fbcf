/- Library and slips that are handed in stay; what is made of them is new memory: the property answers true. Conditions: the argument is a list of ints that lies in memory; the table of the powers of ten stands. -/
import Derived.Test.YtehboinleolihaaGreatDoorCzSlR
import Derived.Test.YtehboinleolihaaGreatDoorCzLtA
import Derived.Test.YtehboinleolihaaGreatDoorCzLbZ
import Derived.Test.YtehboinleolihaaGreatDoorCzLcA
import Derived.Test.YtehboinleolihaaGreatDoorCzJ38
import Derived.Test.YtehboinleolihaaGreatDoorCzJ21
import Derived.Test.YtehboinleolihaaGreatDoorCzJ46
import Derived.Test.YtehboinleolihaaGreatDoorCzJ47
set_option linter.unusedSimpArgs false
set_option linter.unusedVariables false
namespace Go.Proofs.YtehboinleolihaaGreatDoor
open Go Go.RowKit
theorem slc_noneC {α : Type} {k : Nat} {enc : α → List Value} (w : World) : Slc k enc w none 0 0 ([] : List α) := ⟨⟨rfl, by omega, fun h => absurd rfl h⟩, by omega, (fun _ => rfl), fun a ha => by cases ha⟩
theorem own_ownC {w : World} {base base' k k' n m : Nat} {t e : TypeId} {u v : Value} {xs ys : List Value} (h : w.ownsRow base t k u n xs) (g : w.ownsRow base' e k' v m ys) (hne : t ≠ e) : u.ownBlock = none ∨ u.ownBlock ≠ v.ownBlock := by
 rcases h.2 with ⟨rfl, _⟩ | ⟨b, cap, cur, rfl, _, h3, _⟩
 ·exact .inl rfl
 ·right
  intro e1
  rcases g.2 with ⟨rfl, _⟩ | ⟨c, cap', cur', rfl, _, g3, _⟩
  ·simp [Value.ownBlock] at e1
  ·have e2 : b = c := by simpa [Value.ownBlock] using e1
   subst e2
   rw [h3] at g3
   simp at g3
   exact hne g3.2
theorem own_setC {w : World} {base base' k k' n m g cap : Nat} {e e' : TypeId} {v : Value} {xs ys : List Value} (h : w.ownsRow base e k v n xs) (hz : w.ownsRow base' e' k' (.slice (some ⟨g, 0, none⟩) m cap) m ys) (hne : e ≠ e') (o : Nat) (u : Value) : (w.setCell ⟨g, o, none⟩ u).ownsRow base e k v n xs := by
 refine h.kept (grown_set w ⟨g, o, none⟩ u) ?_
 rcases own_ownC h hz hne with e | e
 ·exact .inl e
 ·exact .inr e
theorem own_lenC {α : Type} {k : Nat} {enc : α → List Value} (hk : ∀ x, (enc x).length = k) (h0 : 0 < k) {w : World} {base n : Nat} {e : TypeId} {v : Value} {T : List α} (h : w.ownsRow base e k v n (T.flatMap enc)) : T.length = n := by
 have h1 := h.1
 have h2 : ∀ l : List α, (l.flatMap enc).length = l.length * k := fun l => by
  induction l with
  | nil => simp
  | cons a l ih => rw [List.flatMap_cons, List.length_append, ih, hk, List.length_cons, Nat.add_mul]; omega
 rw [h2] at h1
 exact Nat.eq_of_mul_eq_mul_right h0 h1
theorem mrg_same {V : List SlipV} (hV : slipsF V = 0) {M : List SlipV} {f : Int} (h : MrgV V V M f) : M = V ∧ f = 0 := by
 have hR := slipsF_right hV
 obtain ⟨o, ho, hu⟩ := mrg_one hR (List.Sublist.refl V) (List.Sublist.refl V) (fun x hx => .inl hx)
 unfold MrgV at h
 rw [if_neg (by simpa using hV), if_neg (by simpa using hV), ho] at h
 obtain ⟨S, h1, h2, h3⟩ := h
 have e := hu S h1 h2
 subst e
 rcases h3 with ⟨-, rfl, rfl⟩ | ⟨h3, -⟩
 ·exact ⟨rfl, rfl⟩
 ·exact absurd hV h3
theorem MrgR.self {V : List SlipV} {w w' : World} {e : Ending} (h : MrgR V V w e w') (hV : slipsF V = 0) (hl : V.length ≤ 1000) : ∃ (p : Option Addr) (c : Nat), e = .returned (.tuple #[.slice p V.length c, .int .i64 0]) ∧ w'.ownsRow w.heap.size 79 7 (.slice p V.length c) V.length (V.flatMap slipC) ∧ Ext w w' := by
 obtain ⟨v, M, f, rfl, ho, hv, hx⟩ := h
 obtain ⟨rfl, rfl⟩ := mrg_same hV hv
 obtain ⟨p, c, rfl, -⟩ := slc_of_own slipC_len ho (by decide) (by omega)
 exact ⟨p, c, rfl, ho, hx⟩
theorem OutR.own {T : List TitleV} {r : LendR} {d : List SlipV} {t : Int} {w w' : World} {e : Ending} (h : OutR T r d t w e w') (hl : (outL (libAt T r d t).1.loans).length ≤ 1000) : ∃ (p : Option Addr) (c : Nat) (M : List LentV), e = .returned (.tuple #[.slice p M.length c, .int .i64 0]) ∧ w'.ownsRow w.heap.size 65 4 (.slice p M.length c) M.length (M.flatMap lentC) ∧ M.length ≤ 1000 ∧ Ext w w' := by
 obtain ⟨v, M, rfl, hM, -, ho, hx⟩ := h
 have h1 := hM.length_eq
 obtain ⟨p, c, rfl, -⟩ := slc_of_own lentC_len ho (by decide) (by omega)
 exact ⟨p, c, M, rfl, ho, by omega, hx⟩
theorem StockR.own {T : List TitleV} {r : LendR} {d : List SlipV} {t : Int} {w w' : World} {e : Ending} (h : StockR T r d t w e w') (hT : T.length ≤ 1000) : ∃ (p : Option Addr) (c : Nat), e = .returned (.tuple #[.slice p T.length c, .int .i64 0]) ∧ PairRow w' w.heap.size w'.heap.size p T.length ∧ Ext w w' := by
 obtain ⟨v, rfl, ho, hx⟩ := h
 obtain ⟨p, c, rfl, -⟩ := slc_of_own lpC_len ho (by decide) (by omega)
 exact ⟨p, c, rfl, PairRow.of ho, hx⟩
theorem CountR.own {T : List TitleV} {L : LibS} {C : List IdV} {w w' : World} {e : Ending} (h : CountR T L C w e w') (h1 : (missL T L C).length ≤ 1000000) (h2 : (wrongL L C).length ≤ 1000000) :
 ∃ (p : Option Addr) (c : Nat) (q : Option Addr) (d : Nat), e = .returned (.tuple #[.slice p (missL T L C).length c, .slice q (wrongL L C).length d, .int .i64 0]) ∧ PairRow w' w.heap.size w'.heap.size p (missL T L C).length ∧ PairRow w' w.heap.size w'.heap.size q (wrongL L C).length ∧ Slc 2 lpC w' p (missL T L C).length c (missL T L C) ∧ (∀ a, p = some a → w.heap.size ≤ a.block ∧ a.block < w'.heap.size) ∧ Ext w w' := by
 obtain ⟨v, u, rfl, ho, hu, hx⟩ := h
 obtain ⟨p, c, rfl, hS⟩ := slc_of_own lpC_len ho (by decide) (by omega)
 obtain ⟨q, d, rfl, -⟩ := slc_of_own lpC_len hu (by decide) (by omega)
 exact ⟨p, c, q, d, rfl, PairRow.of ho, PairRow.of hu, hS, (fun a ha => by subst ha; exact ho.lt a.block rfl), hx⟩
/-- What is kept while rows are overwritten. -/
structure SpW (w0 : World) (sz : Nat) (f : Nat → Option Addr × Nat × Nat) (lo hi : Nat → Nat) (pa pb : Option Addr) (na ca nb cb : Nat) (A B : List (ByteArray × ByteArray)) (w : World) : Prop where
 rows : ∀ i, i < 3 → PairRow w (lo i) (hi i) (f i).1 (f i).2.1
 a : Slc 2 lpC w pa na ca A
 b : Slc 2 lpC w pb nb cb B
 big : sz ≤ w.heap.size
 ext : Ext w0 w
theorem SpW.set {w0 w : World} {sz : Nat} {f : Nat → Option Addr × Nat × Nat} {lo hi : Nat → Nat} {pa pb : Option Addr} {na ca nb cb : Nat} {A B : List (ByteArray × ByteArray)} (h : SpW w0 sz f lo hi pa pb na ca nb cb A B w) {q : Addr} (h0 : w0.heap.size ≤ q.block) (hq : ∀ i, i < 3 → q.block < lo i ∨ hi i ≤ q.block) (ha : ∀ a, pa = some a → a.block ≠ q.block) (hb : ∀ a, pb = some a → a.block ≠ q.block) (u : Value) : SpW w0 sz f lo hi pa pb na ca nb cb A B (w.setCell q u) :=
 ⟨fun i hi => (h.rows i hi).far (hq i hi) u, h.a.setD ha u, h.b.setD hb u, by have := h.big; simpa using this, h.ext.setCell h0 u⟩
set_option maxRecDepth 100000 in
set_option maxHeartbeats 25600000 in
theorem lawCS_any (B : Nat) (w : World) (p : Option Addr) (n c : Nat) (h : Lst w w.heap.size p n) (ht : Tab B w) :
 Calls Tryz.prog 7 #[.slice p n c] w fun e w' => e = .returned (.bool true) ∧ Ext w w' := by
 obtain ⟨xs, rfl, hL⟩ := lst_list h
 obtain ⟨L, hLd⟩ : ∃ L : Src, L = ⟨xs, w.heap.size⟩ := ⟨_, rfl⟩
 have hlow : L.low = w.heap.size := by rw [hLd]
 have hE0 : Ext w ((w.alloc (.cells #[.slice p xs.length c, .int .i64 0] 25)).alloc (.cells #[.slice p xs.length c, .int .i64 0] 25)) := ((Ext.refl w).alloc _).alloc _
 have hSa : StrL ((w.alloc (.cells #[.slice p xs.length c, .int .i64 0] 25)).alloc (.cells #[.slice p xs.length c, .int .i64 0] 25)) w.heap.size L 0 := by
  subst hLd
  exact ⟨Nat.le_refl _, p, c, (Blk.new' rfl).alloc _, hL.low fun j hj => hE0.block j hj⟩
 have hSb : StrL ((w.alloc (.cells #[.slice p xs.length c, .int .i64 0] 25)).alloc (.cells #[.slice p xs.length c, .int .i64 0] 25)) (w.heap.size + 1) L 0 := by
  subst hLd
  exact ⟨Nat.le_succ _, p, c, Blk.new' (by simp), hL.low fun j hj => hE0.block j hj⟩
 have hz0 : ((w.alloc (.cells #[.slice p xs.length c, .int .i64 0] 25)).alloc (.cells #[.slice p xs.length c, .int .i64 0] 25)).heap.size = w.heap.size + 2 := by simp
 have hva := library_det w.heap.size 0 L _ (by omega) hSa
 replace hva := Lib.hid hva; clear h hL hLd hSa
 go_enter Tryz.func7, Tryz.ntmps7
 go_upto_region 3 with (go_at_call 9; go_loud ((with_reducible refine Calls.mono hva.out ?_); rintro e w1 ⟨p1, n1, c1, T, r, k1, hF1, hk1, rfl, hn1, hT1, hTl, hTs, hSa1, hE1⟩; unfold lendVal))
 subst hTl
 rw [hz0] at hT1
 have hX1 := (ExtS.back hE0 (Nat.le_refl _) hE1).alloc (.cells (lendC r) 28)
 have hz1 : w.heap.size + 2 ≤ w1.heap.size := by have := hE1.2.2.2.1; omega
 have hSb1 := (hSb.other hE1 (by omega) (by omega)).ext ((Ext.refl w1).alloc (.cells (lendC r) 28))
 have hSa1 := hSa1.ext ((Ext.refl w1).alloc (.cells (lendC r) 28))
 have hT1 := hT1.alloc (.cells (lendC r) 28)
 have hR1 : Blk (w1.alloc (.cells (lendC r) 28)) w1.heap.size 28 (lendC r) := Blk.new' rfl
 unfold lendC at hX1 hSb1 hSa1 hT1 hR1
 clear hva hSb hE0 hE1 hz0
 obtain ⟨W1, hW1⟩ : ∃ W1, (w1.alloc (.cells #[.int .i64 r.days, .int .i64 r.late, .int .i64 r.most, .int .i64 r.each] 28)) = W1 := ⟨_, rfl⟩
 have hs1 : W1.heap.size = w1.heap.size + 1 := by rw [← hW1]; simp
 rw [hW1] at hX1 hSb1 hSa1 hT1 hR1 ⊢
 clear hW1
 generalize w1.heap.size = g6 at *
 have hvb := library_det (w.heap.size + 1) 0 L W1 (by omega) hSb1
 replace hvb := Lib.hid hvb; replace hT1 := Lib.hid hT1; replace hR1 := Lib.hid hR1; replace hSa1 := Lib.hid hSa1; clear hSb1
 go_upto_region 4 with (go_at_call 9; go_loud ((with_reducible refine Calls.mono hvb.out ?_); rintro e w2 ⟨p2, n2, c2, T2, r2, k2, hF2, -, rfl, hn2, hT2, hTl2, -, hSb2, hE2⟩; unfold lendVal))
 obtain ⟨rfl, rfl, rfl⟩ : T2 = T ∧ r2 = r ∧ k2 = k1 := by
  have e := hF2.symm.trans hF1
  exact ⟨congrArg Prod.fst e, congrArg (fun x => x.2.1) e, congrArg (fun x => x.2.2) e⟩
 subst hTl2
 have hX2 := (ExtS.back hX1 (Nat.le_succ _) hE2).alloc (.cells (lendC r2) 28)
 have hSa2 := (hSa1.out.other hE2 (by omega) (by omega)).ext ((Ext.refl w2).alloc (.cells (lendC r2) 28))
 have hSb2 := hSb2.ext ((Ext.refl w2).alloc (.cells (lendC r2) 28))
 have hT1 := (own_extS hE2 (by omega) hT1.out).alloc (.cells (lendC r2) 28)
 have hT2 := own_low (hT2.alloc (.cells (lendC r2) 28)) (show w.heap.size + 4 ≤ _ by omega)
 have hR2 := (hR1.out.extS (by omega) hE2).alloc (.cells (lendC r2) 28)
 have hz2 : W1.heap.size ≤ w2.heap.size := hE2.2.2.2.1
 unfold lendC at hX2 hSa2 hSb2 hT1 hT2 hR2
 clear hvb hE2 hF1 hF2 hX1 hR1 hSa1
 obtain ⟨W2, hW2⟩ : ∃ W2, (w2.alloc (.cells #[.int .i64 r2.days, .int .i64 r2.late, .int .i64 r2.most, .int .i64 r2.each] 28)) = W2 := ⟨_, rfl⟩
 have hs2 : W2.heap.size = w2.heap.size + 1 := by rw [← hW2]; simp
 rw [hW2] at hX2 hSa2 hSb2 hT1 hT2 hR2 ⊢
 clear hW2
 generalize w2.heap.size = g8 at *
 have hra := rightSlips_det w.heap.size k2 L W2 (by omega) hSa2
 replace hra := Lib.hid hra; replace hSb2 := Lib.hid hSb2; replace hT1 := Lib.hid hT1; replace hT2 := Lib.hid hT2; replace hR2 := Lib.hid hR2; clear hSa2
 go_upto_region 5 with (first
  | (go_at_call 41; go_loud ((with_reducible refine Calls.mono hra.out ?_); rintro e w3 ⟨p3, n3, c3, V, k3, hF3, hk3, rfl, hn3, hV3, hp3, hVl, hVs, hVq, hSa3, hE3⟩; have hSb3 := Lib.hid (hSb2.out.other hE3 (by omega) (by omega)); have hX3 := ExtS.back hX2 (Nat.le_refl _) hE3; have hz3 : W2.heap.size ≤ w3.heap.size := hE3.2.2.2.1))
  | (go_at_call 41; (with_reducible refine Calls.mono (rightSlips_det (w.heap.size + 1) k2 L _ (by omega) (by exact hSb3.out)) ?_); rintro e w4 ⟨p4, n4, c4, V4, k4, hF4, -, rfl, hn4, hV4, hp4, hVl4, -, -, -, hE4⟩))
 obtain rfl : V4 = V := by
  have e := hF4.symm.trans hF3
  exact congrArg Prod.fst e
 subst hVl
 obtain rfl : n4 = V4.length := hVl4.symm
 have hX4 := ExtS.back hX3 (Nat.le_succ _) hE4
 have hT1 := own_extS hE4 (by omega) (own_extS hE3 (by omega) hT1.out)
 have hT2 := own_extS hE4 (by omega) (own_extS hE3 (by omega) hT2.out)
 have hR4 := (hR2.out.extS (by omega) hE3).extS (by omega) hE4
 have hV3 := hV3.extS hE4 (fun a ha => by have := hp3 a ha; omega)
 obtain ⟨p1', c1', e9, hTa⟩ := slc_of_own titleC_len hT1 (by decide) (by omega)
 cases e9
 obtain ⟨p2', c2', e9, hTb⟩ := slc_of_own titleC_len hT2 (by decide) (by omega)
 cases e9
 have hlf := libFault_any p2 T2.length c2 T2 r2 p4 V4.length c4 V4 w4 hTb.1 hTs (by omega) hV4.1 hVs (by omega)
 have htw : ∀ u, Ext w4 u → Tab B u := fun u hu => ht.ext (hX4.trans hu)
 have hrdy := fun u (hu : Ext w4 u) => ready_any B u (htw u hu)
 have hTn : T2.length ≤ 3 := hn1
 unfold lendVal at hlf
 obtain ⟨x0, -⟩ := hR4.walk
 have y0 := x0 0
 have y1 := x0 1
 have y2 := x0 2
 have y3 := x0 3
 have l4 := hR4.lt
 replace htw := Lib.hid htw; replace hrdy := Lib.hid hrdy; replace hTs := Lib.hid hTs; replace hVs := Lib.hid hVs; replace hVq := Lib.hid hVq; replace hTa := Lib.hid hTa; replace hTb := Lib.hid hTb; replace hV3 := Lib.hid hV3; replace hV4 := Lib.hid hV4; replace hR4 := Lib.hid hR4; clear hra hSb2 hSb3 hE3 hE4 hT1 hT2 hR2 hX3 hX2 hSa3 hF3 hF4 hVl4 x0 hp3 hp4
 by_cases hF : libF T2 r2 V4 = 0
 rotate_left
 ·generalize libF T2 r2 V4 = f at *
  replace hlf := Lib.hid hlf
  go_wp2_with (first
   | (go_at_call 14; (with_reducible refine Calls.mono hlf.out ?_); rintro e w9 ⟨rfl, hb9⟩)
   | (go_at_call 42; (with_reducible refine Calls.mono (hrdy.out _ hb9) ?_); rintro e wE ⟨rfl, hbE⟩))
  go_ret
  exact ⟨rfl, (hX4.trans hb9).trans hbE⟩
 rw [hF] at hlf
 have hLM : ∀ u, Ext w4 u → ListsM u p1 T2.length c1 T2 r2 p3 V4.length c3 V4 := fun u hu => ⟨hTa.out.ext hu, hTs.out, by omega, hV3.out.ext hu, hVs.out, by omega, hF⟩
 have hTok := titlesF_ok (libF_zero hF).1
 have hmg := fun u (hu : Ext w4 u) => (merge_any p3 p3 V4.length c3 V4.length c3 V4 V4 u (hV3.out.ext hu) (hV3.out.ext hu) hVs.out hVs.out (by omega) (by omega)).mono fun e w' hh => MrgR.self hh hVq.out (by omega)
 have hRS : RightS V4 := slipsF_right hVq.out
 have hou := fun u (hu : Ext w4 u) => (out_any p1 T2.length c1 T2 r2 p3 V4.length c3 V4 86400000 u (hLM u hu) (by decide)).mono fun e w' hh => OutR.own hh (Nat.le_trans (outL_len _) (by have := (libAt_N (T := T2) (r := r2) (t := 86400000) hRS hVs.out).loans; omega))
 have hst := fun u (hu : Ext w4 u) => (stock_any B p1 T2.length c1 T2 r2 p3 V4.length c3 V4 86400000 u (hLM u hu) (by decide) (htw.out u hu)).mono fun e w' hh => StockR.own hh (by omega)
 obtain ⟨L1, hL1⟩ : ∃ X, X = (libAt T2 r2 V4 86400000).1 := ⟨_, rfl⟩
 obtain ⟨L2, hL2⟩ : ∃ X, X = (libAt T2 r2 V4 5).1 := ⟨_, rfl⟩
 obtain ⟨q1, -, -, -⟩ := counted hTok L1
 obtain ⟨I, hI⟩ : ∃ I, I = insT T2 L1 := ⟨_, rfl⟩
 rw [← hI] at q1
 have hidl : (idsT T2).length ≤ 1500 := by
  have h1 := ids_len (T := T2) fun z hz => (hTok.one z hz).2.2.1
  omega
 have hil : I.length ≤ 1500 := by
  rw [hI]
  have h2 : (insT T2 L1).length ≤ (idsT T2).length := List.length_filter_le _ _
  omega
 have hIn : I.Nodup := by rw [hI]; exact List.Pairwise.filter _ (ids_nodup hTok.diff)
 have hIm : ∀ k ∈ I, k ∈ idsT T2 := fun k hk => by rw [hI] at hk; exact (List.mem_filter.1 hk).1
 have hc1 := fun u (hu : Ext w4 u) => (count_any B p1 T2.length c1 T2 r2 p3 V4.length c3 V4 86400000 none 0 0 [] u (hLM u hu) (by decide) (slc_noneC u) (by simp) List.Pairwise.nil (by omega) (by omega) (htw.out u hu)).mono fun e w' hh => CountR.own hh (by rw [← hL1, q1]; simp; omega) (by simp [wrongL])
 rw [← hL1, q1] at hc1
 simp only [List.length_map] at hc1
 have hm2 : (missL T2 L2 I).length ≤ 1500 := by
  unfold missL
  rw [List.length_map]
  have := List.length_filter_le (fun k => inP L2 k && decide (k ∉ I)) (idsT T2)
  omega
 have hw2 : (wrongL L2 I).length ≤ 1500 := by
  unfold wrongL
  rw [List.length_map]
  have := List.length_filter_le (fun k => !inP L2 k) I
  omega
 have hw1 : (wrongL L1 []).length = 0 := rfl
 have hc2 := fun u (hu : Ext w4 u) sp sc (hS : Slc 2 lpC u sp I.length sc (I.map pairOf)) => (count_any B p1 T2.length c1 T2 r2 p3 V4.length c3 V4 5 sp I.length sc I u (hLM u hu) (by decide) hS hIm hIn (by omega) (by omega) (htw.out u hu)).mono fun e w' hh => CountR.own hh (by rw [← hL2]; omega) (by rw [← hL2]; omega)
 rw [← hL2] at hc2
 rw [hw1] at hc1
 unfold lendVal at hou hst hc1 hc2
 obtain ⟨J, hJ⟩ : ∃ J, J = I.map pairOf := ⟨_, rfl⟩
 have hJl : J.length = I.length := by rw [hJ, List.length_map]
 rw [← hJ] at hc1 hc2
 rw [← hJl] at hc1 hc2 hil
 generalize (missL T2 L2 I).length = nm at *
 generalize missL T2 L2 I = Q2 at *
 generalize (wrongL L2 I).length = nw at *
 replace hlf := Lib.hid hlf; replace hmg := Lib.hid hmg; replace hou := Lib.hid hou; replace hst := Lib.hid hst; replace hc1 := Lib.hid hc1; replace hc2 := Lib.hid hc2; clear hLM hTok hRS hL1 hL2 q1 hI hidl hIn hIm hJ hJl hw1 hF
 go_upto_region 8 with (first
  | (go_at_call 14; (with_reducible refine Calls.mono hlf.out ?_); rintro e w5 ⟨rfl, hb5⟩)
  | (go_at_call 61; (with_reducible refine Calls.mono (hmg.out _ hb5) ?_); rintro e w6 ⟨pM, cM, rfl, hM6, hb56⟩))
 have hb6 := hb5.trans hb56
 have hgM : ∀ a, pM = some a → w5.heap.size ≤ a.block ∧ a.block < w6.heap.size := fun a ha => by subst ha; exact hM6.lt a.block rfl
 have hz5 := hb5.size
 have hz6 := hb56.size
 obtain ⟨x0, -⟩ := (hR4.out.ext hb6).walk
 have z0 := x0 0
 have z1 := x0 1
 have z2 := x0 2
 have z3 := x0 3
 have l6 := (hR4.out.ext hb6).lt
 replace hM6 := Lib.hid hM6; replace hgM := Lib.hid hgM; clear x0 y0 y1 y2 y3 l4 hlf hmg hb5 hb56
 go_upto_region 9 with (go_at_call 17; (with_reducible refine Calls.mono (hou.out _ hb6) ?_); rintro e w7 ⟨pO, cO, O, rfl, hO7, hOl, hb67⟩)
 have hb7 := hb6.trans hb67
 have hM7 := own_ext hb67 hM6.out
 have hgO : ∀ a, pO = some a → w6.heap.size ≤ a.block ∧ a.block < w7.heap.size := fun a ha => by subst ha; exact hO7.lt a.block rfl
 have hz7 := hb67.size
 obtain ⟨x0, -⟩ := (hR4.out.ext hb7).walk
 have y0 := x0 0
 have y1 := x0 1
 have y2 := x0 2
 have y3 := x0 3
 have l7 := (hR4.out.ext hb7).lt
 replace hM7 := Lib.hid hM7; replace hO7 := Lib.hid hO7; replace hgO := Lib.hid hgO; clear x0 z0 z1 z2 z3 l6 hou hb6 hb67 hM6
 go_upto_region 10 with (go_at_call 53; (with_reducible refine Calls.mono (hst.out _ hb7) ?_); rintro e w8 ⟨pS, cS, rfl, hS8, hb78⟩)
 have hb8 := hb7.trans hb78
 have hM8 := own_ext hb78 hM7.out
 have hO8 := own_ext hb78 hO7.out
 have hz8 := hb78.size
 obtain ⟨x0, -⟩ := (hR4.out.ext hb8).walk
 have z0 := x0 0
 have z1 := x0 1
 have z2 := x0 2
 have z3 := x0 3
 have l8 := (hR4.out.ext hb8).lt
 replace hM8 := Lib.hid hM8; replace hO8 := Lib.hid hO8; replace hS8 := Lib.hid hS8; clear x0 y0 y1 y2 y3 l7 hst hb7 hb78 hM7 hO7
 go_upto_region 11 with (go_at_call 55; (with_reducible refine Calls.mono (hc1.out _ hb8) ?_); rintro e w9 ⟨p17, c17, p18, c18, rfl, -, -, hJ9, hg17, hb89⟩)
 have hb9 := hb8.trans hb89
 have hz9 := hb89.size
 have hcl := clonePair_any p17 J.length c17 J w9 hJ9 (by omega)
 have hc2a := hc2.out
 replace hcl := Lib.hid hcl; replace hJ9 := Lib.hid hJ9; replace hg17 := Lib.hid hg17; replace hc2a := Lib.hid hc2a; clear z0 z1 z2 z3 l8 hc1 hc2
 go_upto_region 12 with (go_at_call 62; (with_reducible refine Calls.mono hcl.out ?_); rintro e w10 ⟨v20, rfl, ho20, hb910⟩)
 obtain ⟨p20, c20, rfl, hJ20⟩ := slc_of_own lpC_len ho20 (by decide) (by omega)
 have hg20 : ∀ a, p20 = some a → w9.heap.size ≤ a.block ∧ a.block < w10.heap.size := fun a ha => by subst ha; exact ho20.lt a.block rfl
 have hb10 := hb9.trans hb910
 have hz10 := hb910.size
 have hJ17 := hJ9.out.ext hb910
 have hc2b := hc2a.out w10 hb10 p17 c17 hJ17
 have hM10 := own_ext (hb89.trans hb910) hM8.out
 have hO10 := own_ext (hb89.trans hb910) hO8.out
 have hS10 := hS8.out.ext (hb89.trans hb910) (Nat.le_refl _)
 obtain ⟨x0, -⟩ := (hR4.out.ext hb10).walk
 have y0 := x0 0
 have y1 := x0 1
 have y2 := x0 2
 have y3 := x0 3
 have l10 := (hR4.out.ext hb10).lt
 replace hc2b := Lib.hid hc2b; replace hM10 := Lib.hid hM10; replace hO10 := Lib.hid hO10; replace hS10 := Lib.hid hS10; replace hJ17 := Lib.hid hJ17; replace hJ20 := Lib.hid hJ20; replace hg20 := Lib.hid hg20; clear x0 hcl hc2a hb8 hb89 hb9 hb910 hM8 hO8 hS8 hJ9 ho20
 go_upto_region 13 with (go_at_call 55; (with_reducible refine Calls.mono hc2b.out ?_); rintro e w11 ⟨p21, c21, p22, c22, rfl, hP21, hP22, -, -, hb1011⟩)
 have hb11 := hb10.trans hb1011
 have hz11 := hb1011.size
 have hM11 := own_ext hb1011 hM10.out
 have hO11 := own_ext hb1011 hO10.out
 obtain ⟨f, hf⟩ : ∃ f : Nat → Option Addr × Nat × Nat, f = fun i => match i with | 0 => (pS, T2.length, cS) | 1 => (p21, nm, c21) | _ => (p22, nw, c22) := ⟨_, rfl⟩
 obtain ⟨lo, hlo⟩ : ∃ f : Nat → Nat, f = fun i => match i with | 0 => w7.heap.size | _ => w10.heap.size := ⟨_, rfl⟩
 obtain ⟨hi, hhi⟩ : ∃ f : Nat → Nat, f = fun i => match i with | 0 => w8.heap.size | _ => w11.heap.size := ⟨_, rfl⟩
 have hi3 : ∀ i, i < 3 → i = 0 ∨ i = 1 ∨ i = 2 := fun i h => by omega
 have hSp : SpW w4 w11.heap.size f lo hi p17 p20 J.length c17 J.length c20 J J w11 := by
  refine ⟨fun i h3 => ?_, hJ17.out.ext hb1011, hJ20.out.ext hb1011, Nat.le_refl _, hb11⟩
  subst hf hlo hhi
  rcases hi3 i h3 with rfl | rfl | rfl
  ·exact hS10.out.ext hb1011 (by omega)
  ·exact hP21
  ·exact hP22
 have hloge : ∀ i, i < 3 → w7.heap.size ≤ lo i ∧ hi i ≤ w11.heap.size := fun i h3 => by
  subst hlo hhi
  rcases hi3 i h3 with rfl | rfl | rfl <;> simp only <;> omega
 have h17 : ∀ i, i < 3 → ∀ a, p17 = some a → a.block < lo i ∨ hi i ≤ a.block := fun i h3 a ha => by
  have := hg17.out a ha
  subst hlo hhi
  rcases hi3 i h3 with rfl | rfl | rfl <;> simp only <;> omega
 have h20 : ∀ i, i < 3 → ∀ a, p20 = some a → a.block < lo i ∨ hi i ≤ a.block := fun i h3 a ha => by
  have := hg20.out a ha
  subst hlo hhi
  rcases hi3 i h3 with rfl | rfl | rfl <;> simp only <;> omega
 have hfn : ∀ i, i < 3 → (f i).2.1 ≤ 100000 := fun i h3 => by
  subst hf
  rcases hi3 i h3 with rfl | rfl | rfl <;> simp only <;> omega
 have hf0 : f 0 = (pS, T2.length, cS) := congrFun hf 0
 have hf1 : f 1 = (p21, nm, c21) := congrFun hf 1
 have hf2 : f 2 = (p22, nw, c22) := congrFun hf 2
 have g17 := hg17.out
 have g20 := hg20.out
 have gM := hgM.out
 have gO := hgO.out
 replace hSp := Lib.hid hSp; replace hM11 := Lib.hid hM11; replace hO11 := Lib.hid hO11; replace hloge := Lib.hid hloge; replace h17 := Lib.hid h17; replace h20 := Lib.hid h20; replace hfn := Lib.hid hfn; replace hf0 := Lib.hid hf0; replace hf1 := Lib.hid hf1; replace hf2 := Lib.hid hf2; replace g17 := Lib.hid g17; replace g20 := Lib.hid g20; replace gM := Lib.hid gM; replace gO := Lib.hid gO
 clear hf hlo hhi hi3 y0 y1 y2 y3 l10 hc2b hb10 hb1011 hM10 hO10 hS10 hJ17 hJ20 hg17 hg20 hgM hgO hP21 hP22 hR4
 go_wp2
 go_loopw [111] (fun v111 wr => ∃ (k : Nat) (X : List SlipV), v111 = .int .i64 k ∧ k ≤ V4.length ∧ wr.ownsRow w5.heap.size 79 7 (.slice pM V4.length cM) V4.length (X.flatMap slipC) ∧ wr.ownsRow w6.heap.size 65 4 (.slice pO O.length cO) O.length (O.flatMap lentC) ∧ SpW w4 w11.heap.size f lo hi p17 p20 J.length c17 J.length c20 J J wr) (fun v111 _ => V4.length - (intOf v111).toNat)
 case atStart => exact ⟨0, V4, rfl, Nat.zero_le _, hM11.out, hO11.out, hSp.out⟩
 case round =>
  clear hM11 hO11 hSp
  obtain ⟨k, X, rfl, hk, hM, hO, hS⟩ := hrel
  by_cases hlt : k < V4.length
  ·obtain ⟨g, cap, hv, hg, hgl⟩ := hM.form (by omega)
   cases hv
   obtain ⟨x, hx⟩ := getD_some (own_lenC slipC_len (by decide) hM) hlt
   have c0 : wr.cell? ⟨g, k * 7 + 5, none⟩ = some (.int .i64 x.copy) := own_cell slipC_len hM hx 5 rfl hlt
   have u0 : ∀ o, wr.frozen? ⟨g, o, none⟩ = false := fun o => hM.frozenAt o
   have hset : (wr.setCell ⟨g, k * 7 + 5, none⟩ (.int .i64 777)).ownsRow w5.heap.size 79 7 (.slice (some ⟨g, 0, none⟩) V4.length cM) V4.length ((X.set k ⟨x.by_, x.no, x.at_, x.kind, x.piece, 777, x.singer⟩).flatMap slipC) := own_set1 slipC_len hM ⟨x.by_, x.no, x.at_, x.kind, x.piece, 777, x.singer⟩ hx 5 (by decide) (.int .i64 777) rfl
   have hO2 := own_setC hO hM (by decide) (k * 7 + 5) (.int .i64 777)
   have hgr : w5.heap.size ≤ g ∧ g < w6.heap.size := gM.out _ rfl
   have hS2 := hS.set (q := ⟨g, k * 7 + 5, none⟩) (by simp only; omega) (fun i h3 => by have := hloge.out i h3; simp only; omega) (fun a ha => by have := g17.out a ha; simp only; omega) (fun a ha => by have := g20.out a ha; simp only; omega) (.int .i64 777)
   have hkI : (k : Int) < V4.length := by omega
   replace hset := Lib.hid hset; replace hO2 := Lib.hid hO2; replace hS2 := Lib.hid hS2; replace hx := Lib.hid hx; clear hM hO hS
   go_wp2
   go_roundw
   case rel => exact ⟨k + 1, _, by go_num, by omega, hset.out, hO2.out, hS2.out⟩
   case measure => simp [intOf]; omega
  obtain rfl : k = V4.length := by omega
  clear hM; replace hO := Lib.hid hO; replace hS := Lib.hid hS
  generalize wr = W5 at *
  go_wp2
  go_loopw [121] (fun v121 wr => ∃ (k : Nat) (X : List LentV), v121 = .int .i64 k ∧ k ≤ O.length ∧ wr.ownsRow w6.heap.size 65 4 (.slice pO O.length cO) O.length (X.flatMap lentC) ∧ SpW w4 w11.heap.size f lo hi p17 p20 J.length c17 J.length c20 J J wr) (fun v121 _ => O.length - (intOf v121).toNat)
  case atStart => exact ⟨0, O, rfl, Nat.zero_le _, hO.out, hS.out⟩
  case round =>
   clear hO hS
   obtain ⟨k, X, rfl, hk, hO, hS⟩ := hrel
   by_cases hlt : k < O.length
   ·obtain ⟨g, cap, hv, hg, hgl⟩ := hO.form (by omega)
    cases hv
    obtain ⟨x, hx⟩ := getD_some (own_lenC lentC_len (by decide) hO) hlt
    have c0 : wr.cell? ⟨g, k * 4 + 2, none⟩ = some (.string x.singer) := own_cell lentC_len hO hx 2 rfl hlt
    have u0 : ∀ o, wr.frozen? ⟨g, o, none⟩ = false := fun o => hO.frozenAt o
    have hset : (wr.setCell ⟨g, k * 4 + 2, none⟩ (.string spoiltP)).ownsRow w6.heap.size 65 4 (.slice (some ⟨g, 0, none⟩) O.length cO) O.length ((X.set k ⟨x.piece, x.no, spoiltP, x.since⟩).flatMap lentC) := own_set1 lentC_len hO ⟨x.piece, x.no, spoiltP, x.since⟩ hx 2 (by decide) (.string spoiltP) rfl
    have hgr : w6.heap.size ≤ g ∧ g < w7.heap.size := gO.out _ rfl
    have hS2 := hS.set (q := ⟨g, k * 4 + 2, none⟩) (by simp only; omega) (fun i h3 => by have := hloge.out i h3; simp only; omega) (fun a ha => by have := g17.out a ha; simp only; omega) (fun a ha => by have := g20.out a ha; simp only; omega) (.string spoiltP)
    have hkI : (k : Int) < O.length := by omega
    replace hset := Lib.hid hset; replace hS2 := Lib.hid hS2; replace hx := Lib.hid hx; clear hO hS
    go_wp2
    go_roundw
    case rel => exact ⟨k + 1, _, by go_num, by omega, hset.out, hS2.out⟩
    case measure => simp [intOf]; omega
   obtain rfl : k = O.length := by omega
   clear hO
   have hgb : ∀ i, i < 3 → hi i ≤ wr.heap.size := fun i h3 => Nat.le_trans (hloge.out i h3).2 hS.big
   have hlw : ∀ i, i < 3 → w4.heap.size ≤ lo i := fun i h3 => by have := hloge.out i h3; omega
   have hwA : Ext wr (wr.alloc (.cells #[.slice pS T2.length cS, .slice p21 nm c21, .slice p22 nw c22] 70)) := (Ext.refl wr).alloc _
   have hsp := spoil3_any f wr.heap.size lo hi p17 p20 J.length c17 J.length c20 J J w4 (wr.alloc (.cells #[.slice pS T2.length cS, .slice p21 nm c21, .slice p22 nw c22] 70)) (by rw [hf0.out, hf1.out, hf2.out]; exact Blk.new' rfl) (fun i h3 => (hS.rows i h3).ext hwA (hgb i h3)) hgb hlw (hS.a.ext hwA) (hS.b.ext hwA) h17.out h20.out (hS.ext.trans hwA) hfn.out
   replace hsp := Lib.hid hsp; clear hgb hlw hwA hS
   go_wp2_with (first
    | (go_at_call 63; go_loud ((with_reducible refine Calls.mono hsp.out ?_); rintro e u1 ⟨rfl, hu1, hA1, hB1⟩; replace hA1 := Lib.hid hA1; replace hB1 := Lib.hid hB1))
    | (go_at_call 40; go_loud ((with_reducible refine Calls.mono (eqPairs_any _ _ _ _ _ _ _ hA1.out hB1.out (by omega)) ?_); rintro e u2 ⟨rfl, hu2⟩; have U2 := hu1.trans hu2))
    | (go_at_call 64; go_loud ((with_reducible refine Calls.mono (eqTit_any _ _ _ _ _ _ _ (hTa.out.ext U2) (hTb.out.ext U2) (by omega)) ?_); rintro e u3 ⟨rfl, hu3⟩; have U3 := U2.trans hu3))
    | (go_at_call 65; go_loud ((with_reducible refine Calls.mono (eqSli_any _ _ _ _ _ _ _ (hV3.out.ext U3) (hV4.out.ext U3) (by omega)) ?_); rintro e u4 ⟨rfl, hu4⟩; have U4 := U3.trans hu4))
    | (go_at_call 42; go_loud ((with_reducible refine Calls.mono (hrdy.out _ U4) ?_); rintro e u5 ⟨rfl, hu5⟩)))
   go_ret
   exact ⟨rfl, hX4.trans (U4.trans hu5)⟩
end Go.Proofs.YtehboinleolihaaGreatDoor
