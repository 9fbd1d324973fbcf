/- The best stands, by the document's text: the walk. Conditions: right arguments; four people at most. -/
import Derived.Test.YtfbegdcmnfkhgaaGreatDoorBtBeM
import Derived.Laws.EntriesVeiled
set_option linter.unusedSimpArgs false
set_option linter.unusedVariables false
namespace Go.Proofs.YtfbegdcmnfkhgaaGreatDoor
open Go Go.RowKit Go.Sort

/-- The cell of all places while they are laid. -/
structure PaM (w0 w : World) (v : Nat) (lp : Option Addr) (lc : Nat) (L : List StandV) : Prop where
  ext : Ext w0 w
  low : w0.heap.size ≤ v
  blk : Blk w v 34 #[.slice lp L.length lc]
  own : w.ownsRow (v + 1) 46 3 (.slice lp L.length lc) L.length (L.flatMap staC)
theorem PaM.more {w0 w w' : World} {v : Nat} {lp : Option Addr} {lc : Nat} {L : List StandV} (h : PaM w0 w v lp lc L) (he : Ext w w') : PaM w0 w' v lp lc L :=
  ⟨h.ext.trans he, h.low, h.blk.ext he, own_ext he h.own⟩
theorem PaM.app {w0 w : World} {v : Nat} {lp : Option Addr} {lc : Nat} {L : List StandV} (h : PaM w0 w v lp lc L) {x : StandV} {b1 c1 : Nat} {w6 : World}
    (ho : w6.ownsRow (v + 1) 46 3 (.slice (some ⟨b1, 0, none⟩) (L.length + 1) c1) (L.length + 1) (L.flatMap staC ++ staC x)) (hg : w.grownBy w6 (Value.slice lp L.length lc).ownBlock) :
    PaM w0 (w6.setCell ⟨v, 0, none⟩ (.slice (some ⟨b1, 0, none⟩) (L.length + 1) c1)) v (some ⟨b1, 0, none⟩) c1 (L ++ [x]) := by
  have hlow := h.low
  have hne : (Value.slice lp L.length lc).ownBlock ≠ some v := fun e => by have := (own_block_ge h.own e).1; omega
  have hV : Blk w6 v 34 _ := (hg.block v h.blk.lt fun e => hne e.symm).trans h.blk
  have hl : (L ++ [x]).length = L.length + 1 := by simp
  refine ⟨(h.ext.grown hg fun g hgg => by have := (own_block_ge h.own hgg).1; omega).setCell (show w0.heap.size ≤ v from hlow) _, h.low, ?_, ?_⟩
  · rw [hl]
    exact (hV.set_ 0 _).cast (by simp)
  · rw [hl, flat_snoc]
    exact ho.kept (grown_set w6 ⟨v, 0, none⟩ _) (.inr fun e => by have := (own_block_ge ho (g := v) e).1; omega)
section
variable {pp : Option Addr} {pc : Nat} {P : List PersonV} {wp : Option Addr} {wcap : Nat} {wide : List Int} {hp : Option Addr} {hc : Nat} {high : List Int} {w : World}
set_option maxRecDepth 100000 in
set_option maxHeartbeats 6400000 in
theorem leastOf_any (h : PsM w pp pc P wp wcap wide hp hc high none 0 []) (hf : leastF P wide high = 0) (h4 : P.length ≤ 4) :
    Calls Tryz.prog 17 #[.slice pp P.length pc, .agg #[.slice wp wide.length wcap, .slice hp high.length hc]] w fun e w' => ∃ (q : Option Addr) (c : Nat) (M : List StandV), e = .returned (.tuple #[.slice q M.length c, .int .i64 (leF P wide high (plA wide) P.length [] (P.length + 1, [])).1]) ∧
      M.Perm (leF P wide high (plA wide) P.length [] (P.length + 1, [])).2 ∧ M.Pairwise (fun a b => ltV a b = true) ∧ Slc 3 staC w' q M.length c M ∧ Ext w w' := by
  obtain ⟨hpo, hwo, hho, hwh, ho, hff, n7, n12, hpl⟩ := leastF_ok hf
  have hE0 : Ext w ((w.alloc (.cells #[.slice pp P.length pc] 26)).alloc (.cells #[.slice wp wide.length wcap, .slice hp high.length hc] 29)) := ((Ext.refl _).alloc _).alloc _
  have hP0 : Blk ((w.alloc (.cells #[.slice pp P.length pc] 26)).alloc (.cells #[.slice wp wide.length wcap, .slice hp high.length hc] 29)) w.heap.size 26 #[.slice pp P.length pc] := (Blk.new' rfl).alloc _
  have hS0 : Blk ((w.alloc (.cells #[.slice pp P.length pc] 26)).alloc (.cells #[.slice wp wide.length wcap, .slice hp high.length hc] 29)) (w.heap.size + 1) 29 #[.slice wp wide.length wcap, .slice hp high.length hc] := Blk.new' (by simp)
  have hsz : ((w.alloc (.cells #[.slice pp P.length pc] 26)).alloc (.cells #[.slice wp wide.length wcap, .slice hp high.length hc] 29)).heap.size = w.heap.size + 1 + 1 := by simp
  have hal : (plA wide).length ≤ 1000 := by have := plA_len hwo; omega
  have hw10 := hwo.1
  replace hwh := Lib.hid hwh
  replace h := Lib.hid h
  clear hf ho hff n7 n12
  go_enter Tryz.func17, Tryz.ntmps17
  go_upto_region 2 with fail
  obtain ⟨W0, hW0⟩ : ∃ W, W = (w.alloc (.cells #[.slice pp P.length pc] 26)).alloc (.cells #[.slice wp wide.length wcap, .slice hp high.length hc] 29) := ⟨_, rfl⟩
  change Code.wp _ _ _ _ (((w.alloc (.cells #[.slice pp P.length pc] 26)).alloc (.cells #[.slice wp wide.length wcap, .slice hp high.length hc] 29)).alloc (.cells #[.slice none 0 0] 34))
  rw [← hW0] at hE0 hP0 hS0 hsz ⊢
  clear hW0
  have hPa : PaM W0 (W0.alloc (.cells #[.slice none 0 0] 34)) (w.heap.size + 1 + 1) none 0 [] := ⟨(Ext.refl _).alloc _, Nat.le_of_eq hsz, Blk.new' hsz.symm, World.ownsRow_nil _ _ _ _⟩
  obtain ⟨W1, hW1⟩ : ∃ W, W = W0.alloc (.cells #[.slice none 0 0] 34) := ⟨_, rfl⟩
  rw [← hW1] at hPa ⊢
  obtain ⟨y3, -⟩ := (hS0.ext hPa.ext).walk
  have bl3 := (hS0.ext hPa.ext).lt
  clear hW1
  go_wp2
  go_loopw [16] (fun v16 wr => ∃ (r : Nat) (lp : Option Addr) (lc : Nat), v16 = .int .i64 r ∧ r ≤ wide.length ∧ PaM W0 wr (w.heap.size + 1 + 1) lp lc (plT wide r 0)) (fun v16 _ => wide.length - (intOf v16).toNat)
  case atStart => exact ⟨0, none, 0, rfl, Nat.zero_le _, by rw [plT_zero]; exact hPa⟩
  case round =>
    clear hPa y3 bl3
    obtain ⟨r, lp, lc, rfl, hr, hPa⟩ := hrel
    have hEw := hE0.trans hPa.ext
    by_cases hlt : r < wide.length
    · obtain ⟨x, hx⟩ := getD_some (rfl : wide.length = wide.length) hlt
      have hrI : (r : Int) < wide.length := by omega
      have hwi := h.out.wid
      rcases (slcC hwi).2 with ⟨-, e⟩ | ⟨b, off, rfl, hb, hEl⟩
      · rw [e] at hx; cases hx
      have c0 := (hEl.ext hEw hb).int hx
      have lb := Nat.lt_of_lt_of_le hb hEw.size
      obtain ⟨v1, v2⟩ := hwo.2 x (List.mem_of_getElem? hx)
      obtain ⟨n, hn⟩ : ∃ n : Nat, x = n := ⟨x.toNat, by omega⟩
      subst hn
      have hgd : (wide.getD r 0).toNat = n := by rw [List.getD_eq_getElem?_getD, hx]; rfl
      have hrow := plT_row wide r
      rw [hgd] at hrow
      replace hrow := Lib.hid hrow
      clear hEl hx hwi hEw
      go_wp2
      go_loopw [22] (fun v22 wq => ∃ (j : Nat) (lp : Option Addr) (lc : Nat), v22 = .int .i64 j ∧ j ≤ n ∧ PaM W0 wq (w.heap.size + 1 + 1) lp lc (plT wide r j)) (fun v22 _ => n - (intOf v22).toNat)
      case atStart => exact ⟨0, lp, lc, rfl, Nat.zero_le _, hPa⟩
      case round =>
        clear hPa c0 lb
        obtain ⟨j, lp, lc, rfl, hj, hPa⟩ := hrel
        by_cases hjn : j < n
        · have hjI : (j : Int) < n := by omega
          have hll := plT_le hwo hr (x := j) (by omega)
          have hsn := plT_snoc wide (r := r) (x := j) (by rw [hgd]; exact hjn)
          obtain ⟨y1, -⟩ := hPa.blk.walk
          have bl := hPa.blk.lt
          generalize plT wide r j = L at *
          have hMa := hPa.more ((Ext.refl wr).alloc (.cells #[.string ⟨#[]⟩, .int .i64 r, .int .i64 j] 46))
          replace hsn := Lib.hid hsn
          replace hMa := Lib.hid hMa
          go_wp2_with (at_builtin; go_loud (refine wp_appL _ (.tmp 25) (.tmp 29) 34 46 3 32 _ rfl rfl Tryz.underlying34 staInfo rfl (by decide) (by decide) (w.heap.size + 1 + 1 + 1) lp L.length lc _ rfl hMa.out.own wr.heap.size (staC ⟨⟨#[]⟩, r, j⟩) rfl rfl (Blk.new' rfl) (by simp [staC, Value.oneCell']) (by omega) (by simp; omega) ?_; intro b1 c1 w6 hown6 hgrow6 hloc6; have hM6 := hMa.out.app hown6 hgrow6; have hB6 : Blk w6 (w.heap.size + 1 + 1) 34 _ := (hgrow6.block (w.heap.size + 1 + 1) hMa.out.blk.lt fun e => by have := (own_block_ge hMa.out.own e.symm).1; omega).trans hMa.out.blk; obtain ⟨z1, z2⟩ := hB6.walk; have zl := hB6.lt))
          go_roundw
          case rel => exact ⟨j + 1, _, _, by go_num, by omega, by rw [hsn.out]; exact hM6⟩
          case measure => simp [intOf]; omega
        · obtain rfl : j = n := by omega
          rw [hrow.out] at hPa
          replace hPa := Lib.hid hPa
          go_wp2
          go_roundw
          case rel => exact ⟨r + 1, _, _, by go_num, by omega, hPa.out⟩
          case measure => simp [intOf]; omega
    · obtain rfl : r = wide.length := by omega
      rw [plT_all] at hPa
      have hon := fun x (hx : x ∈ plA wide) => plA_on hwo hx
      have hT0 : SvT P wide high [] := ⟨⟨hpo, hwo, hho, hwh.out, by simp, (fun x hx => by cases hx), (fun x hx => by cases hx)⟩, by simp, (fun i x hx => by simp at hx)⟩
      have hsame := least_same (P := P) (wide := wide) (high := high) ((plA_lt wide).imp ltV_notSame) hpl
      have hap := leF_inv (P := P) (wide := wide) (high := high) (all := plA wide) (n := P.length) (R := fun T => T.Pairwise Apart) (Q := fun T => T.Pairwise Apart ∧ T.length ≤ P.length) (fun T x hT _ _ hx => apart_nxt hT hx) (fun T hT hl => ⟨hT, by omega⟩) P.length [] ((P.length : Int) + 1, []) List.Pairwise.nil (by simp) ⟨List.Pairwise.nil, by simp⟩
      have hcall := fun (u : World) (z cP cS cF cB cA cT : Nat) => lrTry_any (z := z) (cP := cP) (cS := cS) (cF := cF) (cB := cB) (cA := cA) (cT := cT) (pp := pp) (pc := pc) (wp := wp) (wcap := wcap) (hp := hp) (hc := hc) (plp := lp) (plc := lc) h4 hal hon P.length [] u (-1) [] none 0 none 0 (by simp) hT0
      rw [hsame] at hcall
      generalize hall : plA wide = all at *
      generalize hste : leF P wide high all P.length [] ((P.length : Int) + 1, []) = st at *
      obtain ⟨fw, bst⟩ := st
      obtain ⟨hap, hbl⟩ := hap
      simp only at hap hbl hcall
      replace hall := Lib.hid hall
      replace hste := Lib.hid hste
      replace hcall := Lib.hid hcall
      replace hap := Lib.hid hap
      clear hon hT0 hsame hpl
      have hwr := hPa.blk.lt
      go_upto_region 15 with fail
      obtain ⟨W3, hW3⟩ : ∃ W, W = ((wr.alloc (.cells #[.slice none 0 0] 34)).alloc (.cells #[.int .i64 (-1)] 3)).alloc (.cells #[.func (.func 45) #[] #[.pointer (some ⟨w.heap.size, 0, none⟩), .pointer (some ⟨w.heap.size + 1, 0, none⟩), .pointer (some ⟨wr.heap.size + 1, 0, none⟩), .pointer (some ⟨wr.heap.size, 0, none⟩), .pointer (some ⟨w.heap.size + 1 + 1, 0, none⟩), .pointer (some ⟨wr.heap.size + 1 + 1, 0, none⟩)]] 85) := ⟨_, rfl⟩
      have hE3 : Ext wr W3 := hW3 ▸ (((Ext.refl _).alloc _).alloc _).alloc _
      obtain ⟨p9, c9, e9, hS9⟩ := slc_of_own staC_len hPa.own (by decide) (by omega)
      cases e9
      have hlow : ∀ {α : Type} {k : Nat} {enc : α → List Value} {p : Option Addr} {n c : Nat} {xs : List α}, Slc k enc w p n c xs → ∀ a, p = some a → a.block ≠ wr.heap.size + 1 ∧ a.block ≠ wr.heap.size := fun hs a ha => by
        obtain ⟨b, off, e, hb⟩ := hs.2.2.2 a ha
        subst e
        simp only
        omega
      have hLr : LrM (wr.heap.size + 1 + 1 + 1) w.heap.size (w.heap.size + 1) (wr.heap.size + 1) wr.heap.size (w.heap.size + 1 + 1) (wr.heap.size + 1 + 1) pp pc P wp wcap wide hp hc high lp lc all W3 (-1) [] none 0 :=
        ⟨(hP0.ext hPa.ext).ext hE3, (hS0.ext hPa.ext).ext hE3, hW3 ▸ (Blk.new' (by simp)).alloc _, hW3 ▸ ((Blk.new' rfl).alloc _).alloc _, hPa.blk.ext hE3, hW3 ▸ Blk.new' (by simp), h.out.more ((hE0.trans hPa.ext).trans hE3), hS9.ext hE3,
          ⟨hlow h.out.per, hlow h.out.wid, hlow h.out.hig, fun a ha => by subst ha; have := own_block_ge hPa.own (g := a.block) (by simp [Value.ownBlock]); omega⟩, Slc.nil _ _ _, (fun a ha => by cases ha), ⟨by omega, by omega, by omega, by omega, by omega, by omega⟩, ⟨by omega, by omega, by omega, by omega, by omega, by omega, by omega, by omega, by omega⟩⟩
      have hzs : wr.heap.size + 1 + 1 + 1 ≤ W3.heap.size := by rw [hW3]; simp
      change Code.wp _ _ _ _ (((wr.alloc (.cells #[.slice none 0 0] 34)).alloc (.cells #[.int .i64 (-1)] 3)).alloc (.cells #[.func (.func 45) #[] #[.pointer (some ⟨w.heap.size, 0, none⟩), .pointer (some ⟨w.heap.size + 1, 0, none⟩), .pointer (some ⟨wr.heap.size + 1, 0, none⟩), .pointer (some ⟨wr.heap.size, 0, none⟩), .pointer (some ⟨w.heap.size + 1 + 1, 0, none⟩), .pointer (some ⟨wr.heap.size + 1 + 1, 0, none⟩)]] 85))
      rw [← hW3]
      have hcl := hcall.out W3 _ _ _ _ _ _ _ hLr (Slc.nil _ _ _) (fun x hx => by cases hx) (fun a ha => by cases ha) hzs
      obtain ⟨t1, -⟩ := hLr.bT.walk
      have tl := hLr.bT.lt
      have hEw3 := (hE0.trans hPa.ext).trans hE3
      have hw0 := (hE0.trans hPa.ext).size
      replace hcl := Lib.hid hcl
      clear hcall hW3 hLr hS9 hlow hPa hE3 hP0 hS0
      go_upto_region 16 with (go_at_call 45; (with_reducible refine Calls.mono hcl.out ?_); rintro e w5 ⟨rfl, hEx, pb, cb, hL5⟩)
      have hEw5 := ExtP.back hEw3 (by omega) (by omega) hEx
      have hs5 : wr.heap.size + 1 < w5.heap.size := by have := hEx.2.2.2.1; omega
      obtain ⟨b1, -⟩ := hL5.bB.walk
      have bl := hL5.bB.lt
      have hcn := cloneSta_any pb bst.length cb bst w5 hL5.bR (by omega)
      replace hcn := Lib.hid hcn
      replace hL5 := Lib.hid hL5
      clear t1 tl hcl hEx hEw3
      go_upto_region 17 with (go_at_call 50; (with_reducible refine Calls.mono hcn.out ?_); rintro e w6 ⟨v6, rfl, ho6, hb6⟩; obtain ⟨p6, c6, rfl, -⟩ := slc_of_own staC_len ho6 (by decide) (by omega); have hB6 := hL5.out.bB.ext hb6; obtain ⟨b2, b3⟩ := hB6.walk; have bl2 := hB6.lt)
      obtain ⟨W7, hW7⟩ : ∃ W, W = w6.setCell ⟨wr.heap.size, 0, none⟩ (.slice p6 bst.length c6) := ⟨_, rfl⟩
      have hBq7 : Blk W7 wr.heap.size 34 #[.slice p6 bst.length c6] := by rw [hW7]; exact (hB6.set_ 0 _).cast (by simp)
      have hFq7 : Blk W7 (wr.heap.size + 1) 3 #[.int .i64 fw] := by rw [hW7]; exact (hL5.out.bF.ext hb6).far (by simp only; omega) _
      have ho7 : W7.ownsRow w5.heap.size 46 3 (.slice p6 bst.length c6) bst.length (bst.flatMap staC) := by rw [hW7]; exact ho6.kept (grown_set w6 ⟨wr.heap.size, 0, none⟩ _) (.inr fun e => by have := (own_block_ge ho6 (g := wr.heap.size) e).1; omega)
      have hE7 : Ext w W7 := by rw [hW7]; exact (hEw5.trans hb6).setCell (by simp only; omega) _
      change Code.wp _ _ _ _ (w6.setCell ⟨wr.heap.size, 0, none⟩ (.slice p6 bst.length c6))
      rw [← hW7]
      obtain ⟨z1, -⟩ := hBq7.walk
      have zl := hBq7.lt
      clear hW7 b1 bl b2 b3 bl2 hcn hB6 hL5 hEw5
      by_cases hb0 : bst.length = 0
      · have hbs : bst = [] := List.eq_nil_of_length_eq_zero hb0
        subst hbs
        simp only [List.length_nil] at z1 hBq7
        have hBq := hBq7
        have hFq := hFq7
        obtain ⟨p9, c9, e9, hS9⟩ := slc_of_own (xs := ([] : List StandV)) staC_len ho7 (by decide) (by decide)
        cases e9
        go_upto_region 18 with (go_at_call 41; refine (AnyF.slices_SortFunc_none Tryz.lsfStand _ _ _ _).mono ?_; rintro e w8 ⟨rfl, rfl⟩)
        refine wp_region_facts [] [([], false, false), ([], false, false), ([0], false, false), ([1], false, false)] (Ext) Ext (fun _ => True) (by kernel_rfl) (by kernel_rfl) Ext.refl (fun _ _ _ => Ext.trans) (fun _ _ h => h) (fun _ _ h => h.size) (fun _ _ h _ => h) trivial ?_
        dsimp only [List.length_cons, List.length_nil, List.drop_succ_cons, List.drop_zero, List.drop_nil]
        refine fac_quiet 0 rfl rfl rfl (fun _ _ h _ => h) rfl rfl ?_
        apply Exists.intro
        refine ⟨fun sv w' hw' hfa => ?_, ?_⟩
        · have hk9 := (Ext.refl w8).drew.trans hw'; obtain ⟨y1, -⟩ := (hBq.ext hk9).walk; obtain ⟨y2, -⟩ := (hFq.ext hk9).walk
          refine ⟨rfl, ?_⟩
          simp only [putsL]
          change quietTo _ _ _ _ (Sem.run _ (execOp (Act.eval _) _) _)
          try simp only [Act.put, List.setIfInBounds_toArray, List.set_cons_succ, List.set_cons_zero]
          simp [go_sem, quietTo, Ext.refl, ↓IntWalk.iteOmega, y1]
          all_goals try simp (disch := omega) only [IntWalk.i64_in]
          all_goals first
            | rfl
        refine fac_quiet 1 rfl rfl rfl (fun _ _ h _ => h) rfl rfl ?_
        apply Exists.intro
        refine ⟨fun sv w' hw' hfa => ?_, ?_⟩
        · have hk9 := (Ext.refl w8).drew.trans hw'; obtain ⟨y1, -⟩ := (hBq.ext hk9).walk; obtain ⟨y2, -⟩ := (hFq.ext hk9).walk
          refine ⟨rfl, ?_⟩
          simp only [putsL]
          change quietTo _ _ _ _ (Sem.run _ (execOp (Act.eval _) _) _)
          try simp only [Act.put, List.setIfInBounds_toArray, List.set_cons_succ, List.set_cons_zero]
          simp [go_sem, quietTo, Ext.refl, ↓IntWalk.iteOmega, y2]
          all_goals try simp (disch := omega) only [IntWalk.i64_in]
          all_goals first
            | rfl
        refine fac_quiet 2 rfl rfl rfl (fun _ _ h _ => h) rfl rfl ?_
        apply Exists.intro
        refine ⟨fun sv w' hw' hfa => ?_, ?_⟩
        · obtain ⟨f0, -⟩ := hfa
          replace f0 : sv 0 = _ := f0
          try dsimp only at f0
          refine ⟨rfl, ?_⟩
          simp only [putsL]
          change quietTo _ _ _ _ (Sem.run _ (execOp (Act.eval (Act.put _ (some 40) (sv 0))) _) _)
          try simp only [Act.put, List.setIfInBounds_toArray, List.set_cons_succ, List.set_cons_zero]
          simp [go_sem, quietTo, Ext.refl, f0]
          all_goals first
            | rfl
        refine fac_quiet 3 rfl rfl rfl (fun _ _ h _ => h) rfl rfl ?_
        apply Exists.intro
        refine ⟨fun sv w' hw' hfa => ?_, ?_⟩
        · obtain ⟨f1, -⟩ := hfa
          replace f1 : sv 1 = _ := f1
          try dsimp only at f1
          refine ⟨rfl, ?_⟩
          simp only [putsL]
          change quietTo _ _ _ _ (Sem.run _ (execOp (Act.eval (Act.put _ (some 41) (sv 1))) _) _)
          try simp only [Act.put, List.setIfInBounds_toArray, List.set_cons_succ, List.set_cons_zero]
          simp [go_sem, quietTo, Ext.refl, f1]
          all_goals first
            | rfl
        refine fac_nil fun xq wrq herq hfrq hcrq holdq hapq => ?_
        obtain ⟨f0, f1, f2, f3, -⟩ := hfrq
        replace f0 : xq 0 = _ := f0
        try dsimp only at f0
        replace f1 : xq 1 = _ := f1
        try dsimp only at f1
        replace f2 : xq 2 = _ := f2
        try dsimp only at f2
        replace f3 : xq 3 = _ := f3
        try dsimp only at f3
        change wpList _ _ _ _ (Act.put (Act.put (Act.put (Act.put _ (some 40) (xq 0)) (some 41) (xq 1)) (some 4) (xq 2)) (some 5) (xq 3)) _
        simp only [putsL, Nat.reduceAdd, List.drop_succ_cons, List.drop_zero, List.drop_nil, Act.put, List.setIfInBounds_toArray, List.set_cons_succ, List.set_cons_zero]
        try simp only [f0, f1, f2, f3]
        clear f0 f1 f2 f3
        clear holdq hapq
        go_wp2
        go_ret2
        exact ⟨p6, c6, [], by rw [hall.out, hste.out]; rfl, by rw [hall.out, hste.out], List.Pairwise.nil, hS9.ext ((Ext.refl _).drew.trans herq), hE7.trans ((Ext.refl _).drew.trans herq)⟩
      · obtain ⟨g, cc, e9, hgk, hgl⟩ := ho7.form (by omega)
        cases e9
        have hso := sortSta2_any ho7 rfl (by omega) hap.out 49 (fun a b u => byPlaceG_any a b u) (fun args u => by rfl)
        replace hso := Lib.hid hso
        replace hb0 := Lib.hid hb0
        go_upto_region 18 with (go_at_call 41; (with_reducible refine Calls.mono hso.out ?_); rintro e w8 ⟨rfl, M, hMp, hMs, hMo, hgr⟩)
        have hvg : wr.heap.size ≠ g := by omega
        have hvg2 : wr.heap.size + 1 ≠ g := by omega
        have hBq : Blk w8 wr.heap.size 34 _ := (hgr.block _ zl fun e => hvg (by simpa using e)).trans hBq7
        have hFq : Blk w8 (wr.heap.size + 1) 3 _ := (hgr.block _ hFq7.lt fun e => hvg2 (by simpa using e)).trans hFq7
        have hE8 : Ext w w8 := hE7.grown hgr fun q e => by cases e; omega
        have hml := hMp.length_eq
        obtain ⟨p9, c9, e9, hS9⟩ := slc_of_own staC_len hMo (by decide) (by omega)
        cases e9
        refine wp_region_facts [] [([], false, false), ([], false, false), ([0], false, false), ([1], false, false)] (Ext) Ext (fun _ => True) (by kernel_rfl) (by kernel_rfl) Ext.refl (fun _ _ _ => Ext.trans) (fun _ _ h => h) (fun _ _ h => h.size) (fun _ _ h _ => h) trivial ?_
        dsimp only [List.length_cons, List.length_nil, List.drop_succ_cons, List.drop_zero, List.drop_nil]
        refine fac_quiet 0 rfl rfl rfl (fun _ _ h _ => h) rfl rfl ?_
        apply Exists.intro
        refine ⟨fun sv w' hw' hfa => ?_, ?_⟩
        · have hk9 := (Ext.refl w8).drew.trans hw'; obtain ⟨y1, -⟩ := (hBq.ext hk9).walk; obtain ⟨y2, -⟩ := (hFq.ext hk9).walk
          refine ⟨rfl, ?_⟩
          simp only [putsL]
          change quietTo _ _ _ _ (Sem.run _ (execOp (Act.eval _) _) _)
          try simp only [Act.put, List.setIfInBounds_toArray, List.set_cons_succ, List.set_cons_zero]
          simp [go_sem, quietTo, Ext.refl, ↓IntWalk.iteOmega, y1]
          all_goals try simp (disch := omega) only [IntWalk.i64_in]
          all_goals first
            | rfl
        refine fac_quiet 1 rfl rfl rfl (fun _ _ h _ => h) rfl rfl ?_
        apply Exists.intro
        refine ⟨fun sv w' hw' hfa => ?_, ?_⟩
        · have hk9 := (Ext.refl w8).drew.trans hw'; obtain ⟨y1, -⟩ := (hBq.ext hk9).walk; obtain ⟨y2, -⟩ := (hFq.ext hk9).walk
          refine ⟨rfl, ?_⟩
          simp only [putsL]
          change quietTo _ _ _ _ (Sem.run _ (execOp (Act.eval _) _) _)
          try simp only [Act.put, List.setIfInBounds_toArray, List.set_cons_succ, List.set_cons_zero]
          simp [go_sem, quietTo, Ext.refl, ↓IntWalk.iteOmega, y2]
          all_goals try simp (disch := omega) only [IntWalk.i64_in]
          all_goals first
            | rfl
        refine fac_quiet 2 rfl rfl rfl (fun _ _ h _ => h) rfl rfl ?_
        apply Exists.intro
        refine ⟨fun sv w' hw' hfa => ?_, ?_⟩
        · obtain ⟨f0, -⟩ := hfa
          replace f0 : sv 0 = _ := f0
          try dsimp only at f0
          refine ⟨rfl, ?_⟩
          simp only [putsL]
          change quietTo _ _ _ _ (Sem.run _ (execOp (Act.eval (Act.put _ (some 40) (sv 0))) _) _)
          try simp only [Act.put, List.setIfInBounds_toArray, List.set_cons_succ, List.set_cons_zero]
          simp [go_sem, quietTo, Ext.refl, f0]
          all_goals first
            | rfl
        refine fac_quiet 3 rfl rfl rfl (fun _ _ h _ => h) rfl rfl ?_
        apply Exists.intro
        refine ⟨fun sv w' hw' hfa => ?_, ?_⟩
        · obtain ⟨f1, -⟩ := hfa
          replace f1 : sv 1 = _ := f1
          try dsimp only at f1
          refine ⟨rfl, ?_⟩
          simp only [putsL]
          change quietTo _ _ _ _ (Sem.run _ (execOp (Act.eval (Act.put _ (some 41) (sv 1))) _) _)
          try simp only [Act.put, List.setIfInBounds_toArray, List.set_cons_succ, List.set_cons_zero]
          simp [go_sem, quietTo, Ext.refl, f1]
          all_goals first
            | rfl
        refine fac_nil fun xq wrq herq hfrq hcrq holdq hapq => ?_
        obtain ⟨f0, f1, f2, f3, -⟩ := hfrq
        replace f0 : xq 0 = _ := f0
        try dsimp only at f0
        replace f1 : xq 1 = _ := f1
        try dsimp only at f1
        replace f2 : xq 2 = _ := f2
        try dsimp only at f2
        replace f3 : xq 3 = _ := f3
        try dsimp only at f3
        change wpList _ _ _ _ (Act.put (Act.put (Act.put (Act.put _ (some 40) (xq 0)) (some 41) (xq 1)) (some 4) (xq 2)) (some 5) (xq 3)) _
        simp only [putsL, Nat.reduceAdd, List.drop_succ_cons, List.drop_zero, List.drop_nil, Act.put, List.setIfInBounds_toArray, List.set_cons_succ, List.set_cons_zero]
        try simp only [f0, f1, f2, f3]
        clear f0 f1 f2 f3
        clear holdq hapq
        go_wp2
        go_ret2
        exact ⟨some ⟨g, 0, none⟩, c6, M, by rw [hall.out, hste.out, hml]; rfl, by rw [hall.out, hste.out]; exact hMp, hMs, by rw [hml]; exact hS9.ext ((Ext.refl _).drew.trans herq), hE8.trans ((Ext.refl _).drew.trans herq)⟩
end
end Go.Proofs.YtfbegdcmnfkhgaaGreatDoor
