/- A singer is given a part, by way of others perhaps: the search in memory. Conditions: the choir and the giver lie in memory. -/
import Derived.Test.YtdehmioobkneiaaGreatDoorVsGiB
import Derived.Test.YtdehmioobkneiaaGreatDoorVsJ11
import Derived.Test.YtdehmioobkneiaaGreatDoorVsJ29
set_option linter.unusedSimpArgs false
set_option linter.unusedVariables false
namespace Go.Proofs.YtdehmioobkneiaaGreatDoor
open Go Go.RowKit

def intC (x : Int) : List Value := [.int .i64 x]
theorem intC_len (x : Int) : (intC x).length = 1 := rfl
theorem intInfo : (Tryz.prog.info? 3).map (fun i => (i.zero, i.size, i.bytes)) = some (some (.int .i64 0), 1, 8) := by kernel_rfl
theorem intsInfo : (Tryz.prog.info? 22).map (fun i => (i.zero, i.size, i.bytes)) = some (some (.slice none 0 0), 1, 24) := by kernel_rfl
def canC (C : List (List Int)) (s p : Nat) : Bool := decide (0 ≤ (C.getD s []).getD p (-1))
def lstP (P : List PartV) (p : Nat) : Nat := (P.getD p default).least.toNat
theorem lstP_at {P : List PartV} {p : Nat} {x : PartV} (h : P[p]? = some x) : lstP P p = x.least.toNat := by unfold lstP; rw [List.getD_eq_getElem?_getD, h]; rfl
theorem canC_at {C : List (List Int)} {s p : Nat} {r : List Int} {c : Int} (h : C[s]? = some r) (hc : r[p]? = some c) : canC C s p = decide (0 ≤ c) := by
  simp [canC, List.getD_eq_getElem?_getD, h, hc]
/-- A choir in memory. -/
structure ChoirM (w : World) (cb : Nat) (P : List PartV) (pp : Option Addr) (pc : Nat) (C : List (List Int)) (sp : Option Addr) (sc : Nat) (cp : Option Addr) (cc : Nat) : Prop where
  blk : Blk w cb 84 #[.slice pp P.length pc, .slice sp C.length sc, .slice cp C.length cc]
  par : Slc 5 partC w pp P.length pc P
  com : RowsR intC w cp C.length cc C
  nP : P.length ≤ 12
  nC : C.length ≤ 200
  row : ∀ r ∈ C, r.length = P.length
  need : ∀ x ∈ P, 0 ≤ x.least ∧ x.least ≤ 1000
theorem ChoirM.ext {w w' : World} {cb : Nat} {P : List PartV} {pp : Option Addr} {pc : Nat} {C : List (List Int)} {sp : Option Addr} {sc : Nat} {cp : Option Addr} {cc : Nat} (h : ChoirM w cb P pp pc C sp sc cp cc) (he : Ext w w') : ChoirM w' cb P pp pc C sp sc cp cc :=
  ⟨h.blk.ext he, h.par.ext he, h.com.ext he, h.nP, h.nC, h.row, h.need⟩
/-- A giver in memory. -/
structure GivM (w0 w : World) (cb gb og : Nat) (G : List (List Nat)) (vs : List Value) : Prop where
  low : w0.heap.size ≤ gb
  blk : Blk w gb 164 #[.pointer (some ⟨cb, 0, none⟩), .slice (some ⟨og, 0, none⟩) G.length G.length]
  out : OutI w0 w og G vs
theorem GivM.more {w0 w w' : World} {cb gb og : Nat} {G : List (List Nat)} {vs : List Value} (h : GivM w0 w cb gb og G vs) (he : Ext w w') : GivM w0 w' cb gb og G vs := ⟨h.low, h.blk.ext he, h.out.more he⟩
theorem GivM.aside {w0 w : World} {cb gb og : Nat} {G : List (List Nat)} {vs : List Value} (h : GivM w0 w cb gb og G vs) {g t : Nat} {cs : Array Value} (hB : Blk w g t cs) (ht : t ≠ 3) (ht2 : t ≠ 22) (ht3 : t ≠ 164) (hg : w0.heap.size ≤ g) (i : Nat) (u : Value) : GivM w0 (w.setCell ⟨g, i, none⟩ u) cb gb og G vs := by
  have hne : gb ≠ g := fun e => by
    subst e
    have h1 := h.blk
    unfold Blk at h1 hB
    rw [h1] at hB
    simp at hB
    exact ht3 hB.2.symm
  exact ⟨h.low, h.blk.far (p := ⟨g, i, none⟩) hne _, h.out.aside hB ht ht2 hg i u⟩
theorem blk_ne {w : World} {a b t u : Nat} {cs ds : Array Value} (h : Blk w a t cs) (k : Blk w b u ds) (hne : t ≠ u) : a ≠ b := fun e => by
  subst e
  unfold Blk at h k
  rw [h] at k
  simp at k
  exact hne k.2
theorem GivM.put {w0 w : World} {cb gb og : Nat} {G : List (List Nat)} {vs : List Value} (h : GivM w0 w cb gb og G vs) {p : Nat} {r : List Nat} {g c : Nat} (hr : G[p]? = some r) (hv : vs[p]? = some (.slice (some ⟨g, 0, none⟩) r.length c)) {k x : Nat} (hk : r[k]? = some x) (y : Nat) :
    GivM w0 (w.setCell ⟨g, k, none⟩ (.int .i64 (y : Int))) cb gb og (G.set p (r.set k y)) vs := by
  have ho := h.out.own p _ r hv hr
  refine ⟨h.low, ?_, h.out.put hr hv hk y⟩
  rw [List.length_set]
  exact h.blk.far (p := ⟨g, k, none⟩) (fun e => own_no ho h.blk (by decide) (by rw [e]; rfl)) _
theorem GivM.app {w0 w : World} {cb gb og : Nat} {G : List (List Nat)} {vs : List Value} (h : GivM w0 w cb gb og G vs) {p : Nat} {r : List Nat} {q : Option Addr} {c : Nat} (hr : G[p]? = some r) (hv : vs[p]? = some (.slice q r.length c)) {w' : World} {b' c' : Nat} {s : Nat}
    (h1 : w'.ownsRow (og + 1) 3 1 (.slice (some ⟨b', 0, none⟩) (r.length + 1) c') (r.length + 1) (r.flatMap natC ++ natC s)) (hg : w.grownBy w' (Value.slice q r.length c).ownBlock) (hb : w.heap.size ≤ b' ∨ q = some ⟨b', 0, none⟩) :
    GivM w0 (w'.setCell ⟨og, p, none⟩ (.slice (some ⟨b', 0, none⟩) (r.length + 1) c')) cb gb og (G.set p (r ++ [s])) (vs.set p (.slice (some ⟨b', 0, none⟩) (r.length + 1) c')) := by
  have ho := h.out.own p _ r hv hr
  have hB : Blk w' gb 164 _ := (hg.block gb h.blk.lt fun e => own_no ho h.blk (by decide) e.symm).trans h.blk
  have hB2 : Blk w' og 22 _ := (hg.block og h.out.blk.lt fun e => own_no ho h.out.blk (by decide) e.symm).trans h.out.blk
  refine ⟨h.low, ?_, h.out.app hr hv h1 hg hb⟩
  rw [List.length_set]
  exact hB.far (p := ⟨og, p, none⟩) (blk_ne hB hB2 (by decide)) _
def boolsV (S : List Bool) : Array Value := (S.map Value.bool).toArray
theorem bools_at {S : List Bool} {p : Nat} {b : Bool} (h : S[p]? = some b) : (boolsV S)[p]? = some (.bool b) := by unfold boolsV; simp [h]
theorem bools_set (S : List Bool) (p : Nat) : (boolsV S).setIfInBounds p (.bool true) = boolsV (S.set p true) := by unfold boolsV; simp [List.map_set]
theorem seen_not {S : List Bool} {p : Nat} (h : S[p]? = some false) : ¬ SeenL S p := fun e => by unfold SeenL at e; rw [h] at e; cases e
theorem seen_back {S S1 : List Bool} {p : Nat} (hl : S1.length = S.length) (hu : ∀ q, SeenL S q → SeenL S1 q) (h : S1[p]? = some false) : S[p]? = some false := by
  have hp := (List.getElem?_eq_some_iff.1 h).1
  cases e : S[p]? with
  | none => rw [List.getElem?_eq_none_iff] at e; omega
  | some b =>
    cases b
    · rfl
    · exact absurd (hu p e) (seen_not h)

/-- What give answers. -/
def GiveRes (w0 : World) (can : Nat → Nat → Bool) (lst : Nat → Nat) (n cb gb og sb i : Nat) (G : List (List Nat)) (S : List Bool) (vs : List Value) (e : Ending) (w' : World) : Prop :=
  ∃ (b : Bool) (G' : List (List Nat)) (S' : List Bool) (vs' : List Value), e = .returned (.bool b) ∧ GiveOK can lst n i G S b G' S' ∧ (b = false → vs' = vs) ∧ GivM w0 w' cb gb og G' vs' ∧ Blk w' sb 4 (boolsV S')

set_option maxRecDepth 100000 in
set_option maxHeartbeats 6400000 in
theorem give_any {w0 : World} {cb : Nat} {P : List PartV} {pp : Option Addr} {pc : Nat} {C : List (List Int)} {sp : Option Addr} {sc : Nat} {cp : Option Addr} {cc : Nat} (hC : ChoirM w0 cb P pp pc C sp sc cp cc) (gb og sb : Nat) (hsb : w0.heap.size ≤ sb) :
    ∀ (f i : Nat) (G : List (List Nat)) (S : List Bool) (vs : List Value) (w : World), unseen S < f → i < C.length → RowsOK (canC C) (lstP P) P.length G → (∀ s ∈ G.flatten, s < C.length) → S.length = P.length → GivM w0 w cb gb og G vs → Blk w sb 4 (boolsV S) →
      Calls Tryz.prog 103 #[.pointer (some ⟨gb, 0, none⟩), .int .i64 i, .slice (some ⟨sb, 0, none⟩) P.length P.length] w (GiveRes w0 (canC C) (lstP P) P.length cb gb og sb i G S vs) := by
  intro f
  induction f with
  | zero => intro i G S vs w h; exact absurd h (Nat.not_lt_zero _)
  | succ f ih =>
    intro i G S vs w hf hi hG hGs hSl hM hB
    have hCw := hC.ext hM.out.ext
    obtain ⟨z1, -⟩ := hM.blk.walk
    obtain ⟨y1, -⟩ := hCw.blk.walk
    have hnP := hC.nP
    have hPs : (P.length : Int) ≤ 12 := by omega
    obtain ⟨row, hrow⟩ := getD_some (rfl : C.length = C.length) hi
    have hrl := hC.row row (List.mem_of_getElem? hrow)
    replace ih := Lib.hid ih
    replace hM := Lib.hid hM
    replace hG := Lib.hid hG
    replace hGs := Lib.hid hGs
    replace hB := Lib.hid hB
    replace hC := Lib.hid hC
    replace hf := Lib.hid hf
    replace hSl := Lib.hid hSl
    replace hrow := Lib.hid hrow
    replace hrl := Lib.hid hrl
    clear hCw
    go_enter Tryz.func103, Tryz.ntmps103
    go_wp2
    go_loopw [19] (fun v19 wr => ∃ (p : Nat) (S1 : List Bool), v19 = .int .i64 p ∧ p ≤ P.length ∧ GiveAt (canC C) (lstP P) P.length i p G S S1 ∧ GivM w0 wr cb gb og G vs ∧ Blk wr sb 4 (boolsV S1)) (fun v19 _ => P.length - (intOf v19).toNat)
    case atStart => exact ⟨0, S, rfl, Nat.zero_le _, GiveAt.start, hM.out, hB.out⟩
    case round =>
      clear hM hB z1 y1
      obtain ⟨p, S1, rfl, hp, hA, hM, hB⟩ := hrel
      by_cases hlt : p < P.length
      · obtain ⟨x, hx⟩ := getD_some (rfl : P.length = P.length) hlt
        have hCw := hC.out.ext hM.out.ext
        obtain ⟨-, hPr⟩ := slcC hCw.par
        rcases hPr with ⟨_, rfl⟩ | ⟨b, off, rfl, hb, hE⟩
        · cases hx
        obtain ⟨c0, c1, c2, c3, c4⟩ := hE.part hx
        obtain ⟨v, hv⟩ := getD_some (show S1.length = P.length by rw [hA.len, hSl.out]) hlt
        have hpI : (p : Int) < P.length := by omega
        obtain ⟨c, hc⟩ := getD_some hrl.out hlt
        have hcan := canC_at hrow.out hc
        have hlst := lstP_at hx
        obtain ⟨rb, roff, rq, rd, rfl, hrb, hcr, hrS⟩ := hCw.com.at_ hrow.out
        obtain ⟨-, hq⟩ := slcC hrS
        rcases hq with ⟨_, rfl⟩ | ⟨qb, qoff, rfl, hqb, hqE⟩
        · cases hc
        have hcc : wr.cell? ⟨qb, qoff + p, none⟩ = some (.int .i64 c) := by have := hqE p c hc 0 _ rfl; simpa using this
        have hxb := hC.out.need x (List.mem_of_getElem? hx)
        obtain ⟨r, hr⟩ := hG.out.row hlt
        have hvl : vs.length = P.length := by rw [hM.out.len]; exact hG.out.1
        obtain ⟨rp, rc, hvp, -, hown⟩ := hM.out.at_ hr
        have hGl := hG.out.1
        have hrl2 := (hG.out.2 p r hr).1
        have hE1 : Ext wr (wr.alloc (.cells #[.string x.name, .int .i64 x.lo, .int .i64 x.hi, .int .i64 x.least, .int .i64 x.most] 46)) := (Ext.refl _).alloc _
        have hX : Blk (wr.alloc (.cells #[.string x.name, .int .i64 x.lo, .int .i64 x.hi, .int .i64 x.least, .int .i64 x.most] 46)) wr.heap.size 46 #[.string x.name, .int .i64 x.lo, .int .i64 x.hi, .int .i64 x.least, .int .i64 x.most] := Blk.new' rfl
        have hM1 := hM.more hE1
        have hB1 := hB.ext hE1
        have hC1 := hCw.ext hE1
        replace hrl2 := Lib.hid hrl2
        replace hvl := Lib.hid hvl
        replace hx := Lib.hid hx
        replace hr := Lib.hid hr
        replace hc := Lib.hid hc
        replace hv := Lib.hid hv
        replace hlst := Lib.hid hlst
        replace hGl := Lib.hid hGl
        replace hM1 := Lib.hid hM1
        replace hB1 := Lib.hid hB1
        replace hX := Lib.hid hX
        replace hC1 := Lib.hid hC1
        replace hcan := Lib.hid hcan
        replace hA := Lib.hid hA
        have e1 := (hE1.walk.1 _ _ hrb).trans hcr
        have e2 := (hE1.walk.1 _ _ hqb).trans hcc
        have hrb1 := Nat.lt_of_lt_of_le hrb hE1.size
        have hqb1 := Nat.lt_of_lt_of_le hqb hE1.size
        clear hM hB hCw hcr hrS hcc hE hqE hown
        have hz1 := hE1.size
        have hb1 := Nat.lt_of_lt_of_le hb hz1
        go_upto_region 4 with fail
        clear hE1 hrb hqb hb c0 c1 c2 c3 c4
        have hxl := hX.out.lt
        generalize wr.heap.size = gx at *
        generalize wr.alloc (.cells #[.string x.name, .int .i64 x.lo, .int .i64 x.hi, .int .i64 x.least, .int .i64 x.most] 46) = W1 at *
        clear wr
        have e3 : W1.cell? ⟨sb, p, none⟩ = some (.bool v) := by rw [hB1.out.cell]; exact bools_at hv.out
        have e4 : ∀ o, W1.frozen? ⟨sb, o, none⟩ = false := fun o => hB1.out.frozen o
        obtain ⟨z1, -⟩ := hM1.out.blk.walk
        obtain ⟨y1, -⟩ := hC1.out.blk.walk
        have lsb := hB1.out.lt
        have hiI : (i : Int) < C.length := by omega
        have hrlI : (p : Int) < row.length := by rw [hrl.out]; omega
        cases v
        · by_cases hc0 : c < 0
          · have hcf : canC C i p = false := by rw [hcan.out]; simp; omega
            replace hcf := Lib.hid hcf
            go_wp2
            go_roundw
            case rel => exact ⟨p + 1, S1, by go_num, by omega, hA.out.skip (.inr hcf.out), hM1.out, hB1.out⟩
            case measure => simp [intOf]; omega
          · have hct : canC C i p = true := by rw [hcan.out]; simp; omega
            have hSv : S[p]? = some false := seen_back hA.out.len hA.out.up hv.out
            have hpS : p < S.length := by rw [hSl.out]; exact hlt
            have hM2 := hM1.out.aside hB1.out (by decide) (by decide) (by decide) hsb p (.bool true)
            have hB2 := (hB1.out.set_ p (.bool true)).cast (bools_set S1 p)
            have hX2 : Blk (W1.setCell ⟨sb, p, none⟩ (.bool true)) gx 46 _ := hX.out.far (p := ⟨sb, p, none⟩) (blk_ne hX.out hB1.out (by decide)) (.bool true)
            replace hct := Lib.hid hct
            replace hSv := Lib.hid hSv
            replace hpS := Lib.hid hpS
            clear hM1 hX hC1
            go_upto_region 6 with fail
            clear z1 y1 e1 e2 e3 e4 hB1
            generalize W1.setCell ⟨sb, p, none⟩ (.bool true) = W2 at *
            have hpG : (p : Int) < (G.length : Int) := by rw [hGl.out]; omega
            have hxl2 : x.least = (lstP P p : Int) := by rw [hlst.out]; omega
            replace hxl2 := Lib.hid hxl2
            by_cases hroom : (r.length : Int) < x.least
            · skip
              refine wp_region_facts [] [([], false, false), ([0], false, false), ([0, 1], false, false), ([0, 1, 2], false, false), ([], false, false), ([0, 1, 2, 3, 4], false, false), ([0, 1, 2, 3, 4, 5], false, false), ([0, 1, 2, 3, 4, 5, 6], false, false), ([], false, false), ([8], false, false), ([0, 1, 2, 3, 4, 5, 6, 7, 8, 9], false, false)] (Ext) Ext (fun _ => True) (by kernel_rfl) (by kernel_rfl) Ext.refl (fun _ _ _ => Ext.trans) (fun _ _ h => h) (fun _ _ h => h.size) (fun _ _ h _ => h) trivial ?_
              dsimp only [List.length_cons, List.length_nil, List.drop_succ_cons, List.drop_zero, List.drop_nil]
              refine fac_quiet 0 rfl rfl rfl (fun _ _ h _ => h) rfl rfl ?_
              apply Exists.intro
              refine ⟨fun sv w' hw' hfa => ?_, ?_⟩
              · refine ⟨rfl, ?_⟩
                simp only [putsL]
                change quietTo _ _ _ _ (Sem.run _ (execOp (Act.eval _) _) _)
                try simp only [Act.put, List.setIfInBounds_toArray, List.set_cons_succ, List.set_cons_zero]
                simp [go_sem, quietTo, Ext.refl]
                all_goals first
                  | rfl
              refine fac_quiet 1 rfl rfl rfl (fun _ _ h _ => h) rfl rfl ?_
              apply Exists.intro
              refine ⟨fun sv w' hw' hfa => ?_, ?_⟩
              · obtain ⟨f0, -⟩ := hfa
                replace f0 : sv 0 = _ := f0
                try dsimp only at f0
                refine ⟨rfl, ?_⟩
                simp only [putsL]
                change quietTo _ _ _ _ (Sem.run _ (execOp (Act.eval (Act.put _ (some 47) (sv 0))) _) _)
                try simp only [Act.put, List.setIfInBounds_toArray, List.set_cons_succ, List.set_cons_zero]
                simp [go_sem, quietTo, Ext.refl, f0]
                all_goals first
                  | rfl
              refine fac_quiet 2 rfl rfl rfl (fun _ _ h _ => h) rfl rfl ?_
              apply Exists.intro
              refine ⟨fun sv w' hw' hfa => ?_, ?_⟩
              · obtain ⟨_, f1, -⟩ := hfa
                replace f1 : sv 1 = _ := f1
                try dsimp only at f1
                refine ⟨rfl, ?_⟩
                simp only [putsL]
                change quietTo _ _ _ _ (Sem.run _ (execOp (Act.eval (Act.put (Act.put _ (some 48) (sv 1)) (some 47) (sv 0))) _) _)
                try simp only [Act.put, List.setIfInBounds_toArray, List.set_cons_succ, List.set_cons_zero]
                simp [go_sem, quietTo, Ext.refl, f1]
                all_goals first
                  | rfl
              refine fac_quiet 3 rfl rfl rfl (fun _ _ h _ => h) rfl rfl ?_
              apply Exists.intro
              refine ⟨fun sv w' hw' hfa => ?_, ?_⟩
              · obtain ⟨_, _, f2, -⟩ := hfa
                replace f2 : sv 2 = _ := f2
                try dsimp only at f2
                have hk9 := (Ext.refl W2).drew.trans hw'; obtain ⟨y1, -⟩ := (hM2.blk.ext hk9).walk; obtain ⟨y2, -⟩ := (hM2.out.blk.ext hk9).walk; obtain ⟨y3, -⟩ := (hX2.ext hk9).walk
                refine ⟨rfl, ?_⟩
                simp only [putsL]
                change quietTo _ _ _ _ (Sem.run _ (execOp (Act.eval (Act.put (Act.put (Act.put _ (some 49) (sv 2)) (some 48) (sv 1)) (some 47) (sv 0))) _) _)
                try simp only [Act.put, List.setIfInBounds_toArray, List.set_cons_succ, List.set_cons_zero]
                simp [go_sem, quietTo, Ext.refl, ↓IntWalk.iteOmega, f2, y1]
                all_goals try simp (disch := omega) only [IntWalk.i64_in]
                all_goals first
                  | rfl
              refine fac_quiet 4 rfl rfl rfl (fun _ _ h _ => h) rfl rfl ?_
              apply Exists.intro
              refine ⟨fun sv w' hw' hfa => ?_, ?_⟩
              · refine ⟨rfl, ?_⟩
                simp only [putsL]
                change quietTo _ _ _ _ (Sem.run _ (execOp (Act.eval _) _) _)
                try simp only [Act.put, List.setIfInBounds_toArray, List.set_cons_succ, List.set_cons_zero]
                simp [go_sem, quietTo, Ext.refl]
                all_goals first
                  | rfl
              refine fac_quiet 5 rfl rfl rfl (fun _ _ h _ => h) rfl rfl ?_
              apply Exists.intro
              refine ⟨fun sv w' hw' hfa => ?_, ?_⟩
              · obtain ⟨_, _, _, f3, f4, -⟩ := hfa
                replace f3 : sv 3 = _ := f3
                try dsimp only at f3
                replace f4 : sv 4 = _ := f4
                try dsimp only at f4
                have hk9 := (Ext.refl W2).drew.trans hw'; obtain ⟨y1, -⟩ := (hM2.blk.ext hk9).walk; obtain ⟨y2, -⟩ := (hM2.out.blk.ext hk9).walk; obtain ⟨y3, -⟩ := (hX2.ext hk9).walk
                refine ⟨rfl, ?_⟩
                simp only [putsL]
                change quietTo _ _ _ _ (Sem.run _ (execOp (Act.eval (Act.put (Act.put (Act.put (Act.put (Act.put _ (some 51) (sv 4)) (some 50) (sv 3)) (some 49) (sv 2)) (some 48) (sv 1)) (some 47) (sv 0))) _) _)
                try simp only [Act.put, List.setIfInBounds_toArray, List.set_cons_succ, List.set_cons_zero]
                simp [go_sem, quietTo, Ext.refl, ↓IntWalk.iteOmega, f3, f4, hpG]
                all_goals try simp (disch := omega) only [IntWalk.i64_in]
                all_goals first
                  | rfl
              refine fac_quiet 6 rfl rfl rfl (fun _ _ h _ => h) rfl rfl ?_
              apply Exists.intro
              refine ⟨fun sv w' hw' hfa => ?_, ?_⟩
              · obtain ⟨_, _, _, _, _, f5, -⟩ := hfa
                replace f5 : sv 5 = _ := f5
                try dsimp only at f5
                have hk9 := (Ext.refl W2).drew.trans hw'; obtain ⟨y1, -⟩ := (hM2.blk.ext hk9).walk; obtain ⟨y2, -⟩ := (hM2.out.blk.ext hk9).walk; obtain ⟨y3, -⟩ := (hX2.ext hk9).walk
                refine ⟨rfl, ?_⟩
                simp only [putsL]
                change quietTo _ _ _ _ (Sem.run _ (execOp (Act.eval (Act.put (Act.put (Act.put (Act.put (Act.put (Act.put _ (some 52) (sv 5)) (some 51) (sv 4)) (some 50) (sv 3)) (some 49) (sv 2)) (some 48) (sv 1)) (some 47) (sv 0))) _) _)
                try simp only [Act.put, List.setIfInBounds_toArray, List.set_cons_succ, List.set_cons_zero]
                simp [go_sem, quietTo, Ext.refl, ↓IntWalk.iteOmega, f5, y2, hvp]
                all_goals try simp (disch := omega) only [IntWalk.i64_in]
                all_goals first
                  | rfl
              refine fac_quiet 7 rfl rfl rfl (fun _ _ h _ => h) rfl rfl ?_
              apply Exists.intro
              refine ⟨fun sv w' hw' hfa => ?_, ?_⟩
              · obtain ⟨_, _, _, _, _, _, f6, -⟩ := hfa
                replace f6 : sv 6 = _ := f6
                try dsimp only at f6
                refine ⟨rfl, ?_⟩
                simp only [putsL]
                change quietTo _ _ _ _ (Sem.run _ (execOp (Act.eval (Act.put (Act.put (Act.put (Act.put (Act.put (Act.put (Act.put _ (some 53) (sv 6)) (some 52) (sv 5)) (some 51) (sv 4)) (some 50) (sv 3)) (some 49) (sv 2)) (some 48) (sv 1)) (some 47) (sv 0))) _) _)
                try simp only [Act.put, List.setIfInBounds_toArray, List.set_cons_succ, List.set_cons_zero]
                simp [go_sem, quietTo, Ext.refl, ↓IntWalk.iteOmega, f6]
                all_goals try simp (disch := omega) only [IntWalk.i64_in]
                all_goals first
                  | rfl
              refine fac_quiet 8 rfl rfl rfl (fun _ _ h _ => h) rfl rfl ?_
              apply Exists.intro
              refine ⟨fun sv w' hw' hfa => ?_, ?_⟩
              · refine ⟨rfl, ?_⟩
                simp only [putsL]
                change quietTo _ _ _ _ (Sem.run _ (execOp (Act.eval _) _) _)
                try simp only [Act.put, List.setIfInBounds_toArray, List.set_cons_succ, List.set_cons_zero]
                simp [go_sem, quietTo, Ext.refl]
                all_goals first
                  | rfl
              refine fac_quiet 9 rfl rfl rfl (fun _ _ h _ => h) rfl rfl ?_
              apply Exists.intro
              refine ⟨fun sv w' hw' hfa => ?_, ?_⟩
              · obtain ⟨f8, -⟩ := hfa
                replace f8 : sv 8 = _ := f8
                try dsimp only at f8
                have hk9 := (Ext.refl W2).drew.trans hw'; obtain ⟨y1, -⟩ := (hM2.blk.ext hk9).walk; obtain ⟨y2, -⟩ := (hM2.out.blk.ext hk9).walk; obtain ⟨y3, -⟩ := (hX2.ext hk9).walk
                refine ⟨rfl, ?_⟩
                simp only [putsL]
                change quietTo _ _ _ _ (Sem.run _ (execOp (Act.eval (Act.put _ (some 55) (sv 8))) _) _)
                try simp only [Act.put, List.setIfInBounds_toArray, List.set_cons_succ, List.set_cons_zero]
                simp [go_sem, quietTo, Ext.refl, ↓IntWalk.iteOmega, f8, y3]
                all_goals try simp (disch := omega) only [IntWalk.i64_in]
                all_goals first
                  | rfl
              refine fac_quiet 10 rfl rfl rfl (fun _ _ h _ => h) rfl rfl ?_
              apply Exists.intro
              refine ⟨fun sv w' hw' hfa => ?_, ?_⟩
              · obtain ⟨_, _, _, _, _, _, _, f7, _, f9, -⟩ := hfa
                replace f7 : sv 7 = _ := f7
                try dsimp only at f7
                replace f9 : sv 9 = _ := f9
                try dsimp only at f9
                have hk9 := (Ext.refl W2).drew.trans hw'; obtain ⟨y1, -⟩ := (hM2.blk.ext hk9).walk; obtain ⟨y2, -⟩ := (hM2.out.blk.ext hk9).walk; obtain ⟨y3, -⟩ := (hX2.ext hk9).walk
                refine ⟨rfl, ?_⟩
                simp only [putsL]
                change quietTo _ _ _ _ (Sem.run _ (execOp (Act.eval (Act.put (Act.put (Act.put (Act.put (Act.put (Act.put (Act.put (Act.put (Act.put (Act.put _ (some 56) (sv 9)) (some 55) (sv 8)) (some 54) (sv 7)) (some 53) (sv 6)) (some 52) (sv 5)) (some 51) (sv 4)) (some 50) (sv 3)) (some 49) (sv 2)) (some 48) (sv 1)) (some 47) (sv 0))) _) _)
                try simp only [Act.put, List.setIfInBounds_toArray, List.set_cons_succ, List.set_cons_zero]
                simp [go_sem, quietTo, Ext.refl, ↓IntWalk.iteOmega, f7, f9, hroom]
                all_goals try simp (disch := omega) only [IntWalk.i64_in]
                all_goals first
                  | rfl
              refine fac_nil fun xa wra hera hfra hcra holda hapa => ?_
              obtain ⟨f0, f1, f2, f3, f4, f5, f6, f7, f8, f9, f10, -⟩ := hfra
              replace f0 : xa 0 = _ := f0
              try dsimp only at f0
              replace f1 : xa 1 = _ := f1
              try dsimp only at f1
              replace f2 : xa 2 = _ := f2
              try dsimp only at f2
              replace f3 : xa 3 = _ := f3
              try dsimp only at f3
              replace f4 : xa 4 = _ := f4
              try dsimp only at f4
              replace f5 : xa 5 = _ := f5
              try dsimp only at f5
              replace f6 : xa 6 = _ := f6
              try dsimp only at f6
              replace f7 : xa 7 = _ := f7
              try dsimp only at f7
              replace f8 : xa 8 = _ := f8
              try dsimp only at f8
              replace f9 : xa 9 = _ := f9
              try dsimp only at f9
              replace f10 : xa 10 = _ := f10
              try dsimp only at f10
              change wpList _ _ _ _ (Act.put (Act.put (Act.put (Act.put (Act.put (Act.put (Act.put (Act.put (Act.put (Act.put (Act.put _ (some 47) (xa 0)) (some 48) (xa 1)) (some 49) (xa 2)) (some 50) (xa 3)) (some 51) (xa 4)) (some 52) (xa 5)) (some 53) (xa 6)) (some 54) (xa 7)) (some 55) (xa 8)) (some 56) (xa 9)) (some 57) (xa 10)) _
              simp only [putsL, Nat.reduceAdd, List.drop_succ_cons, List.drop_zero, List.drop_nil, Act.put, List.setIfInBounds_toArray, List.set_cons_succ, List.set_cons_zero]
              try simp only [f0, f1, f2, f3, f4, f5, f6, f7, f8, f9, f10]
              clear f0 f1 f2 f3 f4 f5 f6 f7 f8 f9 f10
              clear holda hapa
              have hE3 := (Ext.refl W2).drew.trans hera
              have hM3 := hM2.more hE3
              have hB3 := hB2.ext hE3
              clear hM2 hB2 hX2
              have hq1 := hM3.blk
              have hq2 := hM3.out.blk
              have hOK := hA.out.free hG.out hpS.out (seen_not hv.out) hct.out hr.out (by have := hxl2.out; omega)
              have hrb9 := hrl2.out
              have hxb9 := hxl2.out
              replace hOK := Lib.hid hOK
              go_upto_region 7 with fail
              refine wp_region_planS [(0, true), (1, true), (2, true), (3, true), (4, true), (5, true), (6, true), (7, true), (8, true), (9, true), (10, true), (11, true), (12, true), (13, false), (14, false)] 15 (fun w' => Blk w' gb 164 #[.pointer (some ⟨cb, 0, none⟩), .slice (some ⟨og, 0, none⟩) G.length G.length] ∧ Blk w' og 22 vs.toArray) Ext (by kernel_rfl) (by kernel_rfl) Ext.refl (fun _ _ _ => Ext.trans) (fun _ _ h he => ⟨h.1.ext he, h.2.ext he⟩) ⟨(by (repeat (with_reducible first | assumption | exact Blk.new' (by simp) | refine Blk.drew ?_ | refine Blk.alloc ?_ _ | exact Ext.refl _ | refine Ext.drew ?_ | refine Ext.alloc ?_ _))), (by (repeat (with_reducible first | assumption | exact Blk.new' (by simp) | refine Blk.drew ?_ | refine Blk.alloc ?_ _ | exact Ext.refl _ | refine Ext.drew ?_ | refine Ext.alloc ?_ _)))⟩ ?_
              repeat
                first
                  | (refine plan_quiet rfl rfl (fun _ _ _ _ h => h) ?_
                     apply Exists.intro
                     refine ⟨fun w' hw' => ?_, ?_⟩
                     · obtain ⟨hHb0, hHb1⟩ := hw'
                       unfold Blk at hHb0 hHb1
                       simp [go_sem, quietTo, World.cell?, hHb0, hHb1, Ext.refl, ↓IntWalk.iteOmega, hvp, hpG]
                       first
                         | rfl
                     simp only [Act.put, List.setIfInBounds_toArray, List.set_cons_succ, List.set_cons_zero])
                  | (refine plan_skip rfl rfl (fun _ _ _ _ h => h) ?_
                     simp only [Act.put, List.setIfInBounds_toArray, List.set_cons_succ, List.set_cons_zero])
              refine plan_loud (i := 13) rfl rfl fun w4 e4 h4 K4 hK4 => ?_
              go_wp2_with fail
              refine ⟨⟨h4.1.alloc _, h4.2.alloc _⟩, ?_⟩
              refine plan_loud (i := 14) rfl rfl fun w5 e5 h5 K5 hK5 => ?_
              have hE5 : Ext wra w5 := (((Ext.refl wra).drew.trans e4).alloc _).trans e5
              have hM5 := hM3.more hE5
              have hB5 := hB3.ext hE5
              have lit5 : Blk w5 w4.heap.size 3 #[.int .i64 i] := (Blk.new' rfl).ext e5
              have own5 := hM5.out.own p _ r hvp hr.out
              have hol5 := hM5.out.blk.lt
              refine wp_appO w5 (.tmp 69) (.tmp 71) 22 3 1 8 (.int .i64 0) rfl Tryz.underlying22 intInfo rfl (by decide) (by decide) (og + 1) rp r.length rc _ rfl own5 w4.heap.size (natC i) rfl rfl lit5 (by simp [natC, Value.oneCell']) (by omega) (by omega) fun b9 c9 w6 hown6 hgrow6 hloc6 => ?_
              have hBg6 : Blk w6 gb 164 _ := (hgrow6.block gb hM5.blk.lt fun e => own_no own5 hM5.blk (by decide) e.symm).trans hM5.blk
              have hBo6 : Blk w6 og 22 _ := (hgrow6.block og hM5.out.blk.lt fun e => own_no own5 hM5.out.blk (by decide) e.symm).trans hM5.out.blk
              have hBs6 : Blk w6 sb 4 _ := (hgrow6.block sb hB5.lt fun e => own_no own5 hB5 (by decide) e.symm).trans hB5
              refine hK5 _ _ ⟨⟨hBg6, hBo6⟩, ?_⟩
              refine plan_nil fun w7 e7 h7 => ?_
              have hMf := hM5.app hr.out hvp (own_ext e7 hown6) (hgrow6.trans (grown_of_none (World.grownBy_of_ext e7) _)) hloc6
              have hBs7 := hBs6.ext e7
              have hBf := hBs7.far (p := ⟨og, p, none⟩) (blk_ne hBs7 h7.2 (by decide)) (.slice (some ⟨b9, 0, none⟩) (r.length + 1) c9)
              obtain ⟨z2, z3⟩ := h7.2.walk
              replace hMf := Lib.hid hMf
              replace hBf := Lib.hid hBf
              go_wp2
              go_ret
              exact ⟨true, _, _, _, rfl, hOK.out, (fun h => by cases h), hMf.out, hBf.out⟩
            · skip
              refine wp_region_facts [] [([], false, false), ([0], false, false), ([0, 1], false, false), ([0, 1, 2], false, false), ([], false, false), ([0, 1, 2, 3, 4], false, false), ([0, 1, 2, 3, 4, 5], false, false), ([0, 1, 2, 3, 4, 5, 6], false, false), ([], false, false), ([8], false, false), ([0, 1, 2, 3, 4, 5, 6, 7, 8, 9], false, false)] (Ext) Ext (fun _ => True) (by kernel_rfl) (by kernel_rfl) Ext.refl (fun _ _ _ => Ext.trans) (fun _ _ h => h) (fun _ _ h => h.size) (fun _ _ h _ => h) trivial ?_
              dsimp only [List.length_cons, List.length_nil, List.drop_succ_cons, List.drop_zero, List.drop_nil]
              refine fac_quiet 0 rfl rfl rfl (fun _ _ h _ => h) rfl rfl ?_
              apply Exists.intro
              refine ⟨fun sv w' hw' hfa => ?_, ?_⟩
              · refine ⟨rfl, ?_⟩
                simp only [putsL]
                change quietTo _ _ _ _ (Sem.run _ (execOp (Act.eval _) _) _)
                try simp only [Act.put, List.setIfInBounds_toArray, List.set_cons_succ, List.set_cons_zero]
                simp [go_sem, quietTo, Ext.refl]
                all_goals first
                  | rfl
              refine fac_quiet 1 rfl rfl rfl (fun _ _ h _ => h) rfl rfl ?_
              apply Exists.intro
              refine ⟨fun sv w' hw' hfa => ?_, ?_⟩
              · obtain ⟨f0, -⟩ := hfa
                replace f0 : sv 0 = _ := f0
                try dsimp only at f0
                refine ⟨rfl, ?_⟩
                simp only [putsL]
                change quietTo _ _ _ _ (Sem.run _ (execOp (Act.eval (Act.put _ (some 47) (sv 0))) _) _)
                try simp only [Act.put, List.setIfInBounds_toArray, List.set_cons_succ, List.set_cons_zero]
                simp [go_sem, quietTo, Ext.refl, f0]
                all_goals first
                  | rfl
              refine fac_quiet 2 rfl rfl rfl (fun _ _ h _ => h) rfl rfl ?_
              apply Exists.intro
              refine ⟨fun sv w' hw' hfa => ?_, ?_⟩
              · obtain ⟨_, f1, -⟩ := hfa
                replace f1 : sv 1 = _ := f1
                try dsimp only at f1
                refine ⟨rfl, ?_⟩
                simp only [putsL]
                change quietTo _ _ _ _ (Sem.run _ (execOp (Act.eval (Act.put (Act.put _ (some 48) (sv 1)) (some 47) (sv 0))) _) _)
                try simp only [Act.put, List.setIfInBounds_toArray, List.set_cons_succ, List.set_cons_zero]
                simp [go_sem, quietTo, Ext.refl, f1]
                all_goals first
                  | rfl
              refine fac_quiet 3 rfl rfl rfl (fun _ _ h _ => h) rfl rfl ?_
              apply Exists.intro
              refine ⟨fun sv w' hw' hfa => ?_, ?_⟩
              · obtain ⟨_, _, f2, -⟩ := hfa
                replace f2 : sv 2 = _ := f2
                try dsimp only at f2
                have hk9 := (Ext.refl W2).drew.trans hw'; obtain ⟨y1, -⟩ := (hM2.blk.ext hk9).walk; obtain ⟨y2, -⟩ := (hM2.out.blk.ext hk9).walk; obtain ⟨y3, -⟩ := (hX2.ext hk9).walk
                refine ⟨rfl, ?_⟩
                simp only [putsL]
                change quietTo _ _ _ _ (Sem.run _ (execOp (Act.eval (Act.put (Act.put (Act.put _ (some 49) (sv 2)) (some 48) (sv 1)) (some 47) (sv 0))) _) _)
                try simp only [Act.put, List.setIfInBounds_toArray, List.set_cons_succ, List.set_cons_zero]
                simp [go_sem, quietTo, Ext.refl, ↓IntWalk.iteOmega, f2, y1]
                all_goals try simp (disch := omega) only [IntWalk.i64_in]
                all_goals first
                  | rfl
              refine fac_quiet 4 rfl rfl rfl (fun _ _ h _ => h) rfl rfl ?_
              apply Exists.intro
              refine ⟨fun sv w' hw' hfa => ?_, ?_⟩
              · refine ⟨rfl, ?_⟩
                simp only [putsL]
                change quietTo _ _ _ _ (Sem.run _ (execOp (Act.eval _) _) _)
                try simp only [Act.put, List.setIfInBounds_toArray, List.set_cons_succ, List.set_cons_zero]
                simp [go_sem, quietTo, Ext.refl]
                all_goals first
                  | rfl
              refine fac_quiet 5 rfl rfl rfl (fun _ _ h _ => h) rfl rfl ?_
              apply Exists.intro
              refine ⟨fun sv w' hw' hfa => ?_, ?_⟩
              · obtain ⟨_, _, _, f3, f4, -⟩ := hfa
                replace f3 : sv 3 = _ := f3
                try dsimp only at f3
                replace f4 : sv 4 = _ := f4
                try dsimp only at f4
                have hk9 := (Ext.refl W2).drew.trans hw'; obtain ⟨y1, -⟩ := (hM2.blk.ext hk9).walk; obtain ⟨y2, -⟩ := (hM2.out.blk.ext hk9).walk; obtain ⟨y3, -⟩ := (hX2.ext hk9).walk
                refine ⟨rfl, ?_⟩
                simp only [putsL]
                change quietTo _ _ _ _ (Sem.run _ (execOp (Act.eval (Act.put (Act.put (Act.put (Act.put (Act.put _ (some 51) (sv 4)) (some 50) (sv 3)) (some 49) (sv 2)) (some 48) (sv 1)) (some 47) (sv 0))) _) _)
                try simp only [Act.put, List.setIfInBounds_toArray, List.set_cons_succ, List.set_cons_zero]
                simp [go_sem, quietTo, Ext.refl, ↓IntWalk.iteOmega, f3, f4, hpG]
                all_goals try simp (disch := omega) only [IntWalk.i64_in]
                all_goals first
                  | rfl
              refine fac_quiet 6 rfl rfl rfl (fun _ _ h _ => h) rfl rfl ?_
              apply Exists.intro
              refine ⟨fun sv w' hw' hfa => ?_, ?_⟩
              · obtain ⟨_, _, _, _, _, f5, -⟩ := hfa
                replace f5 : sv 5 = _ := f5
                try dsimp only at f5
                have hk9 := (Ext.refl W2).drew.trans hw'; obtain ⟨y1, -⟩ := (hM2.blk.ext hk9).walk; obtain ⟨y2, -⟩ := (hM2.out.blk.ext hk9).walk; obtain ⟨y3, -⟩ := (hX2.ext hk9).walk
                refine ⟨rfl, ?_⟩
                simp only [putsL]
                change quietTo _ _ _ _ (Sem.run _ (execOp (Act.eval (Act.put (Act.put (Act.put (Act.put (Act.put (Act.put _ (some 52) (sv 5)) (some 51) (sv 4)) (some 50) (sv 3)) (some 49) (sv 2)) (some 48) (sv 1)) (some 47) (sv 0))) _) _)
                try simp only [Act.put, List.setIfInBounds_toArray, List.set_cons_succ, List.set_cons_zero]
                simp [go_sem, quietTo, Ext.refl, ↓IntWalk.iteOmega, f5, y2, hvp]
                all_goals try simp (disch := omega) only [IntWalk.i64_in]
                all_goals first
                  | rfl
              refine fac_quiet 7 rfl rfl rfl (fun _ _ h _ => h) rfl rfl ?_
              apply Exists.intro
              refine ⟨fun sv w' hw' hfa => ?_, ?_⟩
              · obtain ⟨_, _, _, _, _, _, f6, -⟩ := hfa
                replace f6 : sv 6 = _ := f6
                try dsimp only at f6
                refine ⟨rfl, ?_⟩
                simp only [putsL]
                change quietTo _ _ _ _ (Sem.run _ (execOp (Act.eval (Act.put (Act.put (Act.put (Act.put (Act.put (Act.put (Act.put _ (some 53) (sv 6)) (some 52) (sv 5)) (some 51) (sv 4)) (some 50) (sv 3)) (some 49) (sv 2)) (some 48) (sv 1)) (some 47) (sv 0))) _) _)
                try simp only [Act.put, List.setIfInBounds_toArray, List.set_cons_succ, List.set_cons_zero]
                simp [go_sem, quietTo, Ext.refl, ↓IntWalk.iteOmega, f6]
                all_goals try simp (disch := omega) only [IntWalk.i64_in]
                all_goals first
                  | rfl
              refine fac_quiet 8 rfl rfl rfl (fun _ _ h _ => h) rfl rfl ?_
              apply Exists.intro
              refine ⟨fun sv w' hw' hfa => ?_, ?_⟩
              · refine ⟨rfl, ?_⟩
                simp only [putsL]
                change quietTo _ _ _ _ (Sem.run _ (execOp (Act.eval _) _) _)
                try simp only [Act.put, List.setIfInBounds_toArray, List.set_cons_succ, List.set_cons_zero]
                simp [go_sem, quietTo, Ext.refl]
                all_goals first
                  | rfl
              refine fac_quiet 9 rfl rfl rfl (fun _ _ h _ => h) rfl rfl ?_
              apply Exists.intro
              refine ⟨fun sv w' hw' hfa => ?_, ?_⟩
              · obtain ⟨f8, -⟩ := hfa
                replace f8 : sv 8 = _ := f8
                try dsimp only at f8
                have hk9 := (Ext.refl W2).drew.trans hw'; obtain ⟨y1, -⟩ := (hM2.blk.ext hk9).walk; obtain ⟨y2, -⟩ := (hM2.out.blk.ext hk9).walk; obtain ⟨y3, -⟩ := (hX2.ext hk9).walk
                refine ⟨rfl, ?_⟩
                simp only [putsL]
                change quietTo _ _ _ _ (Sem.run _ (execOp (Act.eval (Act.put _ (some 55) (sv 8))) _) _)
                try simp only [Act.put, List.setIfInBounds_toArray, List.set_cons_succ, List.set_cons_zero]
                simp [go_sem, quietTo, Ext.refl, ↓IntWalk.iteOmega, f8, y3]
                all_goals try simp (disch := omega) only [IntWalk.i64_in]
                all_goals first
                  | rfl
              refine fac_quiet 10 rfl rfl rfl (fun _ _ h _ => h) rfl rfl ?_
              apply Exists.intro
              refine ⟨fun sv w' hw' hfa => ?_, ?_⟩
              · obtain ⟨_, _, _, _, _, _, _, f7, _, f9, -⟩ := hfa
                replace f7 : sv 7 = _ := f7
                try dsimp only at f7
                replace f9 : sv 9 = _ := f9
                try dsimp only at f9
                have hk9 := (Ext.refl W2).drew.trans hw'; obtain ⟨y1, -⟩ := (hM2.blk.ext hk9).walk; obtain ⟨y2, -⟩ := (hM2.out.blk.ext hk9).walk; obtain ⟨y3, -⟩ := (hX2.ext hk9).walk
                refine ⟨rfl, ?_⟩
                simp only [putsL]
                change quietTo _ _ _ _ (Sem.run _ (execOp (Act.eval (Act.put (Act.put (Act.put (Act.put (Act.put (Act.put (Act.put (Act.put (Act.put (Act.put _ (some 56) (sv 9)) (some 55) (sv 8)) (some 54) (sv 7)) (some 53) (sv 6)) (some 52) (sv 5)) (some 51) (sv 4)) (some 50) (sv 3)) (some 49) (sv 2)) (some 48) (sv 1)) (some 47) (sv 0))) _) _)
                try simp only [Act.put, List.setIfInBounds_toArray, List.set_cons_succ, List.set_cons_zero]
                simp [go_sem, quietTo, Ext.refl, ↓IntWalk.iteOmega, f7, f9, hroom]
                all_goals try simp (disch := omega) only [IntWalk.i64_in]
                all_goals first
                  | rfl
              refine fac_nil fun xa wra hera hfra hcra holda hapa => ?_
              obtain ⟨f0, f1, f2, f3, f4, f5, f6, f7, f8, f9, f10, -⟩ := hfra
              replace f0 : xa 0 = _ := f0
              try dsimp only at f0
              replace f1 : xa 1 = _ := f1
              try dsimp only at f1
              replace f2 : xa 2 = _ := f2
              try dsimp only at f2
              replace f3 : xa 3 = _ := f3
              try dsimp only at f3
              replace f4 : xa 4 = _ := f4
              try dsimp only at f4
              replace f5 : xa 5 = _ := f5
              try dsimp only at f5
              replace f6 : xa 6 = _ := f6
              try dsimp only at f6
              replace f7 : xa 7 = _ := f7
              try dsimp only at f7
              replace f8 : xa 8 = _ := f8
              try dsimp only at f8
              replace f9 : xa 9 = _ := f9
              try dsimp only at f9
              replace f10 : xa 10 = _ := f10
              try dsimp only at f10
              change wpList _ _ _ _ (Act.put (Act.put (Act.put (Act.put (Act.put (Act.put (Act.put (Act.put (Act.put (Act.put (Act.put _ (some 47) (xa 0)) (some 48) (xa 1)) (some 49) (xa 2)) (some 50) (xa 3)) (some 51) (xa 4)) (some 52) (xa 5)) (some 53) (xa 6)) (some 54) (xa 7)) (some 55) (xa 8)) (some 56) (xa 9)) (some 57) (xa 10)) _
              simp only [putsL, Nat.reduceAdd, List.drop_succ_cons, List.drop_zero, List.drop_nil, Act.put, List.setIfInBounds_toArray, List.set_cons_succ, List.set_cons_zero]
              try simp only [f0, f1, f2, f3, f4, f5, f6, f7, f8, f9, f10]
              clear f0 f1 f2 f3 f4 f5 f6 f7 f8 f9 f10
              clear holda hapa
              have hE3 := (Ext.refl W2).drew.trans hera
              have hM3 := hM2.more hE3
              have hB3 := hB2.ext hE3
              clear hM2 hB2 hX2 hE3
              obtain ⟨z1, -⟩ := hM3.blk.walk
              obtain ⟨z2, -⟩ := hM3.out.blk.walk
              have hf2 : ∀ r', G[p]? = some r' → lstP P p ≤ r'.length := fun r' hr' => by
                rw [hr.out] at hr'
                cases hr'
                have := hxl2.out
                omega
              have hI := hA.out.enter hpS.out hf2
              have hol := hM3.out.blk.lt
              have hr1000 : r.length ≤ 1000 := by have := hrl2.out; have := hxl2.out; omega
              replace hI := Lib.hid hI
              replace hM3 := Lib.hid hM3
              replace hB3 := Lib.hid hB3
              clear hA hf2
              go_wp2
              go_loopw [82] (fun v82 wr => ∃ (k : Nat) (S2 : List Bool), v82 = .int .i64 k ∧ k ≤ r.length ∧ GiveIn (canC C) (lstP P) P.length i p k G S S2 ∧ GivM w0 wr cb gb og G vs ∧ Blk wr sb 4 (boolsV S2)) (fun v82 _ => r.length - (intOf v82).toNat)
              case atStart => exact ⟨0, _, rfl, Nat.zero_le _, hI.out, hM3.out, hB3.out⟩
              case round =>
                clear hM3 hB3 hI z1 z2
                obtain ⟨k, S2, rfl, hk, hI, hM3, hB3⟩ := hrel
                by_cases hkr : k < r.length
                · obtain ⟨o, ho⟩ := getD_some (rfl : r.length = r.length) hkr
                  have own3 := hM3.out.own p _ r hvp hr.out
                  obtain ⟨b2, c2, e2, hb2, hb2w⟩ := own3.form (by omega)
                  cases e2
                  have hco := hM3.out.cell hr.out hvp ho
                  have hoG : o ∈ G.flatten := List.mem_flatten.2 ⟨r, List.mem_of_getElem? hr.out, List.mem_of_getElem? ho⟩
                  have hoC := hGs.out o hoG
                  have hless := hI.less hSv.out
                  have hf9 := hf.out
                  have hih := ih.out o G S2 vs wr (by omega) hoC hG.out hGs.out (by rw [hI.len]; exact hSl.out) hM3 hB3
                  have hkI : (k : Int) < r.length := by omega
                  replace hih := Lib.hid hih
                  replace hI := Lib.hid hI
                  replace ho := Lib.hid ho
                  clear hM3 hB3 own3 hoG hf9 hless
                  go_upto_if 90 with (go_at_call 103; (with_reducible refine Calls.mono hih.out ?_); rintro e w8 ⟨bb, G', S', vs', rfl, hOK, hvs, hM8, hB8⟩)
                  cases bb
                  · obtain rfl := hvs rfl
                    have hnx := hI.out.next hr.out ho.out hOK
                    obtain ⟨rfl, -⟩ := hOK.fails rfl
                    replace hnx := Lib.hid hnx
                    replace hM8 := Lib.hid hM8
                    replace hB8 := Lib.hid hB8
                    clear hOK hI hih
                    go_wp2
                    go_roundw
                    case rel => exact ⟨k + 1, S', by go_num, by omega, hnx.out, hM8.out, hB8.out⟩
                    case measure => simp [intOf]; omega
                  · obtain ⟨hr8, hOK2⟩ := hI.out.moved hG.out (seen_not hSv.out) hct.out hr.out ho.out hOK
                    have hG8 : G'.length = P.length := (hOK.gives rfl).1.1
                    have hpG8 : (p : Int) < (G'.length : Int) := by omega
                    obtain ⟨rp8, rc8, hvp8, hc8, hown8⟩ := hM8.out.at_ hr8
                    obtain ⟨b8, c8, e8, hb8, hb8w⟩ := hown8.form (by omega)
                    cases e8
                    have hco8 := hM8.out.cell hr8 hvp8 ho.out
                    have z3 : ∀ o, w8.frozen? ⟨b8, o, none⟩ = false := fun o => hown8.frozenAt o
                    obtain ⟨z1, -⟩ := hM8.blk.walk
                    have hMf := hM8.put hr8 hvp8 ho.out i
                    have hBf := hB8.far (p := ⟨b8, k, none⟩) (fun e => own_no hown8 hB8 (by decide) (by rw [e]; rfl)) (.int .i64 (i : Int))
                    replace hMf := Lib.hid hMf
                    replace hBf := Lib.hid hBf
                    replace hOK2 := Lib.hid hOK2
                    replace hG8 := Lib.hid hG8
                    clear hOK hI hih hM8 hB8 hown8 hvs hvp8 hr8
                    go_wp2
                    go_ret
                    exact ⟨true, _, S', vs', rfl, hOK2.out, (fun h => by cases h), hMf.out, hBf.out⟩
                · have hne := hI.leave hr.out (by omega)
                  replace hne := Lib.hid hne
                  replace hM3 := Lib.hid hM3
                  replace hB3 := Lib.hid hB3
                  clear hI
                  go_wp2
                  go_roundw
                  case rel => exact ⟨p + 1, S2, by go_num, by omega, hne.out, hM3.out, hB3.out⟩
                  case measure => simp [intOf]; omega
        · go_wp2
          go_roundw
          case rel => exact ⟨p + 1, S1, by go_num, by omega, hA.out.skip (.inl hv.out), hM1.out, hB1.out⟩
          case measure => simp [intOf]; omega
      · have hpe : p = P.length := by omega
        have hAf := hA.fail (show P.length ≤ p by omega)
        replace hAf := Lib.hid hAf
        replace hM := Lib.hid hM
        replace hB := Lib.hid hB
        clear hA
        go_wp2
        go_ret
        exact ⟨false, G, S1, vs, rfl, hAf.out, fun _ => rfl, hM.out, hB.out⟩
end Go.Proofs.YtdehmioobkneiaaGreatDoor
