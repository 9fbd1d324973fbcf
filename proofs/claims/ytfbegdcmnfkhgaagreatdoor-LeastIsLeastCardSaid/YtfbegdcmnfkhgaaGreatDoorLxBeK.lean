/- The best stands: the program's walk. Conditions: people and a stage lie in memory; four people at most where nothing is wrong. -/
import Derived.Test.YtfbegdcmnfkhgaaGreatDoorLxBeH
import Derived.Test.YtfbegdcmnfkhgaaGreatDoorLxJ40
import Derived.Test.YtfbegdcmnfkhgaaGreatDoorLxJ37
import Derived.OwnWalk
set_option linter.unusedSimpArgs false
set_option linter.unusedVariables false
namespace Go.Proofs.YtfbegdcmnfkhgaaGreatDoor
open Go Go.RowKit Go.Sort

def leastF (P : List PersonV) (wide high : List Int) : Int := if ostF P wide high = 0 then bigF P wide else ostF P wide high
theorem madeB (n : Nat) : madeCells #[.bool false] n = bolR (List.replicate n false) := by
  apply Array.ext
  · simp [size_madeCells, bolR]
  · intro i h1 h2
    simp [madeCells, bolR, Nat.mod_one]
theorem cellBool : (Tryz.prog.info? 4).map (fun i => (i.zero, i.size, i.bytes)) = some (some (.bool false), 1, 1) := by kernel_rfl
theorem make_bool (n : Nat) (hn : n ≤ 1000) (u : World) : (Instr.makeSlice 75 (.int .i64 (n : Int)) (.int .i64 (n : Int))).run Tryz.prog u = .ok (.slice (some ⟨u.heap.size, 0, none⟩) n n) (u.alloc (.cells (bolR (List.replicate n false)) 4)) := by
  obtain ⟨i0, hi, hz0, hz1, hz2⟩ := info_parts cellBool
  have := run_make (P := Tryz.prog) u 75 4 i0 (.bool false) Tryz.underlying75 hi hz0 .i64 .i64 (n : Int) (n : Int) (by omega) (by omega) (by rw [hz2]; omega) (by omega)
  rw [this, hz1, Int.toNat_natCast, Nat.mul_one, show (Value.bool false).cells = #[.bool false] from rfl, madeB]

/-- The solver while its places are laid. -/
structure PlM (w0 w : World) (v : Nat) (pv wv hv fv : Value) (lp : Option Addr) (lc : Nat) (L : List StandV) : Prop where
  ext : Ext w0 w
  low : w0.heap.size ≤ v
  blk : Blk w v 77 #[pv, wv, hv, .slice lp L.length lc, .slice none 0 0, .slice none 0 0, .slice none 0 0, fv]
  own : w.ownsRow (v + 1) 46 3 (.slice lp L.length lc) L.length (L.flatMap staC)
theorem PlM.more {w0 w w' : World} {v : Nat} {pv wv hv fv : Value} {lp : Option Addr} {lc : Nat} {L : List StandV} (h : PlM w0 w v pv wv hv fv lp lc L) (he : Ext w w') : PlM w0 w' v pv wv hv fv lp lc L :=
  ⟨h.ext.trans he, h.low, h.blk.ext he, own_ext he h.own⟩
theorem PlM.app {w0 w : World} {v : Nat} {pv wv hv fv : Value} {lp : Option Addr} {lc : Nat} {L : List StandV} (h : PlM w0 w v pv wv hv fv lp lc L) {x : StandV} {b1 c1 : Nat} {w6 : World}
    (ho : w6.ownsRow (v + 1) 46 3 (.slice (some ⟨b1, 0, none⟩) (L.length + 1) c1) (L.length + 1) (L.flatMap staC ++ staC x)) (hg : w.grownBy w6 (Value.slice lp L.length lc).ownBlock) :
    PlM w0 (w6.setCell ⟨v, 3, none⟩ (.slice (some ⟨b1, 0, none⟩) (L.length + 1) c1)) v pv wv hv fv (some ⟨b1, 0, none⟩) c1 (L ++ [x]) := by
  have hlow := h.low
  have hne : (Value.slice lp L.length lc).ownBlock ≠ some v := fun e => by have := (own_block_ge h.own e).1; omega
  have hV : Blk w6 v 77 _ := (hg.block v h.blk.lt fun e => hne e.symm).trans h.blk
  have hl : (L ++ [x]).length = L.length + 1 := by simp
  refine ⟨(h.ext.grown hg fun g hgg => by have := (own_block_ge h.own hgg).1; omega).setCell (show w0.heap.size ≤ v from hlow) _, h.low, ?_, ?_⟩
  · rw [hl]
    exact (hV.set_ 3 _).cast (by simp)
  · rw [hl, flat_snoc]
    exact ho.kept (grown_set w6 ⟨v, 3, none⟩ _) (.inr fun e => by have := (own_block_ge ho (g := v) e).1; omega)
theorem plT_le {wide : List Int} (h : WideOk wide) {r x : Nat} (hr : r ≤ wide.length) (hx : x ≤ 30) : (plT wide r x).length ≤ 330 := by
  obtain ⟨-, h2, h3⟩ := sumT_bound h r hr
  have h10 := h.1
  have : (plT wide r x).length ≤ (plT wide r 0).length + x := by
    unfold plT
    rw [List.length_append, List.length_append, List.length_take, List.length_take]
    omega
  omega
theorem grown_sortK {α : Type} [Inhabited α] {k : Nat} {enc : α → List Value} (w : World) (g m : Nat) (os : Array Obj) (ys : Array α) : w.grownBy (sortWorldK enc k w g 0 m ys os) (some g) := by
  have hs : (w.heap.modify g (onCells (putCells id 0 (flatK enc k ys)))).size = w.heap.size := by simp
  refine ⟨rfl, rfl, rfl, ?_, fun i hi hn => ?_⟩
  · show w.heap.size ≤ (w.heap.modify g (onCells (putCells id 0 (flatK enc k ys))) ++ os).size
    rw [Array.size_append, hs]
    omega
  · show (w.heap.modify g (onCells (putCells id 0 (flatK enc k ys))) ++ os)[i]? = _
    rw [Array.getElem?_append_left (by rw [hs]; exact hi), Array.getElem?_modify, if_neg (fun e => hn (by rw [e]))]

theorem sortSta2_any {w : World} {base g n cap : Nat} {L : List StandV} (h : w.ownsRow base 46 3 (.slice (some ⟨g, 0, none⟩) n cap) n (L.flatMap staC)) (hn : L.length = n) (hn1 : n ≤ 1000) (hd : L.Pairwise Apart) (f : Nat) (hf : ∀ a b u, Calls Tryz.prog f #[.agg #[.string a.name, .int .i64 a.row, .int .i64 a.place], .agg #[.string b.name, .int .i64 b.row, .int .i64 b.place]] u fun e w' => e = .returned (.int .i64 (cmpV a b)) ∧ ∃ q os', w' = grow (u.drewN q) os')
    (eg : ∀ args w, (callFunc f args).run Tryz.prog w = .ok (.enter f args) w) :
    Calls Tryz.prog 41 #[.slice (some ⟨g, 0, none⟩) n cap, .func (.func f) #[] #[]] w fun e w' => e = .returned (.tuple #[]) ∧ ∃ M : List StandV, M.Perm L ∧ M.Pairwise (fun a b => ltV a b = true) ∧ w'.ownsRow base 46 3 (.slice (some ⟨g, 0, none⟩) n cap) n (M.flatMap staC) ∧ w.grownBy w' (some g) := by
  have hgl := (h.lt g rfl).2
  subst hn
  have hs := AnyQ.slices_SortFunc Tryz.lsfStand 3 Tryz.isAgg46 Tryz.sizeOf46 staC staC_len sta_one cmpV cmp_swo f #[] g 0 cap L.toArray w eg (fun m os dk _ x y => hf x y _) (holdsK_own staC_len h) hgl (by simp; omega)
  refine hs.mono fun e w' ⟨he, d', q, os, hp, hso, hw⟩ => ?_
  have e1 : d'.extract 0 L.toArray.size = d' := by rw [← hp.1]; simp
  have hperm : d'.toList.Perm L := by
    have h9 := hp.2.2
    rw [e1] at h9
    simpa using h9
  have hsz : d'.size = L.length := by have := hp.1; simpa using this
  refine ⟨he, d'.toList, hperm, sorted_apart ((hperm.symm.pairwise_iff (fun {x y} h k => h ⟨k.1.symm, k.2.symm⟩)).1 hd) (fun i j hij hj hi => ?_), ?_, ?_⟩
  · have h9 := hso i j (Nat.zero_le _) hij (by simp at hj ⊢; omega)
    unfold ltOf at h9
    rw [← ltV_cmp] at h9
    simp at hi hj
    rw [getElem!_pos d' j hj, getElem!_pos d' i hi] at h9
    simpa using h9
  · rw [hw]
    exact own_sortK staC_len h (by have := hp.1; simpa using this)
  · rw [hw]
    exact grown_sortK w g q os d'
theorem flagsL_nil (all : List StandV) : flagsL all [] = List.replicate all.length false := by
  induction all with
  | nil => rfl
  | cons x l ih => rw [List.length_cons, List.replicate_succ, ← ih]; rfl
/-- Those who stand, one by one, stand apart. -/
theorem apart_nxt {P : List PersonV} {T : List StandV} (h : T.Pairwise Apart) {x : StandV} (hx : inT T x = false) : (nxt P T x).Pairwise Apart := by
  unfold nxt
  rw [List.pairwise_append]
  refine ⟨h, List.pairwise_singleton _ _, fun y hy z hz => ?_⟩
  rw [List.mem_singleton.1 hz]
  unfold inT at hx
  rw [List.any_eq_false] at hx
  have := hx y hy
  unfold Apart putN
  unfold sameP at this
  simp at this ⊢
  omega

section
variable {pp : Option Addr} {pc : Nat} {P : List PersonV} {wp : Option Addr} {wcap : Nat} {wide : List Int} {hp : Option Addr} {hc : Nat} {high : List Int} {w : World}
/-- What right arguments are. -/
theorem leastF_ok (h : leastF P wide high = 0) : PeopleOk P ∧ WideOk wide ∧ HighOk high ∧ high.length = wide.length ∧ ostF P wide high = 0 ∧ fullF P wide = 0 ∧ ¬ (7 < (P.length : Int)) ∧ ¬ (12 < sumT wide wide.length) ∧ P.length ≤ (plA wide).length := by
  unfold leastF at h
  by_cases ho : ostF P wide high = 0
  · rw [if_pos ho] at h
    have ho2 := ho
    unfold ostF at ho2
    by_cases hp0 : peopleF P = 0
    · rw [if_pos hp0] at ho2
      obtain ⟨h1, h2, h3, -, -⟩ := stageF_ok ho2
      unfold bigF at h
      by_cases hff : fullF P wide = 0
      · rw [if_pos hff] at h
        have hb : ¬ (7 < (P.length : Int) ∨ 12 < sumT wide wide.length) := fun hb => by rw [if_pos hb] at h; cases h
        refine ⟨peopleF_ok hp0, h1, fun v hv => by have := h2 v hv; omega, h3, ho, hff, fun h => hb (.inl h), fun h => hb (.inr h), ?_⟩
        have hl := plA_len h1
        unfold fullF at hff
        by_cases hs : sumT wide wide.length < P.length
        · rw [if_pos hs] at hff; cases hff
        · omega
      · rw [if_neg hff] at h; exact absurd h hff
    · rw [if_neg hp0] at ho2; exact absurd ho2 hp0
  · rw [if_neg ho] at h; exact absurd h ho

set_option maxRecDepth 100000 in
set_option maxHeartbeats 6400000 in
theorem least_any (h : PsM w pp pc P wp wcap wide hp hc high none 0 []) (hf : leastF P wide high = 0) (h4 : P.length ≤ 4) :
    Calls Tryz.prog 12 #[.slice pp P.length pc, .agg #[.slice wp wide.length wcap, .slice hp high.length hc]] w fun e w' => ∃ (q : Option Addr) (c : Nat) (M : List StandV), e = .returned (.tuple #[.slice q M.length c, .int .i64 (leF P wide high (plA wide) P.length [] (P.length + 1, [])).1, .int .i64 0]) ∧
      M.Perm (leF P wide high (plA wide) P.length [] (P.length + 1, [])).2 ∧ M.Pairwise (fun a b => ltV a b = true) ∧ Slc 3 staC w' q M.length c M ∧ Ext w w' := by
  obtain ⟨hpo, hwo, hho, hwh, ho, hff, n7, n12, hpl⟩ := leastF_ok hf
  have hE0 : Ext w (w.alloc (.cells #[.slice wp wide.length wcap, .slice hp high.length hc] 29)) := (Ext.refl _).alloc _
  have hB0 : Blk (w.alloc (.cells #[.slice wp wide.length wcap, .slice hp high.length hc] 29)) w.heap.size 29 #[.slice wp wide.length wcap, .slice hp high.length hc] := Blk.new' rfl
  have hfu := fun u (hu : Ext w u) => full_any pp pc P wp wcap wide hp hc high u (h.more hu) (fun _ => hwo)
  simp only [if_pos ho, hff] at hfu
  have hpc := fun u (hu : Ext w u) => placesOf_any wp wcap wide hp high.length hc u (h.wid.ext hu) hwo
  have hal : (plA wide).length ≤ 1000 := by have := plA_len hwo; omega
  have hw10 := hwo.1
  generalize hsm : sumT wide wide.length = sm at *
  have hmb := make_bool
  replace hwh := Lib.hid hwh
  replace hfu := Lib.hid hfu
  replace hpc := Lib.hid hpc
  replace hsm := Lib.hid hsm
  replace hmb := Lib.hid hmb
  replace h := Lib.hid h
  clear hf ho hff
  go_enter Tryz.func12, Tryz.ntmps12
  go_upto_region 7 with (first
    | (go_at_call 38; (with_reducible refine Calls.mono (hfu.out _ hE0) ?_); rintro e w1 ⟨rfl, hb1⟩; obtain ⟨y1, -⟩ := (hB0.ext hb1).walk; have bl := (hB0.ext hb1).lt; have E1 := hE0.trans hb1)
    | (go_at_call 39; (with_reducible refine Calls.mono (hpc.out _ E1) ?_); rintro e w2 ⟨rfl, hb2⟩; obtain ⟨y2, -⟩ := (hB0.ext (hb1.trans hb2)).walk; have bl2 := (hB0.ext (hb1.trans hb2)).lt))
  have E2 := E1.trans hb2
  have hB2 := hB0.ext (hb1.trans hb2)
  obtain ⟨W, hW⟩ : ∃ W, W = w2.alloc (.cells #[.slice pp P.length pc, .slice wp wide.length wcap, .slice hp high.length hc, .slice none 0 0, .slice none 0 0, .slice none 0 0, .slice none 0 0, .int .i64 ((P.length : Int) + 1)] 77) := ⟨_, rfl⟩
  have hPl : PlM w W w2.heap.size (.slice pp P.length pc) (.slice wp wide.length wcap) (.slice hp high.length hc) (.int .i64 ((P.length : Int) + 1)) none 0 [] := by
    rw [hW]
    exact ⟨E2.alloc _, E2.size, Blk.new' rfl, World.ownsRow_nil _ _ _ _⟩
  have hBW : Blk W w.heap.size 29 #[.slice wp wide.length wcap, .slice hp high.length hc] := by rw [hW]; exact hB2.alloc _
  change Code.wp _ _ _ _ (w2.alloc (.cells #[.slice pp P.length pc, .slice wp wide.length wcap, .slice hp high.length hc, .slice none 0 0, .slice none 0 0, .slice none 0 0, .slice none 0 0, .int .i64 ((P.length : Int) + 1)] 77))
  rw [← hW]
  have hvl : w.heap.size < w2.heap.size := hB2.lt
  generalize w2.heap.size = v at *
  obtain ⟨y3, -⟩ := hBW.walk
  have bl3 := hBW.lt
  clear hW y1 bl y2 bl2 hb1 hb2 hB2 hB0 hE0 E1 E2 hBW
  go_wp2
  go_loopw [36] (fun v36 wr => ∃ (r : Nat) (lp : Option Addr) (lc : Nat), v36 = .int .i64 r ∧ r ≤ wide.length ∧ PlM w wr v (.slice pp P.length pc) (.slice wp wide.length wcap) (.slice hp high.length hc) (.int .i64 ((P.length : Int) + 1)) lp lc (plT wide r 0)) (fun v36 _ => wide.length - (intOf v36).toNat)
  case atStart => exact ⟨0, none, 0, rfl, Nat.zero_le _, by rw [plT_zero]; exact hPl⟩
  case round =>
    clear hPl y3 bl3
    obtain ⟨r, lp, lc, rfl, hr, hPl⟩ := hrel
    by_cases hlt : r < wide.length
    · obtain ⟨x, hx⟩ := getD_some (rfl : wide.length = wide.length) hlt
      have hrI : (r : Int) < wide.length := by omega
      have hwi := h.out.wid
      rcases (slcC hwi).2 with ⟨-, e⟩ | ⟨b, off, rfl, hb, hEl⟩
      · rw [e] at hx; cases hx
      have c0 := (hEl.ext hPl.ext hb).int hx
      have lb := Nat.lt_of_lt_of_le hb hPl.ext.size
      obtain ⟨v1, v2⟩ := hwo.2 x (List.mem_of_getElem? hx)
      obtain ⟨n, hn⟩ : ∃ n : Nat, x = n := ⟨x.toNat, by omega⟩
      subst hn
      have hgd : (wide.getD r 0).toNat = n := by rw [List.getD_eq_getElem?_getD, hx]; rfl
      have hrow := plT_row wide r
      rw [hgd] at hrow
      replace hrow := Lib.hid hrow
      clear hEl hx hwi
      go_wp2
      go_loopw [42] (fun v42 wq => ∃ (j : Nat) (lp : Option Addr) (lc : Nat), v42 = .int .i64 j ∧ j ≤ n ∧ PlM w wq v (.slice pp P.length pc) (.slice (some ⟨b, off, none⟩) wide.length wcap) (.slice hp high.length hc) (.int .i64 ((P.length : Int) + 1)) lp lc (plT wide r j)) (fun v42 _ => n - (intOf v42).toNat)
      case atStart => exact ⟨0, lp, lc, rfl, Nat.zero_le _, hPl⟩
      case round =>
        clear hPl c0 lb
        obtain ⟨j, lp, lc, rfl, hj, hPl⟩ := hrel
        by_cases hjn : j < n
        · have hjI : (j : Int) < n := by omega
          have hll := plT_le hwo hr (x := j) (by omega)
          have hsn := plT_snoc wide (r := r) (x := j) (by rw [hgd]; exact hjn)
          obtain ⟨y1, -⟩ := hPl.blk.walk
          have bl := hPl.blk.lt
          generalize plT wide r j = L at *
          have hMa := hPl.more ((Ext.refl wr).alloc (.cells #[.string ⟨#[]⟩, .int .i64 r, .int .i64 j] 46))
          replace hsn := Lib.hid hsn
          replace hMa := Lib.hid hMa
          go_wp2_with (at_builtin; go_loud (refine wp_appL _ (.tmp 49) (.tmp 53) 34 46 3 32 _ rfl rfl Tryz.underlying34 staInfo rfl (by decide) (by decide) (v + 1) lp L.length lc _ rfl hMa.out.own wr.heap.size (staC ⟨⟨#[]⟩, r, j⟩) rfl rfl (Blk.new' rfl) (by simp [staC, Value.oneCell']) (by omega) (by simp; omega) ?_; intro b1 c1 w6 hown6 hgrow6 hloc6; have hM6 := hMa.out.app hown6 hgrow6; have hB6 : Blk w6 v 77 _ := (hgrow6.block v hMa.out.blk.lt fun e => by have := (own_block_ge hMa.out.own e.symm).1; omega).trans hMa.out.blk; obtain ⟨z1, z2⟩ := hB6.walk; have zl := hB6.lt))
          go_roundw
          case rel => exact ⟨j + 1, _, _, by go_num, by omega, by rw [hsn.out]; exact hM6⟩
          case measure => simp [intOf]; omega
        · obtain rfl : j = n := by omega
          rw [hrow.out] at hPl
          replace hPl := Lib.hid hPl
          go_wp2
          go_roundw
          case rel => exact ⟨r + 1, _, _, by go_num, by omega, hPl.out⟩
          case measure => simp [intOf]; omega
    · obtain rfl : r = wide.length := by omega
      rw [plT_all] at hPl
      have hmk := hmb.out (plA wide).length hal
      have hbz : ((bitsN (hsL P wide high []) : Nat) : Int) = 0 := rfl
      have hpa := plA_apart wide
      have hon := fun x (hx : x ∈ plA wide) => plA_on hwo hx
      have hT0 : SvT P wide high [] := ⟨⟨hpo, hwo, hho, hwh.out, by simp, (fun x hx => by cases hx), (fun x hx => by cases hx)⟩, by simp, (fun i x hx => by simp at hx)⟩
      have hap := leF_inv (P := P) (wide := wide) (high := high) (all := plA wide) (n := P.length) (R := fun T => T.Pairwise Apart) (Q := fun T => T.Pairwise Apart ∧ T.length ≤ P.length) (fun T x hT _ _ hx => apart_nxt hT hx) (fun T hT hl => ⟨hT, by omega⟩) P.length [] ((P.length : Int) + 1, []) List.Pairwise.nil (by simp) ⟨List.Pairwise.nil, by simp⟩
      have htr := fun (u : World) (gk : Nat) => svTry_any (w0 := w) (v := v) (gk := gk) (ck := (plA wide).length) (pp := pp) (pc := pc) (wp := wp) (wcap := wcap) (hp := hp) (hc := hc) (plp := lp) (plc := lc) h4 hal hpa hon P.length [] u none 0 none 0 ((P.length : Int) + 1) [] (by simp) hT0
      rw [hbz] at htr
      generalize hall : plA wide = all at *
      generalize hste : leF P wide high all P.length [] ((P.length : Int) + 1, []) = st at *
      obtain ⟨fw, bst⟩ := st
      obtain ⟨hap, hbl⟩ := hap
      replace hall := Lib.hid hall
      replace hste := Lib.hid hste
      simp only at hap htr
      obtain ⟨z1, z2⟩ := hPl.blk.walk
      have zl := hPl.blk.lt
      replace hPl := Lib.hid hPl
      replace hap := Lib.hid hap
      replace htr := Lib.hid htr
      clear hmb hbz hpa hon hT0
      go_upto_region 17 with fail
      obtain ⟨A, hA⟩ : ∃ A, A = wr.setCell ⟨v, 4, none⟩ (.slice (some ⟨wr.heap.size, 0, none⟩) all.length all.length) := ⟨_, rfl⟩
      obtain ⟨W3, hW3⟩ : ∃ W, W = A.alloc (.cells (bolR (List.replicate all.length false)) 4) := ⟨_, rfl⟩
      have hAs : A.heap.size = wr.heap.size := by rw [hA]; simp
      have hlow := hPl.out.low
      have hlb : ∀ g, (Value.slice lp all.length lc).ownBlock = some g → v + 1 ≤ g ∧ g < wr.heap.size := fun g hg => own_block_ge hPl.out.own hg
      have hEA : Ext w A := by rw [hA]; exact hPl.out.ext.setCell (show w.heap.size ≤ v from hlow) _
      have hBA : Blk A v 77 #[.slice pp P.length pc, .slice wp wide.length wcap, .slice hp high.length hc, .slice lp all.length lc, .slice (some ⟨wr.heap.size, 0, none⟩) all.length all.length, .slice none 0 0, .slice none 0 0, .int .i64 ((P.length : Int) + 1)] := by rw [hA]; exact (hPl.out.blk.set_ 4 _).cast (by simp)
      have hoA : A.ownsRow (v + 1) 46 3 (.slice lp all.length lc) all.length (all.flatMap staC) := by rw [hA]; exact hPl.out.own.kept (grown_set wr ⟨v, 4, none⟩ _) (.inr fun e => by have := (hlb v e).1; omega)
      have hM3 : SvM w W3 v wr.heap.size all.length pp pc P wp wcap wide hp hc high lp lc all (flagsL all []) none 0 [] none 0 ((P.length : Int) + 1) [] := by
        rw [hW3]
        obtain ⟨p9, c9, e9, hS9⟩ := slc_of_own staC_len hoA (by decide) (by omega)
        cases e9
        exact ⟨hEA.alloc _, hlow, zl, hBA.alloc _, by rw [flagsL_nil]; exact Blk.new' hAs.symm, Nat.le_refl _, flagsL_len _ _, h.out.per, h.out.wid, h.out.hig, hS9.ext ((Ext.refl _).alloc _), (fun a ha => by subst ha; have := hlb a.block (by simp [Value.ownBlock]); exact ⟨by omega, by omega⟩), World.ownsRow_nil _ _ _ _, World.ownsRow_nil _ _ _ _, (fun a b ha => by cases ha)⟩
      change Code.wp _ _ _ _ ((wr.setCell ⟨v, 4, none⟩ (.slice (some ⟨wr.heap.size, 0, none⟩) all.length all.length)).alloc (.cells (bolR (List.replicate all.length false)) 4))
      rw [← hA, ← hW3]
      have htw := htr.out W3 _ hM3
      replace htw := Lib.hid htw
      clear htr hW3 hA hEA hBA hoA hM3 hPl z1 z2 zl hmk hlb hAs
      go_upto_region 18 with (go_at_call 40; (with_reducible refine Calls.mono htw.out ?_); rintro e w5 ⟨rfl, np5, nc5, bp5, bc5, hM5⟩)
      obtain ⟨z1, -⟩ := hM5.blk.walk
      have zl := hM5.blk.lt
      have hvk := hM5.vk
      by_cases hb0 : bst.length = 0
      · have hbs : bst = [] := List.eq_nil_of_length_eq_zero hb0
        subst hbs
        simp only [List.length_nil] at z1
        have hBq := hM5.blk
        simp only [List.length_nil] at hBq
        have hE5 := hM5.ext
        obtain ⟨p9, c9, e9, hS9⟩ := slc_of_own (xs := ([] : List StandV)) staC_len hM5.bes (by decide) (by decide)
        cases e9
        clear hM5 htw
        go_upto_region 19 with (go_at_call 41; refine (AnyF.slices_SortFunc_none Tryz.lsfStand _ _ _ _).mono ?_; rintro e w6 ⟨rfl, rfl⟩)
        refine wp_region_facts [] [([], false, false), ([0], false, false), ([0, 1], false, false), ([0, 1, 2], false, false), ([], false, false), ([4], false, false), ([4, 5], false, false), ([4, 5, 6], false, false), ([0, 1, 2, 3], false, false), ([4, 5, 6, 7], false, false), ([], false, false)] (Ext) Ext (fun _ => True) (by kernel_rfl) (by kernel_rfl) Ext.refl (fun _ _ _ => Ext.trans) (fun _ _ h => h) (fun _ _ h => h.size) (fun _ _ h _ => h) trivial ?_
        dsimp only [List.length_cons, List.length_nil, List.drop_succ_cons, List.drop_zero, List.drop_nil]
        refine fac_quiet 0 rfl rfl rfl (fun _ _ h _ => h) rfl rfl ?_
        apply Exists.intro
        refine ⟨fun sv w' hw' hfa => ?_, ?_⟩
        · refine ⟨rfl, ?_⟩
          simp only [putsL]
          change quietTo _ _ _ _ (Sem.run _ (execOp (Act.eval _) _) _)
          try simp only [Act.put, List.setIfInBounds_toArray, List.set_cons_succ, List.set_cons_zero]
          simp [go_sem, quietTo, Ext.refl]
          all_goals first
            | rfl
        refine fac_quiet 1 rfl rfl rfl (fun _ _ h _ => h) rfl rfl ?_
        apply Exists.intro
        refine ⟨fun sv w' hw' hfa => ?_, ?_⟩
        · obtain ⟨f0, -⟩ := hfa
          replace f0 : sv 0 = _ := f0
          try dsimp only at f0
          refine ⟨rfl, ?_⟩
          simp only [putsL]
          change quietTo _ _ _ _ (Sem.run _ (execOp (Act.eval (Act.put _ (some 75) (sv 0))) _) _)
          try simp only [Act.put, List.setIfInBounds_toArray, List.set_cons_succ, List.set_cons_zero]
          simp [go_sem, quietTo, Ext.refl, f0]
          all_goals first
            | rfl
        refine fac_quiet 2 rfl rfl rfl (fun _ _ h _ => h) rfl rfl ?_
        apply Exists.intro
        refine ⟨fun sv w' hw' hfa => ?_, ?_⟩
        · obtain ⟨_, f1, -⟩ := hfa
          replace f1 : sv 1 = _ := f1
          try dsimp only at f1
          refine ⟨rfl, ?_⟩
          simp only [putsL]
          change quietTo _ _ _ _ (Sem.run _ (execOp (Act.eval (Act.put (Act.put _ (some 76) (sv 1)) (some 75) (sv 0))) _) _)
          try simp only [Act.put, List.setIfInBounds_toArray, List.set_cons_succ, List.set_cons_zero]
          simp [go_sem, quietTo, Ext.refl, f1]
          all_goals first
            | rfl
        refine fac_quiet 3 rfl rfl rfl (fun _ _ h _ => h) rfl rfl ?_
        apply Exists.intro
        refine ⟨fun sv w' hw' hfa => ?_, ?_⟩
        · obtain ⟨_, _, f2, -⟩ := hfa
          replace f2 : sv 2 = _ := f2
          try dsimp only at f2
          have hk9 := (Ext.refl w6).drew.trans hw'; obtain ⟨y1, -⟩ := (hBq.ext hk9).walk
          refine ⟨rfl, ?_⟩
          simp only [putsL]
          change quietTo _ _ _ _ (Sem.run _ (execOp (Act.eval (Act.put (Act.put (Act.put _ (some 77) (sv 2)) (some 76) (sv 1)) (some 75) (sv 0))) _) _)
          try simp only [Act.put, List.setIfInBounds_toArray, List.set_cons_succ, List.set_cons_zero]
          simp [go_sem, quietTo, Ext.refl, ↓IntWalk.iteOmega, f2, y1]
          all_goals try simp (disch := omega) only [IntWalk.i64_in]
          all_goals first
            | rfl
        refine fac_quiet 4 rfl rfl rfl (fun _ _ h _ => h) rfl rfl ?_
        apply Exists.intro
        refine ⟨fun sv w' hw' hfa => ?_, ?_⟩
        · refine ⟨rfl, ?_⟩
          simp only [putsL]
          change quietTo _ _ _ _ (Sem.run _ (execOp (Act.eval _) _) _)
          try simp only [Act.put, List.setIfInBounds_toArray, List.set_cons_succ, List.set_cons_zero]
          simp [go_sem, quietTo, Ext.refl]
          all_goals first
            | rfl
        refine fac_quiet 5 rfl rfl rfl (fun _ _ h _ => h) rfl rfl ?_
        apply Exists.intro
        refine ⟨fun sv w' hw' hfa => ?_, ?_⟩
        · obtain ⟨f4, -⟩ := hfa
          replace f4 : sv 4 = _ := f4
          try dsimp only at f4
          refine ⟨rfl, ?_⟩
          simp only [putsL]
          change quietTo _ _ _ _ (Sem.run _ (execOp (Act.eval (Act.put _ (some 79) (sv 4))) _) _)
          try simp only [Act.put, List.setIfInBounds_toArray, List.set_cons_succ, List.set_cons_zero]
          simp [go_sem, quietTo, Ext.refl, f4]
          all_goals first
            | rfl
        refine fac_quiet 6 rfl rfl rfl (fun _ _ h _ => h) rfl rfl ?_
        apply Exists.intro
        refine ⟨fun sv w' hw' hfa => ?_, ?_⟩
        · obtain ⟨_, f5, -⟩ := hfa
          replace f5 : sv 5 = _ := f5
          try dsimp only at f5
          refine ⟨rfl, ?_⟩
          simp only [putsL]
          change quietTo _ _ _ _ (Sem.run _ (execOp (Act.eval (Act.put (Act.put _ (some 80) (sv 5)) (some 79) (sv 4))) _) _)
          try simp only [Act.put, List.setIfInBounds_toArray, List.set_cons_succ, List.set_cons_zero]
          simp [go_sem, quietTo, Ext.refl, f5]
          all_goals first
            | rfl
        refine fac_quiet 7 rfl rfl rfl (fun _ _ h _ => h) rfl rfl ?_
        apply Exists.intro
        refine ⟨fun sv w' hw' hfa => ?_, ?_⟩
        · obtain ⟨_, _, f6, -⟩ := hfa
          replace f6 : sv 6 = _ := f6
          try dsimp only at f6
          have hk9 := (Ext.refl w6).drew.trans hw'; obtain ⟨y1, -⟩ := (hBq.ext hk9).walk
          refine ⟨rfl, ?_⟩
          simp only [putsL]
          change quietTo _ _ _ _ (Sem.run _ (execOp (Act.eval (Act.put (Act.put (Act.put _ (some 81) (sv 6)) (some 80) (sv 5)) (some 79) (sv 4))) _) _)
          try simp only [Act.put, List.setIfInBounds_toArray, List.set_cons_succ, List.set_cons_zero]
          simp [go_sem, quietTo, Ext.refl, ↓IntWalk.iteOmega, f6, y1]
          all_goals try simp (disch := omega) only [IntWalk.i64_in]
          all_goals first
            | rfl
        refine fac_quiet 8 rfl rfl rfl (fun _ _ h _ => h) rfl rfl ?_
        apply Exists.intro
        refine ⟨fun sv w' hw' hfa => ?_, ?_⟩
        · obtain ⟨_, _, _, f3, -⟩ := hfa
          replace f3 : sv 3 = _ := f3
          try dsimp only at f3
          refine ⟨rfl, ?_⟩
          simp only [putsL]
          change quietTo _ _ _ _ (Sem.run _ (execOp (Act.eval (Act.put (Act.put (Act.put (Act.put _ (some 78) (sv 3)) (some 77) (sv 2)) (some 76) (sv 1)) (some 75) (sv 0))) _) _)
          try simp only [Act.put, List.setIfInBounds_toArray, List.set_cons_succ, List.set_cons_zero]
          simp [go_sem, quietTo, Ext.refl, f3]
          all_goals first
            | rfl
        refine fac_quiet 9 rfl rfl rfl (fun _ _ h _ => h) rfl rfl ?_
        apply Exists.intro
        refine ⟨fun sv w' hw' hfa => ?_, ?_⟩
        · obtain ⟨_, _, _, f7, -⟩ := hfa
          replace f7 : sv 7 = _ := f7
          try dsimp only at f7
          refine ⟨rfl, ?_⟩
          simp only [putsL]
          change quietTo _ _ _ _ (Sem.run _ (execOp (Act.eval (Act.put (Act.put (Act.put (Act.put _ (some 82) (sv 7)) (some 81) (sv 6)) (some 80) (sv 5)) (some 79) (sv 4))) _) _)
          try simp only [Act.put, List.setIfInBounds_toArray, List.set_cons_succ, List.set_cons_zero]
          simp [go_sem, quietTo, Ext.refl, f7]
          all_goals first
            | rfl
        refine fac_quiet 10 rfl rfl rfl (fun _ _ h _ => h) rfl rfl ?_
        apply Exists.intro
        refine ⟨fun sv w' hw' hfa => ?_, ?_⟩
        · refine ⟨rfl, ?_⟩
          simp only [putsL]
          change quietTo _ _ _ _ (Sem.run _ (execOp (Act.eval _) _) _)
          try simp only [Act.put, List.setIfInBounds_toArray, List.set_cons_succ, List.set_cons_zero]
          simp [go_sem, quietTo, Ext.refl]
          all_goals first
            | rfl
        refine fac_nil fun xq wrq herq hfrq hcrq holdq hapq => ?_
        obtain ⟨f0, f1, f2, f3, f4, f5, f6, f7, f8, f9, f10, -⟩ := hfrq
        replace f0 : xq 0 = _ := f0
        try dsimp only at f0
        replace f1 : xq 1 = _ := f1
        try dsimp only at f1
        replace f2 : xq 2 = _ := f2
        try dsimp only at f2
        replace f3 : xq 3 = _ := f3
        try dsimp only at f3
        replace f4 : xq 4 = _ := f4
        try dsimp only at f4
        replace f5 : xq 5 = _ := f5
        try dsimp only at f5
        replace f6 : xq 6 = _ := f6
        try dsimp only at f6
        replace f7 : xq 7 = _ := f7
        try dsimp only at f7
        replace f8 : xq 8 = _ := f8
        try dsimp only at f8
        replace f9 : xq 9 = _ := f9
        try dsimp only at f9
        replace f10 : xq 10 = _ := f10
        try dsimp only at f10
        change wpList _ _ _ _ (Act.put (Act.put (Act.put (Act.put (Act.put (Act.put (Act.put (Act.put (Act.put (Act.put (Act.put _ (some 75) (xq 0)) (some 76) (xq 1)) (some 77) (xq 2)) (some 78) (xq 3)) (some 79) (xq 4)) (some 80) (xq 5)) (some 81) (xq 6)) (some 82) (xq 7)) (some 4) (xq 8)) (some 5) (xq 9)) (some 6) (xq 10)) _
        simp only [putsL, Nat.reduceAdd, List.drop_succ_cons, List.drop_zero, List.drop_nil, Act.put, List.setIfInBounds_toArray, List.set_cons_succ, List.set_cons_zero]
        try simp only [f0, f1, f2, f3, f4, f5, f6, f7, f8, f9, f10]
        clear f0 f1 f2 f3 f4 f5 f6 f7 f8 f9 f10
        clear holdq hapq
        go_wp2
        go_light
        exact bodyPost_ret (v := .tuple #[.slice bp5 0 bc5, .int .i64 fw, .int .i64 0]) (by simp [results, Tryz.results12, go_sem]) rfl ⟨bp5, bc5, [], by rw [hall.out, hste.out]; rfl, by rw [hall.out, hste.out], List.Pairwise.nil, hS9.ext ((Ext.refl _).drew.trans herq), hE5.trans ((Ext.refl _).drew.trans herq)⟩
      · obtain ⟨g, cc, e9, hgk, hgl⟩ := hM5.bes.form (by omega)
        cases e9
        have hso := sortSta2_any hM5.bes rfl (by omega) hap.out 42 (fun a b u => compareG_any a b u) (fun args u => by rfl)
        have hE5 := hM5.ext
        have hB5 := hM5.blk
        replace hso := Lib.hid hso
        replace hb0 := Lib.hid hb0
        clear hM5 htw
        go_upto_region 19 with (go_at_call 41; (with_reducible refine Calls.mono hso.out ?_); rintro e w6 ⟨rfl, M, hMp, hMs, hMo, hgr⟩)
        have hvg : v ≠ g := by omega
        have hBq : Blk w6 v 77 _ := (hgr.block v zl fun e => hvg (by simpa using e)).trans hB5
        have hE6 : Ext w w6 := hE5.grown hgr fun q e => by cases e; have := hE5.size; omega
        have hml := hMp.length_eq
        obtain ⟨p9, c9, e9, hS9⟩ := slc_of_own staC_len hMo (by decide) (by omega)
        cases e9
        refine wp_region_facts [] [([], false, false), ([0], false, false), ([0, 1], false, false), ([0, 1, 2], false, false), ([], false, false), ([4], false, false), ([4, 5], false, false), ([4, 5, 6], false, false), ([0, 1, 2, 3], false, false), ([4, 5, 6, 7], false, false), ([], false, false)] (Ext) Ext (fun _ => True) (by kernel_rfl) (by kernel_rfl) Ext.refl (fun _ _ _ => Ext.trans) (fun _ _ h => h) (fun _ _ h => h.size) (fun _ _ h _ => h) trivial ?_
        dsimp only [List.length_cons, List.length_nil, List.drop_succ_cons, List.drop_zero, List.drop_nil]
        refine fac_quiet 0 rfl rfl rfl (fun _ _ h _ => h) rfl rfl ?_
        apply Exists.intro
        refine ⟨fun sv w' hw' hfa => ?_, ?_⟩
        · refine ⟨rfl, ?_⟩
          simp only [putsL]
          change quietTo _ _ _ _ (Sem.run _ (execOp (Act.eval _) _) _)
          try simp only [Act.put, List.setIfInBounds_toArray, List.set_cons_succ, List.set_cons_zero]
          simp [go_sem, quietTo, Ext.refl]
          all_goals first
            | rfl
        refine fac_quiet 1 rfl rfl rfl (fun _ _ h _ => h) rfl rfl ?_
        apply Exists.intro
        refine ⟨fun sv w' hw' hfa => ?_, ?_⟩
        · obtain ⟨f0, -⟩ := hfa
          replace f0 : sv 0 = _ := f0
          try dsimp only at f0
          refine ⟨rfl, ?_⟩
          simp only [putsL]
          change quietTo _ _ _ _ (Sem.run _ (execOp (Act.eval (Act.put _ (some 75) (sv 0))) _) _)
          try simp only [Act.put, List.setIfInBounds_toArray, List.set_cons_succ, List.set_cons_zero]
          simp [go_sem, quietTo, Ext.refl, f0]
          all_goals first
            | rfl
        refine fac_quiet 2 rfl rfl rfl (fun _ _ h _ => h) rfl rfl ?_
        apply Exists.intro
        refine ⟨fun sv w' hw' hfa => ?_, ?_⟩
        · obtain ⟨_, f1, -⟩ := hfa
          replace f1 : sv 1 = _ := f1
          try dsimp only at f1
          refine ⟨rfl, ?_⟩
          simp only [putsL]
          change quietTo _ _ _ _ (Sem.run _ (execOp (Act.eval (Act.put (Act.put _ (some 76) (sv 1)) (some 75) (sv 0))) _) _)
          try simp only [Act.put, List.setIfInBounds_toArray, List.set_cons_succ, List.set_cons_zero]
          simp [go_sem, quietTo, Ext.refl, f1]
          all_goals first
            | rfl
        refine fac_quiet 3 rfl rfl rfl (fun _ _ h _ => h) rfl rfl ?_
        apply Exists.intro
        refine ⟨fun sv w' hw' hfa => ?_, ?_⟩
        · obtain ⟨_, _, f2, -⟩ := hfa
          replace f2 : sv 2 = _ := f2
          try dsimp only at f2
          have hk9 := (Ext.refl w6).drew.trans hw'; obtain ⟨y1, -⟩ := (hBq.ext hk9).walk
          refine ⟨rfl, ?_⟩
          simp only [putsL]
          change quietTo _ _ _ _ (Sem.run _ (execOp (Act.eval (Act.put (Act.put (Act.put _ (some 77) (sv 2)) (some 76) (sv 1)) (some 75) (sv 0))) _) _)
          try simp only [Act.put, List.setIfInBounds_toArray, List.set_cons_succ, List.set_cons_zero]
          simp [go_sem, quietTo, Ext.refl, ↓IntWalk.iteOmega, f2, y1]
          all_goals try simp (disch := omega) only [IntWalk.i64_in]
          all_goals first
            | rfl
        refine fac_quiet 4 rfl rfl rfl (fun _ _ h _ => h) rfl rfl ?_
        apply Exists.intro
        refine ⟨fun sv w' hw' hfa => ?_, ?_⟩
        · refine ⟨rfl, ?_⟩
          simp only [putsL]
          change quietTo _ _ _ _ (Sem.run _ (execOp (Act.eval _) _) _)
          try simp only [Act.put, List.setIfInBounds_toArray, List.set_cons_succ, List.set_cons_zero]
          simp [go_sem, quietTo, Ext.refl]
          all_goals first
            | rfl
        refine fac_quiet 5 rfl rfl rfl (fun _ _ h _ => h) rfl rfl ?_
        apply Exists.intro
        refine ⟨fun sv w' hw' hfa => ?_, ?_⟩
        · obtain ⟨f4, -⟩ := hfa
          replace f4 : sv 4 = _ := f4
          try dsimp only at f4
          refine ⟨rfl, ?_⟩
          simp only [putsL]
          change quietTo _ _ _ _ (Sem.run _ (execOp (Act.eval (Act.put _ (some 79) (sv 4))) _) _)
          try simp only [Act.put, List.setIfInBounds_toArray, List.set_cons_succ, List.set_cons_zero]
          simp [go_sem, quietTo, Ext.refl, f4]
          all_goals first
            | rfl
        refine fac_quiet 6 rfl rfl rfl (fun _ _ h _ => h) rfl rfl ?_
        apply Exists.intro
        refine ⟨fun sv w' hw' hfa => ?_, ?_⟩
        · obtain ⟨_, f5, -⟩ := hfa
          replace f5 : sv 5 = _ := f5
          try dsimp only at f5
          refine ⟨rfl, ?_⟩
          simp only [putsL]
          change quietTo _ _ _ _ (Sem.run _ (execOp (Act.eval (Act.put (Act.put _ (some 80) (sv 5)) (some 79) (sv 4))) _) _)
          try simp only [Act.put, List.setIfInBounds_toArray, List.set_cons_succ, List.set_cons_zero]
          simp [go_sem, quietTo, Ext.refl, f5]
          all_goals first
            | rfl
        refine fac_quiet 7 rfl rfl rfl (fun _ _ h _ => h) rfl rfl ?_
        apply Exists.intro
        refine ⟨fun sv w' hw' hfa => ?_, ?_⟩
        · obtain ⟨_, _, f6, -⟩ := hfa
          replace f6 : sv 6 = _ := f6
          try dsimp only at f6
          have hk9 := (Ext.refl w6).drew.trans hw'; obtain ⟨y1, -⟩ := (hBq.ext hk9).walk
          refine ⟨rfl, ?_⟩
          simp only [putsL]
          change quietTo _ _ _ _ (Sem.run _ (execOp (Act.eval (Act.put (Act.put (Act.put _ (some 81) (sv 6)) (some 80) (sv 5)) (some 79) (sv 4))) _) _)
          try simp only [Act.put, List.setIfInBounds_toArray, List.set_cons_succ, List.set_cons_zero]
          simp [go_sem, quietTo, Ext.refl, ↓IntWalk.iteOmega, f6, y1]
          all_goals try simp (disch := omega) only [IntWalk.i64_in]
          all_goals first
            | rfl
        refine fac_quiet 8 rfl rfl rfl (fun _ _ h _ => h) rfl rfl ?_
        apply Exists.intro
        refine ⟨fun sv w' hw' hfa => ?_, ?_⟩
        · obtain ⟨_, _, _, f3, -⟩ := hfa
          replace f3 : sv 3 = _ := f3
          try dsimp only at f3
          refine ⟨rfl, ?_⟩
          simp only [putsL]
          change quietTo _ _ _ _ (Sem.run _ (execOp (Act.eval (Act.put (Act.put (Act.put (Act.put _ (some 78) (sv 3)) (some 77) (sv 2)) (some 76) (sv 1)) (some 75) (sv 0))) _) _)
          try simp only [Act.put, List.setIfInBounds_toArray, List.set_cons_succ, List.set_cons_zero]
          simp [go_sem, quietTo, Ext.refl, f3]
          all_goals first
            | rfl
        refine fac_quiet 9 rfl rfl rfl (fun _ _ h _ => h) rfl rfl ?_
        apply Exists.intro
        refine ⟨fun sv w' hw' hfa => ?_, ?_⟩
        · obtain ⟨_, _, _, f7, -⟩ := hfa
          replace f7 : sv 7 = _ := f7
          try dsimp only at f7
          refine ⟨rfl, ?_⟩
          simp only [putsL]
          change quietTo _ _ _ _ (Sem.run _ (execOp (Act.eval (Act.put (Act.put (Act.put (Act.put _ (some 82) (sv 7)) (some 81) (sv 6)) (some 80) (sv 5)) (some 79) (sv 4))) _) _)
          try simp only [Act.put, List.setIfInBounds_toArray, List.set_cons_succ, List.set_cons_zero]
          simp [go_sem, quietTo, Ext.refl, f7]
          all_goals first
            | rfl
        refine fac_quiet 10 rfl rfl rfl (fun _ _ h _ => h) rfl rfl ?_
        apply Exists.intro
        refine ⟨fun sv w' hw' hfa => ?_, ?_⟩
        · refine ⟨rfl, ?_⟩
          simp only [putsL]
          change quietTo _ _ _ _ (Sem.run _ (execOp (Act.eval _) _) _)
          try simp only [Act.put, List.setIfInBounds_toArray, List.set_cons_succ, List.set_cons_zero]
          simp [go_sem, quietTo, Ext.refl]
          all_goals first
            | rfl
        refine fac_nil fun xq wrq herq hfrq hcrq holdq hapq => ?_
        obtain ⟨f0, f1, f2, f3, f4, f5, f6, f7, f8, f9, f10, -⟩ := hfrq
        replace f0 : xq 0 = _ := f0
        try dsimp only at f0
        replace f1 : xq 1 = _ := f1
        try dsimp only at f1
        replace f2 : xq 2 = _ := f2
        try dsimp only at f2
        replace f3 : xq 3 = _ := f3
        try dsimp only at f3
        replace f4 : xq 4 = _ := f4
        try dsimp only at f4
        replace f5 : xq 5 = _ := f5
        try dsimp only at f5
        replace f6 : xq 6 = _ := f6
        try dsimp only at f6
        replace f7 : xq 7 = _ := f7
        try dsimp only at f7
        replace f8 : xq 8 = _ := f8
        try dsimp only at f8
        replace f9 : xq 9 = _ := f9
        try dsimp only at f9
        replace f10 : xq 10 = _ := f10
        try dsimp only at f10
        change wpList _ _ _ _ (Act.put (Act.put (Act.put (Act.put (Act.put (Act.put (Act.put (Act.put (Act.put (Act.put (Act.put _ (some 75) (xq 0)) (some 76) (xq 1)) (some 77) (xq 2)) (some 78) (xq 3)) (some 79) (xq 4)) (some 80) (xq 5)) (some 81) (xq 6)) (some 82) (xq 7)) (some 4) (xq 8)) (some 5) (xq 9)) (some 6) (xq 10)) _
        simp only [putsL, Nat.reduceAdd, List.drop_succ_cons, List.drop_zero, List.drop_nil, Act.put, List.setIfInBounds_toArray, List.set_cons_succ, List.set_cons_zero]
        try simp only [f0, f1, f2, f3, f4, f5, f6, f7, f8, f9, f10]
        clear f0 f1 f2 f3 f4 f5 f6 f7 f8 f9 f10
        clear holdq hapq
        go_wp2
        go_light
        exact bodyPost_ret (v := .tuple #[.slice (some ⟨g, 0, none⟩) bst.length bc5, .int .i64 fw, .int .i64 0]) (by simp [results, Tryz.results12, go_sem]) rfl ⟨some ⟨g, 0, none⟩, bc5, M, by rw [hall.out, hste.out, hml], by rw [hall.out, hste.out]; exact hMp, hMs, by rw [hml]; exact hS9.ext ((Ext.refl _).drew.trans herq), hE6.trans ((Ext.refl _).drew.trans herq)⟩
end
end Go.Proofs.YtfbegdcmnfkhgaaGreatDoor
