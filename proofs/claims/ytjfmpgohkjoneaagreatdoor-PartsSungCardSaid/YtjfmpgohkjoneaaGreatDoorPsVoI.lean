/- What is wrong with singers and moments; the parts that a singer can sing, by both texts. Conditions: sizes. -/
import Derived.Test.YtjfmpgohkjoneaaGreatDoorPsVoH
import Derived.Test.YtjfmpgohkjoneaaGreatDoorPsPartsC
import Derived.Shelf.SlicesE.IndexFunc
set_option linter.unusedSimpArgs false
set_option linter.unusedVariables false
namespace Go.Proofs.YtjfmpgohkjoneaaGreatDoor
open Go Go.RowKit

set_option maxRecDepth 100000 in
theorem keyFault_any (s : ByteArray) (w : World) (hs : s.size ≤ 1000) :
    Calls Tryz.prog 42 #[.string s] w fun e w' => e = .returned (.int .i64 (if keyB s then 0 else 5)) ∧ Ext w w' := by
  cases hk : keyB s
  all_goals
    go_enter Tryz.func42, Tryz.ntmps42
    go_wp2_with (go_at_call 47; (with_reducible refine Calls.mono (key_is hk (by omega) _) ?_); rintro e w1 ⟨rfl, hb1⟩)
    go_ret
    exact ⟨rfl, hb1⟩
set_option maxRecDepth 100000 in
theorem rangeFault_any (lo hi : Int) (w : World) :
    Calls Tryz.prog 36 #[.agg #[.int .i64 lo, .int .i64 hi]] w fun e w' => e = .returned (.int .i64 (if rightR lo hi then 0 else 1)) ∧ Ext w w' := by
  have hr := fun u => rangeRight_any lo hi u
  cases hk : rightR lo hi
  all_goals
    rw [hk] at hr
    replace hr := Lib.hid hr
    replace hk := Lib.hid hk
    go_enter Tryz.func36, Tryz.ntmps36
    go_wp2_with (go_at_call 48; (with_reducible refine Calls.mono (hr.out _) ?_); rintro e w1 ⟨rfl, hb1⟩)
    go_ret
    exact ⟨rfl, ((Ext.refl w).alloc _).trans hb1⟩
set_option maxRecDepth 100000 in
theorem isMomP_any (n : Int) (w : World) :
    Calls Tryz.prog 77 #[.int .i64 n] w fun e w' => e = .returned (.bool (momB n)) ∧ w = w' := by
  have hm : momB n = !outB n 0 345686399999 := by unfold momB; rw [outB_inB]; simp
  have ho := fun w => outside_any n 0 345686399999 w
  replace hm := Lib.hid hm
  generalize outB n 0 345686399999 = v at *
  replace ho := Lib.hid ho
  go_enter Tryz.func77, Tryz.ntmps77
  go_wp2_with (go_at_call 68; (with_reducible refine Calls.mono (ho.out _) ?_); rintro e w' ⟨rfl, rfl⟩)
  go_ret
  exact ⟨ret_bool (by rw [hm.out]), rfl⟩
set_option maxRecDepth 100000 in
theorem momPred (w : World) : PredAt Tryz.prog 97 #[] (fun x : Int => .int .i64 x) (fun x => !momB x) w := fun W x _ => by
  show Calls Tryz.prog 97 #[.int .i64 x] W _
  have hp := fun u => isMomP_any x u
  obtain ⟨v, hv⟩ : ∃ v, momB x = v := ⟨_, rfl⟩
  rw [hv] at hp
  replace hv := Lib.hid hv
  replace hp := Lib.hid hp
  go_enter Tryz.func97, Tryz.ntmps97
  go_wp2_with (go_at_call 77; (with_reducible refine Calls.mono (hp.out _) ?_); rintro e w' ⟨rfl, rfl⟩)
  go_ret
  exact ⟨by rw [hv.out]; rfl, 0, rfl⟩
set_option maxRecDepth 100000 in
theorem momentFault1_any (t : Int) (g ty cap : Nat) (w : World) (hB : Blk w g ty #[.int .i64 t]) :
    Calls Tryz.prog 58 #[.slice (some ⟨g, 0, none⟩) 1 cap] w fun e w' => e = .returned (.int .i64 (if momB t then 0 else 1)) ∧ Ext w w' := by
  have hc : Calls Tryz.prog 96 #[.slice (some ⟨g, 0, none⟩) 1 cap, .func (.func 97) #[] #[]] w fun e w' => e = .returned (.bool (([t].take 1).any fun x => !momB x)) ∧ ∃ q, w' = w.drewN q := AnyE.slices_ContainsFunc Tryz.lqcInt (fun x : Int => .int .i64 x) (fun x => !momB x) 97 #[] (enters_of Tryz.func97 (by kernel_rfl) rfl) g 0 1 cap [t] w (momPred w) (by simp) (by omega) (fun j hj => by
    obtain rfl : j = 0 := by simp at hj; omega
    exact hB.cell 0)
  have e1 : ([t].take 1).any (fun x => !momB x) = !momB t := by simp
  rw [e1] at hc
  clear e1
  cases hm : momB t
  all_goals
    rw [hm] at hc
    replace hc := Lib.hid hc
    go_enter Tryz.func58, Tryz.ntmps58
    go_wp2_with (go_at_call 96; (with_reducible refine Calls.mono hc.out ?_); rintro e w1 ⟨rfl, q, rfl⟩)
    go_ret
    exact ⟨rfl, below_drewN' (Below.refl _ w) q⟩
set_option maxRecDepth 100000 in
theorem singerFault1_any (s : ByteArray) (t : Int) (g ty cap : Nat) (w : World) (hs : s.size ≤ 1000) (hB : Blk w g ty #[.int .i64 t]) :
    Calls Tryz.prog 85 #[.string s, .slice (some ⟨g, 0, none⟩) 1 cap] w fun e w' => e = .returned (.int .i64 (if keyB s then (if momB t then 0 else 1) else 5)) ∧ Ext w w' := by
  have hm := fun u (hu : Ext w u) => momentFault1_any t g ty cap u (hB.ext hu)
  generalize (if momB t then (0 : Int) else 1) = f at *
  replace hm := Lib.hid hm
  clear hB
  cases hk : keyB s
  all_goals
    go_enter Tryz.func85, Tryz.ntmps85
    go_wp2_with (first
      | (go_at_call 72; (with_reducible refine Calls.mono (isKey_is hk (by omega) _) ?_); rintro e w1 ⟨rfl, hb1⟩)
      | (go_at_call 58; (with_reducible refine Calls.mono (hm.out _ hb1) ?_); rintro e w2 ⟨rfl, hb2⟩))
    go_ret
    first
      | exact ⟨rfl, hb1⟩
      | exact ⟨rfl, hb1.trans hb2⟩
/-- Voices and parts in memory. -/
structure VpM (w : World) (vp : Option Addr) (vc : Nat) (V : List VoiceV) (pp : Option Addr) (pc : Nat) (P : List PartV) : Prop where
  voi : Slc 4 voiC w vp V.length vc V
  par : Slc 5 partC w pp P.length pc P
  sV : ∀ x ∈ V, x.Small
  sP : ∀ x ∈ P, x.Small
  nV : V.length ≤ 200
  nP : P.length ≤ 1000
theorem VpM.more {w w' : World} {vp pp : Option Addr} {vc pc : Nat} {V : List VoiceV} {P : List PartV} (h : VpM w vp vc V pp pc P) (he : Ext w w') : VpM w' vp vc V pp pc P := ⟨h.voi.ext he, h.par.ext he, h.sV, h.sP, h.nV, h.nP⟩
section
variable {w : World} {vp pp : Option Addr} {vc pc : Nat} {V : List VoiceV} {P : List PartV}
set_option maxRecDepth 100000 in
theorem bothFault_any (h : VpM w vp vc V pp pc P) :
    Calls Tryz.prog 57 #[.slice vp V.length vc, .slice pp P.length pc] w fun e w' => e = .returned (.int .i64 (if voicesF V = 0 then partsF P else voicesF V)) ∧ Ext w w' := by
  have h1 := checkVoices_any vp V.length vc V w h.voi.1 h.sV h.nV
  have h2 := fun u (hu : Ext w u) => checkParts_any pp P.length pc P u (h.par.ext hu).1 h.sP h.nP h.par.2.1
  by_cases hz : voicesF V = 0
  · rw [if_pos hz]
    rw [hz] at h1
    generalize partsF P = f at *
    replace h1 := Lib.hid h1
    replace h2 := Lib.hid h2
    replace hz := Lib.hid hz
    clear h
    go_enter Tryz.func57, Tryz.ntmps57
    go_wp2_with (first
      | (go_at_call 76; (with_reducible refine Calls.mono h1.out ?_); rintro e w1 ⟨rfl, hb1⟩)
      | (go_at_call 34; (with_reducible refine Calls.mono (h2.out _ hb1) ?_); rintro e w2 ⟨rfl, hb2⟩))
    go_ret
    exact ⟨rfl, hb1.trans hb2⟩
  · rw [if_neg hz]
    generalize voicesF V = f at *
    replace h1 := Lib.hid h1
    clear h h2
    go_enter Tryz.func57, Tryz.ntmps57
    go_wp2_with (go_at_call 76; (with_reducible refine Calls.mono h1.out ?_); rintro e w1 ⟨rfl, hb1⟩)
    go_ret
    exact ⟨rfl, hb1⟩
end

theorem rgOf_small {V : List VoiceV} (hs : ∀ x ∈ V, x.Small) (t : Int) (p : ByteArray) : ∀ k, k ≤ V.length → ∀ r, rgOf V t p k = some r → (-1000 ≤ r.1 ∧ r.1 ≤ 1000) ∧ -1000 ≤ r.2 ∧ r.2 ≤ 1000
  | 0, _, r, h => by simp [rgOf] at h
  | k + 1, hk, r, h => by
    obtain ⟨x, hx⟩ := getD_some (rfl : V.length = V.length) (show k < V.length by omega)
    rw [rgOf_succ hx] at h
    split at h
    · cases h
      obtain ⟨-, -, h1, h2⟩ := hs x (List.mem_of_getElem? hx)
      exact ⟨h1, h2⟩
    · exact rgOf_small hs t p k (by omega) r h
theorem rg_bounds {V : List VoiceV} (hs : ∀ x ∈ V, x.Small) (t : Int) (p : ByteArray) : (-1000 ≤ ((rgS V t V.length p).getD (0, 0)).1 ∧ ((rgS V t V.length p).getD (0, 0)).1 ≤ 1000) ∧ -1000 ≤ ((rgS V t V.length p).getD (0, 0)).2 ∧ ((rgS V t V.length p).getD (0, 0)).2 ≤ 1000 := by
  cases h : rgS V t V.length p with
  | none => simp
  | some r => exact rgOf_small hs t p V.length (Nat.le_refl _) r h
/-- The parts that a range can sing. -/
def canB (bb : Bool) (r : Int × Int) (x : PartV) : Bool := bb && decide (0 ≤ comF r (x.lo, x.hi))
def canL (bb : Bool) (r : Int × Int) (P : List PartV) (k : Nat) : List ByteArray := ((P.take k).filter (canB bb r)).map (·.name)
theorem canL_in {bb : Bool} {r : Int × Int} {P : List PartV} {k : Nat} {x : PartV} (h : P[k]? = some x) (hc : canB bb r x = true) : canL bb r P (k + 1) = canL bb r P k ++ [x.name] := by
  unfold canL; rw [take_snocV h, List.filter_append, List.map_append]; simp [hc]
theorem canL_out {bb : Bool} {r : Int × Int} {P : List PartV} {k : Nat} {x : PartV} (h : P[k]? = some x) (hc : canB bb r x = false) : canL bb r P (k + 1) = canL bb r P k := by
  unfold canL; rw [take_snocV h, List.filter_append, List.map_append]; simp [hc]
theorem canL_len (bb : Bool) (r : Int × Int) (P : List PartV) (k : Nat) : (canL bb r P k).length ≤ k := by
  unfold canL
  rw [List.length_map]
  exact Nat.le_trans (List.length_filter_le _ _) (by rw [List.length_take]; omega)
/-- The names of the parts that somebody can sing at a moment. -/
def canOf (V : List VoiceV) (P : List PartV) (p : ByteArray) (t : Int) : List ByteArray := canL (rgS V t V.length p).isSome ((rgS V t V.length p).getD (0, 0)) P P.length
theorem Blk.grownG {b c : World} {g : Nat} {t : TypeId} {cs : Array Value} {r : Option Nat} (h : Blk b g t cs) (hg : b.grownBy c r) (hr : ∀ q, r = some q → q ≠ g) : Blk c g t cs := (hg.block g h.lt fun e => hr g e.symm rfl).trans h

set_option maxRecDepth 100000 in
set_option maxHeartbeats 3200000 in
theorem partsFor_any {w : World} {vp pp : Option Addr} {vc pc : Nat} {V : List VoiceV} {P : List PartV} (h : VpM w vp vc V pp pc P) (p : ByteArray) (t : Int) (hp : p.size ≤ 1000) :
    Calls Tryz.prog 43 #[.slice vp V.length vc, .slice pp P.length pc, .string p, .int .i64 t] w fun e w' => ∃ (q : Option Addr) (d : Nat), e = .returned (.slice q (canOf V P p t).length d) ∧ Slc 1 strC w' q (canOf V P p t).length d (canOf V P p t) ∧ Ext w w' := by
  have hro := rangeOf_any vp V.length vc V p t w h.voi.1 h.sV h.nV hp
  obtain ⟨hr1, hr2⟩ := rg_bounds h.sV t p
  have hpar := h.par
  have hsP := h.sP
  have hnP := h.nP
  have hco : canOf V P p t = canL (rgS V t V.length p).isSome ((rgS V t V.length p).getD (0, 0)) P P.length := rfl
  clear h
  generalize (rgS V t V.length p).getD (0, 0) = rr at *
  generalize (rgS V t V.length p).isSome = bb at *
  obtain ⟨ra, rb⟩ := rr
  simp only at hr1 hr2
  replace hro : Calls Tryz.prog 82 #[.slice vp V.length vc, .string p, .int .i64 t] w fun e w' => e = .returned (.tuple #[.agg #[.int .i64 ra, .int .i64 rb], .bool bb]) ∧ Ext w w' := hro
  replace hro := Lib.hid hro
  go_enter Tryz.func43, Tryz.ntmps43
  go_wp2_with (go_at_call 82; (with_reducible refine Calls.mono hro.out ?_); rintro e w1 ⟨rfl, hb1⟩)
  have hG : Blk (w1.alloc (.cells #[.int .i64 ra, .int .i64 rb] 55)) w1.heap.size 55 #[.int .i64 ra, .int .i64 rb] := Blk.new' rfl
  have hE1 : Ext w (w1.alloc (.cells #[.int .i64 ra, .int .i64 rb] 55)) := hb1.alloc _
  have hgR := hb1.size
  clear hro hb1
  generalize w1.alloc (.cells #[.int .i64 ra, .int .i64 rb] 55) = W1 at *
  generalize w1.heap.size = gR at *
  go_loopw [11, 23] (fun v11 v23 wr => ∃ (k : Nat) (v : Value), v23 = .int .i64 k ∧ v11 = v ∧ k ≤ P.length ∧ wr.ownsRow (gR + 1) 9 1 v (canL bb (ra, rb) P k).length ((canL bb (ra, rb) P k).flatMap strC) ∧ Blk wr gR 55 #[.int .i64 ra, .int .i64 rb] ∧ Ext w wr) (fun _ v23 _ => P.length - (intOf v23).toNat)
  case atStart => exact ⟨0, _, rfl, rfl, Nat.zero_le _, World.ownsRow_nil _ _ _ _, hG, hE1⟩
  case round =>
    clear hG hE1
    obtain ⟨k, v, rfl, rfl, hk, hown, hG, he⟩ := hrel
    by_cases hlt : k < P.length
    · obtain ⟨b, off, rfl, hb, hE⟩ := hpar.1.2.2 (by omega)
      obtain ⟨x, hx⟩ := getD_some (rfl : P.length = P.length) hlt
      have hbw := Nat.lt_of_lt_of_le hb he.size
      obtain ⟨c0, c1, c2, c3, c4⟩ := (hE.ext he hb).part hx
      obtain ⟨s1, ⟨s2, s3⟩, ⟨s4, s5⟩, s6, s7⟩ := hsP x (List.mem_of_getElem? hx)
      have he0 : Ext wr (wr.alloc (.cells #[.string x.name, .int .i64 x.lo, .int .i64 x.hi, .int .i64 x.least, .int .i64 x.most] 57)) := (Ext.refl _).alloc _
      have hX := Blk.new' (w := wr) (t := 57) (cs := #[.string x.name, .int .i64 x.lo, .int .i64 x.hi, .int .i64 x.least, .int .i64 x.most]) rfl
      have hown1 := own_ext he0 hown
      have hE1 := he.trans he0
      have hkI : (k : Int) < P.length := by omega
      have hnl := canL_len bb (ra, rb) P k
      have hsz := he.size
      have hcan : canB bb (ra, rb) x = (bb && decide (0 ≤ comF (ra, rb) (x.lo, x.hi))) := rfl
      have hin := fun h => canL_in (bb := bb) (r := (ra, rb)) hx h
      have hout := fun h => canL_out (bb := bb) (r := (ra, rb)) hx h
      have hcf : ∀ u, Calls Tryz.prog 37 #[.agg #[.int .i64 ra, .int .i64 rb], .agg #[.int .i64 x.lo, .int .i64 x.hi]] u fun e w' => e = .returned (.int .i64 (comF (ra, rb) (x.lo, x.hi))) ∧ Ext u w' := fun u => comfortOf_any (ra, rb) (x.lo, x.hi) u hr1 hr2 ⟨s2, s3⟩ ⟨s4, s5⟩
      generalize comF (ra, rb) (x.lo, x.hi) = cf at *
      generalize canL bb (ra, rb) P k = T at *
      have hlT : (T ++ [x.name]).length = T.length + 1 := by simp
      replace hx := Lib.hid hx
      replace hcf := Lib.hid hcf
      have hG1 := hG.ext he0
      obtain ⟨g1, -⟩ := hG.walk
      have gl := hG.lt
      clear hE hown
      cases bb
      · have hnx := hout (by rw [hcan]; rfl)
        replace hnx := Lib.hid hnx
        replace hown1 := Lib.hid hown1
        clear hin hout hcan hX
        go_wp2
        go_roundw
        case rel => exact ⟨k + 1, _, by go_num, rfl, by omega, by rw [hnx.out]; exact hown1.out, hG1, hE1⟩
        case measure => simp [intOf]; omega
      by_cases hc0 : 0 ≤ cf
      · have hnx := hin (by rw [hcan]; simp [hc0])
        replace hnx := Lib.hid hnx
        clear hin hout hcan
        go_wp2_with (first
          | (go_at_call 37; (with_reducible refine Calls.mono (hcf.out _) ?_); rintro e w2 ⟨rfl, hb2⟩; have hown2 := own_ext hb2 hown1; have hE2 := hE1.trans hb2; have hG2 := hG1.ext hb2; obtain ⟨q1, -⟩ := (hX.ext hb2).walk; have ql := (hX.ext hb2).lt; have hsz2 := hb2.size; (simp only [World.size_alloc] at hsz2); clear hown1 hE1 hG1)
          | (at_builtin; go_loud (refine wp_app1 _ (.tmp 35) (.tmp 38) 38 9 1 16 _ rfl rfl Tryz.underlying38 nmInfo rfl (by decide) (by decide) (gR + 1) _ T.length _ rfl (hown2.alloc _) w2.heap.size (strC x.name) rfl rfl (Blk.new' rfl) (by simp [strC, Value.oneCell']) (by omega) (by simp; omega) ?_; intro v' w6 hown6 hgrow6 _)))
        go_roundw
        case rel => exact ⟨k + 1, v', by go_num, rfl, by omega, by rw [hnx.out, flat_snoc, hlT]; exact hown6, (hG2.alloc _).grownG hgrow6 (fun q hq => by have := (hown2.lt q hq).1; omega), (hE2.alloc _).grown hgrow6 fun j e => by have := (hown2.lt j e).1; omega⟩
        case measure => simp [intOf]; omega
      · have hnx := hout (by rw [hcan]; simp [hc0])
        replace hnx := Lib.hid hnx
        replace hown1 := Lib.hid hown1
        clear hin hout hcan
        go_wp2_with (go_at_call 37; (with_reducible refine Calls.mono (hcf.out _) ?_); rintro e w2 ⟨rfl, hb2⟩)
        go_roundw
        case rel => exact ⟨k + 1, _, by go_num, rfl, by omega, by rw [hnx.out]; exact own_ext hb2 hown1.out, hG1.ext hb2, hE1.trans hb2⟩
        case measure => simp [intOf]; omega
    · obtain rfl : k = P.length := by omega
      obtain ⟨q, d, rfl, hSl⟩ := slc_of_own (enc := strC) (fun _ => rfl) hown (by decide) (by have := canL_len bb (ra, rb) P P.length; omega)
      replace hown := Lib.hid hown
      replace hSl := Lib.hid hSl
      replace hco := Lib.hid hco
      go_wp2
      go_ret
      exact ⟨q, d, by rw [hco.out]; rfl, by rw [hco.out]; exact hSl.out, he⟩
end Go.Proofs.YtjfmpgohkjoneaaGreatDoor
