/- The parts that a singer can sing, and parts that are higher, by the program's text; parts that are higher by the document's. Conditions: sizes. -/
import Derived.Test.YtjfmpgohkjoneaaGreatDoorPsVoI
import Derived.Test.YtjfmpgohkjoneaaGreatDoorPsVoF
set_option linter.unusedSimpArgs false
set_option linter.unusedVariables false
namespace Go.Proofs.YtjfmpgohkjoneaaGreatDoor
open Go Go.RowKit

/-- What is wrong with voices, parts, a singer and a moment. -/
def bothF (V : List VoiceV) (P : List PartV) : Int := if voicesF V = 0 then partsF P else voicesF V
def singF (p : ByteArray) (t : Int) : Int := if keyB p then (if momB t then 0 else 1) else 5
section
variable {w : World} {vp pp : Option Addr} {vc pc : Nat} {V : List VoiceV} {P : List PartV}
set_option maxRecDepth 100000 in
set_option maxHeartbeats 1600000 in
theorem parts_bad (h : VpM w vp vc V pp pc P) (p : ByteArray) (t : Int) (hp : p.size ≤ 1000) (hz : (if bothF V P = 0 then singF p t else bothF V P) ≠ 0) :
    Calls Tryz.prog 41 #[.slice vp V.length vc, .slice pp P.length pc, .string p, .int .i64 t] w fun e w' => e = .returned (.tuple #[.slice none 0 0, .int .i64 (if bothF V P = 0 then singF p t else bothF V P)]) ∧ Ext w w' := by
  have hbo : Calls Tryz.prog 57 #[.slice vp V.length vc, .slice pp P.length pc] w fun e w' => e = .returned (.int .i64 (bothF V P)) ∧ Ext w w' := bothFault_any h
  have hsi : ∀ u g ty cap, Blk u g ty #[.int .i64 t] → Calls Tryz.prog 85 #[.string p, .slice (some ⟨g, 0, none⟩) 1 cap] u fun e w' => e = .returned (.int .i64 (singF p t)) ∧ Ext u w' := fun u g ty cap hB => singerFault1_any p t g ty cap u hp hB
  generalize bothF V P = f1 at *
  generalize singF p t = f2 at *
  replace hsi := Lib.hid hsi
  replace hbo := Lib.hid hbo
  clear h
  by_cases h1 : f1 = 0
  · subst h1
    rw [if_pos rfl] at hz ⊢
    go_enter Tryz.func41, Tryz.ntmps41
    go_wp2_with (first
      | (go_at_call 57; (with_reducible refine Calls.mono hbo.out ?_); rintro e w1 ⟨rfl, hb1⟩)
      | (go_at_call 85; (with_reducible refine Calls.mono (hsi.out _ _ _ _ (by exact Blk.new' rfl)) ?_); rintro e w2 ⟨rfl, hb2⟩; have hE2 := (hb1.alloc _).trans hb2))
    go_ret2
    exact ⟨rfl, hE2⟩
  · rw [if_neg h1]
    go_enter Tryz.func41, Tryz.ntmps41
    go_wp2_with (go_at_call 57; (with_reducible refine Calls.mono hbo.out ?_); rintro e w1 ⟨rfl, hb1⟩)
    go_ret2
    exact ⟨rfl, hb1⟩
end

set_option maxRecDepth 100000 in
set_option maxHeartbeats 3200000 in
theorem parts_good {w : World} {vp pp : Option Addr} {vc pc : Nat} {V : List VoiceV} {P : List PartV} (h : VpM w vp vc V pp pc P) (p : ByteArray) (t : Int) (hp : p.size ≤ 1000) (hz1 : bothF V P = 0) (hz2 : singF p t = 0) :
    Calls Tryz.prog 41 #[.slice vp V.length vc, .slice pp P.length pc, .string p, .int .i64 t] w fun e w' => ∃ (q : Option Addr) (d : Nat), e = .returned (.tuple #[.slice q (canOf V P p t).length d, .int .i64 0]) ∧ Slc 1 strC w' q (canOf V P p t).length d (canOf V P p t) ∧ Ext w w' := by
  have hbo : Calls Tryz.prog 57 #[.slice vp V.length vc, .slice pp P.length pc] w fun e w' => e = .returned (.int .i64 (bothF V P)) ∧ Ext w w' := bothFault_any h
  have hsi : ∀ u g ty cap, Blk u g ty #[.int .i64 t] → Calls Tryz.prog 85 #[.string p, .slice (some ⟨g, 0, none⟩) 1 cap] u fun e w' => e = .returned (.int .i64 (singF p t)) ∧ Ext u w' := fun u g ty cap hB => singerFault1_any p t g ty cap u hp hB
  rw [hz1] at hbo
  rw [hz2] at hsi
  have hra := fun u (hu : Ext w u) => rangesAt_any vp V.length vc V t u (h.voi.ext hu).1 h.sV h.nV
  obtain ⟨hr1, hr2⟩ := rg_bounds h.sV t p
  have hpar := h.par
  have hsP := h.sP
  have hnP := h.nP
  have hco : canOf V P p t = canL (rgS V t V.length p).isSome ((rgS V t V.length p).getD (0, 0)) P P.length := rfl
  clear h hz1 hz2
  generalize hrr : (rgS V t V.length p).getD (0, 0) = rr at *
  generalize hbb : (rgS V t V.length p).isSome = bb at *
  obtain ⟨ra, rb⟩ := rr
  simp only at hr1 hr2
  replace hbo := Lib.hid hbo
  replace hsi := Lib.hid hsi
  replace hra := Lib.hid hra
  replace hrr := Lib.hid hrr
  replace hbb := Lib.hid hbb
  go_enter Tryz.func41, Tryz.ntmps41
  go_wp2_with (first
    | (go_at_call 57; (with_reducible refine Calls.mono hbo.out ?_); rintro e w1 ⟨rfl, hb1⟩)
    | (go_at_call 85; (with_reducible refine Calls.mono (hsi.out _ _ _ _ (by exact Blk.new' rfl)) ?_); rintro e w2 ⟨rfl, hb2⟩; have hE2 := (hb1.alloc _).trans hb2)
    | (go_at_call 78; (with_reducible refine Calls.mono (hra.out _ hE2) ?_); rintro e w3 ⟨gm, rfl, hgm, hOR, hb3⟩; have hlk := hOR.look_ok hp; rw [hrr.out, hbb.out] at hlk; replace hlk := Lib.hid hlk; have hE3 := hE2.trans hb3)
    | (refine wpList_lookV rfl _ _ 115 true rfl (.map (some gm)) (.string p) _ rfl rfl hlk.out ?_; go_loud (unfold rngV)))
  have hG : Blk (w3.alloc (.cells #[.int .i64 ra, .int .i64 rb] 55)) w3.heap.size 55 #[.int .i64 ra, .int .i64 rb] := Blk.new' rfl
  have hE1 : Ext w (w3.alloc (.cells #[.int .i64 ra, .int .i64 rb] 55)) := hE3.alloc _
  have hgR := hE3.size
  clear hbo hsi hra hb1 hb2 hb3 hE2 hE3 hlk hOR hgm hrr hbb
  generalize w3.alloc (.cells #[.int .i64 ra, .int .i64 rb] 55) = W1 at *
  generalize w3.heap.size = gR at *
  go_loopw [14, 40] (fun v14 v40 wr => ∃ (k : Nat) (v : Value), v40 = .int .i64 k ∧ v14 = v ∧ k ≤ P.length ∧ wr.ownsRow (gR + 1) 9 1 v (canL bb (ra, rb) P k).length ((canL bb (ra, rb) P k).flatMap strC) ∧ Blk wr gR 55 #[.int .i64 ra, .int .i64 rb] ∧ Ext w wr) (fun _ v40 _ => P.length - (intOf v40).toNat)
  case atStart => exact ⟨0, _, rfl, rfl, Nat.zero_le _, World.ownsRow_nil _ _ _ _, hG, hE1⟩
  case round =>
    clear hG hE1
    obtain ⟨k, v, rfl, rfl, hk, hown, hG, he⟩ := hrel
    by_cases hlt : k < P.length
    · obtain ⟨b, off, rfl, hb, hE⟩ := hpar.1.2.2 (by omega)
      obtain ⟨x, hx⟩ := getD_some (rfl : P.length = P.length) hlt
      have hbw := Nat.lt_of_lt_of_le hb he.size
      obtain ⟨c0, c1, c2, c3, c4⟩ := (hE.ext he hb).part hx
      obtain ⟨s1, ⟨s2, s3⟩, ⟨s4, s5⟩, s6, s7⟩ := hsP x (List.mem_of_getElem? hx)
      have he0 : Ext wr (wr.alloc (.cells #[.string x.name, .int .i64 x.lo, .int .i64 x.hi, .int .i64 x.least, .int .i64 x.most] 57)) := (Ext.refl _).alloc _
      have hX := Blk.new' (w := wr) (t := 57) (cs := #[.string x.name, .int .i64 x.lo, .int .i64 x.hi, .int .i64 x.least, .int .i64 x.most]) rfl
      have hown1 := own_ext he0 hown
      have hE1 := he.trans he0
      have hkI : (k : Int) < P.length := by omega
      have hnl := canL_len bb (ra, rb) P k
      have hsz := he.size
      have hcan : canB bb (ra, rb) x = (bb && decide (0 ≤ comF (ra, rb) (x.lo, x.hi))) := rfl
      have hin := fun h => canL_in (bb := bb) (r := (ra, rb)) hx h
      have hout := fun h => canL_out (bb := bb) (r := (ra, rb)) hx h
      have hcf : ∀ u, Calls Tryz.prog 75 #[.agg #[.int .i64 ra, .int .i64 rb], .agg #[.int .i64 x.lo, .int .i64 x.hi]] u fun e w' => e = .returned (.int .i64 (comF (ra, rb) (x.lo, x.hi))) ∧ Ext u w' := fun u => comfortV_any (ra, rb) (x.lo, x.hi) u hr1 hr2 ⟨s2, s3⟩ ⟨s4, s5⟩
      generalize comF (ra, rb) (x.lo, x.hi) = cf at *
      generalize canL bb (ra, rb) P k = T at *
      have hlT : (T ++ [x.name]).length = T.length + 1 := by simp
      replace hx := Lib.hid hx
      replace hcf := Lib.hid hcf
      have hG1 := hG.ext he0
      obtain ⟨g1, -⟩ := hG.walk
      have gl := hG.lt
      clear hE hown
      cases bb
      · have hnx := hout (by rw [hcan]; rfl)
        replace hnx := Lib.hid hnx
        replace hown1 := Lib.hid hown1
        clear hin hout hcan hX
        go_wp2
        go_roundw
        case rel => exact ⟨k + 1, _, by go_num, rfl, by omega, by rw [hnx.out]; exact hown1.out, hG1, hE1⟩
        case measure => simp [intOf]; omega
      by_cases hc0 : 0 ≤ cf
      · have hnx := hin (by rw [hcan]; simp [hc0])
        replace hnx := Lib.hid hnx
        clear hin hout hcan
        go_wp2_with (first
          | (go_at_call 75; (with_reducible refine Calls.mono (hcf.out _) ?_); rintro e w2 ⟨rfl, hb2⟩; have hown2 := own_ext hb2 hown1; have hE2 := hE1.trans hb2; have hG2 := hG1.ext hb2; obtain ⟨q1, -⟩ := (hX.ext hb2).walk; have ql := (hX.ext hb2).lt; have hsz2 := hb2.size; (simp only [World.size_alloc] at hsz2); clear hown1 hE1 hG1)
          | (at_builtin; go_loud (refine wp_app1 _ (.tmp 52) (.tmp 55) 38 9 1 16 _ rfl rfl Tryz.underlying38 nmInfo rfl (by decide) (by decide) (gR + 1) _ T.length _ rfl (hown2.alloc _) w2.heap.size (strC x.name) rfl rfl (Blk.new' rfl) (by simp [strC, Value.oneCell']) (by omega) (by simp; omega) ?_; intro v' w6 hown6 hgrow6 _)))
        go_roundw
        case rel => exact ⟨k + 1, v', by go_num, rfl, by omega, by rw [hnx.out, flat_snoc, hlT]; exact hown6, (hG2.alloc _).grownG hgrow6 (fun q hq => by have := (hown2.lt q hq).1; omega), (hE2.alloc _).grown hgrow6 fun j e => by have := (hown2.lt j e).1; omega⟩
        case measure => simp [intOf]; omega
      · have hnx := hout (by rw [hcan]; simp [hc0])
        replace hnx := Lib.hid hnx
        replace hown1 := Lib.hid hown1
        clear hin hout hcan
        go_wp2_with (go_at_call 75; (with_reducible refine Calls.mono (hcf.out _) ?_); rintro e w2 ⟨rfl, hb2⟩)
        go_roundw
        case rel => exact ⟨k + 1, _, by go_num, rfl, by omega, by rw [hnx.out]; exact own_ext hb2 hown1.out, hG1.ext hb2, hE1.trans hb2⟩
        case measure => simp [intOf]; omega
    · obtain rfl : k = P.length := by omega
      obtain ⟨q, d, rfl, hSl⟩ := slc_of_own (enc := strC) (fun _ => rfl) hown (by decide) (by have := canL_len bb (ra, rb) P P.length; omega)
      replace hown := Lib.hid hown
      replace hSl := Lib.hid hSl
      replace hco := Lib.hid hco
      go_wp2
      go_ret2
      exact ⟨q, d, by rw [hco.out]; rfl, by rw [hco.out]; exact hSl.out, he⟩

/-- Whether parts can be so much higher. -/
def shB (P : List PartV) (d : Int) : Bool := inB d (-127) 127 && okUp P d
set_option maxRecDepth 100000 in
set_option maxHeartbeats 1600000 in
theorem shiftedV_any (p : Option Addr) (n c : Nat) (P : List PartV) (d : Int) (w : World) (h : Slc 5 partC w p n c P) (hn : n ≤ 1000) (hs : ∀ x ∈ P, x.Small) (hd : -1000 ≤ d ∧ d ≤ 1000) :
    Calls Tryz.prog 26 #[.slice p n c, .int .i64 d] w fun e w' => ∃ v : Value, e = .returned (.tuple #[v, .int .i64 (if partsF P = 0 then (if shB P d then 0 else 1) else partsF P)]) ∧
      (partsF P = 0 ∧ shB P d = true → w'.ownsRow w.heap.size 57 5 v n ((P.map (PartV.up · d)).flatMap partC)) ∧ (¬ (partsF P = 0 ∧ shB P d = true) → v = .slice none 0 0) ∧ Ext w w' := by
  have hchk := fun W (hW : Ext w W) => checkParts_any p n c P W (h.1.ext hW) hs hn h.2.1
  have hsh := fun W (hW : Ext w W) => shifted_any p n c P d W (h.ext hW) hn hs hd
  have hO : outB d (-127) 127 = !inB d (-127) 127 := outB_inB _ _ _
  have hou := fun u => outside_any d (-127) 127 u
  rw [hO] at hou
  clear hO
  have hsB : shB P d = (inB d (-127) 127 && okUp P d) := rfl
  clear h hs
  generalize partsF P = f at *
  by_cases hf : f = 0
  rotate_left
  · rw [if_neg hf]
    replace hchk := Lib.hid hchk
    go_enter Tryz.func26, Tryz.ntmps26
    go_wp2_with (go_at_call 34; (with_reducible refine Calls.mono (hchk.out _ (by exact Ext.refl _)) ?_); rintro e w1 ⟨rfl, hb1⟩)
    go_ret2
    exact ⟨_, rfl, fun h => absurd h.1 hf, fun _ => rfl, hb1⟩
  subst hf
  rw [if_pos rfl]
  cases hi : inB d (-127) 127
  · rw [hi] at hou hsB
    rw [hsB]
    simp only [Bool.false_and, Bool.false_eq_true, and_false, if_false, not_false_eq_true]
    replace hchk := Lib.hid hchk
    replace hou := Lib.hid hou
    clear hsB hi
    go_enter Tryz.func26, Tryz.ntmps26
    go_wp2_with (first
      | (go_at_call 34; (with_reducible refine Calls.mono (hchk.out _ (by exact Ext.refl _)) ?_); rintro e w1 ⟨rfl, hb1⟩)
      | (go_at_call 68; (with_reducible refine Calls.mono (hou.out _) ?_); rintro e w' ⟨rfl, rfl⟩))
    go_ret2
    exact ⟨_, rfl, (fun h => h.elim), fun _ => rfl, hb1⟩
  · rw [hi] at hou hsB
    rw [hsB]
    cases hok : okUp P d
    all_goals
      rw [hok] at hsh
      simp only [Bool.and_false, Bool.and_self, Bool.false_eq_true, and_false, if_false, if_true, not_false_eq_true, and_self, not_true_eq_false]
      replace hchk := Lib.hid hchk
      replace hou := Lib.hid hou
      replace hsh := Lib.hid hsh
      go_enter Tryz.func26, Tryz.ntmps26
      go_wp2_with (first
        | (go_at_call 34; (with_reducible refine Calls.mono (hchk.out _ (by exact Ext.refl _)) ?_); rintro e w1 ⟨rfl, hb1⟩)
        | (go_at_call 68; (with_reducible refine Calls.mono (hou.out _) ?_); rintro e w' ⟨rfl, rfl⟩)
        | (go_at_call 65; (with_reducible refine Calls.mono (hsh.out _ (by exact hb1)) ?_); rintro e w2 ⟨v, rfl, hv0, hv, hb2⟩; replace hv := Lib.hid hv; replace hv0 := Lib.hid hv0))
      go_ret2
      first
        | exact ⟨_, rfl, (fun h => h.elim), fun _ => rfl, hb1.trans hb2⟩
        | exact ⟨v, rfl, fun _ => own_lowV (hv.out trivial) hb1.size, (fun h => h.elim), hb1.trans hb2⟩
end Go.Proofs.YtjfmpgohkjoneaaGreatDoor
