/- Voices that the stream makes, told exactly. Conditions: as each theorem says. -/
import Derived.Test.YtboplnogfjmpnaaGreatDoorVkJ24
import Derived.Test.YtboplnogfjmpnaaGreatDoorVkDetA
import Derived.Test.YtboplnogfjmpnaaGreatDoorVkJ7
import Derived.Test.YtboplnogfjmpnaaGreatDoorVkJ5
set_option linter.unusedSimpArgs false
set_option linter.unusedVariables false
namespace Go.Proofs.YtboplnogfjmpnaaGreatDoor
open Go Go.RowKit

theorem voiInfo : (Tryz.prog.info? 37).map (fun i => (i.zero, i.size, i.bytes)) = some (some (.agg #[.string ⟨#[]⟩, .int .i64 0, .int .i64 0, .int .i64 0]), 4, 40) := by kernel_rfl
theorem voi_mod4 {w : World} {base g n cap : Nat} {xs : List VoiceV} (h : w.ownsRow base 37 4 (.slice (some ⟨g, 0, none⟩) n cap) n (xs.flatMap voiC)) {i : Nat} {x : VoiceV} (hx : xs[i]? = some x) (nm : ByteArray) (fr lo hi : Int) :
    ((((w.setCell ⟨g, i * 4, none⟩ (.string nm)).setCell ⟨g, i * 4 + 1, none⟩ (.int .i64 fr)).setCell ⟨g, i * 4 + 2, none⟩ (.int .i64 lo)).setCell ⟨g, i * 4 + 3, none⟩ (.int .i64 hi)).ownsRow base 37 4 (.slice (some ⟨g, 0, none⟩) n cap) n ((xs.set i ⟨nm, fr, lo, hi⟩).flatMap voiC) := by
  have hil := (List.getElem?_eq_some_iff.1 hx).1
  have hs : ∀ y : VoiceV, (xs.set i y)[i]? = some y := fun y => List.getElem?_set_self hil
  have h1 := own_set1 voiC_len h ⟨nm, x.fr, x.lo, x.hi⟩ hx 0 (by decide) (.string nm) rfl
  have h2 := own_set1 voiC_len h1 ⟨nm, fr, x.lo, x.hi⟩ (hs _) 1 (by decide) (.int .i64 fr) rfl
  rw [List.set_set] at h2
  have h3 := own_set1 voiC_len h2 ⟨nm, fr, lo, x.hi⟩ (hs _) 2 (by decide) (.int .i64 lo) rfl
  rw [List.set_set] at h3
  have h4 := own_set1 voiC_len h3 ⟨nm, fr, lo, hi⟩ (hs _) 3 (by decide) (.int .i64 _) rfl
  rw [List.set_set] at h4
  exact h4

def nm5 : List ByteArray := [⟨#[97, 110, 110]⟩, ⟨#[98, 101, 97]⟩, ⟨#[99, 105, 100]⟩, ⟨#[100, 97, 110]⟩, ⟨#[101, 118, 101]⟩]
def vrAt (L : Src) (a : Nat) (at0 : Int) : Nat → Int
  | 0 => at0
  | t + 1 => vrAt L a at0 t + pkF L (a + 3 * t + 2) [1, 50, 100]
def vrOne (L : Src) (nm : ByteArray) (a : Nat) (at0 : Int) (t : Nat) : VoiceV := ⟨nm, vrAt L a at0 t, pkF L (a + 3 * t) [40, 45, 48, 48, 50], pkF L (a + 3 * t) [40, 45, 48, 48, 50] + pkF L (a + 3 * t + 1) [10, 15, 19, 19, 24]⟩
def vrIn (L : Src) (nm : ByteArray) (a : Nat) (at0 : Int) (m : Nat) : List VoiceV := (List.range m).map (vrOne L nm a at0)
theorem vrIn_succ (L : Src) (nm : ByteArray) (a : Nat) (at0 : Int) (m : Nat) : vrIn L nm a at0 (m + 1) = vrIn L nm a at0 m ++ [vrOne L nm a at0 m] := by simp [vrIn, List.range_succ]
def vrOut (L : Src) (a : Nat) : Nat → List VoiceV × Nat
  | 0 => ([], a)
  | j + 1 => ((vrOut L a j).1 ++ vrIn L (nm5.getD j ⟨#[]⟩) ((vrOut L a j).2 + 2) (pkF L (vrOut L a j).2 [0, 0, 50]) (pkF L ((vrOut L a j).2 + 1) [1, 1, 2]).toNat, (vrOut L a j).2 + 2 + 3 * (pkF L ((vrOut L a j).2 + 1) [1, 1, 2]).toNat)
theorem vrOut_succ {L : Src} {a j p m : Nat} {l : List VoiceV} (h : vrOut L a j = (l, p)) (hm : pkF L (p + 1) [1, 1, 2] = m) : vrOut L a (j + 1) = (l ++ vrIn L (nm5.getD j ⟨#[]⟩) (p + 2) (pkF L p [0, 0, 50]) m, p + 2 + 3 * m) := by
  show ((vrOut L a j).1 ++ vrIn L (nm5.getD j ⟨#[]⟩) ((vrOut L a j).2 + 2) (pkF L (vrOut L a j).2 [0, 0, 50]) (pkF L ((vrOut L a j).2 + 1) [1, 1, 2]).toNat, (vrOut L a j).2 + 2 + 3 * (pkF L ((vrOut L a j).2 + 1) [1, 1, 2]).toNat) = _
  rw [h]
  simp only [hm, Int.toNat_natCast]
def vrF (L : Src) (a most : Nat) : List VoiceV × Nat :=
  let st := vrOut L (a + 1) (rgF L a 0 most).toNat
  if st.1.length = 0 then (st.1, st.2) else if flF L st.2 12 then
    let i := nxF L (st.2 + 1) st.1.length
    let x := st.1.getD i default
    (st.1.set i ⟨smF L (st.2 + 2) [x.name, ⟨#[]⟩, ⟨#[97, 110, 110]⟩], pkF L (st.2 + 3) [x.fr, -1, 0], pkF L (st.2 + 4) [x.lo, -1], pkF L (st.2 + 5) [x.hi, 39, 127, 128]⟩, st.2 + 6)
  else (st.1, st.2 + 1)
theorem vrF_none {L : Src} {a most r p : Nat} {l : List VoiceV} (hr : rgF L a 0 most = r) (h : vrOut L (a + 1) r = (l, p)) (h0 : l.length = 0) : vrF L a most = (l, p) := by
  unfold vrF; rw [hr, Int.toNat_natCast, h]; simp only; rw [if_pos h0]
theorem vrF_keep {L : Src} {a most r p : Nat} {l : List VoiceV} (hr : rgF L a 0 most = r) (h : vrOut L (a + 1) r = (l, p)) (h0 : 0 < l.length) (hf : flF L p 12 = false) : vrF L a most = (l, p + 1) := by
  unfold vrF; rw [hr, Int.toNat_natCast, h]; simp only; rw [if_neg (by omega), hf]; rfl
theorem vrF_mod {L : Src} {a most r p i : Nat} {l : List VoiceV} {x : VoiceV} (hr : rgF L a 0 most = r) (h : vrOut L (a + 1) r = (l, p)) (h0 : 0 < l.length) (hf : flF L p 12 = true) (hi : nxF L (p + 1) l.length = i) (hx : l[i]? = some x) :
    vrF L a most = (l.set i ⟨smF L (p + 2) [x.name, ⟨#[]⟩, ⟨#[97, 110, 110]⟩], pkF L (p + 3) [x.fr, -1, 0], pkF L (p + 4) [x.lo, -1], pkF L (p + 5) [x.hi, 39, 127, 128]⟩, p + 6) := by
  unfold vrF; rw [hr, Int.toNat_natCast, h]; simp only; rw [if_neg (by omega), if_pos hf, hi, List.getD_eq_getElem?_getD, hx]; rfl

def namesBlk : Array Value := #[.string ⟨#[97, 110, 110]⟩, .string ⟨#[98, 101, 97]⟩, .string ⟨#[99, 105, 100]⟩, .string ⟨#[100, 97, 110]⟩, .string ⟨#[101, 118, 101]⟩]
/-- What the makers of voices answer. -/
def VoiR (F : List VoiceV × Nat) (s k d : Nat) (L : Src) (w : World) (e : Ending) (w' : World) : Prop :=
  ∃ (p : Option Addr) (n c : Nat) (V : List VoiceV) (k' : Nat), e = .returned (.slice p n c) ∧ n ≤ 10 ∧ w'.ownsRow (w.heap.size + d) 37 4 (.slice p n c) n (V.flatMap voiC) ∧ V.length = n ∧ (∀ x ∈ V, x.Small) ∧ F = (V, k') ∧ k' ≤ k + 60 ∧ StrL w' s L k' ∧ ExtS s w w'

set_option maxRecDepth 100000 in
set_option maxHeartbeats 6400000 in
theorem voiceRows_det (s k most : Nat) (L : Src) (w : World) (hk : k ≤ 990000) (hmo : most ≤ 5) (h : StrL w s L k) :
    Calls Tryz.prog 11 #[.pointer (some ⟨s, 0, none⟩), .int .i64 most] w (VoiR (vrF L k most) s k 1 L w) := by
  have l0 := h.lt
  have hv01 := rgF_in (L := L) (a := k) (lo := 0) (hi := most) (by omega)
  obtain ⟨r, hr⟩ : ∃ m : Nat, rgF L k 0 most = m := ⟨(rgF L k 0 most).toNat, by omega⟩
  have hS0 : StrL (w.alloc (.cells namesBlk 9)) s L k := h.ext ((Ext.refl _).alloc _)
  have hrg := range_det s k 0 most L _ (by omega) (by omega) (by omega) (by omega) (by omega) hS0
  rw [hr] at hv01 hrg
  obtain ⟨hv0, hv1⟩ := hv01
  unfold namesBlk at hrg
  replace hrg := Lib.hid hrg
  replace hr := Lib.hid hr
  clear hS0
  go_enter Tryz.func11, Tryz.ntmps11
  go_upto_region 3 with (go_at_call 42; (with_reducible refine Calls.mono hrg.out ?_); rintro e w1 ⟨rfl, hS1, hE1⟩)
  have hN : Blk w1 w.heap.size 9 namesBlk := Blk.extS (Blk.new' rfl) (by omega) hE1
  have hE2 : ExtS s w w1 := ((ExtS.refl s w).alloc _).trans hE1
  clear h hE1 hrg
  go_loopw [5, 17] (fun v5 v17 wr => ∃ (j p : Nat) (V : List VoiceV) (v : Value), j ≤ r ∧ v17 = .int .i64 j ∧ v5 = v ∧ wr.ownsRow (w.heap.size + 1) 37 4 v V.length (V.flatMap voiC) ∧ (∀ x ∈ V, x.Small) ∧ V.length ≤ 2 * j ∧ vrOut L (k + 1) j = (V, p) ∧ p ≤ k + 1 + 8 * j ∧ Blk wr w.heap.size 9 namesBlk ∧ StrL wr s L p ∧ ExtS s w wr) (fun _ v17 _ => r - (intOf v17).toNat)
  case atStart => exact ⟨0, k + 1, [], _, Nat.zero_le _, rfl, rfl, World.ownsRow_nil _ _ _ _, (fun x hx => by cases hx), by simp, rfl, by omega, hN, hS1, hE2⟩
  case round =>
    clear hN hS1 hE2
    obtain ⟨j, p, V, v, hj, rfl, rfl, hown, hf, hVl, hout, hp, hN, hS, hE⟩ := hrel
    replace hout := Lib.hid hout
    by_cases hlt : j < r
    · obtain ⟨nm, hnm⟩ : ∃ nm, nm5.getD j ⟨#[]⟩ = nm := ⟨_, rfl⟩
      have hns : nm.size ≤ 1000 ∧ wr.cell? ⟨w.heap.size, j, none⟩ = some (.string nm) := by
        have h3 : j = 0 ∨ j = 1 ∨ j = 2 ∨ j = 3 ∨ j = 4 := by omega
        rcases h3 with rfl | rfl | rfl | rfl | rfl <;> subst hnm
        · exact ⟨by decide, hN.cell 0⟩
        · exact ⟨by decide, hN.cell 1⟩
        · exact ⟨by decide, hN.cell 2⟩
        · exact ⟨by decide, hN.cell 3⟩
        · exact ⟨by decide, hN.cell 4⟩
      obtain ⟨hns, hcell⟩ := hns
      obtain ⟨at0, hat0⟩ : ∃ v, pkF L p [0, 0, 50] = v := ⟨_, rfl⟩
      have hab := pkF_in (L := L) (a := p) (xs := [0, 0, 50]) (lo := 0) (hi := 50) (by simp) (by decide)
      rw [hat0] at hab
      have hmb := pkF_in (L := L) (a := p + 1) (xs := [1, 1, 2]) (lo := 1) (hi := 2) (by simp) (by decide)
      obtain ⟨m, hm⟩ : ∃ m : Nat, pkF L (p + 1) [1, 1, 2] = m := ⟨(pkF L (p + 1) [1, 1, 2]).toNat, by omega⟩
      rw [hm] at hmb
      obtain ⟨hm1, hm2⟩ := hmb
      have hsuc := vrOut_succ hout.out hm
      rw [hnm, hat0] at hsuc
      replace hsuc := Lib.hid hsuc
      replace hnm := Lib.hid hnm
      replace hf := Lib.hid hf
      have hNl := hN.lt
      have hsz0 := hE.2.2.2.1
      have hjI : (j : Int) < r := by omega
      have hj5 : (j : Int) < 5 := by omega
      go_wp2_with (first
        | (go_at_call 37; have l1 := hS.lt; refine (pick_det s p _ _ 3 [0, 0, 50] L _ (by omega) (by simp) (by simp) (by exact hS.ext (Ext.alloc (Ext.refl _) _)) (by exact Nat.ne_of_gt l1) (by exact Blk.new' rfl)).mono ?_; rintro e w2 ⟨rfl, hS2, hE2⟩; rw [hat0]; have hE2' := (hE.alloc _).trans hE2; have ho2 := own_extS hE2 (by omega) (hown.alloc _); have hN2 := (hN.alloc _).extS (by omega) hE2; clear hS hE hE2 hown hN)
        | (go_at_call 37; have l2 := hS2.lt; refine (pick_det s (p + 1) _ _ 3 [1, 1, 2] L _ (by omega) (by simp) (by simp) (by exact hS2.ext (Ext.alloc (Ext.refl _) _)) (by exact Nat.ne_of_gt l2) (by exact Blk.new' rfl)).mono ?_; rintro e w3 ⟨rfl, hS3, hE3⟩; rw [hm]; have hE3' := (hE2'.alloc _).trans hE3; have ho3 := own_extS hE3 (by omega) (ho2.alloc _); have hN3 := (hN2.alloc _).extS (by omega) hE3; clear hS2 hE2' hE3 ho2 hN2))
      clear hcell hNl hsz0
      go_loopw [5, 8, 27] (fun v5 v8 v27 wq => ∃ (t : Nat) (v : Value) (T : List VoiceV) (at1 : Int), t ≤ m ∧ v27 = .int .i64 t ∧ v5 = v ∧ v8 = .int .i64 at1 ∧ at1 = vrAt L (p + 2) at0 t ∧ T = V ++ vrIn L nm (p + 2) at0 t ∧ T.length = V.length + t ∧ wq.ownsRow (w.heap.size + 1) 37 4 v T.length (T.flatMap voiC) ∧ (∀ x ∈ T, x.Small) ∧ 0 ≤ at1 ∧ at1 ≤ 50 + 100 * t ∧ Blk wq w.heap.size 9 namesBlk ∧ StrL wq s L (p + 2 + 3 * t) ∧ ExtS s w wq) (fun _ _ v27 _ => m - (intOf v27).toNat)
      case atStart => exact ⟨0, _, V, at0, Nat.zero_le _, rfl, rfl, rfl, rfl, by simp [vrIn], rfl, ho3, hf.out, hab.1, by omega, hN3, hS3, hE3'⟩
      case round =>
        clear ho3 hN3 hS3 hE3'
        obtain ⟨t, v, T, at1, ht, rfl, rfl, rfl, hat, hT, hTl, hown, hfT, ha0, ha1, hN, hS, hE⟩ := hrel
        replace hat := Lib.hid hat
        replace hT := Lib.hid hT
        replace hfT := Lib.hid hfT
        by_cases hlt2 : t < m
        · obtain ⟨low, hlow⟩ : ∃ v, pkF L (p + 2 + 3 * t) [40, 45, 48, 48, 50] = v := ⟨_, rfl⟩
          have hlb := pkF_in (L := L) (a := p + 2 + 3 * t) (xs := [40, 45, 48, 48, 50]) (lo := 40) (hi := 50) (by simp) (by decide)
          rw [hlow] at hlb
          obtain ⟨up, hup⟩ : ∃ v, pkF L (p + 2 + 3 * t + 1) [10, 15, 19, 19, 24] = v := ⟨_, rfl⟩
          have hub := pkF_in (L := L) (a := p + 2 + 3 * t + 1) (xs := [10, 15, 19, 19, 24]) (lo := 10) (hi := 24) (by simp) (by decide)
          rw [hup] at hub
          obtain ⟨st, hst⟩ : ∃ v, pkF L (p + 2 + 3 * t + 2) [1, 50, 100] = v := ⟨_, rfl⟩
          have hsb := pkF_in (L := L) (a := p + 2 + 3 * t + 2) (xs := [1, 50, 100]) (lo := 1) (hi := 100) (by simp) (by decide)
          rw [hst] at hsb
          have hone : vrOne L nm (p + 2) at0 t = ⟨nm, at1, low, low + up⟩ := by unfold vrOne; rw [hlow, hup, ← hat.out]
          have hats : vrAt L (p + 2) at0 (t + 1) = at1 + st := by show vrAt L (p + 2) at0 t + _ = _; rw [← hat.out, hst]
          have hw1 : IntKind.i64.wrap (low + up) = low + up := IntWalk.i64_in _ (by omega)
          have hw2 : IntKind.i64.wrap (at1 + st) = at1 + st := IntWalk.i64_in _ (by omega)
          replace hone := Lib.hid hone
          replace hats := Lib.hid hats
          have hNl := hN.lt
          have hsz0 := hE.2.2.2.1
          go_wp2_with (first
            | (go_at_call 37; have l1 := hS.lt; refine (pick_det s (p + 2 + 3 * t) _ _ 5 [40, 45, 48, 48, 50] L _ (by omega) (by simp) (by simp) (by exact hS.ext (Ext.alloc (Ext.refl _) _)) (by exact Nat.ne_of_gt l1) (by exact Blk.new' rfl)).mono ?_; rintro e w4 ⟨rfl, hS4, hE4⟩; rw [hlow]; have hE4' := (hE.alloc _).trans hE4; have ho4 := own_extS hE4 (by omega) (hown.alloc _); have hN4 := (hN.alloc _).extS (by omega) hE4; clear hS hE hE4 hown hN)
            | (go_at_call 37; have l4 := hS4.lt; refine (pick_det s (p + 2 + 3 * t + 1) _ _ 5 [10, 15, 19, 19, 24] L _ (by omega) (by simp) (by simp) (by exact hS4.ext (Ext.alloc (Ext.refl _) _)) (by exact Nat.ne_of_gt l4) (by exact Blk.new' rfl)).mono ?_; rintro e w5 ⟨rfl, hS5, hE5⟩; rw [hup]; have hE5' := (hE4'.alloc _).trans hE5; have ho5 := own_extS hE5 (by omega) (ho4.alloc _); have hN5 := (hN4.alloc _).extS (by omega) hE5; clear hS4 hE4' hE5 ho4 hN4)
            | (at_builtin; go_loud (refine wp_app1 _ (.tmp 32) (.tmp 43) 26 37 4 40 _ rfl rfl Tryz.underlying26 voiInfo rfl (by decide) (by decide) (w.heap.size + 1) _ T.length _ rfl (ho5.alloc _) w5.heap.size (voiC ⟨nm, at1, low, low + up⟩) rfl rfl (Blk.new' rfl) (voi_one _) (by omega) (by have := hE5'.2.2.2.1; have := hN5.lt; simp; omega) ?_; intro v' w6 hown6 hgrow6 _; have hN6 := (hN5.alloc (.cells (voiC ⟨nm, at1, low, low + up⟩).toArray 37)).app (ho5.alloc _) (by omega) hgrow6; have hS6 := (hS5.ext (Ext.alloc (Ext.refl _) _)).app (ho5.alloc _) (by omega) hgrow6; have hE6 := (hE5'.alloc _).app (ho5.alloc _) (by omega) hgrow6; clear ho5 hN5 hS5 hE5' hgrow6))
            | (go_at_call 37; have l6 := hS6.lt; refine (pick_det s (p + 2 + 3 * t + 1 + 1) _ _ 3 [1, 50, 100] L _ (by omega) (by simp) (by simp) (by exact hS6.ext (Ext.alloc (Ext.refl _) _)) (by exact Nat.ne_of_gt l6) (by exact Blk.new' rfl)).mono ?_; rintro e w7 ⟨rfl, hS7, hE7⟩; rw [hst]; have hE7' := (hE6.alloc _).trans hE7; have ho7 := own_extS hE7 (by omega) (hown6.alloc _); have hN7 := (hN6.alloc _).extS (by omega) hE7; clear hS6 hE6 hE7 hown6 hN6))
          have hTl2 : (T ++ [(⟨nm, at1, low, low + up⟩ : VoiceV)]).length = T.length + 1 := by simp
          go_roundw
          case rel =>
            exact ⟨t + 1, _, T ++ [⟨nm, at1, low, low + up⟩], at1 + st, by omega, by go_num, rfl, rfl, hats.out.symm, by rw [vrIn_succ, hone.out, ← List.append_assoc, ← hT.out], by omega, by rw [hTl2, flat_snoc]; exact ho7, (fun x hx => by
              rcases List.mem_append.1 hx with h1 | h1
              · exact hfT.out x h1
              · obtain rfl : x = ⟨nm, at1, low, low + up⟩ := by simpa using h1
                exact ⟨hns, ⟨by simp only; omega, by simp only; omega⟩, ⟨by simp only; omega, by simp only; omega⟩, ⟨by simp only; omega, by simp only; omega⟩⟩), by omega, by omega, hN7, hS7.at (by omega), hE7'⟩
          case measure => simp [intOf]; omega
        · obtain rfl : t = m := by omega
          replace hown := Lib.hid hown
          go_wp2
          go_roundw
          case rel => exact ⟨j + 1, p + 2 + 3 * t, T, _, by omega, by go_num, rfl, hown.out, hfT.out, by omega, by rw [hsuc.out, hT.out], by omega, hN, hS, hE⟩
          case measure => simp [intOf]; omega
    · obtain rfl : j = r := by omega
      clear hN hlt hj
      have hw1s : (w.heap.size + 1) = w.heap.size + 1 := rfl
      rcases Nat.eq_zero_or_pos V.length with h0 | h0
      · obtain ⟨q, c, rfl, -⟩ := slc_of_own voiC_len hown (by decide) (by omega)
        have hres : VoiR (vrF L k most) s k 1 L w (.returned (.slice q V.length c)) wr := ⟨q, V.length, c, V, p, rfl, by omega, hown, rfl, hf, vrF_none hr.out hout.out h0, by omega, hS, hE⟩
        have h0I : ¬ (0 : Int) < (V.length : Int) := by omega
        replace hown := Lib.hid hown
        replace hres := Lib.hid hres
        replace h0 := Lib.hid h0
        replace hf := Lib.hid hf
        go_wp2
        go_ret
        exact hres.out
      · obtain ⟨g, cap, rfl, hg, hgl⟩ := hown.form h0
        have h0I : (0 : Int) < (V.length : Int) := by omega
        obtain ⟨bb, hbb⟩ : ∃ bb, flF L p 12 = bb := ⟨_, rfl⟩
        replace hown := Lib.hid hown
        replace hf := Lib.hid hf
        go_upto_if 58 with (go_at_call 43; (with_reducible refine Calls.mono (flip_det s p 12 L _ (by omega) (by omega) (by omega) hS) ?_); rintro e w2 ⟨rfl, hS2, hE2⟩; rw [hbb])
        have hE2' := hE.trans hE2
        have ho2 := own_extS hE2 (by omega) hown.out
        clear hS hE hE2 hown
        cases bb
        · have hres : VoiR (vrF L k most) s k 1 L w (.returned (.slice (some ⟨g, 0, none⟩) V.length cap)) w2 := ⟨_, V.length, _, V, p + 1, rfl, by omega, ho2, rfl, hf.out, vrF_keep hr.out hout.out h0 hbb, by omega, hS2, hE2'⟩
          replace ho2 := Lib.hid ho2
          replace hres := Lib.hid hres
          go_wp2
          go_ret
          exact hres.out
        · obtain ⟨i, hi0⟩ : ∃ i, nxF L (p + 1) V.length = i := ⟨_, rfl⟩
          have hi : i < V.length := hi0 ▸ nxF_lt L _ V.length (by omega)
          have hnx := next_det s (p + 1) V.length L w2 (by omega) (by omega) (by omega) hS2
          rw [hi0] at hnx
          replace hi0 := Lib.hid hi0
          replace hnx := Lib.hid hnx
          replace ho2 := Lib.hid ho2
          go_upto_region 15 with (go_at_call 44; (with_reducible refine Calls.mono hnx.out ?_); rintro e w3 ⟨rfl, hS3, hE3⟩)
          have hE3' := hE2'.trans hE3
          have ho3 := own_extS hE3 (by omega) ho2.out
          clear hS2 hE2' hE3 ho2 hgl hnx
          obtain ⟨x, hx⟩ := getD_some (rfl : V.length = V.length) hi
          obtain ⟨s1, ⟨s2, s3⟩, ⟨s4, s5⟩, ⟨s6, s7⟩⟩ := hf.out x (List.mem_of_getElem? hx)
          have hgl : g < w3.heap.size := (ho3.lt g rfl).2
          have hgs : g ≠ s := by omega
          have hsl : s < w3.heap.size := hS3.lt
          have c0 : w3.cell? ⟨g, i * 4, none⟩ = some (.string x.name) := own_cell voiC_len ho3 hx 0 rfl hi
          have c1 : w3.cell? ⟨g, i * 4 + 1, none⟩ = some (.int .i64 x.fr) := own_cell voiC_len ho3 hx 1 rfl hi
          have c2 : w3.cell? ⟨g, i * 4 + 2, none⟩ = some (.int .i64 x.lo) := own_cell voiC_len ho3 hx 2 rfl hi
          have c3 : w3.cell? ⟨g, i * 4 + 3, none⟩ = some (.int .i64 x.hi) := own_cell voiC_len ho3 hx 3 rfl hi
          have hsl' : s < w3.drew.heap.size := hsl
          have hmod := vrF_mod hr.out hout.out h0 hbb hi0.out hx
          obtain ⟨nm, hnm0⟩ : ∃ nm, smF L (p + 2) [x.name, ⟨#[]⟩, ⟨#[97, 110, 110]⟩] = nm := ⟨_, rfl⟩
          obtain ⟨z17, hz17⟩ : ∃ z, pkF L (p + 3) [x.fr, -1, 0] = z := ⟨_, rfl⟩
          obtain ⟨z25, hz25⟩ : ∃ z, pkF L (p + 4) [x.lo, -1] = z := ⟨_, rfl⟩
          obtain ⟨z33, hz33⟩ : ∃ z, pkF L (p + 5) [x.hi, 39, 127, 128] = z := ⟨_, rfl⟩
          rw [hnm0, hz17, hz25, hz33] at hmod
          have hnm : nm.size ≤ 1000 := by
            have := smF_mem (L := L) (a := p + 2) (xs := [x.name, ⟨#[]⟩, ⟨#[97, 110, 110]⟩]) (by simp)
            rw [hnm0] at this
            rcases (by simpa using this : nm = x.name ∨ nm = ⟨#[]⟩ ∨ nm = ⟨#[97, 110, 110]⟩) with rfl | rfl | rfl
            · exact s1
            · decide
            · decide
          have hb17 := pkF_in (L := L) (a := p + 3) (xs := [x.fr, -1, 0]) (lo := -1099511627776) (hi := 1099511627776) (by simp) (by intro y hy; simp at hy; omega)
          have hb25 := pkF_in (L := L) (a := p + 4) (xs := [x.lo, -1]) (lo := -1000) (hi := 1000) (by simp) (by intro y hy; simp at hy; omega)
          have hb33 := pkF_in (L := L) (a := p + 5) (xs := [x.hi, 39, 127, 128]) (lo := -1000) (hi := 1000) (by simp) (by intro y hy; simp at hy; omega)
          rw [hz17] at hb17
          rw [hz25] at hb25
          rw [hz33] at hb33
          replace hmod := Lib.hid hmod
          have hS3d : StrL w3.drew s L (p + 2) := hS3.ext (Ext.drew (Ext.refl _))
          replace ho3 := Lib.hid ho3
          replace hx := Lib.hid hx
          refine wp_region_facts [1, 2, 3] [([], false, false), ([], false, false), ([], false, false), ([], false, false), ([], false, false), ([], false, false), ([5], false, false), ([5, 6], false, false), ([5, 6, 7], false, false), ([5, 6, 7, 8], false, true), ([4, 5, 6, 7, 8, 9], true, false), ([], false, false), ([], false, false), ([12], false, false), ([12, 13], false, false), ([12, 13, 14], false, false), ([12, 13, 14, 15], false, true), ([11, 12, 13, 14, 15, 16], true, false), ([], false, false), ([], false, false), ([19], false, false), ([19, 20], false, false), ([19, 20, 21], false, false), ([19, 20, 21, 22], false, false), ([19, 20, 21, 22, 23], false, true), ([18, 19, 20, 21, 22, 23, 24], true, false), ([], false, false), ([], false, false), ([27], false, false), ([27, 28], false, false), ([27, 28, 29], false, false), ([27, 28, 29, 30], false, false), ([27, 28, 29, 30, 31], false, true), ([26, 27, 28, 29, 30, 31, 32], true, false), ([0], false, false), ([0, 34], false, false)] (ExtS s) Ext (fun w => StrL w s L (p + 2)) (by kernel_rfl) (by kernel_rfl) Ext.refl (fun _ _ _ => ExtS.trans) (fun _ _ h => h.extS) (fun _ _ h => h.2.2.2.1) (fun _ _ h he => h.ext he) hS3d ?_
          dsimp only [List.length_cons, List.length_nil, List.drop_succ_cons, List.drop_zero, List.drop_nil]
          refine fac_quiet 0 rfl rfl rfl (fun _ _ h he => h.ext he) rfl rfl ?_
          apply Exists.intro
          refine ⟨fun sv w' hw' hfa => ?_, ?_⟩
          · refine ⟨rfl, ?_⟩
            simp only [putsL]
            change quietTo _ _ _ _ (Sem.run _ (execOp (Act.eval _) _) _)
            try simp only [Act.put, List.setIfInBounds_toArray, List.set_cons_succ, List.set_cons_zero]
            simp [go_sem, quietTo, Ext.refl]
            all_goals first
              | rfl
          refine fac_late 1 rfl rfl Ext.refl (fun _ _ h he => h.ext he) rfl rfl (fun _ _ _ _ h => h) ?_
          apply Exists.intro
          refine ⟨fun sv w' hw' hfa => ?_, ?_⟩
          · refine ⟨rfl, fun w2 => ?_⟩
            simp only [putsL]
            change pureTo _ _ (Sem.run _ (execOp (Act.eval _) _) _)
            try simp only [Act.put, List.setIfInBounds_toArray, List.set_cons_succ, List.set_cons_zero]
            simp [go_sem, pureTo]
            all_goals try simp (disch := omega) only [IntWalk.i64_in]
            all_goals first
              | rfl
          refine fac_late 2 rfl rfl Ext.refl (fun _ _ h he => h.ext he) rfl rfl (fun _ _ _ _ h => h) ?_
          apply Exists.intro
          refine ⟨fun sv w' hw' hfa => ?_, ?_⟩
          · refine ⟨rfl, fun w2 => ?_⟩
            simp only [putsL]
            change pureTo _ _ (Sem.run _ (execOp (Act.eval _) _) _)
            try simp only [Act.put, List.setIfInBounds_toArray, List.set_cons_succ, List.set_cons_zero]
            simp [go_sem, pureTo]
            all_goals try simp (disch := omega) only [IntWalk.i64_in]
            all_goals first
              | rfl
          refine fac_late 3 rfl rfl Ext.refl (fun _ _ h he => h.ext he) rfl rfl (fun _ _ _ _ h => h) ?_
          apply Exists.intro
          refine ⟨fun sv w' hw' hfa => ?_, ?_⟩
          · refine ⟨rfl, fun w2 => ?_⟩
            simp only [putsL]
            change pureTo _ _ (Sem.run _ (execOp (Act.eval _) _) _)
            try simp only [Act.put, List.setIfInBounds_toArray, List.set_cons_succ, List.set_cons_zero]
            simp [go_sem, pureTo]
            all_goals try simp (disch := omega) only [IntWalk.i64_in]
            all_goals first
              | rfl
          refine fac_quiet 4 rfl rfl rfl (fun _ _ h he => h.ext he) rfl rfl ?_
          apply Exists.intro
          refine ⟨fun sv w' hw' hfa => ?_, ?_⟩
          · refine ⟨rfl, ?_⟩
            simp only [putsL]
            change quietTo _ _ _ _ (Sem.run _ (execOp (Act.eval _) _) _)
            try simp only [Act.put, List.setIfInBounds_toArray, List.set_cons_succ, List.set_cons_zero]
            simp [go_sem, quietTo, Ext.refl]
            all_goals first
              | rfl
          refine fac_quiet 5 rfl rfl rfl (fun _ _ h he => h.ext he) rfl rfl ?_
          apply Exists.intro
          refine ⟨fun sv w' hw' hfa => ?_, ?_⟩
          · refine ⟨rfl, ?_⟩
            simp only [putsL]
            change quietTo _ _ _ _ (Sem.run _ (execOp (Act.eval _) _) _)
            try simp only [Act.put, List.setIfInBounds_toArray, List.set_cons_succ, List.set_cons_zero]
            simp [go_sem, quietTo, Ext.refl]
            all_goals first
              | rfl
          refine fac_quiet 6 rfl rfl rfl (fun _ _ h he => h.ext he) rfl rfl ?_
          apply Exists.intro
          refine ⟨fun sv w' hw' hfa => ?_, ?_⟩
          · obtain ⟨f5, -⟩ := hfa
            replace f5 : sv 5 = _ := f5
            try dsimp only at f5
            refine ⟨rfl, ?_⟩
            simp only [putsL]
            change quietTo _ _ _ _ (Sem.run _ (execOp (Act.eval (Act.put _ (some 70) (sv 5))) _) _)
            try simp only [Act.put, List.setIfInBounds_toArray, List.set_cons_succ, List.set_cons_zero]
            simp [go_sem, quietTo, Ext.refl, f5]
            all_goals first
              | rfl
          refine fac_quiet 7 rfl rfl rfl (fun _ _ h he => h.ext he) rfl rfl ?_
          apply Exists.intro
          refine ⟨fun sv w' hw' hfa => ?_, ?_⟩
          · obtain ⟨_, f6, -⟩ := hfa
            replace f6 : sv 6 = _ := f6
            try dsimp only at f6
            refine ⟨rfl, ?_⟩
            simp only [putsL]
            change quietTo _ _ _ _ (Sem.run _ (execOp (Act.eval (Act.put (Act.put _ (some 71) (sv 6)) (some 70) (sv 5))) _) _)
            try simp only [Act.put, List.setIfInBounds_toArray, List.set_cons_succ, List.set_cons_zero]
            simp [go_sem, quietTo, Ext.refl, f6]
            all_goals first
              | rfl
          refine fac_quiet 8 rfl rfl rfl (fun _ _ h he => h.ext he) rfl rfl ?_
          apply Exists.intro
          refine ⟨fun sv w' hw' hfa => ?_, ?_⟩
          · obtain ⟨_, _, f7, -⟩ := hfa
            replace f7 : sv 7 = _ := f7
            try dsimp only at f7
            have d0 : w'.cell? ⟨g, i * 4, none⟩ = some (.string x.name) := (hw'.cell hgl hgs _).trans c0
            have d1 : w'.cell? ⟨g, i * 4 + 1, none⟩ = some (.int .i64 x.fr) := (hw'.cell hgl hgs _).trans c1
            have d2 : w'.cell? ⟨g, i * 4 + 2, none⟩ = some (.int .i64 x.lo) := (hw'.cell hgl hgs _).trans c2
            have d3 : w'.cell? ⟨g, i * 4 + 3, none⟩ = some (.int .i64 x.hi) := (hw'.cell hgl hgs _).trans c3
            refine ⟨rfl, ?_⟩
            simp only [putsL]
            change quietTo _ _ _ _ (Sem.run _ (execOp (Act.eval (Act.put (Act.put (Act.put _ (some 72) (sv 7)) (some 71) (sv 6)) (some 70) (sv 5))) _) _)
            try simp only [Act.put, List.setIfInBounds_toArray, List.set_cons_succ, List.set_cons_zero]
            simp [go_sem, quietTo, Ext.refl, ↓IntWalk.iteOmega, f7, d0, d1, d2, d3]
            all_goals try simp (disch := omega) only [IntWalk.i64_in]
            all_goals first
              | rfl
          refine fac_row 9 rfl rfl rfl (fun _ _ h he => h.ext he) (fun _ _ h => h.2.2.2.1) (fun _ _ _ _ _ he hg hb => hb.extS (Nat.ne_of_gt (Nat.lt_of_lt_of_le hsl hg)) he) ?_
          apply Exists.intro
          apply Exists.intro
          apply Exists.intro
          apply Exists.intro
          refine ⟨fun sv w' hw' hfa => ?_, ?_⟩
          · obtain ⟨_, _, _, f8, -⟩ := hfa
            replace f8 : sv 8 = _ := f8
            try dsimp only at f8
            refine ⟨rfl, ?_⟩
            simp only [putsL]
            change rowTo _ _ _ _ _ (Sem.run _ (execOp (Act.eval (Act.put (Act.put (Act.put (Act.put _ (some 73) (sv 8)) (some 72) (sv 7)) (some 71) (sv 6)) (some 70) (sv 5))) _) _)
            try simp only [Act.put, List.setIfInBounds_toArray, List.set_cons_succ, List.set_cons_zero]
            simp [go_sem, rowTo, Ext.refl, f8]
            all_goals try simp (disch := omega) only [IntWalk.i64_in]
            all_goals first
              | rfl
              | exact ⟨rfl, rfl⟩
              | exact ⟨⟨rfl, rfl⟩, rfl⟩
          refine fac_loud 10 rfl rfl rfl ?_
          refine ⟨(fun y _ => y 10 = .string nm), (fun w => StrL w s L (p + 3)), fun sv w' hw' hfa hcc => ?_, ?_, ?_, ?_⟩
          · obtain ⟨f4, f5, f6, f7, f8, f9, -⟩ := hfa
            replace f4 : sv 4 = _ := f4
            try dsimp only at f4
            replace f5 : sv 5 = _ := f5
            try dsimp only at f5
            replace f6 : sv 6 = _ := f6
            try dsimp only at f6
            replace f7 : sv 7 = _ := f7
            try dsimp only at f7
            replace f8 : sv 8 = _ := f8
            try dsimp only at f8
            obtain ⟨g9, f9, l9, b9⟩ := f9
            replace f9 : sv 9 = _ := f9
            obtain ⟨p9, q9⟩ := b9.walk
            have d0 : w'.cell? ⟨g, i * 4, none⟩ = some (.string x.name) := (hw'.cell hgl hgs _).trans c0
            have d1 : w'.cell? ⟨g, i * 4 + 1, none⟩ = some (.int .i64 x.fr) := (hw'.cell hgl hgs _).trans c1
            have d2 : w'.cell? ⟨g, i * 4 + 2, none⟩ = some (.int .i64 x.lo) := (hw'.cell hgl hgs _).trans c2
            have d3 : w'.cell? ⟨g, i * 4 + 3, none⟩ = some (.int .i64 x.hi) := (hw'.cell hgl hgs _).trans c3
            refine ⟨rfl, ?_⟩
            simp only [putsL]
            change outc _ _ (Sem.run _ (execOp (Act.eval (Act.put (Act.put (Act.put (Act.put (Act.put (Act.put _ (some 74) (sv 9)) (some 73) (sv 8)) (some 72) (sv 7)) (some 71) (sv 6)) (some 70) (sv 5)) (some 69) (sv 4))) _) _)
            try simp only [Act.put, List.setIfInBounds_toArray, List.set_cons_succ, List.set_cons_zero]
            simp [go_sem, outc, f4, f9, p9, q9, d0, d1, d2, d3]
            refine (somes_det s (p + 2) _ _ 3 [x.name, ⟨#[]⟩, ⟨#[97, 110, 110]⟩] L _ (by omega) (by simp) (by simp) hcc (by omega) b9).mono ?_
            rintro e w4 ⟨rfl, hS4, hE4⟩
            exact ⟨_, rfl, ⟨hE4, hS4⟩, by rw [← hnm0]; rfl⟩
          · intro x w w' h he; exact h
          · exact fun _ _ h he => h.ext he
          refine fac_quiet 11 rfl rfl rfl (fun _ _ h he => h.ext he) rfl rfl ?_
          apply Exists.intro
          refine ⟨fun sv w' hw' hfa => ?_, ?_⟩
          · refine ⟨rfl, ?_⟩
            simp only [putsL]
            change quietTo _ _ _ _ (Sem.run _ (execOp (Act.eval _) _) _)
            try simp only [Act.put, List.setIfInBounds_toArray, List.set_cons_succ, List.set_cons_zero]
            simp [go_sem, quietTo, Ext.refl]
            all_goals first
              | rfl
          refine fac_quiet 12 rfl rfl rfl (fun _ _ h he => h.ext he) rfl rfl ?_
          apply Exists.intro
          refine ⟨fun sv w' hw' hfa => ?_, ?_⟩
          · refine ⟨rfl, ?_⟩
            simp only [putsL]
            change quietTo _ _ _ _ (Sem.run _ (execOp (Act.eval _) _) _)
            try simp only [Act.put, List.setIfInBounds_toArray, List.set_cons_succ, List.set_cons_zero]
            simp [go_sem, quietTo, Ext.refl]
            all_goals first
              | rfl
          refine fac_quiet 13 rfl rfl rfl (fun _ _ h he => h.ext he) rfl rfl ?_
          apply Exists.intro
          refine ⟨fun sv w' hw' hfa => ?_, ?_⟩
          · obtain ⟨f12, -⟩ := hfa
            replace f12 : sv 12 = _ := f12
            try dsimp only at f12
            refine ⟨rfl, ?_⟩
            simp only [putsL]
            change quietTo _ _ _ _ (Sem.run _ (execOp (Act.eval (Act.put _ (some 77) (sv 12))) _) _)
            try simp only [Act.put, List.setIfInBounds_toArray, List.set_cons_succ, List.set_cons_zero]
            simp [go_sem, quietTo, Ext.refl, f12]
            all_goals first
              | rfl
          refine fac_quiet 14 rfl rfl rfl (fun _ _ h he => h.ext he) rfl rfl ?_
          apply Exists.intro
          refine ⟨fun sv w' hw' hfa => ?_, ?_⟩
          · obtain ⟨_, f13, -⟩ := hfa
            replace f13 : sv 13 = _ := f13
            try dsimp only at f13
            refine ⟨rfl, ?_⟩
            simp only [putsL]
            change quietTo _ _ _ _ (Sem.run _ (execOp (Act.eval (Act.put (Act.put _ (some 78) (sv 13)) (some 77) (sv 12))) _) _)
            try simp only [Act.put, List.setIfInBounds_toArray, List.set_cons_succ, List.set_cons_zero]
            simp [go_sem, quietTo, Ext.refl, f13]
            all_goals first
              | rfl
          refine fac_quiet 15 rfl rfl rfl (fun _ _ h he => h.ext he) rfl rfl ?_
          apply Exists.intro
          refine ⟨fun sv w' hw' hfa => ?_, ?_⟩
          · obtain ⟨_, _, f14, -⟩ := hfa
            replace f14 : sv 14 = _ := f14
            try dsimp only at f14
            have d0 : w'.cell? ⟨g, i * 4, none⟩ = some (.string x.name) := (hw'.cell hgl hgs _).trans c0
            have d1 : w'.cell? ⟨g, i * 4 + 1, none⟩ = some (.int .i64 x.fr) := (hw'.cell hgl hgs _).trans c1
            have d2 : w'.cell? ⟨g, i * 4 + 2, none⟩ = some (.int .i64 x.lo) := (hw'.cell hgl hgs _).trans c2
            have d3 : w'.cell? ⟨g, i * 4 + 3, none⟩ = some (.int .i64 x.hi) := (hw'.cell hgl hgs _).trans c3
            refine ⟨rfl, ?_⟩
            simp only [putsL]
            change quietTo _ _ _ _ (Sem.run _ (execOp (Act.eval (Act.put (Act.put (Act.put _ (some 79) (sv 14)) (some 78) (sv 13)) (some 77) (sv 12))) _) _)
            try simp only [Act.put, List.setIfInBounds_toArray, List.set_cons_succ, List.set_cons_zero]
            simp [go_sem, quietTo, Ext.refl, ↓IntWalk.iteOmega, f14, d0, d1, d2, d3]
            all_goals try simp (disch := omega) only [IntWalk.i64_in]
            all_goals first
              | rfl
          refine fac_row 16 rfl rfl rfl (fun _ _ h he => h.ext he) (fun _ _ h => h.2.2.2.1) (fun _ _ _ _ _ he hg hb => hb.extS (Nat.ne_of_gt (Nat.lt_of_lt_of_le hsl hg)) he) ?_
          apply Exists.intro
          apply Exists.intro
          apply Exists.intro
          apply Exists.intro
          refine ⟨fun sv w' hw' hfa => ?_, ?_⟩
          · obtain ⟨_, _, _, f15, -⟩ := hfa
            replace f15 : sv 15 = _ := f15
            try dsimp only at f15
            refine ⟨rfl, ?_⟩
            simp only [putsL]
            change rowTo _ _ _ _ _ (Sem.run _ (execOp (Act.eval (Act.put (Act.put (Act.put (Act.put _ (some 80) (sv 15)) (some 79) (sv 14)) (some 78) (sv 13)) (some 77) (sv 12))) _) _)
            try simp only [Act.put, List.setIfInBounds_toArray, List.set_cons_succ, List.set_cons_zero]
            simp [go_sem, rowTo, Ext.refl, f15]
            all_goals try simp (disch := omega) only [IntWalk.i64_in]
            all_goals first
              | rfl
              | exact ⟨rfl, rfl⟩
              | exact ⟨⟨rfl, rfl⟩, rfl⟩
          refine fac_loud 17 rfl rfl rfl ?_
          refine ⟨(fun y _ => y 17 = .int .i64 z17), (fun w => StrL w s L (p + 4)), fun sv w' hw' hfa hcc => ?_, ?_, ?_, ?_⟩
          · obtain ⟨f11, f12, f13, f14, f15, f16, -⟩ := hfa
            replace f11 : sv 11 = _ := f11
            try dsimp only at f11
            replace f12 : sv 12 = _ := f12
            try dsimp only at f12
            replace f13 : sv 13 = _ := f13
            try dsimp only at f13
            replace f14 : sv 14 = _ := f14
            try dsimp only at f14
            replace f15 : sv 15 = _ := f15
            try dsimp only at f15
            obtain ⟨g16, f16, l16, b16⟩ := f16
            replace f16 : sv 16 = _ := f16
            obtain ⟨p16, q16⟩ := b16.walk
            have d0 : w'.cell? ⟨g, i * 4, none⟩ = some (.string x.name) := (hw'.cell hgl hgs _).trans c0
            have d1 : w'.cell? ⟨g, i * 4 + 1, none⟩ = some (.int .i64 x.fr) := (hw'.cell hgl hgs _).trans c1
            have d2 : w'.cell? ⟨g, i * 4 + 2, none⟩ = some (.int .i64 x.lo) := (hw'.cell hgl hgs _).trans c2
            have d3 : w'.cell? ⟨g, i * 4 + 3, none⟩ = some (.int .i64 x.hi) := (hw'.cell hgl hgs _).trans c3
            refine ⟨rfl, ?_⟩
            simp only [putsL]
            change outc _ _ (Sem.run _ (execOp (Act.eval (Act.put (Act.put (Act.put (Act.put (Act.put (Act.put _ (some 81) (sv 16)) (some 80) (sv 15)) (some 79) (sv 14)) (some 78) (sv 13)) (some 77) (sv 12)) (some 76) (sv 11))) _) _)
            try simp only [Act.put, List.setIfInBounds_toArray, List.set_cons_succ, List.set_cons_zero]
            simp [go_sem, outc, f11, f16, p16, q16, d0, d1, d2, d3]
            refine (pick_det s (p + 3) _ _ 3 [x.fr, -1, 0] L _ (by omega) (by simp) (by simp) hcc (by omega) b16).mono ?_
            rintro e w4 ⟨rfl, hS4, hE4⟩
            exact ⟨_, rfl, ⟨hE4, hS4⟩, by rw [← hz17]; rfl⟩
          · intro x w w' h he; exact h
          · exact fun _ _ h he => h.ext he
          refine fac_quiet 18 rfl rfl rfl (fun _ _ h he => h.ext he) rfl rfl ?_
          apply Exists.intro
          refine ⟨fun sv w' hw' hfa => ?_, ?_⟩
          · refine ⟨rfl, ?_⟩
            simp only [putsL]
            change quietTo _ _ _ _ (Sem.run _ (execOp (Act.eval _) _) _)
            try simp only [Act.put, List.setIfInBounds_toArray, List.set_cons_succ, List.set_cons_zero]
            simp [go_sem, quietTo, Ext.refl]
            all_goals first
              | rfl
          refine fac_quiet 19 rfl rfl rfl (fun _ _ h he => h.ext he) rfl rfl ?_
          apply Exists.intro
          refine ⟨fun sv w' hw' hfa => ?_, ?_⟩
          · refine ⟨rfl, ?_⟩
            simp only [putsL]
            change quietTo _ _ _ _ (Sem.run _ (execOp (Act.eval _) _) _)
            try simp only [Act.put, List.setIfInBounds_toArray, List.set_cons_succ, List.set_cons_zero]
            simp [go_sem, quietTo, Ext.refl]
            all_goals first
              | rfl
          refine fac_quiet 20 rfl rfl rfl (fun _ _ h he => h.ext he) rfl rfl ?_
          apply Exists.intro
          refine ⟨fun sv w' hw' hfa => ?_, ?_⟩
          · obtain ⟨f19, -⟩ := hfa
            replace f19 : sv 19 = _ := f19
            try dsimp only at f19
            refine ⟨rfl, ?_⟩
            simp only [putsL]
            change quietTo _ _ _ _ (Sem.run _ (execOp (Act.eval (Act.put _ (some 84) (sv 19))) _) _)
            try simp only [Act.put, List.setIfInBounds_toArray, List.set_cons_succ, List.set_cons_zero]
            simp [go_sem, quietTo, Ext.refl, f19]
            all_goals first
              | rfl
          refine fac_quiet 21 rfl rfl rfl (fun _ _ h he => h.ext he) rfl rfl ?_
          apply Exists.intro
          refine ⟨fun sv w' hw' hfa => ?_, ?_⟩
          · obtain ⟨_, f20, -⟩ := hfa
            replace f20 : sv 20 = _ := f20
            try dsimp only at f20
            refine ⟨rfl, ?_⟩
            simp only [putsL]
            change quietTo _ _ _ _ (Sem.run _ (execOp (Act.eval (Act.put (Act.put _ (some 85) (sv 20)) (some 84) (sv 19))) _) _)
            try simp only [Act.put, List.setIfInBounds_toArray, List.set_cons_succ, List.set_cons_zero]
            simp [go_sem, quietTo, Ext.refl, f20]
            all_goals first
              | rfl
          refine fac_quiet 22 rfl rfl rfl (fun _ _ h he => h.ext he) rfl rfl ?_
          apply Exists.intro
          refine ⟨fun sv w' hw' hfa => ?_, ?_⟩
          · obtain ⟨_, _, f21, -⟩ := hfa
            replace f21 : sv 21 = _ := f21
            try dsimp only at f21
            refine ⟨rfl, ?_⟩
            simp only [putsL]
            change quietTo _ _ _ _ (Sem.run _ (execOp (Act.eval (Act.put (Act.put (Act.put _ (some 86) (sv 21)) (some 85) (sv 20)) (some 84) (sv 19))) _) _)
            try simp only [Act.put, List.setIfInBounds_toArray, List.set_cons_succ, List.set_cons_zero]
            simp [go_sem, quietTo, Ext.refl, f21]
            all_goals first
              | rfl
          refine fac_quiet 23 rfl rfl rfl (fun _ _ h he => h.ext he) rfl rfl ?_
          apply Exists.intro
          refine ⟨fun sv w' hw' hfa => ?_, ?_⟩
          · obtain ⟨_, _, _, f22, -⟩ := hfa
            replace f22 : sv 22 = _ := f22
            try dsimp only at f22
            have d0 : w'.cell? ⟨g, i * 4, none⟩ = some (.string x.name) := (hw'.cell hgl hgs _).trans c0
            have d1 : w'.cell? ⟨g, i * 4 + 1, none⟩ = some (.int .i64 x.fr) := (hw'.cell hgl hgs _).trans c1
            have d2 : w'.cell? ⟨g, i * 4 + 2, none⟩ = some (.int .i64 x.lo) := (hw'.cell hgl hgs _).trans c2
            have d3 : w'.cell? ⟨g, i * 4 + 3, none⟩ = some (.int .i64 x.hi) := (hw'.cell hgl hgs _).trans c3
            refine ⟨rfl, ?_⟩
            simp only [putsL]
            change quietTo _ _ _ _ (Sem.run _ (execOp (Act.eval (Act.put (Act.put (Act.put (Act.put _ (some 87) (sv 22)) (some 86) (sv 21)) (some 85) (sv 20)) (some 84) (sv 19))) _) _)
            try simp only [Act.put, List.setIfInBounds_toArray, List.set_cons_succ, List.set_cons_zero]
            simp [go_sem, quietTo, Ext.refl, ↓IntWalk.iteOmega, f22, d0, d1, d2, d3]
            all_goals try simp (disch := omega) only [IntWalk.i64_in]
            all_goals first
              | rfl
          refine fac_row 24 rfl rfl rfl (fun _ _ h he => h.ext he) (fun _ _ h => h.2.2.2.1) (fun _ _ _ _ _ he hg hb => hb.extS (Nat.ne_of_gt (Nat.lt_of_lt_of_le hsl hg)) he) ?_
          apply Exists.intro
          apply Exists.intro
          apply Exists.intro
          apply Exists.intro
          refine ⟨fun sv w' hw' hfa => ?_, ?_⟩
          · obtain ⟨_, _, _, _, f23, -⟩ := hfa
            replace f23 : sv 23 = _ := f23
            try dsimp only at f23
            refine ⟨rfl, ?_⟩
            simp only [putsL]
            change rowTo _ _ _ _ _ (Sem.run _ (execOp (Act.eval (Act.put (Act.put (Act.put (Act.put (Act.put _ (some 88) (sv 23)) (some 87) (sv 22)) (some 86) (sv 21)) (some 85) (sv 20)) (some 84) (sv 19))) _) _)
            try simp only [Act.put, List.setIfInBounds_toArray, List.set_cons_succ, List.set_cons_zero]
            simp [go_sem, rowTo, Ext.refl, f23]
            all_goals try simp (disch := omega) only [IntWalk.i64_in]
            all_goals first
              | rfl
              | exact ⟨rfl, rfl⟩
              | exact ⟨⟨rfl, rfl⟩, rfl⟩
          refine fac_loud 25 rfl rfl rfl ?_
          refine ⟨(fun y _ => y 25 = .int .i64 z25), (fun w => StrL w s L (p + 5)), fun sv w' hw' hfa hcc => ?_, ?_, ?_, ?_⟩
          · obtain ⟨f18, f19, f20, f21, f22, f23, f24, -⟩ := hfa
            replace f18 : sv 18 = _ := f18
            try dsimp only at f18
            replace f19 : sv 19 = _ := f19
            try dsimp only at f19
            replace f20 : sv 20 = _ := f20
            try dsimp only at f20
            replace f21 : sv 21 = _ := f21
            try dsimp only at f21
            replace f22 : sv 22 = _ := f22
            try dsimp only at f22
            replace f23 : sv 23 = _ := f23
            try dsimp only at f23
            obtain ⟨g24, f24, l24, b24⟩ := f24
            replace f24 : sv 24 = _ := f24
            obtain ⟨p24, q24⟩ := b24.walk
            have d0 : w'.cell? ⟨g, i * 4, none⟩ = some (.string x.name) := (hw'.cell hgl hgs _).trans c0
            have d1 : w'.cell? ⟨g, i * 4 + 1, none⟩ = some (.int .i64 x.fr) := (hw'.cell hgl hgs _).trans c1
            have d2 : w'.cell? ⟨g, i * 4 + 2, none⟩ = some (.int .i64 x.lo) := (hw'.cell hgl hgs _).trans c2
            have d3 : w'.cell? ⟨g, i * 4 + 3, none⟩ = some (.int .i64 x.hi) := (hw'.cell hgl hgs _).trans c3
            refine ⟨rfl, ?_⟩
            simp only [putsL]
            change outc _ _ (Sem.run _ (execOp (Act.eval (Act.put (Act.put (Act.put (Act.put (Act.put (Act.put (Act.put _ (some 89) (sv 24)) (some 88) (sv 23)) (some 87) (sv 22)) (some 86) (sv 21)) (some 85) (sv 20)) (some 84) (sv 19)) (some 83) (sv 18))) _) _)
            try simp only [Act.put, List.setIfInBounds_toArray, List.set_cons_succ, List.set_cons_zero]
            simp [go_sem, outc, f18, f24, p24, q24, d0, d1, d2, d3]
            refine (pick_det s (p + 4) _ _ 2 [x.lo, -1] L _ (by omega) (by simp) (by simp) hcc (by omega) b24).mono ?_
            rintro e w4 ⟨rfl, hS4, hE4⟩
            exact ⟨_, rfl, ⟨hE4, hS4⟩, by rw [← hz25]; rfl⟩
          · intro x w w' h he; exact h
          · exact fun _ _ h he => h.ext he
          refine fac_quiet 26 rfl rfl rfl (fun _ _ h he => h.ext he) rfl rfl ?_
          apply Exists.intro
          refine ⟨fun sv w' hw' hfa => ?_, ?_⟩
          · refine ⟨rfl, ?_⟩
            simp only [putsL]
            change quietTo _ _ _ _ (Sem.run _ (execOp (Act.eval _) _) _)
            try simp only [Act.put, List.setIfInBounds_toArray, List.set_cons_succ, List.set_cons_zero]
            simp [go_sem, quietTo, Ext.refl]
            all_goals first
              | rfl
          refine fac_quiet 27 rfl rfl rfl (fun _ _ h he => h.ext he) rfl rfl ?_
          apply Exists.intro
          refine ⟨fun sv w' hw' hfa => ?_, ?_⟩
          · refine ⟨rfl, ?_⟩
            simp only [putsL]
            change quietTo _ _ _ _ (Sem.run _ (execOp (Act.eval _) _) _)
            try simp only [Act.put, List.setIfInBounds_toArray, List.set_cons_succ, List.set_cons_zero]
            simp [go_sem, quietTo, Ext.refl]
            all_goals first
              | rfl
          refine fac_quiet 28 rfl rfl rfl (fun _ _ h he => h.ext he) rfl rfl ?_
          apply Exists.intro
          refine ⟨fun sv w' hw' hfa => ?_, ?_⟩
          · obtain ⟨f27, -⟩ := hfa
            replace f27 : sv 27 = _ := f27
            try dsimp only at f27
            refine ⟨rfl, ?_⟩
            simp only [putsL]
            change quietTo _ _ _ _ (Sem.run _ (execOp (Act.eval (Act.put _ (some 92) (sv 27))) _) _)
            try simp only [Act.put, List.setIfInBounds_toArray, List.set_cons_succ, List.set_cons_zero]
            simp [go_sem, quietTo, Ext.refl, f27]
            all_goals first
              | rfl
          refine fac_quiet 29 rfl rfl rfl (fun _ _ h he => h.ext he) rfl rfl ?_
          apply Exists.intro
          refine ⟨fun sv w' hw' hfa => ?_, ?_⟩
          · obtain ⟨_, f28, -⟩ := hfa
            replace f28 : sv 28 = _ := f28
            try dsimp only at f28
            refine ⟨rfl, ?_⟩
            simp only [putsL]
            change quietTo _ _ _ _ (Sem.run _ (execOp (Act.eval (Act.put (Act.put _ (some 93) (sv 28)) (some 92) (sv 27))) _) _)
            try simp only [Act.put, List.setIfInBounds_toArray, List.set_cons_succ, List.set_cons_zero]
            simp [go_sem, quietTo, Ext.refl, f28]
            all_goals first
              | rfl
          refine fac_quiet 30 rfl rfl rfl (fun _ _ h he => h.ext he) rfl rfl ?_
          apply Exists.intro
          refine ⟨fun sv w' hw' hfa => ?_, ?_⟩
          · obtain ⟨_, _, f29, -⟩ := hfa
            replace f29 : sv 29 = _ := f29
            try dsimp only at f29
            refine ⟨rfl, ?_⟩
            simp only [putsL]
            change quietTo _ _ _ _ (Sem.run _ (execOp (Act.eval (Act.put (Act.put (Act.put _ (some 94) (sv 29)) (some 93) (sv 28)) (some 92) (sv 27))) _) _)
            try simp only [Act.put, List.setIfInBounds_toArray, List.set_cons_succ, List.set_cons_zero]
            simp [go_sem, quietTo, Ext.refl, f29]
            all_goals first
              | rfl
          refine fac_quiet 31 rfl rfl rfl (fun _ _ h he => h.ext he) rfl rfl ?_
          apply Exists.intro
          refine ⟨fun sv w' hw' hfa => ?_, ?_⟩
          · obtain ⟨_, _, _, f30, -⟩ := hfa
            replace f30 : sv 30 = _ := f30
            try dsimp only at f30
            have d0 : w'.cell? ⟨g, i * 4, none⟩ = some (.string x.name) := (hw'.cell hgl hgs _).trans c0
            have d1 : w'.cell? ⟨g, i * 4 + 1, none⟩ = some (.int .i64 x.fr) := (hw'.cell hgl hgs _).trans c1
            have d2 : w'.cell? ⟨g, i * 4 + 2, none⟩ = some (.int .i64 x.lo) := (hw'.cell hgl hgs _).trans c2
            have d3 : w'.cell? ⟨g, i * 4 + 3, none⟩ = some (.int .i64 x.hi) := (hw'.cell hgl hgs _).trans c3
            refine ⟨rfl, ?_⟩
            simp only [putsL]
            change quietTo _ _ _ _ (Sem.run _ (execOp (Act.eval (Act.put (Act.put (Act.put (Act.put _ (some 95) (sv 30)) (some 94) (sv 29)) (some 93) (sv 28)) (some 92) (sv 27))) _) _)
            try simp only [Act.put, List.setIfInBounds_toArray, List.set_cons_succ, List.set_cons_zero]
            simp [go_sem, quietTo, Ext.refl, ↓IntWalk.iteOmega, f30, d0, d1, d2, d3]
            all_goals try simp (disch := omega) only [IntWalk.i64_in]
            all_goals first
              | rfl
          refine fac_row 32 rfl rfl rfl (fun _ _ h he => h.ext he) (fun _ _ h => h.2.2.2.1) (fun _ _ _ _ _ he hg hb => hb.extS (Nat.ne_of_gt (Nat.lt_of_lt_of_le hsl hg)) he) ?_
          apply Exists.intro
          apply Exists.intro
          apply Exists.intro
          apply Exists.intro
          refine ⟨fun sv w' hw' hfa => ?_, ?_⟩
          · obtain ⟨_, _, _, _, f31, -⟩ := hfa
            replace f31 : sv 31 = _ := f31
            try dsimp only at f31
            refine ⟨rfl, ?_⟩
            simp only [putsL]
            change rowTo _ _ _ _ _ (Sem.run _ (execOp (Act.eval (Act.put (Act.put (Act.put (Act.put (Act.put _ (some 96) (sv 31)) (some 95) (sv 30)) (some 94) (sv 29)) (some 93) (sv 28)) (some 92) (sv 27))) _) _)
            try simp only [Act.put, List.setIfInBounds_toArray, List.set_cons_succ, List.set_cons_zero]
            simp [go_sem, rowTo, Ext.refl, f31]
            all_goals try simp (disch := omega) only [IntWalk.i64_in]
            all_goals first
              | rfl
              | exact ⟨rfl, rfl⟩
              | exact ⟨⟨rfl, rfl⟩, rfl⟩
          refine fac_loud 33 rfl rfl rfl ?_
          refine ⟨(fun y _ => y 33 = .int .i64 z33), (fun w => StrL w s L (p + 6)), fun sv w' hw' hfa hcc => ?_, ?_, ?_, ?_⟩
          · obtain ⟨f26, f27, f28, f29, f30, f31, f32, -⟩ := hfa
            replace f26 : sv 26 = _ := f26
            try dsimp only at f26
            replace f27 : sv 27 = _ := f27
            try dsimp only at f27
            replace f28 : sv 28 = _ := f28
            try dsimp only at f28
            replace f29 : sv 29 = _ := f29
            try dsimp only at f29
            replace f30 : sv 30 = _ := f30
            try dsimp only at f30
            replace f31 : sv 31 = _ := f31
            try dsimp only at f31
            obtain ⟨g32, f32, l32, b32⟩ := f32
            replace f32 : sv 32 = _ := f32
            obtain ⟨p32, q32⟩ := b32.walk
            have d0 : w'.cell? ⟨g, i * 4, none⟩ = some (.string x.name) := (hw'.cell hgl hgs _).trans c0
            have d1 : w'.cell? ⟨g, i * 4 + 1, none⟩ = some (.int .i64 x.fr) := (hw'.cell hgl hgs _).trans c1
            have d2 : w'.cell? ⟨g, i * 4 + 2, none⟩ = some (.int .i64 x.lo) := (hw'.cell hgl hgs _).trans c2
            have d3 : w'.cell? ⟨g, i * 4 + 3, none⟩ = some (.int .i64 x.hi) := (hw'.cell hgl hgs _).trans c3
            refine ⟨rfl, ?_⟩
            simp only [putsL]
            change outc _ _ (Sem.run _ (execOp (Act.eval (Act.put (Act.put (Act.put (Act.put (Act.put (Act.put (Act.put _ (some 97) (sv 32)) (some 96) (sv 31)) (some 95) (sv 30)) (some 94) (sv 29)) (some 93) (sv 28)) (some 92) (sv 27)) (some 91) (sv 26))) _) _)
            try simp only [Act.put, List.setIfInBounds_toArray, List.set_cons_succ, List.set_cons_zero]
            simp [go_sem, outc, f26, f32, p32, q32, d0, d1, d2, d3]
            refine (pick_det s (p + 5) _ _ 4 [x.hi, 39, 127, 128] L _ (by omega) (by simp) (by simp) hcc (by omega) b32).mono ?_
            rintro e w4 ⟨rfl, hS4, hE4⟩
            exact ⟨_, rfl, ⟨hE4, hS4⟩, by rw [← hz33]; rfl⟩
          · intro x w w' h he; exact h
          · exact fun _ _ h he => h.ext he
          refine fac_quiet 34 rfl rfl rfl (fun _ _ h he => h.ext he) rfl rfl ?_
          apply Exists.intro
          refine ⟨fun sv w' hw' hfa => ?_, ?_⟩
          · obtain ⟨f0, -⟩ := hfa
            replace f0 : sv 0 = _ := f0
            try dsimp only at f0
            refine ⟨rfl, ?_⟩
            simp only [putsL]
            change quietTo _ _ _ _ (Sem.run _ (execOp (Act.eval (Act.put _ (some 65) (sv 0))) _) _)
            try simp only [Act.put, List.setIfInBounds_toArray, List.set_cons_succ, List.set_cons_zero]
            simp [go_sem, quietTo, Ext.refl, f0]
            all_goals first
              | rfl
          refine fac_quiet 35 rfl rfl rfl (fun _ _ h he => h.ext he) rfl rfl ?_
          apply Exists.intro
          refine ⟨fun sv w' hw' hfa => ?_, ?_⟩
          · obtain ⟨_, f34, -⟩ := hfa
            replace f34 : sv 34 = _ := f34
            try dsimp only at f34
            refine ⟨rfl, ?_⟩
            simp only [putsL]
            change quietTo _ _ _ _ (Sem.run _ (execOp (Act.eval (Act.put (Act.put _ (some 99) (sv 34)) (some 65) (sv 0))) _) _)
            try simp only [Act.put, List.setIfInBounds_toArray, List.set_cons_succ, List.set_cons_zero]
            simp [go_sem, quietTo, Ext.refl, f34]
            all_goals first
              | rfl
          refine fac_nil fun xq wrq herq hfrq hcrq holdq hapq => ?_
          obtain ⟨f0, f1, f2, f3, f4, f5, f6, f7, f8, f9, f10, f11, f12, f13, f14, f15, f16, f17, f18, f19, f20, f21, f22, f23, f24, f25, f26, f27, f28, f29, f30, f31, f32, f33, f34, f35, -⟩ := hfrq
          replace f0 : xq 0 = _ := f0
          try dsimp only at f0
          replace f1 : xq 1 = _ := f1
          try dsimp only at f1
          replace f2 : xq 2 = _ := f2
          try dsimp only at f2
          replace f3 : xq 3 = _ := f3
          try dsimp only at f3
          replace f4 : xq 4 = _ := f4
          try dsimp only at f4
          replace f5 : xq 5 = _ := f5
          try dsimp only at f5
          replace f6 : xq 6 = _ := f6
          try dsimp only at f6
          replace f7 : xq 7 = _ := f7
          try dsimp only at f7
          replace f8 : xq 8 = _ := f8
          try dsimp only at f8
          obtain ⟨g9, f9, l9, b9⟩ := f9
          replace f9 : xq 9 = _ := f9
          obtain ⟨p9, q9⟩ := b9.walk
          replace f10 : xq 10 = _ := f10
          replace f11 : xq 11 = _ := f11
          try dsimp only at f11
          replace f12 : xq 12 = _ := f12
          try dsimp only at f12
          replace f13 : xq 13 = _ := f13
          try dsimp only at f13
          replace f14 : xq 14 = _ := f14
          try dsimp only at f14
          replace f15 : xq 15 = _ := f15
          try dsimp only at f15
          obtain ⟨g16, f16, l16, b16⟩ := f16
          replace f16 : xq 16 = _ := f16
          obtain ⟨p16, q16⟩ := b16.walk
          replace f17 : xq 17 = _ := f17
          replace f18 : xq 18 = _ := f18
          try dsimp only at f18
          replace f19 : xq 19 = _ := f19
          try dsimp only at f19
          replace f20 : xq 20 = _ := f20
          try dsimp only at f20
          replace f21 : xq 21 = _ := f21
          try dsimp only at f21
          replace f22 : xq 22 = _ := f22
          try dsimp only at f22
          replace f23 : xq 23 = _ := f23
          try dsimp only at f23
          obtain ⟨g24, f24, l24, b24⟩ := f24
          replace f24 : xq 24 = _ := f24
          obtain ⟨p24, q24⟩ := b24.walk
          replace f25 : xq 25 = _ := f25
          replace f26 : xq 26 = _ := f26
          try dsimp only at f26
          replace f27 : xq 27 = _ := f27
          try dsimp only at f27
          replace f28 : xq 28 = _ := f28
          try dsimp only at f28
          replace f29 : xq 29 = _ := f29
          try dsimp only at f29
          replace f30 : xq 30 = _ := f30
          try dsimp only at f30
          replace f31 : xq 31 = _ := f31
          try dsimp only at f31
          obtain ⟨g32, f32, l32, b32⟩ := f32
          replace f32 : xq 32 = _ := f32
          obtain ⟨p32, q32⟩ := b32.walk
          replace f33 : xq 33 = _ := f33
          replace f34 : xq 34 = _ := f34
          try dsimp only at f34
          replace f35 : xq 35 = _ := f35
          try dsimp only at f35
          change wpList _ _ _ _ (Act.put (Act.put (Act.put (Act.put (Act.put (Act.put (Act.put (Act.put (Act.put (Act.put (Act.put (Act.put (Act.put (Act.put (Act.put (Act.put (Act.put (Act.put (Act.put (Act.put (Act.put (Act.put (Act.put (Act.put (Act.put (Act.put (Act.put (Act.put (Act.put (Act.put (Act.put (Act.put (Act.put (Act.put (Act.put (Act.put _ (some 65) (xq 0)) (some 66) (xq 1)) (some 67) (xq 2)) (some 68) (xq 3)) (some 69) (xq 4)) (some 70) (xq 5)) (some 71) (xq 6)) (some 72) (xq 7)) (some 73) (xq 8)) (some 74) (xq 9)) (some 75) (xq 10)) (some 76) (xq 11)) (some 77) (xq 12)) (some 78) (xq 13)) (some 79) (xq 14)) (some 80) (xq 15)) (some 81) (xq 16)) (some 82) (xq 17)) (some 83) (xq 18)) (some 84) (xq 19)) (some 85) (xq 20)) (some 86) (xq 21)) (some 87) (xq 22)) (some 88) (xq 23)) (some 89) (xq 24)) (some 90) (xq 25)) (some 91) (xq 26)) (some 92) (xq 27)) (some 93) (xq 28)) (some 94) (xq 29)) (some 95) (xq 30)) (some 96) (xq 31)) (some 97) (xq 32)) (some 98) (xq 33)) (some 99) (xq 34)) (some 100) (xq 35)) _
          simp only [putsL, Nat.reduceAdd, List.drop_succ_cons, List.drop_zero, List.drop_nil, Act.put, List.setIfInBounds_toArray, List.set_cons_succ, List.set_cons_zero]
          try simp only [f0, f1, f2, f3, f4, f5, f6, f7, f8, f9, f10, f11, f12, f13, f14, f15, f16, f17, f18, f19, f20, f21, f22, f23, f24, f25, f26, f27, f28, f29, f30, f31, f32, f33, f34, f35]
          clear f0 f1 f2 f3 f4 f5 f6 f7 f8 f11 f12 f13 f14 f15 f18 f19 f20 f21 f22 f23 f26 f27 f28 f29 f30 f31 f34 f35
          clear holdq hapq
          have hoq := own_extS herq (by omega) (World.ownsRow.drew ho3.out)
          have hEq : ExtS s w wrq := ((hE3'.drew).trans herq)
          clear ho3 hE3' herq c0 c1 c2 c3 hS3 hS3d hsl hsl' hgl
          have c0 : wrq.cell? ⟨g, i * 4, none⟩ = some (.string x.name) := own_cell voiC_len hoq hx.out 0 rfl hi
          have c1 : wrq.cell? ⟨g, i * 4 + 1, none⟩ = some (.int .i64 x.fr) := own_cell voiC_len hoq hx.out 1 rfl hi
          have c2 : wrq.cell? ⟨g, i * 4 + 2, none⟩ = some (.int .i64 x.lo) := own_cell voiC_len hoq hx.out 2 rfl hi
          have c3 : wrq.cell? ⟨g, i * 4 + 3, none⟩ = some (.int .i64 x.hi) := own_cell voiC_len hoq hx.out 3 rfl hi
          have z0 : ∀ o, wrq.frozen? ⟨g, o, none⟩ = false := fun o => hoq.frozenAt o
          have hsg : s < g := by omega
          have hwg : w.heap.size ≤ g := by omega
          have hset := voi_mod4 hoq hx.out nm z17 z25 z33
          have hres : VoiR (vrF L k most) s k 1 L w (.returned (.slice (some ⟨g, 0, none⟩) V.length cap)) ((((wrq.setCell ⟨g, i * 4, none⟩ (.string nm)).setCell ⟨g, i * 4 + 1, none⟩ (.int .i64 z17)).setCell ⟨g, i * 4 + 2, none⟩ (.int .i64 z25)).setCell ⟨g, i * 4 + 3, none⟩ (.int .i64 z33)) :=
            ⟨_, V.length, _, V.set i ⟨nm, z17, z25, z33⟩, p + 6, rfl, by omega, hset, by rw [List.length_set], (fun y hy => by
              rcases List.mem_or_eq_of_mem_set hy with h1 | h1
              · exact hf.out y h1
              · subst h1
                exact ⟨hnm, hb17, hb25, hb33⟩), hmod.out, by omega, (((hcrq.set (p := ⟨g, i * 4, none⟩) hsg _).set (p := ⟨g, i * 4 + 1, none⟩) hsg _).set (p := ⟨g, i * 4 + 2, none⟩) hsg _).set (p := ⟨g, i * 4 + 3, none⟩) hsg _, (((hEq.setCell (p := ⟨g, i * 4, none⟩) (.inr hwg) _).setCell (p := ⟨g, i * 4 + 1, none⟩) (.inr hwg) _).setCell (p := ⟨g, i * 4 + 2, none⟩) (.inr hwg) _).setCell (p := ⟨g, i * 4 + 3, none⟩) (.inr hwg) _⟩
          replace hoq := Lib.hid hoq
          replace hset := Lib.hid hset
          replace hres := Lib.hid hres
          clear hg
          go_wp2
          go_ret
          exact hres.out
end Go.Proofs.YtboplnogfjmpnaaGreatDoor
