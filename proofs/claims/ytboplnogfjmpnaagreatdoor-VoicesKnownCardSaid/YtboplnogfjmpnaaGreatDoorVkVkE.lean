/- The range of a singer, the singers, and how they have grown, by the program. Conditions: sizes. -/
import Derived.Test.YtboplnogfjmpnaaGreatDoorVkVoR
set_option linter.unusedSimpArgs false
set_option linter.unusedVariables false
namespace Go.Proofs.YtboplnogfjmpnaaGreatDoor
open Go Go.RowKit

def rgW (V : List VoiceV) (p : ByteArray) (t : Int) : Int × Int := (rgS V t V.length p).getD (0, 0)
def isW (V : List VoiceV) (p : ByteArray) (t : Int) : Bool := (rgS V t V.length p).isSome
def singK (p : ByteArray) (t : Int) : Int := if keyB p then (if momB t then 0 else 1) else 5
def singK2 (p : ByteArray) (t u : Int) : Int := if keyB p then (if (momB t && momB u) = true then 0 else 1) else 5
/-- What is wrong with the arguments of RangeAt, Singers and Grown. -/
def errR (V : List VoiceV) (p : ByteArray) (t : Int) : Int := if voicesF V = 0 then singK p t else voicesF V
def errS (V : List VoiceV) (t : Int) : Int := if voicesF V = 0 then (if momB t then 0 else 1) else voicesF V
def errG (V : List VoiceV) (p : ByteArray) (t u : Int) : Int := if voicesF V = 0 then (if singK2 p t u = 0 then (if u < t then 1 else 0) else singK2 p t u) else voicesF V

theorem results_rtt {P : Program} {fn : Func} {p u x : Tmp} {ty : TypeId} (h : fn.results = #[.cell p ty, .tmp u, .tmp x]) (tmps : Array Value) (w : World) (g : Nat) (t : TypeId) (cs : Array Value) (fr : Nat × Nat) (d : TypeDesc)
    (hp : tmps.getD p undef = .pointer (some ⟨g, 0, none⟩)) (hg : w.heap[g]? = some (.cells cs t fr))
    (hu : P.underlying ty = some d) (hd : (match d with | .struct _ | .array _ _ => true | _ => false) = true) (hi : (P.info? ty).map (·.size) = some cs.size) (v v2 : Value) (hv : tmps.getD u undef = v) (hx : tmps.getD x undef = v2) :
    (results fn tmps).run P w = .ok (.tuple #[.agg cs, v, v2]) w := by
  have hp' : tmps[p]?.getD undef = .pointer (some ⟨g, 0, none⟩) := by simpa using hp
  have hv' : tmps[u]?.getD undef = v := by simpa using hv
  have hx' : tmps[x]?.getD undef = v2 := by simpa using hx
  simp only [results, h]
  simp [Sem.run_bind, Result.andThen, hp', hv', hx', asAddr, run_loadVar_row w g t ty cs fr d hg hu hd hi]
theorem rng_fin {R : Ending → World → Prop} {a : Act} {W : World} {g : Nat} {x y : Int} {ok : Bool} {f : Int} (hB : Blk W g 35 #[.int .i64 x, .int .i64 y]) (h6 : a.tmps.getD 6 undef = .pointer (some ⟨g, 0, none⟩)) (h7 : a.tmps.getD 7 undef = .bool ok) (h8 : a.tmps.getD 8 undef = .int .i64 f) (hd : a.defers = [])
    (hR : R (.returned (.tuple #[.agg #[.int .i64 x, .int .i64 y], .bool ok, .int .i64 f])) W) : bodyPost Tryz.prog Tryz.f16 R .ret a W :=
  bodyPost_ret (results_rtt Tryz.results16 _ _ g 35 _ (0, 0) _ h6 hB Tryz.underlying35 rfl (by kernel_rfl) _ _ h7 h8) hd hR
theorem grown_fin {R : Ending → World → Prop} {a : Act} {W : World} {x y : Int} {ok : Bool} {f : Int} (h8 : a.tmps.getD 8 undef = .int .i64 x) (h9 : a.tmps.getD 9 undef = .int .i64 y) (h10 : a.tmps.getD 10 undef = .bool ok) (h11 : a.tmps.getD 11 undef = .int .i64 f) (hd : a.defers = [])
    (hR : R (.returned (.tuple #[.int .i64 x, .int .i64 y, .bool ok, .int .i64 f])) W) : bodyPost Tryz.prog Tryz.f18 R .ret a W := by
  have h8' : a.tmps[8]?.getD undef = .int .i64 x := by simpa using h8
  have h9' : a.tmps[9]?.getD undef = .int .i64 y := by simpa using h9
  have h10' : a.tmps[10]?.getD undef = .bool ok := by simpa using h10
  have h11' : a.tmps[11]?.getD undef = .int .i64 f := by simpa using h11
  refine bodyPost_ret (v := .tuple #[.int .i64 x, .int .i64 y, .bool ok, .int .i64 f]) ?_ hd hR
  simp [results, Tryz.results18, go_sem, h8', h9', h10', h11']

section
variable {w : World} {vp : Option Addr} {vc : Nat} {V : List VoiceV}
set_option maxRecDepth 100000 in
set_option maxHeartbeats 1600000 in
theorem singersK_any (h : Slc 4 voiC w vp V.length vc V) (hs : ∀ x ∈ V, x.Small) (hn : V.length ≤ 200) (t : Int) :
    Calls Tryz.prog 17 #[.slice vp V.length vc, .int .i64 t] w fun e w' => ∃ (sp : Option Addr) (sn sc : Nat), e = .returned (.tuple #[.slice sp sn sc, .int .i64 (errS V t)]) ∧ Slc 1 strC w' sp sn sc (if errS V t = 0 then singersL V t else []) ∧ Ext w w' := by
  have h1 := checkVoices_any vp V.length vc V w h.1 hs hn
  have hmo : ∀ u g ty cap, Blk u g ty #[.int .i64 t] → Calls Tryz.prog 54 #[.slice (some ⟨g, 0, none⟩) 1 cap] u fun e w' => e = .returned (.int .i64 (if momB t then 0 else 1)) ∧ Ext u w' := fun u g ty cap hB => momentFault1_any t g ty cap u hB
  by_cases hz : voicesF V = 0
  rotate_left
  · have hF : errS V t = voicesF V := by unfold errS; rw [if_neg hz]
    rw [hF, if_neg hz]
    clear hF
    generalize voicesF V = f at *
    replace h1 := Lib.hid h1
    clear h hs hmo
    go_enter Tryz.func17, Tryz.ntmps17
    go_wp2_with (go_at_call 15; (with_reducible refine Calls.mono h1.out ?_); rintro e w1 ⟨rfl, hb1⟩)
    go_ret2
    exact ⟨none, 0, 0, rfl, Slc.nil _ _ _, hb1⟩
  rw [hz] at h1
  have hF : errS V t = if momB t then 0 else 1 := by unfold errS; rw [if_pos hz]
  rw [hF]
  clear hF
  cases hm : momB t
  · rw [hm] at hmo
    replace h1 := Lib.hid h1
    replace hmo := Lib.hid hmo
    clear h hs hz
    go_enter Tryz.func17, Tryz.ntmps17
    go_wp2_with (first
      | (go_at_call 15; (with_reducible refine Calls.mono h1.out ?_); rintro e w1 ⟨rfl, hb1⟩)
      | (go_at_call 54; (with_reducible refine Calls.mono (hmo.out _ _ _ _ (by exact Blk.new' rfl)) ?_); rintro e w2 ⟨rfl, hb2⟩; simp only [Bool.false_eq_true, if_false]; have hE2 := (hb1.alloc _).trans hb2))
    go_ret2
    exact ⟨none, 0, 0, rfl, Slc.nil _ _ _, hE2⟩
  have hra := fun u (hu : Ext w u) => rangesAt_any vp V.length vc V t u (h.ext hu).1 hs hn
  rw [hm] at hmo
  have hSl := singers_len V t
  have hrise := singers_rise V t
  have hmem := fun p => singers_mem (V := V) (t := t) p
  generalize singersL V t = S at *
  replace h1 := Lib.hid h1
  replace hmo := Lib.hid hmo
  replace hra := Lib.hid hra
  replace hrise := Lib.hid hrise
  replace hmem := Lib.hid hmem
  clear h hz hs
  go_enter Tryz.func17, Tryz.ntmps17
  go_wp2_with (first
    | (go_at_call 15; (with_reducible refine Calls.mono h1.out ?_); rintro e w1 ⟨rfl, hb1⟩)
    | (go_at_call 54; (with_reducible refine Calls.mono (hmo.out _ _ _ _ (by exact Blk.new' rfl)) ?_); rintro e w2 ⟨rfl, hb2⟩; simp only [if_true]; have hE2 := (hb1.alloc _).trans hb2)
    | (go_at_call 53; (with_reducible refine Calls.mono (hra.out _ hE2) ?_); rintro e w3 ⟨gm, rfl, hgm, hO3, hb3⟩; have hE3 := hE2.trans hb3; have hsr := sortedR_any hO3 (by omega) S hrise.out hmem.out; replace hsr := Lib.hid hsr; replace hO3 := Lib.hid hO3)
    | (go_at_call 56; (with_reducible refine Calls.mono (keysR_any _ _) ?_); rintro e w4 ⟨rfl, rfl⟩)
    | (go_at_call 55; (with_reducible refine Calls.mono hsr.out ?_); rintro e w5 ⟨sp, sc, rfl, hown5, hb5⟩))
  obtain ⟨q9, d9, hq9, hs9⟩ := slc_of_own (enc := strC) (fun _ => rfl) hown5 (by decide) (by omega)
  cases hq9
  go_ret2
  exact ⟨_, _, _, rfl, hs9, hE3.trans hb5⟩

set_option maxRecDepth 100000 in
set_option maxHeartbeats 3200000 in
theorem rangeAtK_any (h : Slc 4 voiC w vp V.length vc V) (hs : ∀ x ∈ V, x.Small) (hn : V.length ≤ 200) (p : ByteArray) (t : Int) (hp : p.size ≤ 1000) :
    Calls Tryz.prog 16 #[.slice vp V.length vc, .string p, .int .i64 t] w fun e w' => e = .returned (.tuple #[rngV (if errR V p t = 0 then rgW V p t else (0, 0)), .bool (if errR V p t = 0 then isW V p t else false), .int .i64 (errR V p t)]) ∧ Ext w w' := by
  have h1 := fun u (hu : Ext w u) => checkVoices_any vp V.length vc V u (h.ext hu).1 hs hn
  have hsi : ∀ u g ty cap, Blk u g ty #[.int .i64 t] → Calls Tryz.prog 52 #[.string p, .slice (some ⟨g, 0, none⟩) 1 cap] u fun e w' => e = .returned (.int .i64 (singK p t)) ∧ Ext u w' := fun u g ty cap hB => singerFault1_any p t g ty cap u hp hB
  have hB0 : Blk (w.alloc (.cells #[.int .i64 0, .int .i64 0] 35)) w.heap.size 35 #[.int .i64 0, .int .i64 0] := Blk.new' rfl
  have hE0 : Ext w (w.alloc (.cells #[.int .i64 0, .int .i64 0] 35)) := (Ext.refl _).alloc _
  by_cases hz : voicesF V = 0
  rotate_left
  · have hF : errR V p t = voicesF V := by unfold errR; rw [if_neg hz]
    rw [hF, if_neg hz, if_neg hz]
    clear hF hsi
    generalize voicesF V = f at *
    replace h1 := Lib.hid h1
    clear h hs
    go_enter Tryz.func16, Tryz.ntmps16
    go_upto_region 1 with fail
    have hg0 : w.heap.size ≤ w.heap.size := Nat.le_refl _
    generalize w.alloc (.cells #[.int .i64 0, .int .i64 0] 35) = W0 at *
    generalize hgg : w.heap.size = g0 at *
    replace hgg := Lib.hid hgg
    go_wp2_with (go_at_call 15; (with_reducible refine Calls.mono (h1.out _ hE0) ?_); rintro e w1 ⟨rfl, hb1⟩; have hE1 := hE0.trans hb1; have hB1 := hB0.ext hb1; obtain ⟨y1, y2⟩ := hB1.walk; have y3 := hB1.lt)
    try simp only [Exit.inBlock, Exit.then]
    refine rng_fin (x := 0) (y := 0) (((hB1.set_ 0 (.int .i64 0)).set_ 1 (.int .i64 0)).cast (by simp)) rfl rfl rfl rfl ?_
    exact ⟨rfl, (hE1.setCell (p := ⟨g0, 0, none⟩) (by have := hgg.out; simp only; omega) _).setCell (p := ⟨g0, 1, none⟩) (by have := hgg.out; simp only; omega) _⟩
  have hF : errR V p t = singK p t := by unfold errR; rw [if_pos hz]
  rw [hF]
  clear hF
  simp only [hz] at h1
  by_cases hk : singK p t = 0
  rotate_left
  · rw [if_neg hk, if_neg hk]
    generalize singK p t = f at *
    replace h1 := Lib.hid h1
    replace hsi := Lib.hid hsi
    clear h hs hz
    go_enter Tryz.func16, Tryz.ntmps16
    go_upto_region 1 with fail
    have hg0 : w.heap.size ≤ w.heap.size := Nat.le_refl _
    generalize w.alloc (.cells #[.int .i64 0, .int .i64 0] 35) = W0 at *
    generalize hgg : w.heap.size = g0 at *
    replace hgg := Lib.hid hgg
    go_wp2_with (first
      | (go_at_call 15; (with_reducible refine Calls.mono (h1.out _ hE0) ?_); rintro e w1 ⟨rfl, hb1⟩; have hE1 := hE0.trans hb1)
      | (go_at_call 52; (with_reducible refine Calls.mono (hsi.out _ _ _ _ (by exact Blk.new' rfl)) ?_); rintro e w2 ⟨rfl, hb2⟩; have hE2 := (hE1.alloc _).trans hb2; have hB2 := hB0.ext ((hb1.alloc _).trans hb2); obtain ⟨y1, y2⟩ := hB2.walk; have y3 := hB2.lt))
    try simp only [Exit.inBlock, Exit.then]
    refine rng_fin (x := 0) (y := 0) (((hB2.set_ 0 (.int .i64 0)).set_ 1 (.int .i64 0)).cast (by simp)) rfl rfl rfl rfl ?_
    exact ⟨rfl, (hE2.setCell (p := ⟨g0, 0, none⟩) (by have := hgg.out; simp only; omega) _).setCell (p := ⟨g0, 1, none⟩) (by have := hgg.out; simp only; omega) _⟩
  have hra := fun u (hu : Ext w u) => rangesAt_any vp V.length vc V t u (h.ext hu).1 hs hn
  rw [if_pos hk, if_pos hk]
  rw [hk] at hsi ⊢
  unfold rgW isW
  generalize hrr : (rgS V t V.length p).getD (0, 0) = rr at *
  generalize hbb : (rgS V t V.length p).isSome = bb at *
  obtain ⟨a, b⟩ := rr
  replace h1 := Lib.hid h1
  replace hsi := Lib.hid hsi
  replace hra := Lib.hid hra
  replace hrr := Lib.hid hrr
  replace hbb := Lib.hid hbb
  clear h hz hs hk
  go_enter Tryz.func16, Tryz.ntmps16
  go_upto_region 1 with fail
  have hg0 : w.heap.size ≤ w.heap.size := Nat.le_refl _
  generalize w.alloc (.cells #[.int .i64 0, .int .i64 0] 35) = W0 at *
  generalize hgg : w.heap.size = g0 at *
  replace hgg := Lib.hid hgg
  go_wp2_with (first
    | (go_at_call 15; (with_reducible refine Calls.mono (h1.out _ hE0) ?_); rintro e w1 ⟨rfl, hb1⟩; have hE1 := hE0.trans hb1)
    | (go_at_call 52; (with_reducible refine Calls.mono (hsi.out _ _ _ _ (by exact Blk.new' rfl)) ?_); rintro e w2 ⟨rfl, hb2⟩; have hE2 := (hE1.alloc _).trans hb2; have hB2 := hB0.ext ((hb1.alloc _).trans hb2))
    | (go_at_call 53; (with_reducible refine Calls.mono (hra.out _ hE2) ?_); rintro e w3 ⟨gm, rfl, hgm, hO3, hb3⟩; have hE3 := hE2.trans hb3; have hlk := hO3.look_ok hp; rw [hrr.out, hbb.out] at hlk; replace hlk := Lib.hid hlk; have hB3 := hB2.ext hb3; have hB4 := hB3.ext (((Ext.refl w3).alloc (.cells #[.int .i64 a, .int .i64 b] 35))); obtain ⟨y1, y2⟩ := hB4.walk; have y3 := hB4.lt; have y4 := hB3.lt; obtain ⟨y5, y6⟩ := hB3.walk)
    | (refine wpList_lookV rfl _ _ 95 true rfl (.map (some gm)) (.string p) _ rfl rfl hlk.out ?_; go_loud (unfold rngV)))
  have hB5 : Blk ((w3.setCell ⟨g0, 0, none⟩ (.int .i64 a)).setCell ⟨g0, 1, none⟩ (.int .i64 b)) g0 35 #[.int .i64 a, .int .i64 b] := (((hB3.set_ 0 (.int .i64 a)).set_ 1 (.int .i64 b)).cast (by simp))
  have hB6 := hB5.ext ((Ext.refl _).alloc (.cells #[.int .i64 a, .int .i64 b] 35))
  have hEf := ((hE3.setCell (p := ⟨g0, 0, none⟩) (by have := hgg.out; simp only; omega) (.int .i64 a)).setCell (p := ⟨g0, 1, none⟩) (by have := hgg.out; simp only; omega) (.int .i64 b)).alloc (.cells #[.int .i64 a, .int .i64 b] 35)
  try simp only [Exit.inBlock, Exit.then]
  refine rng_fin (x := a) (y := b) hB6 rfl rfl rfl rfl ?_
  exact ⟨rfl, hEf⟩
end
end Go.Proofs.YtboplnogfjmpnaaGreatDoor
