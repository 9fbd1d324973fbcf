/- The first of the best divisions, by the program. Conditions: sizes. -/
import Derived.Test.YtdehmioobkneiaaGreatDoorVsDvI
set_option linter.unusedSimpArgs false
set_option linter.unusedVariables false
namespace Go.Proofs.YtdehmioobkneiaaGreatDoor
open Go Go.RowKit Go.Maps

theorem results_tmp4 {fn : Func} {t u v x : Tmp} (h : fn.results = #[.tmp t, .tmp u, .tmp v, .tmp x]) (tmps : Array Value) (P : Program) (w : World) :
    (results fn tmps).run P w = .ok (.tuple #[tmps.getD t undef, tmps.getD u undef, tmps.getD v undef, tmps.getD x undef]) w := by
  simp [results, h]
theorem comL_bound {V : List VoiceV} {P : List PartV} (hV : ∀ x ∈ V, x.Small) (hP : ∀ x ∈ P, x.Small) (t : Int) : ∀ r ∈ comL V t P, ∀ x ∈ r, -2000 ≤ x ∧ x ≤ 2000 := fun r hr x hx => by
  obtain ⟨s, -, rfl⟩ := List.mem_map.1 hr
  obtain ⟨q, hq, rfl⟩ := List.mem_map.1 hx
  obtain ⟨s1, ⟨s2, s3⟩, ⟨s4, s5⟩, s6, s7⟩ := hP q hq
  obtain ⟨⟨h1, h2⟩, h3, h4⟩ := rg_bounds hV t s
  unfold comF
  simp only
  omega
def nmpC (x : ByteArray × ByteArray) : List Value := [.string x.1, .string x.2]
theorem nmpC_len (x : ByteArray × ByteArray) : (nmpC x).length = 2 := rfl
theorem nmpInfo : (Tryz.prog.info? 39).map (fun i => (i.zero, i.size, i.bytes)) = some (some (.agg #[.string ⟨#[]⟩, .string ⟨#[]⟩]), 2, 32) := by kernel_rfl
theorem own_keeps {gs : List Nat} {a b : World} (h : Keeps gs a b) {base : Nat} {e : TypeId} {k n : Nat} {v : Value} {xs : List Value} (ho : a.ownsRow base e k v n xs) : b.ownsRow base e k v n xs :=
  ⟨ho.1, ho.2.imp id fun ⟨g, cap, cur, x1, x2, x3, x4⟩ => ⟨g, cap, cur, x1, x2, h.2.1 _ _ _ x3, x4⟩⟩
/-- The pairs of singers and parts, from a singer on. -/
def divN (P : List PartV) (S : List ByteArray) (C : List (List Int)) (N : List Nat) : List (ByteArray × ByteArray) := List.zipWith (fun s p => (s, (P.getD p default).name)) S (divG P C N)
theorem divN_cons {P : List PartV} {S : List ByteArray} {C : List (List Int)} (hl : C.length = S.length) {i : Nat} {s : ByteArray} (hs : S[i]? = some s) (N : List Nat) {k : Nat} (hk : pickP P (C.drop (i + 1)) (C.getD i []) N = k) {x : PartV} (hx : P[k]? = some x) :
    divN P (S.drop i) (C.drop i) N = (s, x.name) :: divN P (S.drop (i + 1)) (C.drop (i + 1)) (incN N k) := by
  obtain ⟨hi, rfl⟩ := List.getElem?_eq_some_iff.1 hs
  unfold divN
  rw [drop_at (show i < C.length by omega), List.drop_eq_getElem_cons hi]
  simp only [divG, List.zipWith_cons_cons]
  rw [hk]
  simp only [List.getD_eq_getElem?_getD, hx, Option.getD_some]
section
variable {w0 w w' : World} {cb db : Nat} {bp : Option Addr} {bc : Nat} {gs : List Nat} {P : List PartV} {C : List (List Int)} {n : Nat}
theorem DivM.below (h : DivM w0 w cb db bp bc gs P C n) : db < w.heap.size ∧ (∀ a, bp = some a → a.block < w.heap.size) ∧ ∀ g ∈ gs, g < w.heap.size := by
  refine ⟨h.blk.lt, fun a ha => ?_, fun g hg => ?_⟩
  · obtain ⟨-, ⟨e, -⟩ | ⟨b, off, e, hb, -⟩⟩ := slcC h.row
    · rw [e] at ha; cases ha
    · rw [e] at ha; cases ha; exact hb
  · obtain ⟨i, hi⟩ := List.getElem?_of_mem hg
    obtain ⟨f, ho, -⟩ := h.maps i g hi
    exact ho.lt
theorem DivM.aside (h : DivM w0 w cb db bp bc gs P C n) {row : Option Nat} (hg : w.grownBy w' row) {B : Nat} (hb : db < B ∧ (∀ a, bp = some a → a.block < B) ∧ ∀ g ∈ gs, g < B) (hr : ∀ j, row = some j → B ≤ j) : DivM w0 w' cb db bp bc gs P C n := by
  have hlo := h.low
  refine ⟨h.ext.grown hg (fun j e => by have := hr j e; omega), h.low, (hg.block db h.blk.lt fun e => by have := hr db e.symm; omega).trans h.blk, ?_, h.len, h.nodup, h.far, fun i g hi => ?_⟩
  · cases row with
    | none => exact h.row.ext ⟨hg.os, hg.tape, hg.output, hg.size, fun k hk => hg.block k hk (by simp)⟩
    | some j => exact slc_grown h.row hg fun a ha e => by have := hb.2.1 a ha; have := hr j rfl; omega
  · obtain ⟨f, ho, hf⟩ := h.maps i g hi
    exact ⟨f, ho.grown hg fun e => by have := hr g e.symm; have := hb.2.2 g (List.mem_of_getElem? hi); omega, hf⟩
end
theorem tF24 {k : Nat} (h : k ≤ 24) : 0 + tF k ≤ 100000000000000000 := by
  have h1 := tF_le k
  have h2 : 4 ^ k ≤ 4 ^ 24 := Nat.pow_le_pow_right (by decide) h
  omega
section
variable {w0 w : World} {cb : Nat} {P : List PartV} {pp : Option Addr} {pc : Nat} {C : List (List Int)} {sp : Option Addr} {sc : Nat} {cp : Option Addr} {cc : Nat} {db : Nat} {bp : Option Addr} {bc : Nat} {gs : List Nat}
/-- What is greatest from a singer on. -/
theorem div_from (hC : ChoirM w0 cb P pp pc C sp sc cp cc) (hP4 : P.length ≤ 4) (hCl : C.length ≤ 24) (hCb : ∀ r ∈ C, ∀ x ∈ r, -2000 ≤ x ∧ x ≤ 2000) (hD : DivM w0 w cb db bp bc gs P C 0) {i a b c d : Nat} (hi : i ≤ C.length) (hN : NOk i [a, b, c, d]) :
    Calls Tryz.prog 29 #[.pointer (some ⟨db, 0, none⟩), .int .i64 i, .agg #[.int .i64 a, .int .i64 b, .int .i64 c, .int .i64 d]] w fun e w' => e = .returned (.int .i64 (fromF P (C.drop i) [a, b, c, d])) ∧ DivM w0 w' cb db bp bc gs P C 0 ∧ Keeps gs w w' :=
  (from_any hC hP4 hCl hCb db bp bc gs (C.length - i) i [a, b, c, d] 0 w (by omega) hN (tF24 (by omega)) hD).mono fun _ _ h => ⟨h.1, h.2.1.any 0, h.2.2⟩
theorem div_with (hC : ChoirM w0 cb P pp pc C sp sc cp cc) (hP4 : P.length ≤ 4) (hCl : C.length ≤ 24) (hCb : ∀ r ∈ C, ∀ x ∈ r, -2000 ≤ x ∧ x ≤ 2000) (hD : DivM w0 w cb db bp bc gs P C 0) {i p a b c d : Nat} (hi : i < C.length) (hp : p < P.length) (hN : NOk i [a, b, c, d]) :
    Calls Tryz.prog 30 #[.pointer (some ⟨db, 0, none⟩), .int .i64 i, .agg #[.int .i64 a, .int .i64 b, .int .i64 c, .int .i64 d], .int .i64 p] w fun e w' => e = .returned (.int .i64 (withV P (fromF P (C.drop (i + 1))) (C.getD i []) [a, b, c, d] p)) ∧ DivM w0 w' cb db bp bc gs P C 0 ∧ Keeps gs w w' :=
  (with_any hC hP4 hCl hCb db bp bc gs (C.length - (i + 1)) i (by omega) (fun N' m u' hN' hm hu' => by
      have := from_any hC hP4 hCl hCb db bp bc gs (C.length - (i + 1)) (i + 1) N' m u' (by omega) hN' hm hu'
      rw [show ((i + 1 : Nat) : Int) = (i : Int) + 1 by omega] at this
      exact this) [a, b, c, d] 0 p w hN hp (tF24 (by omega)) hD).mono fun _ _ h => ⟨h.1, h.2.1.any 0, h.2.2⟩
end
section
variable {w : World} {vp pp : Option Addr} {vc pc : Nat} {V : List VoiceV} {P : List PartV}
/-- What is wrong with a division. -/
def errV (V : List VoiceV) (P : List PartV) (t : Int) : Int := if errL V P t = 0 then (if (singersL V t).length ≤ 24 ∧ P.length ≤ 4 then 0 else 2) else errL V P t
theorem errV_zero {t : Int} (h : errV V P t = 0) : errL V P t = 0 ∧ (singersL V t).length ≤ 24 ∧ P.length ≤ 4 := by
  unfold errV at h
  by_cases h1 : errL V P t = 0
  · rw [if_pos h1] at h
    by_cases h2 : (singersL V t).length ≤ 24 ∧ P.length ≤ 4
    · exact ⟨h1, h2⟩
    · rw [if_neg h2] at h; cases h
  · rw [if_neg h1] at h
    exact absurd h h1
set_option maxRecDepth 100000 in
set_option maxHeartbeats 1600000 in
theorem divide_none (h : VpM w vp vc V pp pc P) (t : Int) (hz : errV V P t = 0) (hf : fromF P (comL V t P) [0, 0, 0, 0] = -1) :
    Calls Tryz.prog 8 #[.slice vp V.length vc, .slice pp P.length pc, .int .i64 t] w fun e w' => e = .returned (.tuple #[.slice none 0 0, .int .i64 0, .bool false, .int .i64 0]) ∧ Ext w w' := by
  obtain ⟨h1, h2, h3⟩ := errV_zero hz
  have hd := dividerOf_good h t h1 h2 h3
  have hCb := comL_bound h.sV h.sP t
  rw [← comL_len V t P] at h2
  generalize comL V t P = C at *
  replace hd := Lib.hid hd
  replace hCb := Lib.hid hCb
  clear h h1 hz
  go_enter Tryz.func8, Tryz.ntmps8
  go_upto_region 4 with (go_at_call 28; (with_reducible refine Calls.mono hd.out ?_); rintro e w1 ⟨w0, cb, db, sp, sc, cp, cc, bp, bc, gs, rfl, hE0, hC, hSn, hD⟩)
  have hfr := div_from (i := 0) (a := 0) (b := 0) (c := 0) (d := 0) hC h3 h2 hCb.out hD (Nat.zero_le _) ⟨rfl, by simp⟩
  rw [show ((0 : Nat) : Int) = 0 from rfl, List.drop_zero, hf] at hfr
  replace hfr := Lib.hid hfr
  clear hSn hC hD
  go_wp2_with (go_at_call 29; (with_reducible refine Calls.mono hfr.out ?_); rintro e w2 ⟨rfl, hD2, hK2⟩)
  (try simp only [Exit.inBlock, Exit.then]); refine bodyPost_ret (results_tmp4 rfl _ _ _) rfl ?_
  exact ⟨rfl, hE0.trans hD2.ext⟩
end
end Go.Proofs.YtdehmioobkneiaaGreatDoor
