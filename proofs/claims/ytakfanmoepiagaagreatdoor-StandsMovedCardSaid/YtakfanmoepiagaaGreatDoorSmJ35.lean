/- Which part is seen, by the document's text; the choir that the laws try out. Conditions: as each theorem says. People, a stage and stands, put there by the stream, with what is wrong with them. Conditions: sizes. -/
import Derived.Test.YtakfanmoepiagaaGreatDoorSmJ28
import Derived.Test.YtakfanmoepiagaaGreatDoorSmSuC
import Derived.Test.YtakfanmoepiagaaGreatDoorSmStZ
import Derived.Test.YtakfanmoepiagaaGreatDoorSmSuB
set_option linter.unusedSimpArgs false
set_option linter.unusedVariables false
namespace Go.Proofs.YtakfanmoepiagaaGreatDoor
open Go Go.RowKit

theorem slc_of_blk {α : Type} {k : Nat} {enc : α → List Value} (hk : ∀ x, (enc x).length = k) {w : World} {g : Nat} {t : TypeId} {xs : List α} (h : Blk w g t (xs.flatMap enc).toArray) (hl : xs.length ≤ 1000) : Slc k enc w (some ⟨g, 0, none⟩) xs.length xs.length xs := by
  refine ⟨⟨rfl, by omega, fun _ => ⟨g, 0, rfl, h.lt, fun i x hx j u hu => ?_⟩⟩, Nat.le_refl _, (fun e => by cases e), fun a ha => by cases ha; exact ⟨g, 0, rfl, h.lt⟩⟩
  rw [Nat.zero_add, h.cell, List.getElem?_toArray]
  exact flat_at hk xs i x hx j u hu

def tryP : List PersonV := [⟨⟨#[97]⟩, 1700, ⟨#[115]⟩⟩, ⟨⟨#[98]⟩, 1600, ⟨#[115]⟩⟩]
def tryS : List StandV := [⟨⟨#[97]⟩, 0, 0⟩, ⟨⟨#[98]⟩, 1, 0⟩]
theorem try_right : standsF tryP [1, 1] [0, 0] tryS = 0 := by decide +kernel
theorem try_hidden : hiddenL tryP [1, 1] [0, 0] tryS = [(⟨#[98]⟩, ⟨#[97]⟩)] := by decide +kernel
theorem try_psm {w : World} {g1 g2 g3 g4 : Nat} (h1 : Blk w g1 75 #[.string ⟨#[97]⟩, .int .i64 1700, .string ⟨#[115]⟩, .string ⟨#[98]⟩, .int .i64 1600, .string ⟨#[115]⟩]) (h2 : Blk w g2 3 #[.int .i64 1, .int .i64 1]) (h3 : Blk w g3 3 #[.int .i64 0, .int .i64 0]) (h4 : Blk w g4 46 #[.string ⟨#[97]⟩, .int .i64 0, .int .i64 0, .string ⟨#[98]⟩, .int .i64 1, .int .i64 0]) :
    PsM w (some ⟨g1, 0, none⟩) 2 tryP (some ⟨g2, 0, none⟩) 2 [1, 1] (some ⟨g3, 0, none⟩) 2 [0, 0] (some ⟨g4, 0, none⟩) 2 tryS :=
  ⟨slc_of_blk perC_len (xs := tryP) h1 (by decide), slc_of_blk intC_len (xs := [1, 1]) h2 (by decide), slc_of_blk intC_len (xs := [0, 0]) h3 (by decide), slc_of_blk staC_len (xs := tryS) h4 (by decide),
    (by intro x hx; simp [tryP] at hx; rcases hx with rfl | rfl <;> (unfold PersonV.Small; decide)), (by intro x hx; simp at hx; omega), (by intro x hx; simp at hx; omega), (by intro x hx; simp [tryS] at hx; rcases hx with rfl | rfl <;> (unfold StandV.Small; decide)), by decide, by decide⟩

set_option maxRecDepth 100000 in
set_option maxHeartbeats 1600000 in
theorem stood_any (w : World) : Calls Tryz.prog 11 #[] w fun e w' => e = .returned (.bool true) ∧ Ext w w' := by
  have hM := try_psm (w := ((((w.alloc (.cells #[.string ⟨#[97]⟩, .int .i64 1700, .string ⟨#[115]⟩, .string ⟨#[98]⟩, .int .i64 1600, .string ⟨#[115]⟩] 75)).alloc (.cells #[.int .i64 1, .int .i64 1] 3)).alloc (.cells #[.int .i64 0, .int .i64 0] 3)).alloc (.cells #[.string ⟨#[97]⟩, .int .i64 0, .int .i64 0, .string ⟨#[98]⟩, .int .i64 1, .int .i64 0] 46))) (g1 := w.heap.size) (g2 := w.heap.size + 1) (g3 := w.heap.size + 1 + 1) (g4 := w.heap.size + 1 + 1 + 1) ((((Blk.new' rfl).alloc _).alloc _).alloc _) (((Blk.new' (by simp)).alloc _).alloc _) ((Blk.new' (by simp)).alloc _) (Blk.new' (by simp))
  have hE0 : Ext w ((((w.alloc (.cells #[.string ⟨#[97]⟩, .int .i64 1700, .string ⟨#[115]⟩, .string ⟨#[98]⟩, .int .i64 1600, .string ⟨#[115]⟩] 75)).alloc (.cells #[.int .i64 1, .int .i64 1] 3)).alloc (.cells #[.int .i64 0, .int .i64 0] 3)).alloc (.cells #[.string ⟨#[97]⟩, .int .i64 0, .int .i64 0, .string ⟨#[98]⟩, .int .i64 1, .int .i64 0] 46)) := ((((Ext.refl _).alloc _).alloc _).alloc _).alloc _
  have hh : Calls Tryz.prog 39 #[.slice (some ⟨w.heap.size, 0, none⟩) 2 2, .agg #[.slice (some ⟨w.heap.size + 1, 0, none⟩) 2 2, .slice (some ⟨w.heap.size + 1 + 1, 0, none⟩) 2 2], .slice (some ⟨w.heap.size + 1 + 1 + 1, 0, none⟩) 2 2] ((((w.alloc (.cells #[.string ⟨#[97]⟩, .int .i64 1700, .string ⟨#[115]⟩, .string ⟨#[98]⟩, .int .i64 1600, .string ⟨#[115]⟩] 75)).alloc (.cells #[.int .i64 1, .int .i64 1] 3)).alloc (.cells #[.int .i64 0, .int .i64 0] 3)).alloc (.cells #[.string ⟨#[97]⟩, .int .i64 0, .int .i64 0, .string ⟨#[98]⟩, .int .i64 1, .int .i64 0] 46)) (fun e w' => ∃ (q : Option Addr) (c : Nat), e = .returned (.tuple #[.slice q 1 c, .int .i64 0]) ∧ Slc 2 hidC w' q 1 c [(⟨#[98]⟩, ⟨#[97]⟩)] ∧ Ext ((((w.alloc (.cells #[.string ⟨#[97]⟩, .int .i64 1700, .string ⟨#[115]⟩, .string ⟨#[98]⟩, .int .i64 1600, .string ⟨#[115]⟩] 75)).alloc (.cells #[.int .i64 1, .int .i64 1] 3)).alloc (.cells #[.int .i64 0, .int .i64 0] 3)).alloc (.cells #[.string ⟨#[97]⟩, .int .i64 0, .int .i64 0, .string ⟨#[98]⟩, .int .i64 1, .int .i64 0] 46)) w') := by
    have := hides_good hM try_right
    rw [try_hidden] at this
    exact this
  replace hh := Lib.hid hh
  clear hM
  go_enter Tryz.func11, Tryz.ntmps11
  go_wp2_with (first
    | (go_at_call 39; (with_reducible refine Calls.mono hh.out ?_); rintro e w3 ⟨q, c, rfl, hs, hb3⟩)
    | (go_at_call 45; (with_reducible refine Calls.mono (eqHid_any q _ 1 c 1 [(⟨#[98]⟩, ⟨#[97]⟩)] _ (hs.ext ((Ext.refl _).alloc _)) (slc_of_blk hidC_len (xs := [((⟨#[98]⟩ : ByteArray), (⟨#[97]⟩ : ByteArray))]) (Blk.new' rfl) (by decide)) (by decide)) ?_); rintro e w4 ⟨rfl, hb4⟩))
  go_ret
  exact ⟨rfl, ((hE0.trans hb3).alloc _).trans hb4⟩
end Go.Proofs.YtakfanmoepiagaaGreatDoor

namespace Go.Proofs.YtakfanmoepiagaaGreatDoor
open Go Go.RowKit

theorem results_tctt {P : Program} {fn : Func} {a p b c : Tmp} {ty : TypeId} (h : fn.results = #[.tmp a, .cell p ty, .tmp b, .tmp c]) (tmps : Array Value) (w : World) (g : Nat) (t : TypeId) (cs : Array Value) (fr : Nat × Nat) (d : TypeDesc)
    (hp : tmps.getD p undef = .pointer (some ⟨g, 0, none⟩)) (hg : w.heap[g]? = some (.cells cs t fr))
    (hu : P.underlying ty = some d) (hd : (match d with | .struct _ | .array _ _ => true | _ => false) = true) (hi : (P.info? ty).map (·.size) = some cs.size) (v1 v2 v3 : Value) (h1 : tmps.getD a undef = v1) (h2 : tmps.getD b undef = v2) (h3 : tmps.getD c undef = v3) :
    (results fn tmps).run P w = .ok (.tuple #[v1, .agg cs, v2, v3]) w := by
  have hp' : tmps[p]?.getD undef = .pointer (some ⟨g, 0, none⟩) := by simpa using hp
  have h1' : tmps[a]?.getD undef = v1 := by simpa using h1
  have h2' : tmps[b]?.getD undef = v2 := by simpa using h2
  have h3' : tmps[c]?.getD undef = v3 := by simpa using h3
  simp only [results, h]
  simp [Sem.run_bind, Result.andThen, hp', h1', h2', h3', asAddr, run_loadVar_row w g t ty cs fr d hg hu hd hi]

end Go.Proofs.YtakfanmoepiagaaGreatDoor
