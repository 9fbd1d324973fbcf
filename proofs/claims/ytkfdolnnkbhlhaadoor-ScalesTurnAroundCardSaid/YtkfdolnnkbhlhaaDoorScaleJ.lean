/- A scale equals itself. Conditions: twelve intervals. -/
import Derived.Test.YtkfdolnnkbhlhaaDoorScaleI
import Derived.Laws.StructEq
namespace Go.Proofs.YtkfdolnnkbhlhaaDoor
open Go Go.RowKit

theorem part_sc (w : World) {xs : List I4} {k : Nat} {x : I4} (hl : xs.length = 12) (h : xs[k]? = some x) :
    (part 27 (sc xs) (k * 4)).run Tryd.prog w = .ok (.agg #[.int .i64 x.a, .int .i64 x.b, .int .i64 x.c, .int .i64 x.d]) w := by
  have hk : k < 12 := by rw [← hl]; exact (List.getElem?_eq_some_iff.1 h).1
  have he := sc_extract h
  simp [Sem.run_bind, part, Tryd.isAgg27, Tryd.sizeOf27, hk, he]
theorem eq_i4 (d : Nat) (x : I4) (w : World) : (Op.equalIn (d + 1 + 1) 27 (.agg #[.int .i64 x.a, .int .i64 x.b, .int .i64 x.c, .int .i64 x.d]) (.agg #[.int .i64 x.a, .int .i64 x.b, .int .i64 x.c, .int .i64 x.d])).run Tryd.prog w = .ok true w := by
  simp [go_sem]
theorem eq_sc (xs : List I4) (hl : xs.length = 12) (w : World) : (Op.equalIn 10000 29 (.agg (sc xs)) (.agg (sc xs))).run Tryd.prog w = .ok true w := by
  show (Op.equalIn (9997 + 1 + 1 + 1) _ _ _).run _ _ = _
  rw [Op.equalIn]
  simp only [Sem.run_bind, run_underlying Tryd.underlying29, Result.andThen_ok, Tryd.sizeOf27, Std.Legacy.Range.forIn_eq_forIn_range']
  have hm : ∀ i ∈ List.range' 0 12 1, i < 12 := by decide
  change ∀ i ∈ List.range' 0 (Std.Legacy.Range.size [0:12]) 1, i < 12 at hm
  revert hm
  generalize List.range' 0 (Std.Legacy.Range.size [0:12]) 1 = l
  induction l with
  | nil => intro _; simp
  | cons i l ih =>
    intro hm
    obtain ⟨x, hx⟩ := getD_some hl (hm i (by simp))
    have hp := part_sc w hl hx
    have he := eq_i4 9997 x w
    simp only [List.forIn_cons, Sem.run_bind, hp, Result.andThen_ok, he, Bool.not_true, Bool.false_eq_true, if_false, Sem.run_pure]
    exact ih fun j hj => hm j (by simp [hj])
end Go.Proofs.YtkfdolnnkbhlhaaDoor
