/- Pitches of a scale, without a bound. Conditions: as each theorem says. -/
import Derived.Test.YtkfdolnnkbhlhaaDoorScaleF
namespace Go.Proofs.YtkfdolnnkbhlhaaDoor
open Go Go.RowKit

set_option maxRecDepth 100000 in
set_option maxHeartbeats 1600000 in
theorem high_any (xs : List I4) (k : Nat) (x : I4) (w : World) (hk : k ≤ 1000) (hx : xs[k % 12]? = some x) (hr : rightB x = true) :
    Calls Tryd.prog 41 #[.agg (sc xs), .int .i64 (k : Int)] w fun e w' => e = .returned (.agg #[.int .i64 (x.up ((k / 12 : Nat) : Int)).a, .int .i64 (x.up ((k / 12 : Nat) : Int)).b, .int .i64 (x.up ((k / 12 : Nat) : Int)).c, .int .i64 (x.up ((k / 12 : Nat) : Int)).d]) ∧ Ext w w' := by
  have hG := (Blk.new' (w := w) (t := 29) (cs := sc xs) rfl).alloc (.cells #[.int .i64 0, .int .i64 0, .int .i64 0, .int .i64 0] 27)
  obtain ⟨c0, c1, c2, c3⟩ := (sc_rows hG).at_ hx
  obtain ⟨⟨r0, r1⟩, -⟩ := right_bounds hr
  have hw : IntKind.i64.wrap (x.a + ((k / 12 : Nat) : Int)) = x.a + ((k / 12 : Nat) : Int) := IntWalk.i64_in _ (by omega)
  have hm : Int.tmod (k : Int) 12 = ((k % 12 : Nat) : Int) := rfl
  have hq : Int.tdiv (k : Int) 12 = ((k / 12 : Nat) : Int) := rfl
  have hm1 : ((k % 12 : Nat) : Int) < 12 := by omega
  have hm2 : IntKind.i64.wrap ((k % 12 : Nat) : Int) = ((k % 12 : Nat) : Int) := IntWalk.i64_in _ (by omega)
  have hq2 : IntKind.i64.wrap ((k / 12 : Nat) : Int) = ((k / 12 : Nat) : Int) := IntWalk.i64_in _ (by omega)
  clear hG hr
  replace hx := Lib.hid hx
  generalize k % 12 = j at *
  generalize k / 12 = q at *
  go_enter Tryd.func41, Tryd.ntmps41
  go_wp2
  go_light
  exact bodyPost_ret (v := .agg #[.int .i64 (x.a + q), .int .i64 x.b, .int .i64 x.c, .int .i64 x.d]) (by simp [results, Tryd.results41, go_sem, *]) rfl ⟨rfl, (by (repeat (with_reducible first | assumption | exact Ext.refl _ | refine Ext.drew ?_ | refine Ext.alloc ?_ _ | refine Ext.setCell ?_ (by simp <;> omega) _ | refine Ext.trans ?_ (by assumption))))⟩

theorem exec_load_row {P : Program} {ev : Operand → Value} {o : Oper} {w : World} (ty : TypeId) (x : Operand) (ho : o.op = .load ty x)
    (g : Nat) (hx : ev x = .pointer (some ⟨g, 0, none⟩)) (t : TypeId) (cs : Array Value) (fr : Nat × Nat) (d : TypeDesc) (hg : w.heap[g]? = some (.cells cs t fr))
    (hu : P.underlying ty = some d) (hd : (match d with | .struct _ | .array _ _ => true | _ => false) = true) (hi : (P.info? ty).map (·.size) = some cs.size) :
    (execOp ev o).run P w = .ok (.value (.agg cs)) w := by
  unfold execOp
  simp only [ho, hx, Instr.loadAt, Instr.sureAddr, Sem.run_bind, Sem.run_pure, Result.andThen_ok, run_loadVar_row w g t ty cs fr d hg hu hd hi]
end Go.Proofs.YtkfdolnnkbhlhaaDoor
