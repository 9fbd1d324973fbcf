/- Faults of singers, moments and ranges; bounds of ranges. Conditions: sizes. -/
import Derived.Test.YtboplnogfjmpnaaGreatDoorVkVoH
import Derived.Shelf.SlicesE.IndexFunc
set_option linter.unusedSimpArgs false
set_option linter.unusedVariables false
namespace Go.Proofs.YtboplnogfjmpnaaGreatDoor
open Go Go.RowKit

set_option maxRecDepth 100000 in
theorem keyFault_any (s : ByteArray) (w : World) (hs : s.size ≤ 1000) :
    Calls Tryz.prog 20 #[.string s] w fun e w' => e = .returned (.int .i64 (if keyB s then 0 else 5)) ∧ Ext w w' := by
  cases hk : keyB s
  all_goals
    go_enter Tryz.func20, Tryz.ntmps20
    go_wp2_with (go_at_call 45; (with_reducible refine Calls.mono (key_is hk (by omega) _) ?_); rintro e w1 ⟨rfl, hb1⟩)
    go_ret
    exact ⟨rfl, hb1⟩
set_option maxRecDepth 100000 in
theorem isMomP_any (n : Int) (w : World) :
    Calls Tryz.prog 84 #[.int .i64 n] w fun e w' => e = .returned (.bool (momB n)) ∧ w = w' := by
  have hm : momB n = !outB n 0 345686399999 := by unfold momB; rw [outB_inB]; simp
  have ho := fun w => outside_any n 0 345686399999 w
  replace hm := Lib.hid hm
  generalize outB n 0 345686399999 = v at *
  replace ho := Lib.hid ho
  go_enter Tryz.func84, Tryz.ntmps84
  go_wp2_with (go_at_call 70; (with_reducible refine Calls.mono (ho.out _) ?_); rintro e w' ⟨rfl, rfl⟩)
  go_ret
  exact ⟨ret_bool (by rw [hm.out]), rfl⟩
set_option maxRecDepth 100000 in
theorem momPred (w : World) : PredAt Tryz.prog 86 #[] (fun x : Int => .int .i64 x) (fun x => !momB x) w := fun W x _ => by
  show Calls Tryz.prog 86 #[.int .i64 x] W _
  have hp := fun u => isMomP_any x u
  obtain ⟨v, hv⟩ : ∃ v, momB x = v := ⟨_, rfl⟩
  rw [hv] at hp
  replace hv := Lib.hid hv
  replace hp := Lib.hid hp
  go_enter Tryz.func86, Tryz.ntmps86
  go_wp2_with (go_at_call 84; (with_reducible refine Calls.mono (hp.out _) ?_); rintro e w' ⟨rfl, rfl⟩)
  go_ret
  exact ⟨by rw [hv.out]; rfl, 0, rfl⟩
set_option maxRecDepth 100000 in
theorem momentFault1_any (t : Int) (g ty cap : Nat) (w : World) (hB : Blk w g ty #[.int .i64 t]) :
    Calls Tryz.prog 54 #[.slice (some ⟨g, 0, none⟩) 1 cap] w fun e w' => e = .returned (.int .i64 (if momB t then 0 else 1)) ∧ Ext w w' := by
  have hc : Calls Tryz.prog 85 #[.slice (some ⟨g, 0, none⟩) 1 cap, .func (.func 86) #[] #[]] w fun e w' => e = .returned (.bool (([t].take 1).any fun x => !momB x)) ∧ ∃ q, w' = w.drewN q := AnyE.slices_ContainsFunc Tryz.lqcInt (fun x : Int => .int .i64 x) (fun x => !momB x) 86 #[] (enters_of Tryz.func86 (by kernel_rfl) rfl) g 0 1 cap [t] w (momPred w) (by simp) (by omega) (fun j hj => by
    obtain rfl : j = 0 := by simp at hj; omega
    exact hB.cell 0)
  have e1 : ([t].take 1).any (fun x => !momB x) = !momB t := by simp
  rw [e1] at hc
  clear e1
  cases hm : momB t
  all_goals
    rw [hm] at hc
    replace hc := Lib.hid hc
    go_enter Tryz.func54, Tryz.ntmps54
    go_wp2_with (go_at_call 85; (with_reducible refine Calls.mono hc.out ?_); rintro e w1 ⟨rfl, q, rfl⟩)
    go_ret
    exact ⟨rfl, below_drewN' (Below.refl _ w) q⟩
set_option maxRecDepth 100000 in
theorem momentFault2_any (t u : Int) (g ty cap : Nat) (w : World) (hB : Blk w g ty #[.int .i64 t, .int .i64 u]) :
    Calls Tryz.prog 54 #[.slice (some ⟨g, 0, none⟩) 2 cap] w fun e w' => e = .returned (.int .i64 (if (momB t && momB u) = true then 0 else 1)) ∧ Ext w w' := by
  have hc : Calls Tryz.prog 85 #[.slice (some ⟨g, 0, none⟩) 2 cap, .func (.func 86) #[] #[]] w fun e w' => e = .returned (.bool (([t, u].take 2).any fun x => !momB x)) ∧ ∃ q, w' = w.drewN q := AnyE.slices_ContainsFunc Tryz.lqcInt (fun x : Int => .int .i64 x) (fun x => !momB x) 86 #[] (enters_of Tryz.func86 (by kernel_rfl) rfl) g 0 2 cap [t, u] w (momPred w) (by simp) (by omega) (fun j hj => by
    have h2 : j = 0 ∨ j = 1 := by simp at hj; omega
    rcases h2 with rfl | rfl
    · exact hB.cell 0
    · exact hB.cell 1)
  have e1 : ([t, u].take 2).any (fun x => !momB x) = !(momB t && momB u) := by
    show (!momB t || (!momB u || false)) = _
    cases momB t <;> cases momB u <;> rfl
  rw [e1] at hc
  clear e1
  cases hm : (momB t && momB u)
  all_goals
    rw [hm] at hc
    replace hc := Lib.hid hc
    go_enter Tryz.func54, Tryz.ntmps54
    go_wp2_with (go_at_call 85; (with_reducible refine Calls.mono hc.out ?_); rintro e w1 ⟨rfl, q, rfl⟩)
    go_ret
    exact ⟨rfl, below_drewN' (Below.refl _ w) q⟩
set_option maxRecDepth 100000 in
theorem singerFault2_any (s : ByteArray) (t u : Int) (g ty cap : Nat) (w : World) (hs : s.size ≤ 1000) (hB : Blk w g ty #[.int .i64 t, .int .i64 u]) :
    Calls Tryz.prog 52 #[.string s, .slice (some ⟨g, 0, none⟩) 2 cap] w fun e w' => e = .returned (.int .i64 (if keyB s then (if (momB t && momB u) = true then 0 else 1) else 5)) ∧ Ext w w' := by
  have hm := fun v (hu : Ext w v) => momentFault2_any t u g ty cap v (hB.ext hu)
  generalize (if (momB t && momB u) = true then (0 : Int) else 1) = f at *
  replace hm := Lib.hid hm
  clear hB
  cases hk : keyB s
  all_goals
    go_enter Tryz.func52, Tryz.ntmps52
    go_wp2_with (first
      | (go_at_call 83; (with_reducible refine Calls.mono (isKey_is hk (by omega) _) ?_); rintro e w1 ⟨rfl, hb1⟩)
      | (go_at_call 54; (with_reducible refine Calls.mono (hm.out _ hb1) ?_); rintro e w2 ⟨rfl, hb2⟩))
    go_ret
    first
      | exact ⟨rfl, hb1⟩
      | exact ⟨rfl, hb1.trans hb2⟩
set_option maxRecDepth 100000 in
theorem singerFault1_any (s : ByteArray) (t : Int) (g ty cap : Nat) (w : World) (hs : s.size ≤ 1000) (hB : Blk w g ty #[.int .i64 t]) :
    Calls Tryz.prog 52 #[.string s, .slice (some ⟨g, 0, none⟩) 1 cap] w fun e w' => e = .returned (.int .i64 (if keyB s then (if momB t then 0 else 1) else 5)) ∧ Ext w w' := by
  have hm := fun u (hu : Ext w u) => momentFault1_any t g ty cap u (hB.ext hu)
  generalize (if momB t then (0 : Int) else 1) = f at *
  replace hm := Lib.hid hm
  clear hB
  cases hk : keyB s
  all_goals
    go_enter Tryz.func52, Tryz.ntmps52
    go_wp2_with (first
      | (go_at_call 83; (with_reducible refine Calls.mono (isKey_is hk (by omega) _) ?_); rintro e w1 ⟨rfl, hb1⟩)
      | (go_at_call 54; (with_reducible refine Calls.mono (hm.out _ hb1) ?_); rintro e w2 ⟨rfl, hb2⟩))
    go_ret
    first
      | exact ⟨rfl, hb1⟩
      | exact ⟨rfl, hb1.trans hb2⟩
theorem rgOf_small {V : List VoiceV} (hs : ∀ x ∈ V, x.Small) (t : Int) (p : ByteArray) : ∀ k, k ≤ V.length → ∀ r, rgOf V t p k = some r → (-1000 ≤ r.1 ∧ r.1 ≤ 1000) ∧ -1000 ≤ r.2 ∧ r.2 ≤ 1000
  | 0, _, r, h => by simp [rgOf] at h
  | k + 1, hk, r, h => by
    obtain ⟨x, hx⟩ := getD_some (rfl : V.length = V.length) (show k < V.length by omega)
    rw [rgOf_succ hx] at h
    split at h
    · cases h
      obtain ⟨-, -, h1, h2⟩ := hs x (List.mem_of_getElem? hx)
      exact ⟨h1, h2⟩
    · exact rgOf_small hs t p k (by omega) r h
theorem rg_bounds {V : List VoiceV} (hs : ∀ x ∈ V, x.Small) (t : Int) (p : ByteArray) : (-1000 ≤ ((rgS V t V.length p).getD (0, 0)).1 ∧ ((rgS V t V.length p).getD (0, 0)).1 ≤ 1000) ∧ -1000 ≤ ((rgS V t V.length p).getD (0, 0)).2 ∧ ((rgS V t V.length p).getD (0, 0)).2 ≤ 1000 := by
  cases h : rgS V t V.length p with
  | none => simp
  | some r => exact rgOf_small hs t p V.length (Nat.le_refl _) r h
end Go.Proofs.YtboplnogfjmpnaaGreatDoor
