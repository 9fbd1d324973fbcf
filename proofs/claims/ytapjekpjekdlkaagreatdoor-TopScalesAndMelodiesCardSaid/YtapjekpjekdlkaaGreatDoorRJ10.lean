/- The name of middle c sharp, by tune. Conditions: none. Comparing plain numbers: the program's 'cmp' functions and the long product. Conditions: ranges as each theorem says. -/
import Derived.Test.YtapjekpjekdlkaaGreatDoorRJ2
import Derived.Test.YtapjekpjekdlkaaGreatDoorRShelf
import Derived.Deep.Light
set_option linter.unusedSimpArgs false
set_option linter.unusedVariables false
namespace Go.Proofs.YtapjekpjekdlkaaGreatDoor
open Go Go.RowKit

def nameCells : Array Value := #[.string ⟨#[99]⟩, .string ⟨#[99, 35]⟩, .string ⟨#[100]⟩, .string ⟨#[100, 35]⟩, .string ⟨#[101]⟩, .string ⟨#[102]⟩, .string ⟨#[102, 35]⟩, .string ⟨#[103]⟩, .string ⟨#[103, 35]⟩, .string ⟨#[97]⟩, .string ⟨#[97, 35]⟩, .string ⟨#[98]⟩]

set_option maxRecDepth 100000 in
theorem names_any (w : World) :
    Calls Tryz.prog 45 #[] w fun e w' => e = .returned (.slice (some ⟨w.heap.size, 0, none⟩) 12 12) ∧ w' = w.alloc (.cells nameCells 9) := by
  go_enter Tryz.func45, Tryz.ntmps45
  go_wp2
  go_ret
  exact ⟨rfl, rfl⟩

theorem itoa4_any (w : World) :
    Calls Tryz.prog 46 #[.int .i64 4] w fun e w' => e = .returned (.string ⟨#[52]⟩) ∧ w = w' :=
  (Tryz.strconv_Itoa_small 4 (by omega) w).mono fun e w' h => ⟨h.1.trans (by kernel_rfl), h.2.symm⟩

set_option maxRecDepth 100000 in
theorem name61_any (w : World) :
    Calls Tryz.prog 23 #[.int .i64 61] w fun e w' => e = .returned (.tuple #[.string ⟨#[99, 35, 52]⟩, .int .i64 0]) ∧ Ext w w' := by
  have hO : outB 61 0 127 = false := by decide
  go_enter Tryz.func23, Tryz.ntmps23
  go_wp2_with (go_at_call 19; refine (outside_any 61 0 127 _).mono ?_; rintro e w' ⟨rfl, rfl⟩)
  refine wp_region_forks [1, 2, 5, 6, 7] 7 (fun w' => Ext w w') Ext (by kernel_rfl) (by kernel_rfl) Ext.refl (fun _ _ _ => Ext.trans) (fun _ _ h he => h.trans he) (by (repeat (with_reducible first | assumption | exact Blk.new' (by simp) | refine Blk.drew ?_ | refine Blk.alloc ?_ _ | exact Ext.refl _ | refine Ext.drew ?_ | refine Ext.alloc ?_ _))) ?_
  repeat
    first
      | (refine q_quiet rfl rfl (fun _ _ _ _ h => h) ?_
         apply Exists.intro
         refine ⟨fun w' hw' => ?_, ?_⟩
         · obtain hH0 := hw'
           skip
           simp [go_sem, quietTo, World.cell?, Ext.refl, ↓IntWalk.iteOmega]
           first
             | rfl
         simp only [Act.put, List.setIfInBounds_toArray, List.set_cons_succ, List.set_cons_zero])
      | (refine q_skip rfl rfl (fun _ _ _ _ h => h) ?_
         simp only [Act.put, List.setIfInBounds_toArray, List.set_cons_succ, List.set_cons_zero])
  refine q_nil ?_
  try simp only [List.length_cons, List.length_nil, Nat.reduceAdd, Array.replicate_succ, Array.replicate_zero, List.push_toArray, List.nil_append, List.cons_append, List.setIfInBounds_toArray, List.set_cons_succ, List.set_cons_zero]
  refine ww_one (i := 0) rfl rfl (by kernel_rfl) ?_
  intro w1 e1 h1 K1 hK1
  go_wp2_with (go_at_call 45; refine (names_any _).mono ?_; rintro e w2 ⟨rfl, rfl⟩)
  refine ⟨h1.alloc _, ?_⟩
  simp only [List.setIfInBounds_toArray, List.set_cons_succ, List.set_cons_zero]
  refine ww_quiet [3, 4, 8, 9, 10, 11] 0 (fun w' => Blk w' w1.heap.size 9 nameCells ∧ Ext w w') rfl (by kernel_rfl) (by kernel_rfl) Ext.refl (fun _ _ _ => Ext.trans) (fun _ _ h he => ⟨h.1.ext he, h.2.trans he⟩) ⟨(by (repeat (with_reducible first | assumption | exact Blk.new' (by simp) | refine Blk.drew ?_ | refine Blk.alloc ?_ _ | exact Ext.refl _ | refine Ext.drew ?_ | refine Ext.alloc ?_ _))), (by (repeat (with_reducible first | assumption | exact Blk.new' (by simp) | refine Blk.drew ?_ | refine Blk.alloc ?_ _ | exact Ext.refl _ | refine Ext.drew ?_ | refine Ext.alloc ?_ _)))⟩ (fun _ h => h.2) ?_
  repeat
    first
      | (refine q_quiet rfl rfl (fun _ _ _ _ h => h) ?_
         apply Exists.intro
         refine ⟨fun w' hw' => ?_, ?_⟩
         · obtain ⟨hH20, hH21⟩ := hw'
           unfold Blk at hH20
           simp [go_sem, quietTo, World.cell?, hH20, Ext.refl, ↓IntWalk.iteOmega, nameCells]
           first
             | rfl
             | (exact (itoa4_any _).mono fun _ _ h => ⟨h.1, h.2 ▸ Ext.refl _⟩)
         simp only [Act.put, List.setIfInBounds_toArray, List.set_cons_succ, List.set_cons_zero])
      | (refine q_skip rfl rfl (fun _ _ _ _ h => h) ?_
         simp only [Act.put, List.setIfInBounds_toArray, List.set_cons_succ, List.set_cons_zero])
  refine q_nil ?_
  try simp only [List.length_cons, List.length_nil, Nat.reduceAdd, Array.replicate_succ, Array.replicate_zero, List.push_toArray, List.nil_append, List.cons_append, List.setIfInBounds_toArray, List.set_cons_succ, List.set_cons_zero]
  refine ww_done (by kernel_rfl) fun w8 e8 h8 => ?_
  have he8 := h8.2
  dsimp only [Exit.then]
  go_wp2
  go_light
  exact bodyPost_ret (v := .tuple #[.string ⟨#[99, 35, 52]⟩, .int .i64 0]) (by simp [results, Tryz.results23, go_sem, *]; try rfl) rfl ⟨rfl, (by (repeat (with_reducible first | assumption | exact Ext.refl _ | refine Ext.drew ?_ | refine Ext.alloc ?_ _ | refine Ext.setCell ?_ (by simp <;> omega) _ | refine Ext.trans ?_ (by assumption))))⟩

end Go.Proofs.YtapjekpjekdlkaaGreatDoor

namespace Go.Proofs.YtapjekpjekdlkaaGreatDoor
open Go Go.RowKit

def hiN (m : Nat) : Int := ((m / 18446744073709551616 : Nat) : Int)
def loN (m : Nat) : Int := ((m % 18446744073709551616 : Nat) : Int)
def cmpN (x y : Nat) : Int := if x < y then -1 else if x = y then 0 else 1
def cmpZ (x y : Int) : Int := if x < y then -1 else if x = y then 0 else 1
theorem loN_range (m : Nat) : 0 ≤ loN m ∧ loN m ≤ 18446744073709551615 := by unfold loN; omega

theorem mul_any (p q : Nat) (w : World) (hp : p < 18446744073709551616) (hq : q < 18446744073709551616) :
    Calls Tryz.prog 58 #[.int .u64 p, .int .u64 q] w fun e w' => e = .returned (.tuple #[.int .u64 (hiN (p * q)), .int .u64 (loN (p * q))]) ∧ w = w' :=
  (Tryz.bits_Mul64 p q hp hq w).mono fun e w' h => ⟨h.1, h.2.symm⟩

set_option maxRecDepth 100000 in
theorem isNaNU_any (x : Int) (w : World) (h0 : 0 ≤ x) (h1 : x ≤ 18446744073709551615) :
    Calls Tryz.prog 73 #[.int .u64 x] w fun e w' => e = .returned (.bool false) ∧ w = w' := by
  go_enter Tryz.func73, Tryz.ntmps73
  go_wp2
  go_ret
  exact ⟨ret_bool (by simp), rfl⟩

set_option maxRecDepth 100000 in
theorem cmpU_any (x y : Int) (w : World) (h0 : 0 ≤ x) (h1 : x ≤ 18446744073709551615) (k0 : 0 ≤ y) (k1 : y ≤ 18446744073709551615) :
    Calls Tryz.prog 60 #[.int .u64 x, .int .u64 y] w fun e w' => e = .returned (.int .i64 (cmpZ x y)) ∧ w = w' := by
  have hc : (x < y ∧ cmpZ x y = -1) ∨ (x = y ∧ cmpZ x y = 0) ∨ (y < x ∧ cmpZ x y = 1) := by unfold cmpZ; split <;> (try split) <;> omega
  rcases hc with ⟨h, hv⟩ | ⟨h, hv⟩ | ⟨h, hv⟩
  all_goals
    rw [hv]
    clear hv
    go_enter Tryz.func60, Tryz.ntmps60
    go_wp2_with (first | (go_at_call 73; refine (isNaNU_any _ _ ?_ ?_).mono ?_ <;> first | omega | (rintro e w' ⟨rfl, rfl⟩)))
    go_ret
    exact ⟨rfl, rfl⟩

set_option maxRecDepth 100000 in
theorem orInt_any (b off cap : Nat) (xs : List Int) (w : World) (hl : xs.length ≤ 1000) (hc : ∀ i, i < xs.length → w.cell? ⟨b, off + i, none⟩ = some (.int .i64 (xs.getD i 0))) :
    Calls Tryz.prog 59 #[.slice (some ⟨b, off, none⟩) xs.length cap] w fun e w' => e = .returned (.int .i64 (orF xs)) ∧ w = w' := by
  have HC := Lib.hid hc; clear hc
  go_enter Tryz.func59, Tryz.ntmps59
  go_wp2
  go_loop [8] (fun i => ∃ k : Nat, k ≤ xs.length ∧ i = .int .i64 k ∧ ZeroTo xs k) (fun i => xs.length - (intOf i).toNat)
  case atStart => exact ⟨0, Nat.zero_le _, rfl, fun j hj => by omega⟩
  case round =>
    obtain ⟨k, hk, rfl, hz⟩ := hrel
    by_cases hlt : k < xs.length
    · have hcell := HC.out k hlt
      obtain ⟨v, hv⟩ : ∃ v, xs.getD k 0 = v := ⟨_, rfl⟩
      rw [hv] at hcell
      have HV := Lib.hid hv; clear hv
      cases hx : v != 0
      · go_wp2
        go_round
        case rel => exact ⟨k + 1, by omega, by go_num, hz.succ (by rw [HV.out]; simpa using hx)⟩
        case measure => simp [intOf]; omega
      · go_wp2
        go_ret
        exact ⟨ret_int (by rw [orF_at xs k hlt hz (by rw [HV.out]; simpa using hx), HV.out]), rfl⟩
    · go_wp2
      go_ret
      exact ⟨ret_int (orF_zero xs k (by omega) hz).symm, rfl⟩

theorem orInt_blk (g t cap : Nat) (xs : List Int) (w : World) (hl : xs.length ≤ 1000) (hb : Blk w g t (xs.map (Value.int .i64)).toArray) :
    Calls Tryz.prog 59 #[.slice (some ⟨g, 0, none⟩) xs.length cap] w fun e w' => e = .returned (.int .i64 (orF xs)) ∧ w = w' :=
  orInt_any g 0 cap xs w hl fun i hi => by rw [hb.cell]; simp [hi]

/-- The long products decide as the numbers do. -/
theorem orF_cmp (x y : Nat) : orF [cmpZ (hiN x) (hiN y), cmpZ (loN x) (loN y)] = cmpN x y := by
  unfold orF orF orF cmpZ cmpN hiN loN
  have := Nat.div_add_mod x 18446744073709551616
  have := Nat.div_add_mod y 18446744073709551616
  by_cases h1 : x / 18446744073709551616 < y / 18446744073709551616
  · rw [if_pos (by omega : ((x / 18446744073709551616 : Nat) : Int) < _)]
    rw [if_pos (by omega : x < y)]
    rfl
  · rw [if_neg (by omega : ¬ ((x / 18446744073709551616 : Nat) : Int) < _)]
    by_cases h2 : x / 18446744073709551616 = y / 18446744073709551616
    · rw [if_pos (by omega : ((x / 18446744073709551616 : Nat) : Int) = _), if_pos rfl]
      by_cases h3 : x < y
      · rw [if_pos (by omega : ((x % 18446744073709551616 : Nat) : Int) < _), if_pos h3]; rfl
      · rw [if_neg (by omega : ¬ ((x % 18446744073709551616 : Nat) : Int) < _), if_neg h3]
        by_cases h4 : x = y
        · rw [if_pos (by omega : ((x % 18446744073709551616 : Nat) : Int) = _), if_pos h4]; rfl
        · rw [if_neg (by omega : ¬ ((x % 18446744073709551616 : Nat) : Int) = _), if_neg h4]; rfl
    · rw [if_neg (by omega : ¬ ((x / 18446744073709551616 : Nat) : Int) = _)]
      rw [if_neg (by omega : ¬ x < y), if_neg (by omega : ¬ x = y)]
      rfl

/-- The ways a comparison goes. -/
theorem cmp_ways (x y : Nat) : (hiN x < hiN y ∧ cmpN x y = -1) ∨ (hiN x = hiN y ∧ loN x < loN y ∧ cmpN x y = -1) ∨ (hiN x = hiN y ∧ loN x = loN y ∧ cmpN x y = 0) ∨ (hiN x = hiN y ∧ loN y < loN x ∧ cmpN x y = 1) ∨ (hiN y < hiN x ∧ cmpN x y = 1) := by
  unfold cmpN hiN loN
  have := Nat.div_add_mod x 18446744073709551616
  have := Nat.div_add_mod y 18446744073709551616
  by_cases h : x < y
  · rw [if_pos h]; omega
  · rw [if_neg h]
    by_cases h4 : x = y
    · rw [if_pos h4]; omega
    · rw [if_neg h4]; omega

end Go.Proofs.YtapjekpjekdlkaaGreatDoor
