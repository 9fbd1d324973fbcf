/- By how much rows would have to be higher: the walk. Conditions: people, stage and stands are right (what CheckStands answers is a hypothesis here). What right stands are, in one sentence, and the other way round they stay right: plain mathematics. Conditions: as each theorem says. -/
import Derived.Test.YtflcbphlhoibiaaGreatDoorMtStK
import Derived.Test.YtflcbphlhoibiaaGreatDoorMtJ26
set_option linter.unusedSimpArgs false
set_option linter.unusedVariables false
namespace Go.Proofs.YtflcbphlhoibiaaGreatDoor
open Go Go.RowKit

/-- The cells of a row of numbers. -/
def rowI (xs : List Int) : Array Value := (xs.map (Value.int .i64)).toArray
theorem rowI_cell {w : World} {g : Nat} {t : TypeId} {xs : List Int} {i : Nat} {v : Int} (h : Blk w g t (rowI xs)) (hx : xs[i]? = some v) : w.cell? ⟨g, i, none⟩ = some (.int .i64 v) := by
  rw [h.cell, rowI, List.getElem?_toArray, List.getElem?_map, hx]; rfl
theorem rowI_set {w : World} {g : Nat} {t : TypeId} {xs : List Int} (h : Blk w g t (rowI xs)) (i : Nat) (v : Int) : Blk (w.setCell ⟨g, i, none⟩ (.int .i64 v)) g t (rowI (xs.set i v)) :=
  (h.set_ i _).cast (by simp [rowI, List.map_set])
theorem slc_rowI {w : World} {g : Nat} {t : TypeId} {xs : List Int} (h : Blk w g t (rowI xs)) (hl : xs.length ≤ 1000000000) : Slc 1 intC w (some ⟨g, 0, none⟩) xs.length xs.length xs := by
  refine ⟨⟨rfl, hl, fun _ => ⟨g, 0, rfl, h.lt, fun i x hx j u hu => ?_⟩⟩, Nat.le_refl _, (fun e => by cases e), (fun a ha => by cases ha; exact ⟨g, 0, rfl, h.lt⟩)⟩
  obtain rfl : j = 0 := by
    have := (List.getElem?_eq_some_iff.1 hu).1
    simp only [intC, List.length_singleton] at this
    omega
  cases hu
  rw [Nat.zero_add, Nat.mul_one, Nat.add_zero]
  exact rowI_cell h hx
theorem madeI (n : Nat) : madeCells #[.int .i64 0] n = rowI (List.replicate n 0) := by
  apply Array.ext
  · simp [size_madeCells, rowI]
  · intro i h1 h2
    simp [madeCells, rowI, Nat.mod_one]
theorem cellInt : (Tryz.prog.info? 3).map (fun i => (i.zero, i.size, i.bytes)) = some (some (.int .i64 0), 1, 8) := by kernel_rfl
theorem make_int (n : Nat) (hn : n ≤ 1000) (u : World) : (Instr.makeSlice 22 (.int .i64 (n : Int)) (.int .i64 (n : Int))).run Tryz.prog u = .ok (.slice (some ⟨u.heap.size, 0, none⟩) n n) (u.alloc (.cells (rowI (List.replicate n 0)) 3)) := by
  obtain ⟨i0, hi, hz0, hz1, hz2⟩ := info_parts cellInt
  have := run_make (P := Tryz.prog) u 22 3 i0 (.int .i64 0) Tryz.underlying22 hi hz0 .i64 .i64 (n : Int) (n : Int) (by omega) (by omega) (by rw [hz2]; omega) (by omega)
  rw [this, hz1, Int.toNat_natCast, Nat.mul_one, show (Value.int .i64 0).cells = #[.int .i64 0] from rfl, madeI]

/-- A row whose first numbers are set. -/
def arrL (u : List Int) (acc : Int) (m : Nat) : List Int := u ++ acc :: List.replicate m 0
theorem arrL_at {u : List Int} {acc : Int} {m : Nat} {r : Nat} (hr : u.length = r) : (arrL u acc m)[r]? = some acc := by
  subst hr; unfold arrL; rw [List.getElem?_append_right (Nat.le_refl _), Nat.sub_self]; rfl
theorem arrL_low {u : List Int} {acc : Int} {m k : Nat} {v : Int} (h : u[k]? = some v) : (arrL u acc m)[k]? = some v := by
  unfold arrL; rw [List.getElem?_append_left (List.getElem?_eq_some_iff.1 h).1, h]
theorem arrL_set {u : List Int} {acc : Int} {m : Nat} {r : Nat} (hr : u.length = r) (v : Int) : (arrL u acc m).set r v = arrL u v m := by
  subst hr; unfold arrL; rw [List.set_append_right _ _ (Nat.le_refl _), Nat.sub_self]; rfl
section
variable {P : List PersonV} {wide high : List Int} {S : List StandV}
def accK (P : List PersonV) (wide high : List Int) (u : List Int) (r : Nat) (S : List StandV) (acc : Int) (k : Nat) : Int := (S.take k).foldl (fun acc b => liftB P wide high u r S b acc) acc
def accI (P : List PersonV) (wide high : List Int) (u : List Int) (r : Nat) (S : List StandV) (b : StandV) (acc : Int) (i : Nat) : Int := liftB P wide high u r (S.take i) b acc
theorem accK_succ {u : List Int} {r : Nat} {acc : Int} {k : Nat} {b : StandV} (h : S[k]? = some b) : accK P wide high u r S acc (k + 1) = liftB P wide high u r S b (accK P wide high u r S acc k) := by
  unfold accK; rw [take_snocL h, List.foldl_append]; rfl
theorem accI_succ {u : List Int} {r : Nat} {acc : Int} {i : Nat} {a b : StandV} (h : S[i]? = some a) : accI P wide high u r S b acc (i + 1) = if b.row = r && beforeS wide a b then max (accI P wide high u r S b acc i) (topS P high a + u.getD a.row.toNat 0 - topS P high b + 1) else accI P wide high u r S b acc i := by
  unfold accI liftB; rw [take_snocL h, List.foldl_append]; rfl
theorem accK_all (u : List Int) (r : Nat) (acc : Int) : accK P wide high u r S acc S.length = liftR P wide high u r S acc := by unfold accK liftR; rw [List.take_length]
theorem accI_all (u : List Int) (r : Nat) (b : StandV) (acc : Int) : accI P wide high u r S b acc S.length = liftB P wide high u r S b acc := by unfold accI; rw [List.take_length]
end

end Go.Proofs.YtflcbphlhoibiaaGreatDoor

namespace Go.Proofs.YtflcbphlhoibiaaGreatDoor
open Go

def AtS (P : List PersonV) (wide : List Int) (x : StandV) : Prop := hasP P x.name = true ∧ (0 ≤ x.row ∧ x.row ≤ wide.length - 1) ∧ 0 ≤ x.place ∧ x.place ≤ wide.getD x.row.toNat 0 - 1
theorem standsF_right {P : List PersonV} {wide high : List Int} {S : List StandV} (h : standsF P wide high S = 0) : ostF P wide high = 0 ∧ S.length ≤ P.length ∧ (∀ x ∈ S, AtS P wide x) ∧ S.Pairwise (fun a b => ltV a b = true) ∧ (namesS S).Nodup := by
  have hnd := (standsF_ok h).2.2.2
  unfold standsF at h
  by_cases h0 : ostF P wide high = 0
  rotate_left
  · rw [if_neg h0] at h; exact absurd h h0
  rw [if_pos h0] at h
  unfold listF at h
  by_cases h2 : P.length < S.length
  · rw [if_pos h2] at h; cases h
  rw [if_neg h2] at h
  by_cases h3 : scanF S.length (chkSta P wide S) = 0
  rotate_left
  · rw [if_neg h3] at h; exact absurd h h3
  refine ⟨h0, by omega, fun x hx => ?_, stands_sorted h3, hnd⟩
  obtain ⟨i, hi, rfl⟩ := List.getElem_of_mem hx
  have h4 := scan_all h3 i hi
  unfold chkSta at h4
  rw [atL_of (List.getElem?_eq_getElem hi)] at h4
  cases k0 : hasP P S[i].name
  · rw [k0] at h4; simp at h4
  cases k1 : inB S[i].row 0 (wide.length - 1)
  · rw [k0, k1] at h4; simp at h4
  cases k2 : inB S[i].place 0 (wide.getD S[i].row.toNat 0 - 1)
  · rw [k0, k1, k2] at h4; simp at h4
  exact ⟨k0, inB_iff.1 k1, inB_iff.1 k2⟩
theorem standsF_mk {P : List PersonV} {wide high : List Int} {S : List StandV} (h0 : ostF P wide high = 0) (hl : S.length ≤ P.length) (ha : ∀ x ∈ S, AtS P wide x) (hs : S.Pairwise (fun a b => ltV a b = true)) (hn : (namesS S).Nodup) : standsF P wide high S = 0 := by
  unfold standsF listF
  rw [if_pos h0, if_neg (by omega)]
  have h3 : scanF S.length (chkSta P wide S) = 0 := scan_zero fun i hi => by
    obtain ⟨k0, k1, k2⟩ := ha _ (List.getElem_mem hi)
    unfold chkSta
    rw [atL_of (List.getElem?_eq_getElem hi), k0, inB_iff.2 k1, inB_iff.2 k2]
    rcases Nat.eq_zero_or_pos i with hz | hz
    · subst hz; simp
    · have hi1 : i - 1 < S.length := by omega
      rw [atL_of (List.getElem?_eq_getElem hi1)]
      have h5 := List.pairwise_iff_getElem.1 hs (i - 1) i hi1 hi (by omega)
      have h6 := cmp_lt.2 h5
      have h7 : ¬ 0 ≤ cmpV S[i - 1] S[i] := by omega
      simp [h7]
  have hd : dupB (namesS S) = false := by
    cases hh : dupB (namesS S)
    · rfl
    · exact absurd hn (dupB_iff.1 hh)
  rw [if_pos h3, hd]
  simp
/-- The other way round: still right. -/
theorem standsF_mir {P : List PersonV} {wide high : List Int} {S T : List StandV} (h : standsF P wide high S = 0) (hp : T.Perm (S.map (mirS wide))) (hs : T.Pairwise (fun a b => ltV a b = true)) : standsF P wide high T = 0 := by
  obtain ⟨h0, hl, ha, -, hn⟩ := standsF_right h
  refine standsF_mk h0 (by rw [hp.length_eq, List.length_map]; exact hl) (fun x hx => ?_) hs ?_
  · obtain ⟨y, hy, rfl⟩ := List.mem_map.1 (hp.subset hx)
    obtain ⟨a, b, c, d⟩ := ha y hy
    refine ⟨a, b, ?_, ?_⟩
    · show 0 ≤ wide.getD y.row.toNat 0 - 1 - y.place
      omega
    · show wide.getD y.row.toNat 0 - 1 - y.place ≤ wide.getD y.row.toNat 0 - 1
      omega
  · have e : namesS (S.map (mirS wide)) = namesS S := by unfold namesS; rw [List.map_map]; rfl
    have hp2 : (namesS T).Perm (namesS S) := by
      rw [← e]
      unfold namesS
      exact hp.map _
    exact hp2.symm.nodup hn
/-- Twice is once not. -/
theorem mir_twice {wide : List Int} {S T U : List StandV} (hS : S.Pairwise (fun a b => ltV a b = true)) (hU : U.Pairwise (fun a b => ltV a b = true)) (h1 : T.Perm (S.map (mirS wide))) (h2 : U.Perm (T.map (mirS wide))) : U = S := by
  refine sorted_same hU hS (h2.trans ((h1.map _).trans ?_))
  rw [List.map_map]
  have : (mirS wide ∘ mirS wide) = id := funext fun x => mir_mir x
  rw [this, List.map_id]
end Go.Proofs.YtflcbphlhoibiaaGreatDoor
