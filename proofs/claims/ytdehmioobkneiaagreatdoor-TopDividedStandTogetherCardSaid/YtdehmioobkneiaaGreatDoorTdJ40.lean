/- Shares of sections in a row: plain mathematics. Conditions: as each theorem says. How many of each section stand in a row: the comparison by what is left over, and the sort by it. Conditions: sizes. -/
import Derived.Test.YtdehmioobkneiaaGreatDoorTdJ39
import Derived.Test.YtdehmioobkneiaaGreatDoorTdJ2
import Derived.Test.YtdehmioobkneiaaGreatDoorTdJ35
import Derived.Test.YtdehmioobkneiaaGreatDoorTdJ34
import Derived.Shelf.SlSortCmp.Insertion
import Derived.Lib.OwnBridge
set_option linter.unusedSimpArgs false
set_option linter.unusedVariables false
namespace Go.Proofs.YtdehmioobkneiaaGreatDoor
open Go Go.RowKit Go.Sort
theorem sum_snoc {L : List Int} {k : Nat} {x : Int} (h : L[k]? = some x) : (L.take (k + 1)).sum = (L.take k).sum + x := by
  rw [take_snocL h, List.sum_append]
  simp
theorem sum_set : ∀ {L : List Int} {i : Nat} {x : Int} (v : Int), L[i]? = some x → (L.set i v).sum = L.sum - x + v
  | [], _, _, _, h => by cases h
  | a :: L, 0, x, v, h => by
    simp only [List.getElem?_cons_zero, Option.some.injEq] at h
    simp [h]
    omega
  | a :: L, i + 1, x, v, h => by
    have := sum_set (L := L) (i := i) v (by simpa using h)
    simp [this]
    omega
theorem mem_le_sum : ∀ {L : List Int} {x : Int}, (∀ y ∈ L, 0 ≤ y) → x ∈ L → x ≤ L.sum ∧ 0 ≤ L.sum
  | [], _, _, h => by cases h
  | a :: L, x, hL, h => by
    have ha := hL a List.mem_cons_self
    have hs : 0 ≤ L.sum := by
      clear h
      induction L with
      | nil => simp
      | cons b L ih =>
        have := ih (fun y hy => hL y (by rcases List.mem_cons.1 hy with h | h; exact h ▸ List.mem_cons_self; exact List.mem_cons_of_mem _ (List.mem_cons_of_mem _ h)))
        have hb := hL b (List.mem_cons_of_mem _ List.mem_cons_self)
        simp
        omega
    simp
    rcases List.mem_cons.1 h with rfl | h
    · omega
    · have := (mem_le_sum (fun y hy => hL y (List.mem_cons_of_mem _ hy)) h).1
      omega
theorem sum_nonneg {L : List Int} (h : ∀ y ∈ L, 0 ≤ y) : 0 ≤ L.sum := by
  cases L with
  | nil => simp
  | cons a L => exact (mem_le_sum h List.mem_cons_self).2
theorem take_nonneg {L : List Int} (h : ∀ y ∈ L, 0 ≤ y) (k : Nat) : 0 ≤ (L.take k).sum ∧ (L.take k).sum ≤ L.sum := by
  have h1 := sum_nonneg (L := L.take k) fun y hy => h y (List.mem_of_mem_take hy)
  have h2 := sum_nonneg (L := L.drop k) fun y hy => h y (List.mem_of_mem_drop hy)
  have h3 : L.sum = (L.take k).sum + (L.drop k).sum := by rw [← List.sum_append, List.take_append_drop]
  omega
def baseL (n : Int) (A : List Int) : List Int := A.map fun a => n * a / A.sum
def remOf (n : Int) (A : List Int) (i : Int) : Int := n * A.getD i.toNat 0 % A.sum
def cfR (n : Int) (A : List Int) (a b : Int) : Int := cmpZ (remOf n A b) (remOf n A a)
theorem lt_same {m : Nat} (n : Int) (A : List Int) : (ltOf fun a b : Fin (m + 1) => cfR n A (a.val : Int) (b.val : Int)) = ltOf fun a b : Fin (m + 1) => remOf n A (b.val : Int) - remOf n A (a.val : Int) := by
  funext a b
  unfold ltOf cfR
  rw [Bool.eq_iff_iff, decide_eq_true_iff, decide_eq_true_iff, cmpZ_lt]
  show _ ↔ remOf n A (b.val : Int) - remOf n A (a.val : Int) < 0
  omega
theorem rem_swo {α : Type} (r : α → Int) : SWO (ltOf fun a b : α => r b - r a) where
  irrefl x := by unfold ltOf; simp
  trans x y z h1 h2 := by unfold ltOf at *; simp at *; omega
  ntrans x y z h1 h2 := by unfold ltOf at *; simp at *; omega
def idxL (k : Nat) : List Int := (List.range k).map fun i : Nat => (i : Int)
theorem idxL_succ (k : Nat) : idxL (k + 1) = idxL k ++ [(k : Int)] := by simp [idxL, List.range_succ]
theorem ins_perm {α : Type} [Inhabited α] {lt : α → α → Bool} (hO : SWO lt) (I : List α) : (insertionSort lt I.toArray 0 I.length).toList.Perm I := by
  have h := (insertionSort_holds hO I.toArray 0 I.length (Nat.zero_le _) (by simp)).1
  generalize insertionSort lt I.toArray 0 I.length = d at *
  have hsz : d.size = I.length := by have := h.1; simpa using this
  have h9 := h.2.2
  have e2 : d.extract 0 I.length = d := by simp [← hsz]
  rw [e2] at h9
  simpa using h9
/-- The places of sizes, by what is left over, the most first. -/
def ordF (n : Int) (A : List Int) (m : Nat) : List (Fin (m + 1)) := (insertionSort (ltOf fun a b : Fin (m + 1) => remOf n A (b.val : Int) - remOf n A (a.val : Int)) (List.finRange (m + 1)).toArray 0 (m + 1)).toList
theorem ordF_len (n : Int) (A : List Int) (m : Nat) : (ordF n A m).length = m + 1 := by
  have := (ins_perm (rem_swo fun a : Fin (m + 1) => remOf n A (a.val : Int)) (List.finRange (m + 1))).length_eq
  rw [List.length_finRange] at this
  exact this
def ordL (n : Int) (A : List Int) : List Int := match A.length with
  | 0 => []
  | m + 1 => (ordF n A m).map fun i => ((i.val : Nat) : Int)
theorem ordL_eq {n : Int} {A : List Int} {m : Nat} (h : A.length = m + 1) : ordL n A = (ordF n A m).map fun i => ((i.val : Nat) : Int) := by
  unfold ordL
  split
  · omega
  · rename_i m' h'
    obtain rfl : m' = m := by omega
    rfl
theorem ordL_len (n : Int) (A : List Int) : (ordL n A).length = A.length := by
  cases h : A.length with
  | zero => unfold ordL; split <;> simp_all
  | succ m => rw [ordL_eq h, List.length_map, ordF_len]
theorem ordL_mem {n : Int} {A : List Int} {x : Int} (h : x ∈ ordL n A) : ∃ i : Nat, x = i ∧ i < A.length := by
  cases hl : A.length with
  | zero =>
    have := ordL_len n A
    rw [hl] at this
    rw [List.eq_nil_of_length_eq_zero this] at h
    cases h
  | succ m =>
    rw [ordL_eq hl] at h
    obtain ⟨i, _, rfl⟩ := List.mem_map.1 h
    exact ⟨i.val, rfl, i.isLt⟩
theorem div_sum (n s : Int) (hs : 0 < s) : ∀ A : List Int, n * A.sum = s * (A.map fun a => n * a / s).sum + (A.map fun a => n * a % s).sum ∧ 0 ≤ (A.map fun a => n * a % s).sum ∧ (A.map fun a => n * a % s).sum ≤ (s - 1) * A.length
  | [] => by simp
  | a :: A => by
    obtain ⟨h1, h2, h3⟩ := div_sum n s hs A
    have e1 := Int.emod_add_mul_ediv (n * a) s
    have e2 := Int.emod_nonneg (n * a) (show s ≠ 0 by omega)
    have e3 := Int.emod_lt_of_pos (n * a) hs
    simp only [List.sum_cons, List.map_cons, List.length_cons]
    refine ⟨?_, by omega, ?_⟩
    · rw [Int.mul_add, Int.mul_add, h1]
      omega
    · rw [show ((A.length + 1 : Nat) : Int) = A.length + 1 from by simp, Int.mul_add, Int.mul_one]
      omega
theorem over_bound {n : Int} {A : List Int} (hs : 0 < A.sum) (hA : 0 < A.length) : 0 ≤ n - (baseL n A).sum ∧ n - (baseL n A).sum < A.length := by
  obtain ⟨h1, h2, h3⟩ := div_sum n A.sum hs A
  have hb : (A.map fun a => n * a / A.sum).sum = (baseL n A).sum := rfl
  rw [hb] at h1
  have e : A.sum * (n - (baseL n A).sum) = (A.map fun a => n * a % A.sum).sum := by
    rw [Int.mul_sub, Int.mul_comm A.sum n]
    omega
  have hlt : A.sum * (n - (baseL n A).sum) < A.sum * A.length := by
    rw [e]
    have : (A.sum - 1) * (A.length : Int) = A.sum * A.length - A.length := by rw [Int.sub_mul]; omega
    omega
  have hge : A.sum * 0 ≤ A.sum * (n - (baseL n A).sum) := by rw [e]; omega
  exact ⟨Int.le_of_mul_le_mul_left hge hs, Int.lt_of_mul_lt_mul_left hlt (by omega)⟩
theorem base_nonneg {n : Int} {A : List Int} (hn : 0 ≤ n) (hA : ∀ a ∈ A, 0 ≤ a) : ∀ b ∈ baseL n A, 0 ≤ b := by
  intro b hb
  obtain ⟨a, ha, rfl⟩ := List.mem_map.1 hb
  exact Int.ediv_nonneg (Int.mul_nonneg hn (hA a ha)) (sum_nonneg hA)
def incL (L : List Int) (i : Int) : List Int := L.set i.toNat (L.getD i.toNat 0 + 1)
def partsT (n : Int) (A : List Int) (m : Nat) : List Int := ((ordL n A).take m).foldl incL (baseL n A)
def overN (n : Int) (A : List Int) : Int := n - (baseL n A).sum
def partsL (n : Int) (A : List Int) : List Int := partsT n A (overN n A).toNat
theorem partsT_succ {n : Int} {A : List Int} {m : Nat} {x : Int} (h : (ordL n A)[m]? = some x) : partsT n A (m + 1) = incL (partsT n A m) x := by
  unfold partsT
  rw [take_snocL h, List.foldl_append]
  rfl
theorem partsT_ok {n : Int} {A : List Int} (hn : 0 ≤ n) (hA : ∀ a ∈ A, 0 ≤ a) : ∀ m, m ≤ A.length → (partsT n A m).length = A.length ∧ (∀ x ∈ partsT n A m, 0 ≤ x) ∧ (partsT n A m).sum = (baseL n A).sum + m
  | 0, _ => ⟨by simp [partsT, baseL], base_nonneg hn hA, by simp [partsT]⟩
  | m + 1, hm => by
    obtain ⟨h1, h2, h3⟩ := partsT_ok hn hA m (by omega)
    obtain ⟨x, hx⟩ := getD_some (ordL_len n A) (show m < A.length by omega)
    obtain ⟨i, rfl, hi⟩ := ordL_mem (List.mem_of_getElem? hx)
    obtain ⟨y, hy⟩ := getD_some h1 hi
    rw [partsT_succ hx]
    unfold incL
    have e : (partsT n A m).getD (i : Int).toNat 0 = y := by rw [Int.toNat_natCast, List.getD_eq_getElem?_getD, hy]; rfl
    rw [e, Int.toNat_natCast]
    refine ⟨by rw [List.length_set, h1], fun z hz => ?_, ?_⟩
    · rcases List.mem_or_eq_of_mem_set hz with h | h
      · exact h2 z h
      · have := h2 y (List.mem_of_getElem? hy); omega
    · rw [sum_set _ hy, h3]
      simp
      omega
theorem partsL_ok {n : Int} {A : List Int} (hn : 0 ≤ n) (hA : ∀ a ∈ A, 0 ≤ a) (hs : 0 < A.sum) : (partsL n A).length = A.length ∧ (∀ x ∈ partsL n A, 0 ≤ x) ∧ (partsL n A).sum = n := by
  have hl : 0 < A.length := by
    cases A with
    | nil => simp at hs
    | cons a A => simp
  obtain ⟨o1, o2⟩ := over_bound (n := n) hs hl
  obtain ⟨h1, h2, h3⟩ := partsT_ok hn hA (overN n A).toNat (by unfold overN; omega)
  refine ⟨h1, h2, ?_⟩
  unfold partsL
  rw [h3]
  unfold overN
  omega
/-! ### as many as are left -/
def capL (P Lf : List Int) : List Int := List.zipWith min P Lf
theorem capL_at {P Lf : List Int} {k : Nat} {x y : Int} (h1 : P[k]? = some x) (h2 : Lf[k]? = some y) : (capL P Lf)[k]? = some (min x y) := by
  unfold capL
  rw [List.getElem?_zipWith, h1, h2]
theorem capL_len {P Lf : List Int} (h : P.length = Lf.length) : (capL P Lf).length = P.length := by simp [capL, h]
theorem capL_sum : ∀ (P Lf : List Int), P.length = Lf.length → (capL P Lf).sum ≤ P.sum
  | [], _, _ => by simp [capL]
  | a :: P, [], h => by simp at h
  | a :: P, b :: Lf, h => by
    have := capL_sum P Lf (by simpa using h)
    unfold capL at *
    simp
    omega
theorem capL_range {P Lf : List Int} (h1 : ∀ x ∈ P, 0 ≤ x) (h2 : ∀ x ∈ Lf, 0 ≤ x) (hl : P.length = Lf.length) {k : Nat} {c : Int} (h : (capL P Lf)[k]? = some c) : 0 ≤ c ∧ ∃ y : Int, Lf[k]? = some y ∧ c ≤ y := by
  have hk := (List.getElem?_eq_some_iff.1 h).1
  rw [capL_len hl] at hk
  obtain ⟨x, hx⟩ := getD_some (rfl : P.length = P.length) hk
  obtain ⟨y, hy⟩ := getD_some hl.symm hk
  rw [capL_at hx hy] at h
  have e : min x y = c := by simpa using h
  have a := h1 x (List.mem_of_getElem? hx)
  have b := h2 y (List.mem_of_getElem? hy)
  exact ⟨by omega, y, hy, by omega⟩
/-! ### and more, as long as places are left -/
section
variable (Lf C : List Int) (ov : Int)
def ovT : Nat → Int
  | 0 => ov
  | k + 1 => ovT k - min (ovT k) (Lf.getD k 0 - C.getD k 0)
def mT (k : Nat) : Int := min (ovT Lf C ov k) (Lf.getD k 0 - C.getD k 0)
theorem ovT_succ (k : Nat) : ovT Lf C ov (k + 1) = ovT Lf C ov k - mT Lf C ov k := rfl
def shL : List Int := (List.range C.length).map fun k => C.getD k 0 + mT Lf C ov k
theorem shL_len : (shL Lf C ov).length = C.length := by simp [shL]
variable {Lf C ov}
theorem shL_at {k : Nat} {c : Int} (h : C[k]? = some c) : (shL Lf C ov)[k]? = some (c + mT Lf C ov k) := by
  have hk := (List.getElem?_eq_some_iff.1 h).1
  unfold shL
  rw [List.getElem?_map, List.getElem?_range hk]
  simp [h]
theorem ovT_ok (h0 : 0 ≤ ov) (hl : C.length = Lf.length) (hC : ∀ (k : Nat) (c : Int), C[k]? = some c → 0 ≤ c ∧ ∃ y : Int, Lf[k]? = some y ∧ c ≤ y) : ∀ k, k ≤ C.length → 0 ≤ ovT Lf C ov k ∧ ovT Lf C ov k ≤ ov ∧ ((shL Lf C ov).take k).sum = (C.take k).sum + (ov - ovT Lf C ov k)
  | 0, _ => by simp [ovT]; exact h0
  | k + 1, hk => by
    obtain ⟨i1, i2, i3⟩ := ovT_ok h0 hl hC k (by omega)
    obtain ⟨c, hc⟩ := getD_some (rfl : C.length = C.length) (show k < C.length by omega)
    obtain ⟨c0, y, hy, hcy⟩ := hC k c hc
    have e1 : C.getD k 0 = c := by rw [List.getD_eq_getElem?_getD, hc]; rfl
    have e2 : Lf.getD k 0 = y := by rw [List.getD_eq_getElem?_getD, hy]; rfl
    rw [sum_snoc (shL_at hc), sum_snoc hc, i3, ovT_succ]
    unfold mT
    rw [e1, e2]
    omega
theorem mT_ok (h0 : 0 ≤ ov) (hl : C.length = Lf.length) (hC : ∀ (k : Nat) (c : Int), C[k]? = some c → 0 ≤ c ∧ ∃ y : Int, Lf[k]? = some y ∧ c ≤ y) {k : Nat} {c y : Int} (hc : C[k]? = some c) (hy : Lf[k]? = some y) : 0 ≤ mT Lf C ov k ∧ c + mT Lf C ov k ≤ y ∧ mT Lf C ov k = min (ovT Lf C ov k) (y - c) := by
  have hk := (List.getElem?_eq_some_iff.1 hc).1
  have h1 := (ovT_ok h0 hl hC k (by omega)).1
  obtain ⟨c0, y', hy', hcy⟩ := hC k c hc
  rw [hy] at hy'
  cases hy'
  have e1 : C.getD k 0 = c := by rw [List.getD_eq_getElem?_getD, hc]; rfl
  have e2 : Lf.getD k 0 = y := by rw [List.getD_eq_getElem?_getD, hy]; rfl
  unfold mT
  rw [e1, e2]
  omega
end
def shrL (n : Int) (A Lf : List Int) : List Int := shL Lf (capL (partsL n A) Lf) (n - (capL (partsL n A) Lf).sum)
/-- What is needed of sizes and of what is left. -/
structure ShOk (n : Int) (A Lf : List Int) : Prop where
  n0 : 0 ≤ n
  a0 : ∀ a ∈ A, 0 ≤ a
  s0 : 0 < A.sum
  f0 : ∀ a ∈ Lf, 0 ≤ a
  len : Lf.length = A.length
section
variable {n : Int} {A Lf : List Int}
theorem ShOk.cap (h : ShOk n A Lf) : (capL (partsL n A) Lf).length = Lf.length ∧ 0 ≤ n - (capL (partsL n A) Lf).sum ∧ (∀ (k : Nat) (c : Int), (capL (partsL n A) Lf)[k]? = some c → 0 ≤ c ∧ ∃ y : Int, Lf[k]? = some y ∧ c ≤ y) := by
  obtain ⟨p1, p2, p3⟩ := partsL_ok h.n0 h.a0 h.s0
  have hl : (partsL n A).length = Lf.length := by rw [p1, h.len]
  have hs := capL_sum (partsL n A) Lf hl
  exact ⟨by rw [capL_len hl, hl], by omega, fun k c hk => capL_range p2 h.f0 hl hk⟩
theorem ShOk.sh (h : ShOk n A Lf) : (shrL n A Lf).length = A.length ∧ (shrL n A Lf).sum ≤ n ∧ ∀ (k : Nat) (s : Int), (shrL n A Lf)[k]? = some s → 0 ≤ s ∧ ∃ y : Int, Lf[k]? = some y ∧ s ≤ y := by
  obtain ⟨c1, c2, c3⟩ := h.cap
  have hlen : (shrL n A Lf).length = A.length := by unfold shrL; rw [shL_len, c1, h.len]
  refine ⟨hlen, ?_, fun k s hk => ?_⟩
  · have := ovT_ok c2 c1 c3 (capL (partsL n A) Lf).length (Nat.le_refl _)
    have h9 := this.2.2
    rw [List.take_length, List.take_of_length_le (by rw [shL_len]; exact Nat.le_refl _)] at h9
    have e : (shrL n A Lf).sum = (shL Lf (capL (partsL n A) Lf) (n - (capL (partsL n A) Lf).sum)).sum := rfl
    rw [e, h9]
    omega
  · have hkl := (List.getElem?_eq_some_iff.1 hk).1
    obtain ⟨c, hc⟩ := getD_some c1 (show k < Lf.length by rw [h.len, ← hlen]; exact hkl)
    obtain ⟨c0, y, hy, hcy⟩ := c3 k c hc
    have hk2 : (shrL n A Lf)[k]? = some (c + mT Lf (capL (partsL n A) Lf) (n - (capL (partsL n A) Lf).sum) k) := shL_at hc
    rw [hk2] at hk
    have hm := mT_ok c2 c1 c3 hc hy
    have e : c + mT Lf (capL (partsL n A) Lf) (n - (capL (partsL n A) Lf).sum) k = s := by simpa using hk
    exact ⟨by omega, y, hy, by omega⟩
end
end Go.Proofs.YtdehmioobkneiaaGreatDoor
namespace Go.Proofs.YtdehmioobkneiaaGreatDoor
open Go Go.RowKit Go.Sort
/-- What a comparison by what is left over reads. -/
structure CmpM (w : World) (gp gs ga : Nat) (n : Int) (sb so k sc : Nat) (A : List Int) : Prop where
  p : Blk w gp 3 #[.int .i64 n]
  s : Blk w gs 22 #[.slice (some ⟨sb, so, none⟩) k sc]
  a : Blk w ga 3 #[.int .i64 A.sum]
  e : ∀ (i : Nat) (x : Int), A[i]? = some x → w.cell? ⟨sb, so + i, none⟩ = some (.int .i64 x)
  n0 : 0 ≤ n
  n1 : n ≤ 1000
  s0 : 0 < A.sum
  s1 : A.sum ≤ 1000
  a0 : ∀ x ∈ A, 0 ≤ x
  len : A.length = k
  kc : k ≤ sc
theorem drewN_succ (w : World) (q : Nat) : w.drew.drewN q = w.drewN (q + 1) := by
  simp [World.drewN, drew_eq_ahead, ahead, Nat.add_assoc, Nat.add_comm]
  exact ⟨by omega, rfl, rfl⟩
set_option maxRecDepth 100000 in
set_option maxHeartbeats 3200000 in
theorem standCmp {w : World} {gp gs ga : Nat} {n : Int} {sb so k sc : Nat} {A : List Int} (h : CmpM w gp gs ga n sb so k sc A) {i j : Nat} (hi : i < k) (hj : j < k) :
    Calls Tryz.prog 86 #[.int .i64 i, .int .i64 j, .pointer (some ⟨gp, 0, none⟩), .pointer (some ⟨gs, 0, none⟩), .pointer (some ⟨ga, 0, none⟩)] w fun e w' => e = .returned (.int .i64 (remOf n A j - remOf n A i)) ∧ ∃ q, w' = w.drewN q := by
  obtain ⟨x, hx⟩ := getD_some h.len hi
  obtain ⟨y, hy⟩ := getD_some h.len hj
  have e1 : A.getD (i : Int).toNat 0 = x := by rw [Int.toNat_natCast, List.getD_eq_getElem?_getD, hx]; rfl
  have e2 : A.getD (j : Int).toNat 0 = y := by rw [Int.toNat_natCast, List.getD_eq_getElem?_getD, hy]; rfl
  have x0 := h.a0 x (List.mem_of_getElem? hx)
  have y0 := h.a0 y (List.mem_of_getElem? hy)
  have x1 := (mem_le_sum h.a0 (List.mem_of_getElem? hx)).1
  have y1 := (mem_le_sum h.a0 (List.mem_of_getElem? hy)).1
  have cx := h.e i x hx
  have cy := h.e j y hy
  obtain ⟨hp, hs, ha, -, n0, n1, s0, s1, -, -, hkc⟩ := h
  have r1 : remOf n A (i : Int) = n * x % A.sum := by unfold remOf; rw [e1]
  have r2 : remOf n A (j : Int) = n * y % A.sum := by unfold remOf; rw [e2]
  have hc : cfR n A (i : Int) (j : Int) = cmpZ (remOf n A (j : Int)) (remOf n A (i : Int)) := rfl
  try rw [hc]
  rw [r1, r2]
  clear r1 r2 hc e1 e2 hx hy
  generalize A.sum = S at *
  have p1 : 0 ≤ n * x ∧ n * x ≤ 1000 * 1000 := ⟨Int.mul_nonneg n0 x0, Int.mul_le_mul n1 (by omega) x0 (by omega)⟩
  have p2 : 0 ≤ n * y ∧ n * y ≤ 1000 * 1000 := ⟨Int.mul_nonneg n0 y0, Int.mul_le_mul n1 (by omega) y0 (by omega)⟩
  have m1 : IntKind.i64.wrap (n * x) = n * x := IntWalk.i64_in _ (by omega)
  have m2 : IntKind.i64.wrap (n * y) = n * y := IntWalk.i64_in _ (by omega)
  have q1 : (n * x).tmod S = n * x % S := Int.tmod_eq_emod_of_nonneg p1.1
  have q2 : (n * y).tmod S = n * y % S := Int.tmod_eq_emod_of_nonneg p2.1
  have b1 := Int.emod_nonneg (n * x) (show S ≠ 0 by omega)
  have b2 := Int.emod_nonneg (n * y) (show S ≠ 0 by omega)
  have b3 := Int.emod_lt_of_pos (n * x) s0
  have b4 := Int.emod_lt_of_pos (n * y) s0
  have z1 : IntKind.i64.wrap (n * x % S) = n * x % S := IntWalk.i64_in _ (by omega)
  have z2 : IntKind.i64.wrap (n * y % S) = n * y % S := IntWalk.i64_in _ (by omega)
  have z3 : IntKind.i64.wrap (n * y % S - n * x % S) = n * y % S - n * x % S := IntWalk.i64_in _ (by omega)
  have hS0 : ¬ S = 0 := by omega
  have hiI : (i : Int) < k := by omega
  have hjI : (j : Int) < k := by omega
  clear p1 p2 b1 b2 b3 b4 x0 y0 x1 y1 n0 n1 s1; replace m1 := Lib.hid m1; replace m2 := Lib.hid m2; replace q1 := Lib.hid q1; replace q2 := Lib.hid q2; replace z1 := Lib.hid z1; replace z2 := Lib.hid z2; replace z3 := Lib.hid z3
  go_enter Tryz.func86, Tryz.ntmps86
  go_upto_region 1 with fail
  refine wp_region_planS [(0, true), (1, true), (2, true), (3, true), (4, true), (5, true), (6, true), (7, true), (8, true), (9, true), (10, true), (11, true), (12, true), (13, true), (14, true), (15, true), (16, true)] 17 (fun w' => Blk w' gp 3 #[.int .i64 n] ∧ Blk w' gs 22 #[.slice (some ⟨sb, so, none⟩) k sc] ∧ Blk w' ga 3 #[.int .i64 S] ∧ (w'.cell? ⟨sb, so + i, none⟩ = some (.int .i64 x)) ∧ (w'.cell? ⟨sb, so + j, none⟩ = some (.int .i64 y))) Drw (by kernel_rfl) (by kernel_rfl) Drw.refl (fun _ _ _ => Drw.trans) (fun _ _ h he => ⟨h.1.drw he, h.2.1.drw he, h.2.2.1.drw he, (by obtain ⟨q, rfl⟩ := he; exact h.2.2.2.1), (by obtain ⟨q, rfl⟩ := he; exact h.2.2.2.2)⟩) ⟨(by (repeat (with_reducible first | assumption | exact Blk.new' (by simp) | refine Blk.drew ?_ | refine Blk.alloc ?_ _ | exact Drw.refl _ | refine Ext.drew ?_ | refine Ext.alloc ?_ _))), (by (repeat (with_reducible first | assumption | exact Blk.new' (by simp) | refine Blk.drew ?_ | refine Blk.alloc ?_ _ | exact Drw.refl _ | refine Ext.drew ?_ | refine Ext.alloc ?_ _))), (by (repeat (with_reducible first | assumption | exact Blk.new' (by simp) | refine Blk.drew ?_ | refine Blk.alloc ?_ _ | exact Drw.refl _ | refine Ext.drew ?_ | refine Ext.alloc ?_ _))), cx, cy⟩ ?_
  repeat
    first
      | (refine plan_quiet rfl rfl (fun _ _ _ _ h => h) ?_
         apply Exists.intro
         refine ⟨fun w' hw' => ?_, ?_⟩
         · obtain ⟨hHq0, hHq1, hHq2, hHq3, hHq4⟩ := hw'
           obtain ⟨w0, -⟩ := hHq0.walk; obtain ⟨w1, -⟩ := hHq1.walk; obtain ⟨w2, -⟩ := hHq2.walk
           skip
           simp [go_sem, quietTo, Drw.refl, ↓IntWalk.iteOmega, w0, w1, w2, hHq3, hHq4, hiI, hjI, hS0, m1.out, m2.out, q1.out, q2.out, z1.out, z2.out, z3.out]
           first
             | rfl
             | (exact cmpIntE_any _ _ _)
         simp only [Act.put, sIA, sCS, sCZ])
      | (refine plan_skip rfl rfl (fun _ _ _ _ h => h) ?_
         simp only [Act.put, sIA, sCS, sCZ])
  refine plan_nil fun wrq herq hwrq => ?_
  obtain ⟨hHq0, hHq1, hHq2, hHq3, hHq4⟩ := hwrq
  obtain ⟨hCq0, hFq0⟩ := hHq0.walk
  obtain ⟨hCq1, hFq1⟩ := hHq1.walk
  obtain ⟨hCq2, hFq2⟩ := hHq2.walk
  simp only [List.drop_succ_cons, List.drop_zero, List.drop_nil]
  go_wp2
  go_ret
  obtain ⟨q, rfl⟩ := herq
  exact ⟨rfl, q + 1, drewN_succ w q⟩
theorem sortWorld_block {α : Type} [Inhabited α] (enc : α → Value) (w : World) (g m : Nat) (dk : Array α) (os : Array Obj) {b : Nat} (hb : b < w.heap.size) (hne : b ≠ g) : (sortWorld enc w g 0 m dk os).heap[b]? = w.heap[b]? := by
  show (w.heap.modify g (onCells (putCells enc 0 dk)) ++ os)[b]? = _
  have hs : (w.heap.modify g (onCells (putCells enc 0 dk))).size = w.heap.size := by simp
  rw [Array.getElem?_append_left (by rw [hs]; exact hb), Array.getElem?_modify, if_neg (fun e => hne e.symm)]
theorem sortWorld_grown {α : Type} [Inhabited α] (enc : α → Value) (w : World) (g m : Nat) (dk : Array α) (os : Array Obj) : w.grownBy (sortWorld enc w g 0 m dk os) (some g) :=
  ⟨rfl, rfl, rfl, by
    show w.heap.size ≤ (w.heap.modify g (onCells (putCells enc 0 dk)) ++ os).size
    rw [Array.size_append]; simp, fun k hk hn => sortWorld_block enc w g m dk os hk fun e => hn (by rw [e])⟩
def encF {k : Nat} (i : Fin k) : Value := .int .i64 (i.val : Int)
theorem CmpM.sort {w : World} {gp gs ga : Nat} {n : Int} {sb so k sc : Nat} {A : List Int} (h : CmpM w gp gs ga n sb so k sc A) {g : Nat} (hg : gp ≠ g ∧ gs ≠ g ∧ ga ≠ g ∧ sb ≠ g) (hsb : sb < w.heap.size) {m : Nat} {dk : Array (Fin (k - 1 + 1))} {os : Array Obj} : CmpM (sortWorld encF w g 0 m dk os) gp gs ga n sb so k sc A :=
  ⟨(sortWorld_block _ w g m dk os h.p.lt hg.1).trans h.p, (sortWorld_block _ w g m dk os h.s.lt hg.2.1).trans h.s, (sortWorld_block _ w g m dk os h.a.lt hg.2.2.1).trans h.a, fun i x hx => (World.cell?_of_block (w := w) (sortWorld_block _ w g m dk os hsb hg.2.2.2)).trans (h.e i x hx), h.n0, h.n1, h.s0, h.s1, h.a0, h.len, h.kc⟩
theorem idx_enc (m : Nat) : (idxL (m + 1)).flatMap intC = (List.finRange (m + 1)).map encF := by
  have e : ∀ l : List Int, l.flatMap intC = l.map (Value.int .i64) := fun l => by
    induction l with
    | nil => rfl
    | cons a l ih => rw [List.flatMap_cons, ih]; rfl
  rw [e]
  unfold idxL
  rw [List.map_map]
  apply List.ext_getElem
  · simp
  · intro i h1 h2
    simp [encF]
set_option maxRecDepth 100000 in
theorem stableI_any (g n cap : Nat) (fv : Value) (w : World) (hn : n ≤ 19) (W : Nat → World) (hs : Calls Tryz.prog 151 #[.slice (some ⟨g, 0, none⟩) n cap, .int .i64 (0 : Nat), .int .i64 n, fv] w fun e w' => e = .returned (.tuple #[]) ∧ ∃ q, w' = W q) :
    Calls Tryz.prog 85 #[.slice (some ⟨g, 0, none⟩) n cap, fv] w fun e w' => e = .returned (.tuple #[]) ∧ ∃ q, w' = W q := by
  have hmI : (n : Int) < 20 := by omega
  have hC : Calls Tryz.prog 118 #[.slice (some ⟨g, 0, none⟩) n cap, .int .i64 n, fv] w fun e w' => e = .returned (.tuple #[]) ∧ ∃ q, w' = W q := by
    replace hs := Lib.hid hs
    go_enter Tryz.func118, Tryz.ntmps118
    go_wp2
    refine wp_loop_rounds 1 ?_
    rw [rounds_succ]
    go_wp2_with (go_at_call 151; refine hs.out.mono ?_; rintro e w' ⟨rfl, q, rfl⟩)
    refine wp_loop_rounds 1 ?_
    rw [rounds_succ]
    go_wp2
    go_end0
    exact ⟨rfl, q, rfl⟩
  replace hC := Lib.hid hC; clear hs
  go_enter Tryz.func85, Tryz.ntmps85
  go_wp2_with (go_at_call 118; refine hC.out.mono ?_; rintro e w' ⟨rfl, q, rfl⟩)
  go_end0
  exact ⟨rfl, q, rfl⟩
/-- What a sort of places by what is left over gives. -/
def SortedP (w : World) (base g m cap : Nat) (n : Int) (A : List Int) (e : Ending) (w' : World) : Prop := e = .returned (.tuple #[]) ∧ Slc 1 intC w' (some ⟨g, 0, none⟩) (m + 1) cap (ordL n A) ∧ w.grownBy w' (some g)
set_option maxRecDepth 100000 in
theorem standSort {w : World} {base g m cap : Nat} (ho : w.ownsRow base 3 1 (.slice (some ⟨g, 0, none⟩) (m + 1) cap) (m + 1) ((idxL (m + 1)).flatMap intC)) (hm : m + 1 ≤ 19) {gp gs ga : Nat} {n : Int} {sb so sc : Nat} {A : List Int} (h : CmpM w gp gs ga n sb so (m + 1) sc A) (hg : gp ≠ g ∧ gs ≠ g ∧ ga ≠ g ∧ sb ≠ g) (hsb : sb < w.heap.size) :
    Calls Tryz.prog 85 #[.slice (some ⟨g, 0, none⟩) (m + 1) cap, .func (.func 86) #[] #[.pointer (some ⟨gp, 0, none⟩), .pointer (some ⟨gs, 0, none⟩), .pointer (some ⟨ga, 0, none⟩)]] w (SortedP w base g m cap n A) := by
  have ho2 := ho
  rw [idx_enc] at ho2
  obtain ⟨g', cap', e9, hbg, hgl, hncap, hcm, hln, hH⟩ := Lib.holds_of_ownsRow ho2 (fun e => by cases e)
  cases e9
  have hsz : (List.finRange (m + 1)).toArray.size = m + 1 := by simp
  have hs := Any.insertionSortCmpFunc_one Tryz.lisInt (encF (k := m + 1)) (fun _ => rfl) (fun a b => remOf n A (b.val : Int) - remOf n A (a.val : Int)) 86 #[.pointer (some ⟨gp, 0, none⟩), .pointer (some ⟨gs, 0, none⟩), .pointer (some ⟨ga, 0, none⟩)] g 0 cap 0 (m + 1) (List.finRange (m + 1)).toArray w (fun args u => by rfl) (fun q os dk _ x y => standCmp (h.sort hg hsb) x.isLt y.isLt) hH (Nat.zero_le _) (by simp) (by simp; omega)
  rw [hsz] at hs
  have hS := stableI_any g (m + 1) cap _ w hm (fun q => (putRow encF w g 0 (insertionSort (ltOf fun a b : Fin (m + 1) => remOf n A (b.val : Int) - remOf n A (a.val : Int)) (List.finRange (m + 1)).toArray 0 (m + 1))).drewN q) hs
  refine hS.mono fun e w' ⟨he, q, hw⟩ => ?_
  have hso : ordL n A = (insertionSort (ltOf fun a b : Fin (m + 1) => remOf n A (b.val : Int) - remOf n A (a.val : Int)) (List.finRange (m + 1)).toArray 0 (m + 1)).toList.map fun i => ((i.val : Nat) : Int) := by
    rw [ordL_eq h.len]
    unfold ordF
    first
      | rfl
      | rw [lt_same (m := m) n A]
  have hds : (insertionSort (ltOf fun a b : Fin (m + 1) => remOf n A (b.val : Int) - remOf n A (a.val : Int)) (List.finRange (m + 1)).toArray 0 (m + 1)).size = m + 1 := by
    have := ordL_len n A
    rw [hso, List.length_map, h.len] at this
    simpa using this
  generalize insertionSort (ltOf fun a b : Fin (m + 1) => remOf n A (b.val : Int) - remOf n A (a.val : Int)) (List.finRange (m + 1)).toArray 0 (m + 1) = d at *
  have hH2 : Holds encF w' g 0 d := by
    rw [hw]
    exact holds_putRow encF w g 0 _ _ hH (by rw [hds, hsz])
  have hgr : w.grownBy w' (some g) := by
    rw [hw]
    have := sortWorld_grown encF w g q d #[]
    rw [sortWorld_none] at this
    exact this
  refine ⟨he, ?_, hgr⟩
  have hlen : (ordL n A).length = m + 1 := by rw [ordL_len, h.len]
  refine ⟨⟨hlen, by omega, fun _ => ⟨g, 0, rfl, Nat.lt_of_lt_of_le hgl hgr.size, fun i x hx j u hu => ?_⟩⟩, hncap, (fun e => by cases e), (fun a ha => by cases ha; exact ⟨g, 0, rfl, Nat.lt_of_lt_of_le hgl hgr.size⟩)⟩
  obtain rfl : j = 0 := by
    have := (List.getElem?_eq_some_iff.1 hu).1
    simp only [intC, List.length_singleton] at this
    omega
  cases hu
  have hi : i < d.size := by rw [hds, ← hlen]; exact (List.getElem?_eq_some_iff.1 hx).1
  have h1 := (hH2 i hi).1
  rw [hso, List.getElem?_map] at hx
  have e1 : d.toList[i]? = some d[i] := by simp [hi]
  rw [e1] at hx
  have e2 : d[i]! = d[i] := getElem!_pos d i hi
  rw [e2] at h1
  have e3 : x = ((d[i].val : Nat) : Int) := by simpa using hx.symm
  rw [e3, show 0 + i * 1 + 0 = 0 + i by omega]
  exact h1
end Go.Proofs.YtdehmioobkneiaaGreatDoor
