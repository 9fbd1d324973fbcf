/- Stands: who hides whom, and by how much rows are lifted: plain mathematics. Conditions: as each theorem says. -/
import Derived.Test.YtfmkmnnmckbljaaGreatDoorScStA
namespace Go.Proofs.YtfmkmnnmckbljaaGreatDoor
open Go

structure StandV where
  name : ByteArray
  row : Int
  place : Int
instance : Inhabited StandV := ⟨⟨⟨#[]⟩, 0, 0⟩⟩
/-- How high somebody is. -/
def heightOf (P : List PersonV) (nm : ByteArray) : Int := ((P.find? fun x => x.name.toList == nm.toList).map (·.high)).getD 0
def posS (wide : List Int) (x : StandV) : Int := 2 * x.place + 1 - wide.getD x.row.toNat 0
def nearS (wide : List Int) (a b : StandV) : Bool := inB (posS wide a - posS wide b) (-1) 1
def beforeS (wide : List Int) (a b : StandV) : Bool := decide (a.row < b.row) && nearS wide a b
def topS (P : List PersonV) (high : List Int) (a : StandV) : Int := heightOf P a.name + high.getD a.row.toNat 0
def hidesS (P : List PersonV) (wide high : List Int) (a b : StandV) : Bool := beforeS wide a b && decide (topS P high b ≤ topS P high a)
def hiddenL (P : List PersonV) (wide high : List Int) (S : List StandV) : List (ByteArray × ByteArray) := S.flatMap fun b => (S.filter fun a => hidesS P wide high a b).map fun a => (b.name, a.name)

/-- How much row r is lifted, with the pairs of b. -/
def liftB (P : List PersonV) (wide high : List Int) (u : List Int) (r : Nat) (S : List StandV) (b : StandV) (acc : Int) : Int :=
  S.foldl (fun acc a => if b.row = r && beforeS wide a b then max acc (topS P high a + u.getD a.row.toNat 0 - topS P high b + 1) else acc) acc
def liftR (P : List PersonV) (wide high : List Int) (u : List Int) (r : Nat) (S : List StandV) (acc : Int) : Int :=
  S.foldl (fun acc b => liftB P wide high u r S b acc) acc
/-- The lifts of the first n rows. -/
def liftL (P : List PersonV) (wide high : List Int) (S : List StandV) : Nat → List Int
  | 0 => []
  | 1 => [0]
  | n + 2 => liftL P wide high S (n + 1) ++ [liftR P wide high (liftL P wide high S (n + 1)) (n + 1) S ((liftL P wide high S (n + 1)).getD n 0)]
section
variable {P : List PersonV} {wide high : List Int} {S : List StandV}
theorem liftL_len : ∀ n, (liftL P wide high S n).length = n
  | 0 => rfl
  | 1 => rfl
  | n + 2 => by simp only [liftL, List.length_append, List.length_singleton]; rw [liftL_len (n + 1)]
theorem liftL_pre : ∀ (n k : Nat), k < n → (liftL P wide high S (n + 1)).getD k 0 = (liftL P wide high S n).getD k 0
  | 0, k, h => absurd h (Nat.not_lt_zero _)
  | n + 1, k, h => by
    have hl := liftL_len (P := P) (wide := wide) (high := high) (S := S) (n + 1)
    simp only [liftL]
    rw [List.getD_eq_getElem?_getD, List.getElem?_append_left (by omega), ← List.getD_eq_getElem?_getD]
theorem liftL_at : ∀ (m n k : Nat), k < n → (liftL P wide high S (n + m)).getD k 0 = (liftL P wide high S n).getD k 0
  | 0, n, k, _ => rfl
  | m + 1, n, k, h => by
    rw [show n + (m + 1) = (n + m) + 1 by omega, liftL_pre (n + m) k (by omega), liftL_at m n k h]
theorem foldl_ge {α : Type} {f : Int → α → Int} (hf : ∀ acc x, acc ≤ f acc x) : ∀ (l : List α) (acc : Int), acc ≤ l.foldl f acc
  | [], acc => Int.le_refl _
  | x :: l, acc => Int.le_trans (hf acc x) (foldl_ge hf l (f acc x))
theorem foldl_mem {α : Type} {f : Int → α → Int} (hf : ∀ acc x, acc ≤ f acc x) {v : Int} {x : α} (hv : ∀ acc, v ≤ f acc x) : ∀ (l : List α) (acc : Int), x ∈ l → v ≤ l.foldl f acc
  | [], _, h => by cases h
  | y :: l, acc, h => by
    rcases List.mem_cons.1 h with rfl | h
    · exact Int.le_trans (hv acc) (foldl_ge hf l _)
    · exact foldl_mem hf hv l _ h
theorem liftB_ge (u : List Int) (r : Nat) (b : StandV) (acc : Int) : acc ≤ liftB P wide high u r S b acc :=
  foldl_ge (fun acc a => by split <;> omega) S acc
theorem liftR_ge (u : List Int) (r : Nat) (acc : Int) : acc ≤ liftR P wide high u r S acc := foldl_ge (fun acc b => liftB_ge u r b acc) S acc
theorem liftR_pair (u : List Int) (r : Nat) (acc : Int) {a b : StandV} (ha : a ∈ S) (hb : b ∈ S) (hr : b.row = r) (hbe : beforeS wide a b = true) : topS P high a + u.getD a.row.toNat 0 - topS P high b + 1 ≤ liftR P wide high u r S acc := by
  refine foldl_mem (fun acc b => liftB_ge u r b acc) (fun acc => ?_) S acc hb
  refine foldl_mem (fun acc a => by split <;> omega) (fun acc => ?_) S acc ha
  rw [hr, hbe]
  simp only [decide_true, Bool.and_self, if_true]
  omega
/-- Rows rise. -/
theorem lift_rise {n k : Nat} (hk : k + 1 < n) : (liftL P wide high S n).getD k 0 ≤ (liftL P wide high S n).getD (k + 1) 0 := by
  obtain ⟨m, rfl⟩ : ∃ m, n = (k + 2) + m := ⟨n - (k + 2), by omega⟩
  rw [liftL_at m (k + 2) k (by omega), liftL_at m (k + 2) (k + 1) (by omega)]
  have hl := liftL_len (P := P) (wide := wide) (high := high) (S := S) (k + 1)
  have h1 := liftR_ge (P := P) (wide := wide) (high := high) (S := S) (liftL P wide high S (k + 1)) (k + 1) ((liftL P wide high S (k + 1)).getD k 0)
  simp only [liftL]
  rw [List.getD_eq_getElem?_getD, List.getElem?_append_left (by omega), List.getD_eq_getElem?_getD (i := k + 1), List.getElem?_append_right (by omega), hl, Nat.sub_self]
  rw [List.getD_eq_getElem?_getD] at h1
  simpa using h1
/-- Behind a lift nobody is hidden. -/
theorem lift_seen {n : Nat} {a b : StandV} (ha : a ∈ S) (hb : b ∈ S) (h0 : 0 ≤ a.row) (hn : b.row < n) (hbe : beforeS wide a b = true) :
    topS P high a + (liftL P wide high S n).getD a.row.toNat 0 < topS P high b + (liftL P wide high S n).getD b.row.toNat 0 := by
  have hlt : a.row < b.row := by
    unfold beforeS at hbe
    simp only [Bool.and_eq_true, decide_eq_true_eq] at hbe
    exact hbe.1
  obtain ⟨r, hr⟩ : ∃ r : Nat, b.row = r := ⟨b.row.toNat, by omega⟩
  obtain ⟨q, hq⟩ : ∃ q : Nat, a.row = q := ⟨a.row.toNat, by omega⟩
  obtain ⟨k, rfl⟩ : ∃ k, r = k + 1 := ⟨r - 1, by omega⟩
  obtain ⟨m, rfl⟩ : ∃ m, n = (k + 2) + m := ⟨n - (k + 2), by omega⟩
  have hl := liftL_len (P := P) (wide := wide) (high := high) (S := S) (k + 1)
  have h1 := liftR_pair (P := P) (wide := wide) (high := high) (S := S) (liftL P wide high S (k + 1)) (k + 1) ((liftL P wide high S (k + 1)).getD k 0) ha hb (by omega) hbe
  rw [hq, hr, Int.toNat_natCast, Int.toNat_natCast, liftL_at m (k + 2) q (by omega), liftL_at m (k + 2) (k + 1) (by omega), show k + 2 = (k + 1) + 1 from rfl, liftL_pre (k + 1) q (by omega)]
  rw [hq, Int.toNat_natCast] at h1
  have e : (liftL P wide high S (k + 1 + 1)).getD (k + 1) 0 = liftR P wide high (liftL P wide high S (k + 1)) (k + 1) S ((liftL P wide high S (k + 1)).getD k 0) := by
    simp only [liftL]
    rw [List.getD_eq_getElem?_getD, List.getElem?_append_right (by omega), hl, Nat.sub_self]
    rfl
  rw [e]
  omega
end
end Go.Proofs.YtfmkmnnmckbljaaGreatDoor
