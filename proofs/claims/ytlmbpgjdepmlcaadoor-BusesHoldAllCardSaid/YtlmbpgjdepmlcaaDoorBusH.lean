/- Those who ride in a bus; a group found by its name. Conditions: as each theorem says. -/
import Derived.Test.YtlmbpgjdepmlcaaDoorBusG
namespace Go.Proofs.YtlmbpgjdepmlcaaDoor
open Go Go.RowKit

/-- The groups that ride in bus b. -/
def pickG (b : Nat) : List GrpV → List Nat → List GrpV
  | g :: L, x :: bs => if x = b then g :: pickG b L bs else pickG b L bs
  | _, _ => []
theorem pickG_names (b : Nat) : ∀ (L : List GrpV) (bs : List Nat), pickN b (nameL L) bs = (pickG b L bs).map (·.name)
  | [], _ => by simp [nameL, pickN, pickG]
  | _ :: _, [] => by simp [nameL, pickN, pickG]
  | g :: L, x :: bs => by
    have ih := pickG_names b L bs
    unfold nameL at ih
    simp only [nameL, List.map_cons, pickN, pickG]
    rw [ih]
    split <;> simp
theorem pickG_sum (b : Nat) : ∀ (L : List GrpV) (bs : List Nat), sumAt b (manyL L) bs = ((pickG b L bs).map (·.many)).sum
  | [], _ => by simp [manyL, sumAt, pickG]
  | _ :: _, [] => by simp [manyL, sumAt, pickG]
  | g :: L, x :: bs => by
    have ih := pickG_sum b L bs
    unfold manyL at ih
    simp only [manyL, List.map_cons, sumAt, pickG]
    rw [ih]
    split <;> simp
theorem pickG_mem (b : Nat) : ∀ (L : List GrpV) (bs : List Nat), ∀ g ∈ pickG b L bs, g ∈ L
  | [], _, g, h => by simp [pickG] at h
  | _ :: _, [], g, h => by simp [pickG] at h
  | y :: L, x :: bs, g, h => by
    simp only [pickG] at h
    split at h
    · rcases List.mem_cons.1 h with rfl | h
      · simp
      · exact List.mem_cons_of_mem _ (pickG_mem b L bs g h)
    · exact List.mem_cons_of_mem _ (pickG_mem b L bs g h)
/-- How many groups ride in the first m buses. -/
def cntTo (m : Nat) : List GrpV → List Nat → Nat
  | _ :: L, x :: bs => (if x < m then 1 else 0) + cntTo m L bs
  | _, _ => 0
theorem cntTo_zero : ∀ (L : List GrpV) (bs : List Nat), cntTo 0 L bs = 0
  | [], _ => by simp [cntTo]
  | _ :: _, [] => by simp [cntTo]
  | _ :: L, x :: bs => by simp only [cntTo]; rw [cntTo_zero L bs]; simp
theorem cntTo_succ (m : Nat) : ∀ (L : List GrpV) (bs : List Nat), cntTo (m + 1) L bs = cntTo m L bs + (pickG m L bs).length
  | [], _ => by simp [cntTo, pickG]
  | _ :: _, [] => by simp [cntTo, pickG]
  | _ :: L, x :: bs => by
    simp only [cntTo, pickG]
    rw [cntTo_succ m L bs]
    by_cases h1 : x = m
    · subst h1
      rw [if_pos (by omega), if_neg (by omega), if_pos rfl, List.length_cons]
      omega
    · rw [if_neg h1]
      by_cases h2 : x < m
      · rw [if_pos (by omega), if_pos h2]; omega
      · rw [if_neg (by omega), if_neg h2]; omega
theorem cntTo_all {m : Nat} : ∀ {L : List GrpV} {bs : List Nat}, bs.length = L.length → (∀ x ∈ bs, x < m) → cntTo m L bs = L.length
  | [], bs, _, _ => by simp [cntTo]
  | _ :: _, [], h, _ => by simp at h
  | _ :: L, x :: bs, h, hx => by
    simp only [cntTo, List.length_cons]
    rw [if_pos (hx x (by simp)), cntTo_all (by simpa using h) fun y hy => hx y (by simp [hy])]
    omega
theorem cntTo_le (m : Nat) : ∀ (L : List GrpV) (bs : List Nat), cntTo m L bs ≤ L.length
  | [], _ => by simp [cntTo]
  | _ :: _, [] => by simp [cntTo]
  | _ :: L, x :: bs => by
    have := cntTo_le m L bs
    simp only [cntTo, List.length_cons]
    split <;> omega
theorem sum_many_bound : ∀ (G : List GrpV), (∀ g ∈ G, 1 ≤ g.many ∧ g.many ≤ 100) → 0 ≤ (G.map (·.many)).sum ∧ (G.map (·.many)).sum ≤ 100 * G.length
  | [], _ => by simp
  | g :: G, h => by
    have h1 := h g (by simp)
    have h2 := sum_many_bound G fun y hy => h y (by simp [hy])
    rw [List.map_cons, List.sum_cons, List.length_cons]
    omega
theorem sum_take_snoc {G : List GrpV} {k : Nat} {g : GrpV} (h : G[k]? = some g) : ((G.take (k + 1)).map (·.many)).sum = ((G.take k).map (·.many)).sum + g.many := by
  rw [take_snocL h, List.map_append, List.sum_append]
  simp

theorem bytesB {a b : ByteArray} : (a.toList == b.toList) = true ↔ a = b := by
  rw [ByteArray.toList_eq, ByteArray.toList_eq]
  constructor
  · intro h
    have := eq_of_beq h
    cases a; cases b
    simp only at this
    congr 1
    exact Array.toList_inj.1 this
  · rintro rfl
    exact beq_self_eq_true _
theorem idxG_or {α : Type} (p : α → Bool) (d : α) : ∀ (l : List α) (i : Nat), (Lib.idxByFrom (fun _ y => p y) d l i = -1 ∧ ∀ x ∈ l, p x = false) ∨ ∃ k x, l[k]? = some x ∧ p x = true ∧ Lib.idxByFrom (fun _ y => p y) d l i = ((i + k : Nat) : Int)
  | [], _ => .inl ⟨rfl, fun x hx => by cases hx⟩
  | y :: r, i => by
    unfold Lib.idxByFrom
    cases h : p y
    · rcases idxG_or p d r (i + 1) with ⟨h1, h2⟩ | ⟨k, x, hx, hp, e⟩
      · refine .inl ⟨by simpa using h1, fun x hx => ?_⟩
        rcases List.mem_cons.1 hx with e | hx
        · subst e; exact h
        · exact h2 x hx
      · refine .inr ⟨k + 1, x, hx, hp, ?_⟩
        simp only [Bool.false_eq_true, if_false]
        rw [e]
        congr 1
        omega
    · exact .inr ⟨0, y, rfl, h, by simp⟩
def isNm (nm : ByteArray) (y : GrpV) : Bool := y.name.toList == nm.toList
set_option maxRecDepth 100000 in
theorem holdPred (nm : ByteArray) (B : Nat) (w : World) (hB : Blk w B 9 #[.string nm]) :
    PredBelow Tryd.prog 18 #[.pointer (some ⟨B, 0, none⟩)] (fun y => .agg (grpC y).toArray) (isNm nm) w := fun W y hb => by
  have hc : W.cell? ⟨B, 0, none⟩ = some (.string nm) := (hb.cell (p := ⟨B, 0, none⟩) hB.lt).trans (hB.cell 0)
  have hBW : B < W.heap.size := Nat.lt_of_lt_of_le hB.lt hb.size
  have hne : B ≠ W.heap.size := by omega
  clear hB
  show Calls Tryd.prog 18 #[.agg #[.string y.name, .int .i64 y.many], .pointer (some ⟨B, 0, none⟩)] W _
  go_enter Tryd.func18, Tryd.ntmps18
  go_wp2
  go_ret
  exact ⟨by simp [isNm], hb.alloc hb.size _⟩
theorem holdIdx (nm : ByteArray) (B b off n c : Nat) (L : List GrpV) (w : World) (hB : Blk w B 9 #[.string nm]) (hn : n = L.length) (hl : L.length ≤ 1000) (hb : b < w.heap.size) (hE : Elems 2 grpC w b off L) :
    Calls Tryd.prog 17 #[.slice (some ⟨b, off, none⟩) n c, .func (.func 18) #[] #[.pointer (some ⟨B, 0, none⟩)]] w fun e w' => ∃ i : Int, e = .returned (.int .i64 i) ∧ Ext w w' ∧ ((i = -1 ∧ ∀ x ∈ L, isNm nm x = false) ∨ ∃ (k : Nat) (x : GrpV), L[k]? = some x ∧ isNm nm x = true ∧ i = (k : Int)) := by
  have eg : ∀ args w, (callFunc 18 args).run Tryd.prog w = .ok (.enter 18 args) w := enters_of Tryd.func18 (by kernel_rfl) rfl
  have := AnyQ.slices_IndexFunc Tryd.lqiGroup 2 Tryd.isAgg49 Tryd.sizeOf49 grpC grpC_len (isNm nm) 18 #[.pointer (some ⟨B, 0, none⟩)] eg b off n c L w
    (holdPred nm B w hB) (by omega) (by omega) hb (fun j hj i v hi => hE j _ (by rw [List.getElem?_eq_getElem hj, getElem!_pos L j hj]) i v hi)
  refine this.mono fun e w' h => ⟨_, h.1, h.2, ?_⟩
  rw [List.take_of_length_le (by omega)]
  unfold Lib.idxBy
  rcases idxG_or (isNm nm) default L 0 with h1 | ⟨k, x, hx, hp, e⟩
  · exact .inl h1
  · exact .inr ⟨k, x, hx, hp, by rw [e, Nat.zero_add]⟩
end Go.Proofs.YtlmbpgjdepmlcaaDoor
