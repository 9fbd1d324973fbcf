/- Groups put into as few buses as possible: plain mathematics. Conditions: as each theorem says. -/
import Derived.Test.YtlmbpgjdepmlcaaDoorKit
namespace Go.Proofs.YtlmbpgjdepmlcaaDoor
open Go

/-- How many of ns ride in bus b. -/
def sumAt (b : Nat) : List Int → List Nat → Int
  | n :: ns, x :: g => (if x = b then n else 0) + sumAt b ns g
  | _, _ => 0
def freshL (seat : Int) (left : List Int) (b : Nat) : List Int := if b = left.length then left ++ [seat] else left
/-- The k-th group into bus b, then all others. -/
def putB (k : List Int → Option (List Nat)) (seat n : Int) (left : List Int) (b : Nat) : Option (List Nat) :=
  if n ≤ (freshL seat left b).getD b 0 then (k ((freshL seat left b).set b ((freshL seat left b).getD b 0 - n))).map (b :: ·) else none
def ldF (seat : Int) (most : Nat) : List Int → List Int → Option (List Nat)
  | [], _ => some []
  | n :: ns, left => (List.range (min (left.length + 1) most)).findSome? (putB (ldF seat most ns) seat n left)
structure Fits (cap : Nat → Int) (m : Nat) (ns : List Int) (g : List Nat) : Prop where
  len : g.length = ns.length
  lt : ∀ b ∈ g, b < m
  sum : ∀ b, sumAt b ns g ≤ cap b

theorem range_none {β : Type} {f : Nat → Option β} {c : Nat} (h : ∀ j, j < c → f j = none) : (List.range c).findSome? f = none := by
  rw [List.findSome?_eq_none_iff]
  intro x hx
  exact h x (List.mem_range.1 hx)
theorem range_first {β : Type} {f : Nat → Option β} {r : β} : ∀ {c b : Nat}, b < c → (∀ j, j < b → f j = none) → f b = some r → (List.range c).findSome? f = some r
  | 0, _, h, _, _ => absurd h (Nat.not_lt_zero _)
  | c + 1, b, h, hn, hb => by
    rw [List.range_succ, List.findSome?_append]
    by_cases hc : b < c
    · rw [range_first hc hn hb]
      rfl
    · obtain rfl : b = c := by omega
      rw [range_none hn]
      simp [hb]
theorem getD_set (l : List Int) (b j : Nat) (v d : Int) (hb : b < l.length) : (l.set b v).getD j d = if j = b then v else l.getD j d := by
  rw [List.getD_eq_getElem?_getD, List.getD_eq_getElem?_getD, List.getElem?_set]
  by_cases h : b = j
  · subst h
    simp [hb]
  · rw [if_neg h, if_neg (fun e => h e.symm)]
theorem getD_lt (l : List Int) {b : Nat} (d d' : Int) (hb : b < l.length) : l.getD b d = l.getD b d' := by
  rw [List.getD_eq_getElem?_getD, List.getD_eq_getElem?_getD, List.getElem?_eq_getElem hb]
  rfl
theorem getD_ge (l : List Int) {b : Nat} (d : Int) (hb : l.length ≤ b) : l.getD b d = d := by
  rw [List.getD_eq_getElem?_getD, List.getElem?_eq_none hb]
  rfl
theorem fresh_len {seat : Int} {left : List Int} {b : Nat} (hb : b ≤ left.length) : b < (freshL seat left b).length := by
  unfold freshL
  split
  · rw [List.length_append, List.length_singleton]; omega
  · omega
theorem fresh_cap {seat : Int} {left : List Int} {b : Nat} (j : Nat) : (freshL seat left b).getD j seat = left.getD j seat := by
  unfold freshL
  split
  · by_cases hj : j < left.length
    · rw [List.getD_eq_getElem?_getD, List.getD_eq_getElem?_getD, List.getElem?_append_left hj]
    · rw [getD_ge left seat (by omega)]
      by_cases h2 : j = left.length
      · subst h2
        rw [List.getD_eq_getElem?_getD, List.getElem?_append_right (Nat.le_refl _)]
        simp
      · rw [getD_ge _ seat (by rw [List.length_append, List.length_singleton]; omega)]
  · rfl
theorem fresh_at {seat : Int} {left : List Int} {b : Nat} (hb : b ≤ left.length) : (freshL seat left b).getD b 0 = left.getD b seat := by
  rw [getD_lt _ 0 seat (fresh_len hb), fresh_cap]

theorem sumAt_nn {b : Nat} : ∀ {ns : List Int} {g : List Nat}, (∀ n ∈ ns, 0 ≤ n) → 0 ≤ sumAt b ns g
  | [], _, _ => by simp [sumAt]
  | _ :: _, [], _ => by simp [sumAt]
  | n :: ns, x :: g, h => by
    have h1 := h n (by simp)
    have h2 := sumAt_nn (b := b) (ns := ns) (g := g) fun y hy => h y (by simp [hy])
    simp only [sumAt]
    split <;> omega
theorem sumAt_map {b c : Nat} {s : Nat → Nat} (hs : ∀ x, s x = b ↔ x = c) : ∀ (ns : List Int) (g : List Nat), sumAt b ns (g.map s) = sumAt c ns g
  | [], _ => by simp [sumAt]
  | _ :: _, [] => by simp [sumAt]
  | n :: ns, x :: g => by
    simp only [sumAt, List.map_cons]
    rw [sumAt_map hs ns g]
    by_cases h : x = c
    · rw [if_pos ((hs x).2 h), if_pos h]
    · rw [if_neg (fun e => h ((hs x).1 e)), if_neg h]
def swp (a b x : Nat) : Nat := if x = a then b else if x = b then a else x
theorem swp_iff (a b x y : Nat) : swp a b x = y ↔ x = swp a b y := by
  unfold swp
  repeat' split
  all_goals omega

/-- What load finds fits. -/
theorem ld_fits {seat : Int} {most : Nat} : ∀ {ns left : List Int} {bs : List Nat}, ldF seat most ns left = some bs → (∀ b, 0 ≤ left.getD b seat) → Fits (fun b => left.getD b seat) most ns bs
  | [], left, bs, h, hc => by
    obtain rfl : [] = bs := by simpa [ldF] using h
    exact ⟨rfl, (fun b hb => by cases hb), fun b => by simpa [sumAt] using hc b⟩
  | n :: ns, left, bs, h, hc => by
    simp only [ldF] at h
    obtain ⟨b, hb, h⟩ := List.exists_of_findSome?_eq_some h
    rw [List.mem_range] at hb
    unfold putB at h
    split at h
    · next hn =>
      obtain ⟨r, hr, rfl⟩ := Option.map_eq_some_iff.1 h
      have hbl : b ≤ left.length := by omega
      have hlen := fresh_len (seat := seat) hbl
      rw [fresh_at hbl] at hn hr
      have hcap : ∀ j, ((freshL seat left b).set b (left.getD b seat - n)).getD j seat = if j = b then left.getD b seat - n else left.getD j seat := fun j => by
        rw [getD_set _ _ _ _ _ hlen, fresh_cap]
      have ih := ld_fits hr fun j => by
        rw [hcap]
        split
        · omega
        · exact hc j
      refine ⟨by rw [List.length_cons, List.length_cons, ih.len], fun x hx => ?_, fun j => ?_⟩
      · rcases List.mem_cons.1 hx with rfl | hx
        · omega
        · exact ih.lt x hx
      · have := ih.sum j
        simp only [hcap] at this
        simp only [sumAt]
        by_cases hj : b = j
        · subst hj
          rw [if_pos rfl] at this ⊢
          omega
        · rw [if_neg hj]
          rw [if_neg (fun e => hj e.symm)] at this
          omega
    · cases h
/-- What can be put into m buses at all, load finds. -/
theorem ld_complete {seat : Int} {m : Nat} : ∀ {ns left : List Int} {g : List Nat}, left.length ≤ m → (∀ n ∈ ns, 0 ≤ n) → Fits (fun b => left.getD b seat) m ns g → (ldF seat m ns left).isSome = true
  | [], _, _, _, _, _ => rfl
  | n :: ns, left, g, hl, hn, hf => by
    have hn0 := hn n (by simp)
    have hn' : ∀ y ∈ ns, 0 ≤ y := fun y hy => hn y (by simp [hy])
    have main : ∀ (b : Nat) (g : List Nat), b ≤ left.length → b < m → Fits (fun b => left.getD b seat) m (n :: ns) (b :: g) → (ldF seat m (n :: ns) left).isSome = true := fun b g hb hbm hf => by
      have hlen := fresh_len (seat := seat) hb
      have hs := hf.sum b
      simp only [sumAt, if_true] at hs
      have hnn := sumAt_nn (b := b) (g := g) hn'
      have hput : (putB (ldF seat m ns) seat n left b).isSome = true := by
        unfold putB
        rw [fresh_at hb, if_pos (by omega), Option.isSome_map]
        refine ld_complete (g := g) (by rw [List.length_set]; unfold freshL; split <;> (try rw [List.length_append, List.length_singleton]) <;> omega) hn' ⟨by have := hf.len; simpa using this, fun x hx => hf.lt x (by simp [hx]), fun j => ?_⟩
        show _ ≤ List.getD _ j seat
        rw [getD_set _ _ _ _ _ hlen, fresh_cap]
        have hj := hf.sum j
        simp only [sumAt] at hj
        split
        · next e =>
          subst e
          rw [if_pos rfl] at hj
          omega
        · next e =>
          rw [if_neg (fun e2 => e e2.symm)] at hj
          omega
      cases hld : ldF seat m (n :: ns) left with
      | some r => rfl
      | none =>
        simp only [ldF] at hld
        rw [List.findSome?_eq_none_iff] at hld
        rw [hld b (List.mem_range.2 (by omega))] at hput
        cases hput
    cases g with
    | nil => have := hf.len; simp at this
    | cons b g =>
      have hbm := hf.lt b (by simp)
      by_cases hb : b ≤ left.length
      · exact main b g hb hbm hf
      · refine main left.length (g.map (swp left.length b)) (Nat.le_refl _) (by omega) ⟨by have := hf.len; simpa using this, fun x hx => ?_, fun j => ?_⟩
        · rcases List.mem_cons.1 hx with rfl | hx
          · omega
          · obtain ⟨y, hy, rfl⟩ := List.mem_map.1 hx
            have := hf.lt y (by simp [hy])
            unfold swp
            repeat' split
            all_goals omega
        · have h1 := hf.sum (swp left.length b j)
          have e1 : left.length :: g.map (swp left.length b) = (b :: g).map (swp left.length b) := by
            rw [List.map_cons]
            congr 1
            unfold swp
            repeat' split
            all_goals omega
          rw [e1, sumAt_map fun x => swp_iff left.length b x j]
          refine Int.le_trans h1 ?_
          show left.getD (swp left.length b j) seat ≤ left.getD j seat
          unfold swp
          split
          · next e =>
            subst e
            rw [getD_ge left seat (by omega), getD_ge left seat (Nat.le_refl _)]
            exact Int.le_refl _
          · split
            · next e =>
              subst e
              rw [getD_ge left seat (Nat.le_refl _), getD_ge left seat (by omega)]
              exact Int.le_refl _
            · exact Int.le_refl _

theorem sumAt_range {seat : Int} : ∀ (ns : List Int) (s b : Nat), 0 ≤ seat → (∀ n ∈ ns, n ≤ seat) → (b < s → sumAt b ns (List.range' s ns.length) = 0) ∧ sumAt b ns (List.range' s ns.length) ≤ seat
  | [], _, _, h0, _ => ⟨fun _ => by simp [sumAt], by simpa [sumAt] using h0⟩
  | n :: ns, s, b, h0, h => by
    have h1 := h n (by simp)
    obtain ⟨i1, i2⟩ := sumAt_range ns (s + 1) b h0 fun y hy => h y (by simp [hy])
    rw [List.length_cons, List.range'_succ]
    simp only [sumAt]
    refine ⟨fun hb => by rw [if_neg (by omega), i1 (by omega)]; rfl, ?_⟩
    by_cases hb : s = b
    · rw [if_pos hb, i1 (by omega)]
      omega
    · rw [if_neg hb]
      omega
/-- A bus for each group is enough. -/
theorem ld_each {seat : Int} {ns : List Int} (h0 : 0 ≤ seat) (h : ∀ n ∈ ns, 0 ≤ n ∧ n ≤ seat) : (ldF seat ns.length ns []).isSome = true :=
  ld_complete (g := List.range' 0 ns.length) (Nat.zero_le _) (fun n hn => (h n hn).1) ⟨by simp, fun b hb => by simpa using hb, fun b => (sumAt_range ns 0 b h0 fun n hn => (h n hn).2).2⟩

theorem sumAt_merge {a b : Nat} (hab : a ≠ b) : ∀ (ns : List Int) (g : List Nat), sumAt a ns (g.map fun x => if x = b then a else x) = sumAt a ns g + sumAt b ns g
  | [], _ => by simp [sumAt]
  | _ :: _, [] => by simp [sumAt]
  | n :: ns, x :: g => by
    simp only [sumAt, List.map_cons]
    rw [sumAt_merge hab ns g]
    by_cases h1 : x = b
    · subst h1
      simp only [if_true]
      rw [if_neg (fun e => hab e.symm)]
      omega
    · rw [if_neg h1, if_neg h1]
      omega
theorem sumAt_gone {b : Nat} : ∀ (ns : List Int) (g : List Nat), (∀ x ∈ g, x ≠ b) → sumAt b ns g = 0
  | [], _, _ => by simp [sumAt]
  | _ :: _, [], _ => by simp [sumAt]
  | n :: ns, x :: g, h => by
    simp only [sumAt]
    rw [if_neg (h x (by simp)), sumAt_gone ns g fun y hy => h y (by simp [hy])]
    rfl
theorem sumAt_used {b : Nat} : ∀ {ns : List Int} {g : List Nat}, (∀ n ∈ ns, 1 ≤ n) → g.length = ns.length → b ∈ g → 1 ≤ sumAt b ns g
  | [], g, _, hl, hb => by
    rw [List.length_nil, List.length_eq_zero_iff] at hl
    subst hl
    cases hb
  | n :: ns, [], _, hl, _ => by simp at hl
  | n :: ns, x :: g, h, hl, hb => by
    have h1 := h n (by simp)
    have h2 : ∀ y ∈ ns, 1 ≤ y := fun y hy => h y (by simp [hy])
    simp only [sumAt]
    by_cases e : x = b
    · rw [if_pos e]
      have := sumAt_nn (b := b) (g := g) fun y hy => Int.le_trans (by decide) (h2 y hy)
      omega
    · rw [if_neg e]
      rcases List.mem_cons.1 hb with e2 | hb
      · exact absurd e2.symm e
      · have := sumAt_used h2 (by simpa using hl) hb
        omega
/-- The fewest buses: none is empty, none too full, no two could be one. -/
theorem buses_tight {seat : Int} {most : Nat} {ns : List Int} {bs : List Nat} (h0 : 0 ≤ seat) (hn : ∀ n ∈ ns, 1 ≤ n) (h : ldF seat most ns [] = some bs) (hmin : ∀ m, m < most → ldF seat m ns [] = none) :
    bs.length = ns.length ∧ (∀ b ∈ bs, b < most) ∧ (∀ b, b < most → 1 ≤ sumAt b ns bs ∧ sumAt b ns bs ≤ seat) ∧ (∀ a b, a < most → b < most → a ≠ b → seat < sumAt a ns bs + sumAt b ns bs) := by
  have hf := ld_fits h fun b => by simpa using h0
  have hcap : ∀ b : Nat, ([] : List Int).getD b seat = seat := fun b => by simp
  have hn0 : ∀ n ∈ ns, 0 ≤ n := fun n hx => Int.le_trans (by decide) (hn n hx)
  -- an assignment that leaves a bus unused is none
  have used : ∀ g, Fits (fun b => ([] : List Int).getD b seat) most ns g → ∀ b, b < most → b ∈ g := fun g hg b hb => by
    rcases Classical.em (b ∈ g) with e | e
    · exact e
    · have hne : ∀ x ∈ g, x ≠ b := fun x hx e2 => e (e2 ▸ hx)
      have hfit : Fits (fun b => ([] : List Int).getD b seat) (most - 1) ns (g.map (swp b (most - 1))) := by
        refine ⟨by rw [List.length_map]; exact hg.len, fun x hx => ?_, fun j => ?_⟩
        · obtain ⟨y, hy, rfl⟩ := List.mem_map.1 hx
          have h1 := hg.lt y hy
          have h2 := hne y hy
          unfold swp
          repeat' split
          all_goals omega
        · rw [sumAt_map fun x => swp_iff b (most - 1) x j]
          have := hg.sum (swp b (most - 1) j)
          rw [hcap] at this ⊢
          exact this
      have := ld_complete (Nat.zero_le _) hn0 hfit
      rw [hmin (most - 1) (by omega)] at this
      cases this
  refine ⟨hf.len, hf.lt, fun b hb => ⟨sumAt_used hn hf.len (used bs hf b hb), by have := hf.sum b; rw [hcap] at this; exact this⟩, fun a b ha hb hab => ?_⟩
  rcases Int.lt_or_le seat (sumAt a ns bs + sumAt b ns bs) with e | e
  · exact e
  · have hm : Fits (fun b => ([] : List Int).getD b seat) most ns (bs.map fun x => if x = b then a else x) := by
      refine ⟨by rw [List.length_map]; exact hf.len, fun x hx => ?_, fun j => ?_⟩
      · obtain ⟨y, hy, rfl⟩ := List.mem_map.1 hx
        have := hf.lt y hy
        split <;> omega
      · rw [hcap]
        by_cases hja : j = a
        · subst hja
          rw [sumAt_merge hab]
          exact e
        · by_cases hjb : j = b
          · subst hjb
            rw [sumAt_gone _ _ fun x hx => by
              obtain ⟨y, hy, rfl⟩ := List.mem_map.1 hx
              split <;> omega]
            exact h0
          · rw [sumAt_map (c := j) fun x => by split <;> omega]
            have := hf.sum j
            rw [hcap] at this
            exact this
    obtain ⟨y, hy, e2⟩ := List.mem_map.1 (used _ hm b hb)
    split at e2 <;> omega
end Go.Proofs.YtlmbpgjdepmlcaaDoor
