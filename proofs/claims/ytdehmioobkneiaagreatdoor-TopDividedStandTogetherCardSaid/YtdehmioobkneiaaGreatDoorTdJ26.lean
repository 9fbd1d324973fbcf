/- Plain mathematics: the divisions that the document tries, one by one. Conditions: as each theorem says. The greatest sum from a singer on, by the program, with what it keeps in maps: the memory, and a singer who is given a part. Conditions: the choir and the divider lie in memory. -/
import Derived.Test.YtdehmioobkneiaaGreatDoorTdJ25
import Derived.Test.YtdehmioobkneiaaGreatDoorTdJ20
set_option linter.unusedSimpArgs false
set_option linter.unusedVariables false
namespace Go.Proofs.YtdehmioobkneiaaGreatDoor
/-! ### the best ones, kept one after the other -/
end Go.Proofs.YtdehmioobkneiaaGreatDoor
namespace Go.Proofs.YtdehmioobkneiaaGreatDoor
open Go Go.RowKit Go.Maps
def mapC (g : Nat) : List Value := [.map (some g)]
theorem mapC_len (g : Nat) : (mapC g).length = 1 := rfl
/-- How many entries a search adds at most. -/
def tF : Nat → Nat
  | 0 => 0
  | k + 1 => 1 + 4 * tF k
theorem tF_le : ∀ k, 3 * tF k + 1 = 4 ^ k
  | 0 => rfl
  | k + 1 => by have := tF_le k; simp only [tF, Nat.pow_succ]; omega
def NOk (i : Nat) (N : List Nat) : Prop := N.length = 4 ∧ ∀ x ∈ N, x ≤ i
theorem NOk.man {i : Nat} {N : List Nat} (h : NOk i N) (hi : i ≤ 1000) : ManOk N := ⟨h.1, fun x hx => Nat.le_trans (h.2 x hx) (by omega)⟩
theorem NOk.inc {i p : Nat} {N : List Nat} (h : NOk i N) : NOk (i + 1) (incN N p) := by
  refine ⟨by unfold incN; rw [List.length_set]; exact h.1, fun x hx => ?_⟩
  unfold incN at hx
  rcases List.mem_or_eq_of_mem_set hx with h1 | h1
  · exact Nat.le_succ_of_le (h.2 x h1)
  · rw [h1, List.getD_eq_getElem?_getD]
    cases e : N[p]? with
    | none => simp
    | some y => have := h.2 y (List.mem_of_getElem? e); simp; omega
theorem fromF_le {P : List PartV} : ∀ (C : List (List Int)) (N : List Nat), (∀ r ∈ C, ∀ x ∈ r, x ≤ 2000) → fromF P C N ≤ 2000 * C.length
  | [], N, _ => by simp only [fromF]; split <;> simp
  | r :: C, N, h => by
    rcases maxT_hit (g := withV P (fromF P C) r N) P.length with h0 | ⟨p, hp, e⟩
    · simp only [fromF, List.length_cons]; omega
    · simp only [fromF, List.length_cons]
      rw [← e]
      by_cases hw : withV P (fromF P C) r N p = -1
      · omega
      · obtain ⟨h1, h2, h3⟩ := withV_some hw
        have ih := fromF_le (P := P) C (incN N p) fun r hr => h r (List.mem_cons_of_mem _ hr)
        have hx : r.getD p (-1) ≤ 2000 := by
          rw [List.getD_eq_getElem?_getD]
          cases e2 : r[p]? with
          | none => simp
          | some y => exact h r (List.mem_cons_self ..) y (List.mem_of_getElem? e2)
        omega
/-- What is no map stands, and of maps all but some. -/
def Keeps (gs : List Nat) (w w' : World) : Prop := w.heap.size ≤ w'.heap.size ∧ (∀ g t cs, Blk w g t cs → Blk w' g t cs) ∧ ∀ j, j < w.heap.size → j ∉ gs → w'.heap[j]? = w.heap[j]?
theorem Keeps.refl (gs : List Nat) (w : World) : Keeps gs w w := ⟨Nat.le_refl _, fun _ _ _ h => h, fun _ _ _ => rfl⟩
theorem Keeps.trans {gs : List Nat} {a b c : World} (h : Keeps gs a b) (k : Keeps gs b c) : Keeps gs a c := ⟨Nat.le_trans h.1 k.1, fun g t cs hb => k.2.1 g t cs (h.2.1 g t cs hb), fun j hj hn => (k.2.2 j (Nat.lt_of_lt_of_le hj h.1) hn).trans (h.2.2 j hj hn)⟩
theorem Ext.keeps {gs : List Nat} {a b : World} (h : Ext a b) : Keeps gs a b := ⟨h.size, fun _ _ _ hb => hb.ext h, fun j hj _ => h.block j hj⟩
theorem OwnK.keeps {P : Program} {κ ν : Type} {M : KMap P κ ν} {w w' : World} {b n : Nat} {f : κ → Option ν} (h : OwnK M w b n f) (hg : w.grownBy w' (some b)) {gs : List Nat} (hin : b ∈ gs) : Keeps gs w w' := by
  obtain ⟨D, ⟨es, clock, hb, -⟩, -⟩ := h
  refine ⟨hg.size, fun g t cs hB => (hg.block g hB.lt fun e => ?_).trans hB, fun j hj hn => hg.block j hj fun e => hn (by cases e; exact hin)⟩
  have : g = b := by cases e; rfl
  subst this
  unfold Blk at hB
  rw [hb] at hB
  cases hB
theorem flat_len {α β : Type} {f : α → List β} {k : Nat} : ∀ {l : List α}, (∀ a ∈ l, (f a).length = k) → (l.flatMap f).length = l.length * k
  | [], _ => by simp
  | a :: l, h => by rw [List.flatMap_cons, List.length_append, h a (List.mem_cons_self ..), flat_len fun b hb => h b (List.mem_cons_of_mem _ hb), List.length_cons, Nat.add_mul]; omega
/-- All counts for four parts, up to 1000 each; how many of them a map holds. -/
def allN : List (List Nat) := (List.range 1001).flatMap fun a => (List.range 1001).flatMap fun b => (List.range 1001).flatMap fun c => (List.range 1001).map fun d => [a, b, c, d]
theorem allN_len : allN.length = 1001 * (1001 * (1001 * 1001)) := by
  unfold allN
  rw [flat_len (k := 1001 * (1001 * 1001)) fun a _ => ?_, List.length_range]
  rw [flat_len (k := 1001 * 1001) fun b _ => ?_, List.length_range]
  rw [flat_len (k := 1001) fun c _ => ?_, List.length_range]
  rw [List.length_map, List.length_range]
theorem allN_mem {N : List Nat} (h : ManOk N) : N ∈ allN := by
  obtain ⟨a, b, c, d, rfl⟩ := man4 h.1
  unfold allN
  simp only [List.mem_flatMap, List.mem_map, List.mem_range]
  exact ⟨a, Nat.lt_succ_of_le (h.2 a (by simp)), b, Nat.lt_succ_of_le (h.2 b (by simp)), c, Nat.lt_succ_of_le (h.2 c (by simp)), d, Nat.lt_succ_of_le (h.2 d (by simp)), rfl⟩
def cntDv (f : List Nat → Option Int) : Nat := (allN.filter fun N => (f N).isSome).length
theorem cntB_le (f : List Nat → Option Int) : cntDv f ≤ 1000000000000000000 := by
  refine Nat.le_trans (List.length_filter_le ..) ?_
  rw [allN_len]; decide
theorem filt_le {α : Type} {p q : α → Bool} (h : ∀ x, p x = true → q x = true) : ∀ l : List α, (l.filter p).length ≤ (l.filter q).length
  | [] => Nat.le_refl _
  | x :: l => by
    have ih := filt_le h l
    rw [List.filter_cons, List.filter_cons]
    cases hp : p x
    · simp only [Bool.false_eq_true, if_false]
      split
      · rw [List.length_cons]; omega
      · exact ih
    · rw [h x hp]; simpa using ih
theorem filt_lt {α : Type} {p q : α → Bool} (h : ∀ x, p x = true → q x = true) : ∀ {l : List α} {x : α}, x ∈ l → p x = false → q x = true → (l.filter p).length + 1 ≤ (l.filter q).length
  | y :: l, x, hx, hp, hq => by
    rw [List.filter_cons, List.filter_cons]
    rcases List.mem_cons.1 hx with rfl | hx
    · have := filt_le h l
      rw [hp, hq]
      simpa using this
    · have ih := filt_lt h hx hp hq
      cases hy : p y
      · simp only [Bool.false_eq_true, if_false]
        split
        · rw [List.length_cons]; omega
        · exact ih
      · rw [h y hy]; simpa using ih
theorem cntB_upd {f : List Nat → Option Int} {N : List Nat} (hN : ManOk N) (v : Int) : (if (f N).isSome then cntDv f else cntDv f + 1) ≤ cntDv (updK f N v) := by
  have hmo : ∀ x, (f x).isSome = true → (updK f N v x).isSome = true := fun x hx => by
    unfold updK
    split
    · rfl
    · exact hx
  have hm := allN_mem hN
  unfold cntDv
  generalize allN = l at *
  cases h : (f N).isSome
  · rw [if_neg (by decide)]
    exact filt_lt hmo hm h (by unfold updK; rw [if_pos rfl]; rfl)
  · rw [if_pos rfl]
    exact filt_le hmo _
/-- A divider in memory. -/
structure DivM (w0 w : World) (cb db : Nat) (bp : Option Addr) (bc : Nat) (gs : List Nat) (P : List PartV) (C : List (List Int)) (n : Nat) : Prop where
  ext : Ext w0 w
  low : w0.heap.size ≤ db
  blk : Blk w db 88 #[.pointer (some ⟨cb, 0, none⟩), .slice bp gs.length bc]
  row : Slc 1 mapC w bp gs.length bc gs
  len : gs.length = C.length
  nodup : gs.Nodup
  far : ∀ g ∈ gs, w0.heap.size ≤ g ∧ g ≠ db ∧ ∀ a, bp = some a → a.block ≠ g
  maps : ∀ i g, gs[i]? = some g → ∃ f, OwnK manyI w g (cntDv f) f ∧ ∀ N s, ManOk N → f N = some s → s = fromF P (C.drop i) N
section
variable {w0 w w' : World} {cb db : Nat} {bp : Option Addr} {bc : Nat} {gs : List Nat} {P : List PartV} {C : List (List Int)} {n m : Nat}
theorem DivM.more (h : DivM w0 w cb db bp bc gs P C n) (he : Ext w w') : DivM w0 w' cb db bp bc gs P C n :=
  ⟨h.ext.trans he, h.low, h.blk.ext he, h.row.ext he, h.len, h.nodup, h.far, fun i g hg => let ⟨f, a, b⟩ := h.maps i g hg; ⟨f, a.ext he, b⟩⟩
theorem DivM.any (h : DivM w0 w cb db bp bc gs P C n) (m : Nat) : DivM w0 w cb db bp bc gs P C m :=
  ⟨h.ext, h.low, h.blk, h.row, h.len, h.nodup, h.far, h.maps⟩
theorem DivM.le (h : DivM w0 w cb db bp bc gs P C n) (_hn : n ≤ m) : DivM w0 w cb db bp bc gs P C m := h.any m
theorem slc_grown {α : Type} {k : Nat} {enc : α → List Value} {p : Option Addr} {l c g : Nat} {xs : List α} (h : Slc k enc w p l c xs) (hg : w.grownBy w' (some g)) (hp : ∀ a, p = some a → a.block ≠ g) : Slc k enc w' p l c xs :=
  h.extS (s := g) ⟨hg.os, hg.tape, hg.output, hg.size, fun j hj hne => hg.block j hj fun e => hne (by cases e; rfl)⟩ hp
/-- A sum is kept. -/
theorem DivM.put (h : DivM w0 w cb db bp bc gs P C n) {i g : Nat} (hi : gs[i]? = some g) {N : List Nat} (hN : ManOk N) (_hn : n ≤ 1000000000000000000) {s : Int} (hs : s = fromF P (C.drop i) N) :
    ∃ w', (Instr.mapUpdate 137 (.map (some g)) (manV N) (.int .i64 s)).run Tryz.prog w = .ok () w' ∧ DivM w0 w' cb db bp bc gs P C (n + 1) ∧ Keeps gs w w' := by
  obtain ⟨f, ho, hf⟩ := h.maps i g hi
  obtain ⟨w', hrun, ho', hg⟩ := ho.put1 hN (cntB_le f) s
  replace ho' := ho'.le (cntB_upd hN s)
  obtain ⟨f1, f2, f3⟩ := h.far g (List.mem_of_getElem? hi)
  refine ⟨w', hrun, ⟨h.ext.grown hg (fun j e => by cases e; exact f1), h.low, (hg.block db h.blk.lt fun e => f2 (by cases e; rfl)).trans h.blk, slc_grown h.row hg f3, h.len, h.nodup, h.far, fun j g' hj => ?_⟩, ho.keeps hg (List.mem_of_getElem? hi)⟩
  by_cases e : j = i
  · subst e
    rw [hi] at hj
    cases hj
    refine ⟨_, ho', fun N' s' hN' hf' => ?_⟩
    unfold updK at hf'
    by_cases e : N' = N
    · rw [if_pos e] at hf'
      cases hf'
      rw [e]; exact hs
    · rw [if_neg e] at hf'
      exact hf N' s' hN' hf'
  · obtain ⟨f', a, b⟩ := h.maps j g' hj
    refine ⟨f', a.grown hg fun e2 => ?_, b⟩
    have e3 : g' = g := by cases e2; rfl
    subst e3
    exact e ((List.getElem?_inj (List.getElem?_eq_some_iff.1 hj).1 h.nodup).1 (hj.trans hi.symm))
theorem DivM.at_ (h : DivM w0 w cb db bp bc gs P C n) {i g : Nat} (hi : gs[i]? = some g) : ∃ b off, bp = some ⟨b, off, none⟩ ∧ b < w.heap.size ∧ w.cell? ⟨b, off + i, none⟩ = some (.map (some g)) := by
  obtain ⟨-, ⟨_, e⟩ | ⟨b, off, e, hb, hE⟩⟩ := slcC h.row
  · rw [e] at hi; cases hi
  · have := hE i g hi 0 _ rfl
    exact ⟨b, off, e, hb, by simpa using this⟩
end
/-- Four cells, one of them one more. -/
theorem cells4 {a b c d p : Nat} (hp : p < 4) : ∃ a' b' c' d' x, incN [a, b, c, d] p = [a', b', c', d'] ∧ [a, b, c, d].getD p 0 = x ∧ (#[Value.int .i64 a, .int .i64 b, .int .i64 c, .int .i64 d] : Array Value)[p]? = some (.int .i64 x) ∧
    (#[Value.int .i64 a, .int .i64 b, .int .i64 c, .int .i64 d] : Array Value).setIfInBounds p (.int .i64 ((x : Int) + 1)) = #[.int .i64 a', .int .i64 b', .int .i64 c', .int .i64 d'] := by
  have h : p = 0 ∨ p = 1 ∨ p = 2 ∨ p = 3 := by omega
  rcases h with rfl | rfl | rfl | rfl
  · exact ⟨a + 1, b, c, d, a, rfl, rfl, rfl, by simp⟩
  · exact ⟨a, b + 1, c, d, b, rfl, rfl, rfl, by simp⟩
  · exact ⟨a, b, c + 1, d, c, rfl, rfl, rfl, by simp⟩
  · exact ⟨a, b, c, d + 1, d, rfl, rfl, rfl, by simp⟩
/-- What a search for the greatest sum answers. -/
def FromRes (w0 w : World) (cb db : Nat) (bp : Option Addr) (bc : Nat) (gs : List Nat) (P : List PartV) (C : List (List Int)) (n : Nat) (v : Int) (e : Ending) (w' : World) : Prop :=
  e = .returned (.int .i64 v) ∧ DivM w0 w' cb db bp bc gs P C n ∧ Keeps gs w w'
end Go.Proofs.YtdehmioobkneiaaGreatDoor
