/- Those that are out are with one singer each: plain. Conditions: as each theorem says. The kinds of maps that the property of copies that are out uses. Conditions: as each theorem says. -/
import Derived.Test.YtjggcofjgeiapaaGreatDoorCwLcB
set_option linter.unusedSimpArgs false
set_option linter.unusedVariables false
namespace Go.Proofs.YtjggcofjgeiapaaGreatDoor
open Go Go.RowKit Go.Sort

/-- All loans are of copies. -/
def LibC (T : List TitleV) (L : LibS) : Prop := ∀ l ∈ L.loans, isCopyT T (idL l) = true
theorem slipD_C {n : Nat} {T : List TitleV} {r : LendR} {L : LibS} {x : SlipV} (h : LibC T L) (hn : LibN n L) (hx : 1 ≤ x.kind ∧ x.kind ≤ 5) : LibC T (slipD T r L x).1 := by
  unfold slipD
  by_cases h1 : isCopyT T (x.piece, x.copy) = false
  · rw [if_pos h1]; exact h
  rw [if_neg h1]
  have h1 : isCopyT T (x.piece, x.copy) = true := by simpa using h1
  by_cases h2 : L.at_ (x.piece, x.copy) ≠ needW x.kind
  · rw [if_pos h2]; exact h
  rw [if_neg h2]
  have h2 : L.at_ (x.piece, x.copy) = needW x.kind := Classical.byContradiction h2
  have hset : ∀ (y : LoanV), (L.at_ (x.piece, x.copy) = outW ∨ L.at_ (x.piece, x.copy) = lostW) → idL y = idL (lastL L (x.piece, x.copy)) → ∀ l ∈ L.loans.set (lastI L (x.piece, x.copy)) y, isCopyT T (idL l) = true := fun y hs hy l hl => by
    obtain ⟨i, e1, e2⟩ := hn.ok.last _ hs
    rcases List.mem_or_eq_of_mem_set hl with hl | rfl
    · exact h l hl
    · rw [hy]
      exact h _ (List.mem_of_getElem? (lastL_of e1 e2))
  by_cases k1 : x.kind = 1
  · rw [if_pos k1]
    unfold lendD
    by_cases h3 : x.piece ∈ ownOf L x.singer
    · rw [if_pos h3]; exact h
    rw [if_neg h3]
    by_cases h4 : r.each ≤ (ownOf L x.singer).length
    · rw [if_pos h4]; exact h
    rw [if_neg h4]
    intro l hl
    rcases List.mem_append.1 hl with hl | hl
    · exact h l hl
    · rw [List.mem_singleton.1 hl]; exact h1
  rw [if_neg k1]
  by_cases k2 : x.kind = 2 ∨ x.kind = 3
  · rw [if_pos k2]
    exact hset _ (.inl (by rw [h2]; rcases k2 with e | e <;> rw [e] <;> rfl)) rfl
  rw [if_neg k2]
  by_cases k4 : x.kind = 4
  · rw [if_pos k4]
    exact hset _ (.inr (by rw [h2, k4]; rfl)) rfl
  rw [if_neg k4]
  exact h
theorem run_C {T : List TitleV} {r : LendR} {d : List SlipV} (hd : ∀ x ∈ d, (1 ≤ x.kind ∧ x.kind ≤ 5) ∧ x.singer.size ≤ 1000000) {is : List Nat} (hi : ∀ i ∈ is, i < d.length) : ∀ (k : Nat), k ≤ is.length → k ≤ 100000 → LibC T (runR T r d (LibS.new, fun _ => none) (is.take k)).1
  | 0, _, _ => by
    intro l hl
    simp [runR, LibS.new] at hl
  | k + 1, hk, hb => by
    have e : is[k]? = some is[k] := List.getElem?_eq_getElem (by omega)
    rw [run_take e]
    have hm : is[k] < d.length := hi _ (List.getElem_mem _)
    have hx := hd d[is[k]] (List.getElem_mem _)
    have ed : d.getD is[k] default = d[is[k]] := by rw [List.getD_eq_getElem?_getD, List.getElem?_eq_getElem hm]; rfl
    unfold stepR
    rw [ed]
    exact slipD_C (run_C hd hi k (by omega) (by omega)) (run_ok hd hi k (by omega) (by omega)) hx.1
theorem libAt_C {T : List TitleV} {r : LendR} {d : List SlipV} {t : Int} (hd : RightS d) (hs : ∀ x ∈ d, x.Small) : LibC T (libAt T r d t).1 := by
  have h := run_C (T := T) (r := r) (d := d) (fun x hx => ⟨(slip_ok (hd.one x hx)).kind, (hs x hx).2.2⟩) (is := ordF d t) (fun i hi => (mem_ord.1 hi).1) (ordF d t).length (Nat.le_refl _) (by have := ord_len d t; have := hd.len; omega)
  rw [List.take_length] at h
  exact h
/-- How many of some copies a singer has. -/
def cntS (X : List LentV) (s : ByteArray) : Nat := (X.filter fun y => decide (y.singer = s)).length
theorem cntS_snoc (X : List LentV) (y : LentV) (s : ByteArray) : cntS (X ++ [y]) s = cntS X s + if y.singer = s then 1 else 0 := by
  unfold cntS
  rw [List.filter_append, List.length_append]
  by_cases h : y.singer = s <;> simp [h]
theorem nodup_sub {α : Type} [DecidableEq α] : ∀ {A B : List α}, A.Nodup → (∀ x ∈ A, x ∈ B) → A.length ≤ B.length
  | [], _, _, _ => by simp
  | a :: A, B, hn, hs => by
    obtain ⟨h1, h2⟩ := List.nodup_cons.1 hn
    have hm := hs a List.mem_cons_self
    obtain ⟨X, Y, rfl⟩ := List.append_of_mem hm
    have h3 := nodup_sub (A := A) (B := X ++ Y) h2 fun x hx => by
      have := hs x (List.mem_cons_of_mem _ hx)
      rcases List.mem_append.1 this with h | h
      · exact List.mem_append_left _ h
      · rcases List.mem_cons.1 h with h | h
        · exact absurd (h ▸ hx) h1
        · exact List.mem_append_right _ h
    simp only [List.length_append, List.length_cons] at h3 ⊢
    omega
theorem cntS_le {r : LendR} {t : Int} {L : LibS} (h : LibI r.each t L) (hr : 0 ≤ r.each) (s : ByteArray) : (cntS (outL L.loans) s : Int) ≤ r.each := by
  have hmem : ∀ y ∈ outL L.loans, y.singer = s → ∃ l ∈ L.loans, l.Open ∧ l.singer = s ∧ l.piece = y.piece := fun y hy hs => by
    obtain ⟨l, hl, e⟩ := List.mem_map.1 hy
    obtain ⟨h1, h2⟩ := List.mem_filter.1 hl
    subst e
    exact ⟨l, h1, by simpa using h2, hs, rfl⟩
  have hnd : ((outL L.loans).filter fun y => decide (y.singer = s)).Pairwise fun a b => a.piece ≠ b.piece := by
    rw [List.pairwise_filter]
    unfold outL
    rw [List.pairwise_map, List.pairwise_filter]
    refine h.two.imp fun {a b} hab h1 h2 h3 h4 => ?_
    have h3 : (toL a).singer = s := by simpa using h3
    have h4 : (toL b).singer = s := by simpa using h4
    exact hab (by simpa using h1) (by simpa using h2) (show a.singer = b.singer from h3.trans h4.symm)
  unfold cntS
  cases hh : L.has s with
  | none =>
    rw [List.filter_eq_nil_iff.2]
    · simpa using hr
    · intro y hy
      simp only [decide_eq_true_eq]
      intro hs
      obtain ⟨l, h1, h2, h3, -⟩ := hmem y hy hs
      exact h.none_ s hh l h1 h2 h3
  | some o =>
    obtain ⟨h1, h2⟩ := h.has s o hh
    have h3 := nodup_sub (A := ((outL L.loans).filter fun y => decide (y.singer = s)).map LentV.piece) (B := o) (List.pairwise_map.2 hnd) fun p hp => by
      obtain ⟨y, hy, rfl⟩ := List.mem_map.1 hp
      obtain ⟨hy1, hy2⟩ := List.mem_filter.1 hy
      exact (h2 _).2 (hmem y hy1 (by simpa using hy2))
    rw [List.length_map] at h3
    omega
/-- What is known of the copies that are out, in their order. -/
structure OutOk (T : List TitleV) (r : LendR) (t : Int) (L : LibS) (M : List LentV) : Prop where
  st : ∀ y ∈ M, L.at_ (y.piece, y.no) = outW
  way : ∀ y ∈ M, ∃ A, wayL L.loans (y.piece, y.no) = A ++ [y.singer]
  two : M.Pairwise fun a b => ¬ (a.singer = b.singer ∧ a.piece = b.piece)
  since : ∀ y ∈ M, y.since ≤ t
  copy : ∀ y ∈ M, isCopyT T (y.piece, y.no) = true
  sing : ∀ y ∈ M, y.singer.size ≤ 1000000
  rise : ∀ (i : Nat) (x y : LentV), M[i]? = some x → M[i + 1]? = some y → x.piece = y.piece → x.no < y.no
  many : ∀ (i : Nat) (s : ByteArray), (cntS (M.take i) s : Int) ≤ r.each
theorem out_ok {n : Nat} {T : List TitleV} {r : LendR} {t : Int} {L : LibS} {M : List LentV} (h : LibI r.each t L) (hn : LibN n L) (hc : LibC T L) (hr : 0 ≤ r.each) (hp : M.Perm (outL L.loans)) (hs : M.Pairwise entLt) : OutOk T r t L M := by
  have hmem : ∀ y ∈ M, ∃ l ∈ L.loans, l.Open ∧ y = toL l := fun y hy => by
    obtain ⟨l, hl, e⟩ := List.mem_map.1 (hp.mem_iff.1 hy)
    obtain ⟨h1, h2⟩ := List.mem_filter.1 hl
    exact ⟨l, h1, by simpa using h2, e.symm⟩
  refine ⟨fun y hy => ?_, fun y hy => ?_, ?_, fun y hy => ?_, fun y hy => ?_, fun y hy => ?_, fun i x y hx hy e => ?_, fun i s => ?_⟩
  · obtain ⟨l, h1, h2, rfl⟩ := hmem y hy
    obtain ⟨i, hi⟩ := mem_at h1
    exact (h.open_ i l hi h2).1
  · obtain ⟨l, h1, h2, rfl⟩ := hmem y hy
    exact way_last h h1 h2
  · have h1 : (outL L.loans).Pairwise fun a b => ¬ (a.singer = b.singer ∧ a.piece = b.piece) := by
      unfold outL
      rw [List.pairwise_map, List.pairwise_filter]
      exact h.two.imp fun {a b} hab h1 h2 h3 => hab (by simpa using h1) (by simpa using h2) h3.1 h3.2
    exact (hp.pairwise_iff fun {a b} (h : ¬ (a.singer = b.singer ∧ a.piece = b.piece)) => (fun k => h ⟨k.1.symm, k.2.symm⟩ : ¬ (b.singer = a.singer ∧ b.piece = a.piece))).2 h1
  · obtain ⟨l, h1, h2, rfl⟩ := hmem y hy
    exact h.since l h1
  · obtain ⟨l, h1, h2, rfl⟩ := hmem y hy
    exact hc l h1
  · obtain ⟨l, h1, h2, rfl⟩ := hmem y hy
    exact hn.sing l h1
  · obtain ⟨h1, h2⟩ := List.getElem?_eq_some_iff.1 hx
    obtain ⟨h3, h4⟩ := List.getElem?_eq_some_iff.1 hy
    have := List.pairwise_iff_getElem.1 hs i (i + 1) h1 h3 (by omega)
    rw [h2, h4] at this
    rcases this with h5 | h5
    · have e5 : cmpS x.piece y.piece = -1 := h5
      rw [e, cmpS_refl] at e5
      cases e5
    · exact h5.2
  · have h1 := cntS_le h hr s
    have h2 : cntS (M.take i) s ≤ cntS M s := by
      unfold cntS
      exact ((List.take_sublist i M).filter _).length_le
    have h3 : cntS M s = cntS (outL L.loans) s := (hp.filter _).length_eq
    omega
end Go.Proofs.YtjggcofjgeiapaaGreatDoor

namespace Go.Proofs.YtjggcofjgeiapaaGreatDoor
open Go Go.RowKit Go.Maps Go.WideMaps

abbrev SpV := ByteArray × ByteArray
def spV (x : SpV) : Value := .agg #[.string x.1, .string x.2]
def okSP (x : SpV) : Prop := x.1.size ≤ 1000000 ∧ x.2.size ≤ 1000000
theorem spV_inj {x y : SpV} (e : spV x = spV y) : x = y := by
  have e1 : #[Value.string x.1, Value.string x.2] = #[Value.string y.1, Value.string y.2] := by
    injection e
  have e2 := congrArg Array.toList e1
  simp only [List.cons.injEq, Value.string.injEq, true_and, and_true] at e2
  exact Prod.ext e2.1 e2.2
theorem sp_keyed : Keyed Tryz.prog 49 := Keyed.of_law (deep_law (m := 3) (by decide) (by kernel_rfl) (by kernel_rfl) (by kernel_rfl))
theorem sp_key (x : SpV) (h : okSP x) : ∃ l, keyOf Tryz.prog 49 (spV x) = some l := by
  obtain ⟨ha, hb⟩ := h
  have h1 : Tryz.prog.keyType 49 = true := by kernel_rfl
  have h2 : Tryz.prog.cellsOf 49 = 2 := by kernel_rfl
  have h3' : Tryz.prog.cellsOf 9 = 1 := by kernel_rfl
  obtain ⟨n, hn⟩ : ∃ n, Tryz.prog.types.size = n + 1 := ⟨Tryz.prog.types.size - 1, by kernel_rfl⟩
  have h4 : Tryz.prog.keyLits (Tryz.prog.types.size + 1) 49 [.string x.1, .string x.2] = some [.string x.1.data.toList, .string x.2.data.toList] := by
    rw [hn]
    unfold Program.keyLits
    rw [Tryz.underlying49]
    have e : List.range 2 = [0, 1] := by decide
    simp [h2, h3', e, str_litsL, ha, hb]
  unfold keyOf
  rw [Tryz.underlying49]
  simp only [h1]
  have h5 : (spV x).formed Tryz.prog 49 = true := by
    simp [spV, Value.formed, Tryz.underlying49, h2]
  rw [h5]
  simp only [spV, Value.cells, h4]
  exact ⟨_, rfl⟩
def spB : KMap Tryz.prog SpV Bool where
  kt := 49
  mt := 41
  vt := 4
  kv := spV
  ok := okSP
  val := fun v => .bool v
  dat := fun v => .lit (.bool v)
  rd := boolRd
  zero := false
  keyed := sp_keyed
  key := sp_key
  inj := fun _ _ _ _ e => spV_inj e
  rd_mk := fun _ => rfl
  rd_inv := fun u v ps h => boolRd_inv h
  und := Tryz.underlying41
  zer := fun w => Tryz.zeroValue4 w
def strN : KMap Tryz.prog ByteArray Int where
  kt := 9
  mt := 40
  vt := 3
  kv := fun p => .string p
  ok := fun p => p.size ≤ 1000000
  val := fun v => .int .i64 v
  dat := fun v => .lit (.int .i64 v)
  rd := intRd
  zero := 0
  keyed := string_keyed Tryz.underlying9
  key := str_keyL
  inj := fun a b _ _ e => by cases e; rfl
  rd_mk := fun _ => rfl
  rd_inv := fun u v ps h => by
    unfold intRd at h
    split at h
    · simp only [Option.some.injEq, Prod.mk.injEq, DataW.lit.injEq, Lit.int.injEq, true_and] at h
      rw [h.1]
    · cases h
  und := Tryz.underlying40
  zer := fun w => Tryz.zeroValue3 w
/-- What the two maps hold. -/
def spK (y : LentV) : SpV := (y.singer, y.piece)
instance memDecP (a : SpV) (l : List SpV) : Decidable (a ∈ l) := decidable_of_iff ((l.any fun z => decide (z = a)) = true) (by simp)
def spF (X : List LentV) : SpV → Option Bool := fun k => if k ∈ X.map spK then some true else none
def manF (X : List LentV) : ByteArray → Option Int := fun s => if cntS X s = 0 then none else some (cntS X s : Int)
theorem spF_put (X : List LentV) (y : LentV) : updK (spF X) (spK y) true = spF (X ++ [y]) := by
  funext z
  unfold updK spF
  by_cases e : z = spK y <;> simp [e, List.mem_append]
theorem manF_put (X : List LentV) (y : LentV) : updK (manF X) y.singer ((cntS X y.singer : Int) + 1) = manF (X ++ [y]) := by
  funext z
  unfold updK manF
  rw [cntS_snoc]
  by_cases e : z = y.singer
  · subst e
    simp
  · rw [if_neg e, if_neg (fun e2 : y.singer = z => e e2.symm)]
    rfl
theorem manF_get (X : List LentV) (s : ByteArray) : (manF X s).getD strN.zero = (cntS X s : Int) := by
  unfold manF
  by_cases e : cntS X s = 0
  · rw [if_pos e, e]; rfl
  · rw [if_neg e]; rfl
end Go.Proofs.YtjggcofjgeiapaaGreatDoor
