/- An own map whose keys are all of one shape, with how many there are; a loop over it in any order. Conditions: as each theorem says. Maps from counts, and from numbers, to truth; which parts each singer is given in the best divisions. Conditions: as each theorem says. -/
import Derived.Test.YtcdjkgfdhngmeaaGreatDoorSdDvK
import Derived.Maps.RangeWalk
set_option linter.unusedSimpArgs false
set_option linter.unusedVariables false
namespace Go.Proofs.YtcdjkgfdhngmeaaGreatDoor
open Go Go.RowKit Go.Maps Go.Sort Go.Shelf

section
variable {P : Program} {κ ν : Type} {M : KMap P κ ν}
/-- A map's content is a function's. -/
def Tells (M : KMap P κ ν) (D : DataW Unit) (f : κ → Option ν) : Prop :=
  Maps.Tidy D ∧ (∀ k l, M.ok k → keyOf P M.kt (M.kv k) = some l → Maps.has D l = (f k).isSome) ∧ (∀ k l v, M.ok k → keyOf P M.kt (M.kv k) = some l → f k = some v → ∀ z, D.atKey l z = M.dat v) ∧
    ∀ l, Maps.has D l = true → ∃ k, M.ok k ∧ keyOf P M.kt (M.kv k) = some l
def OwnX (M : KMap P κ ν) (w : World) (b n : Nat) (f : κ → Option ν) : Prop := ∃ D : DataW Unit, w.ownsMap P M.kt M.rd b n D ∧ Maps.size D = n ∧ Tells M D f
theorem OwnX.made (w : World) : OwnX M (w.alloc (.map #[] 0)) w.heap.size 0 (fun _ => none) :=
  ⟨.map [], World.ownsMap_made w _ _ _, by simp [Maps.size], tidy_empty, (fun _ _ _ _ => rfl), (fun k l v _ _ h => by cases h), (fun l h => by cases h)⟩
theorem OwnX.lt {w : World} {b n : Nat} {f : κ → Option ν} (h : OwnX M w b n f) : b < w.heap.size := by
  obtain ⟨D, hD, -⟩ := h
  exact hD.lt
theorem OwnX.grown {w w' : World} {b n : Nat} {f : κ → Option ν} (h : OwnX M w b n f) {row : Option Nat} (hg : w.grownBy w' row) (hne : some b ≠ row) : OwnX M w' b n f := by
  obtain ⟨D, hD, h2⟩ := h
  exact ⟨D, hD.kept hg hne, h2⟩
theorem OwnX.ext {w w' : World} {b n : Nat} {f : κ → Option ν} (h : OwnX M w b n f) (he : Ext w w') : OwnX M w' b n f :=
  h.grown (row := none) ⟨he.os, he.tape, he.output, he.size, fun k hk _ => he.block k hk⟩ (by simp)
theorem OwnX.put [DecidableEq κ] {w : World} {b n : Nat} {f : κ → Option ν} (h : OwnX M w b n f) {k : κ} (hk : M.ok k) (hn : n ≤ 1000000000000000000) (v : ν) :
    ∃ w', (Instr.mapUpdate M.mt (.map (some b)) (M.kv k) (M.val v)).run P w = .ok () w' ∧ OwnX M w' b (if (f k).isSome then n else n + 1) (updK f k v) ∧ w.grownBy w' (some b) := by
  obtain ⟨D, hD, hsz, hT, h1, h2, h4⟩ := h
  obtain ⟨l, hl⟩ := M.key k hk
  have hil := M.keyed.key hl
  obtain ⟨w', hrun, hD', hg⟩ := hD.update M.keyed M.und (by unfold maxLen; omega) hl (M.rd_mk v)
  have hsz' : Maps.size (D.put l (M.dat v)) = if (f k).isSome then n else n + 1 := by
    rw [size_put hT, h1 k l hk hl, hsz]
  refine ⟨w', hrun, ⟨_, by rw [← hsz']; exact ownv_sized hD', hsz', hT.put hil _, fun q lq hq hlq => ?_, fun q lq u hq hlq hu z => ?_, fun lq hlq => ?_⟩, hg⟩
  · unfold updK
    by_cases e : q = k
    · subst e
      have : lq = l := Option.some.inj (hlq.symm.trans hl)
      subst this
      rw [if_pos rfl, has_put_same hT.isMap hil]; rfl
    · rw [if_neg e, has_put_other (KMap.lit_ne hq hk hlq hl e)]; exact h1 q lq hq hlq
  · unfold updK at hu
    by_cases e : q = k
    · subst e
      have : lq = l := Option.some.inj (hlq.symm.trans hl)
      subst this
      rw [if_pos rfl] at hu; cases hu; exact atKey_put_same hT.isMap hil _ _
    · rw [if_neg e] at hu; rw [atKey_put_other (KMap.lit_ne hq hk hlq hl e)]; exact h2 q lq u hq hlq hu z
  · by_cases e : lq = l
    · exact ⟨k, hk, by rw [hl, e]⟩
    · rw [has_put_other e] at hlq
      exact h4 lq hlq
/-- A loop over an own map: which keys were visited, how many are still to come. -/
def RngX (M : KMap P κ ν) (w : World) (b r n : Nat) (f : κ → Option ν) (ks : List κ) (cnt : Nat) : Prop :=
  ∃ (D : DataW Unit) (left : Lit → Bool), w.ranges P M.kt M.rd b r n D left cnt ∧ Maps.size D = n ∧ Tells M D f ∧ (∀ l, left l = true → Maps.has D l = true) ∧
    (∀ k l, M.ok k → keyOf P M.kt (M.kv k) = some l → (k ∈ ks ↔ (Maps.has D l = true ∧ left l = false))) ∧ (∀ k ∈ ks, M.ok k) ∧ ks.length + cnt ≤ n
theorem RngX.kept {w w' : World} {b r n cnt : Nat} {f : κ → Option ν} {ks : List κ} {row : Option Nat} (h : RngX M w b r n f ks cnt) (hg : w.grownBy w' row) (hb : some b ≠ row) (hr : some r ≠ row) : RngX M w' b r n f ks cnt := by
  obtain ⟨D, left, h1, h2⟩ := h
  exact ⟨D, left, h1.kept hg hb hr, h2⟩
theorem RngX.at_ {w w' : World} {b r n cnt : Nat} {f : κ → Option ν} {ks : List κ} (h : RngX M w b r n f ks cnt) (hb : w'.heap[b]? = w.heap[b]?) (hr : w'.heap[r]? = w.heap[r]?) : RngX M w' b r n f ks cnt := by
  obtain ⟨D, left, ⟨es, clock, since, seen, c0, a1, a2, a3, a4, a5, a6⟩, h2⟩ := h
  exact ⟨D, left, ⟨es, clock, since, seen, c0, hb.trans a1, a2, a3, a4, hr.trans a5, a6⟩, h2⟩
theorem RngX.left_eq {w : World} {b r n cnt : Nat} {f : κ → Option ν} {ks : List κ} (h : RngX M w b r n f ks cnt) : w.rangeLeft b r = cnt := by
  obtain ⟨D, left, h1, -⟩ := h
  exact h1.left_eq
theorem RngX.lt {w : World} {b r n cnt : Nat} {f : κ → Option ν} {ks : List κ} (h : RngX M w b r n f ks cnt) : r < w.heap.size ∧ b < w.heap.size := by
  obtain ⟨D, left, h1, -⟩ := h
  exact ⟨h1.lt, h1.owns.lt⟩
theorem RngX.oks {w : World} {b r n cnt : Nat} {f : κ → Option ν} {ks : List κ} (h : RngX M w b r n f ks cnt) : (∀ k ∈ ks, M.ok k) ∧ ks.length + cnt ≤ n := by
  obtain ⟨D, left, _, _, _, _, _, h1, h2⟩ := h
  exact ⟨h1, h2⟩
theorem RngX.owns {w : World} {b r n cnt : Nat} {f : κ → Option ν} {ks : List κ} (h : RngX M w b r n f ks cnt) : OwnX M w b n f := by
  obtain ⟨D, left, h1, h2, h3, -⟩ := h
  exact ⟨D, h1.owns, h2, h3⟩
variable (w : World) {ops : Array Oper} {rest : List Oper} {o : Oper} {a : Act} {Q : Exit → Act → World → Prop}
theorem wpList_range_X (hg : o.guard = none) (m : Operand) (hop : o.op = Op.range M.mt m) (b n : Nat) (f : κ → Option ν) (hm : a.eval m = .map (some b)) (h : OwnX M w b n f)
    (hK : ∀ w', RngX M w' b w.heap.size n f [] n → w.grownBy w' none → w'.heap.size = w.heap.size + 1 → wpList P ops Q rest (a.put o.dst (.pointer (some ⟨w.heap.size, 0, none⟩))) w') : wpList P ops Q (o :: rest) a w := by
  obtain ⟨D, hD, hsz, hT⟩ := h
  refine wpList_range_own w hg m M.mt hop M.kt M.vt M.keyed M.und M.rd b n D hm hD fun w' h1 h2 h3 => hK w' ⟨D, _, by rw [hsz] at h1; exact h1, hsz, hT, (fun l hl => hl), fun k l hk hl => ?_, (fun k hk => by cases hk), by simp⟩ h2 h3
  cases Maps.has D l <;> simp
theorem wpList_next_X (hg : o.guard = none) (it : Operand) (hop : o.op = Op.next it false) (invV : ∀ v y, M.rd v = some y → ∃ c, v = M.val c) (dat_inj : ∀ c d, M.dat c = M.dat d → c = d) (b r n : Nat) (f : κ → Option ν) (ks : List κ) (cnt : Nat) (hit : a.eval it = .pointer (some ⟨r, 0, none⟩)) (h : RngX M w b r n f ks cnt)
    (hDone : cnt = 0 → (∀ k, M.ok k → (k ∈ ks ↔ (f k).isSome = true)) → wpList P ops Q rest (a.put o.dst (.tuple #[.bool false])) w)
    (hMore : ∀ (k : κ) (u : Value) (w' : World) (cnt' : Nat), M.ok k → (f k).isSome = true → k ∉ ks → RngX M w' b r n f (ks ++ [k]) cnt' → cnt' < cnt → w.grownBy w' (some r) → w'.heap.size = w.heap.size →
      (Instr.entry (.pointer (some ⟨r, 0, none⟩))).run P w' = .ok (.tuple #[M.kv k, u]) w' → wpList P ops Q rest (a.put o.dst (.tuple #[.bool true, M.kv k, u])) w') : wpList P ops Q (o :: rest) a w := by
  obtain ⟨D, left, h1, hsz, ⟨hT, t1, t2, t4⟩, hlf, hks, hok, hcn⟩ := h
  refine wpList_next_ranges w hg it hop M.kt M.keyed M.rd (fun x : Value => x) M.val (fun key kl _ => ⟨key, rfl⟩) invV b r n D left cnt hit h1 (fun h0 hl => hDone h0 fun k hk => ?_) fun x c kl y w' cnt' hkey hlk hv hat hrg hlt hgr hs2 hen => ?_
  · obtain ⟨l, hl2⟩ := M.key k hk
    rw [hks k l hk hl2, hl l, t1 k l hk hl2]
    simp
  · have hhas := hlf kl hlk
    obtain ⟨k, hk, hkl⟩ := t4 kl hhas
    obtain rfl : x = M.kv k := M.keyed.inj hkey hkl
    have hf1 := t1 k kl hk hkl
    rw [hhas] at hf1
    obtain ⟨v, hfv⟩ := Option.isSome_iff_exists.1 hf1.symm
    have h3 := t2 k kl v hk hkl hfv (M.dat v)
    rw [hat] at h3
    have h4 := M.rd_mk c
    rw [hv] at h4
    have h5 : M.dat c = M.dat v := by rw [← h3]; exact (congrArg Prod.fst (Option.some.inj h4)).symm
    obtain rfl := dat_inj c v h5
    have hnk : k ∉ ks := fun hin => by
      have := ((hks k kl hk hkl).1 hin).2
      rw [hlk] at this; cases this
    refine hMore k (M.val c) w' cnt' hk hf1.symm hnk ⟨D, _, hrg, hsz, ⟨hT, t1, t2, t4⟩, fun l hl => hlf l (by simp only [Bool.and_eq_true] at hl; exact hl.1), fun q l hq hl => ?_, fun q hq => ?_, by rw [List.length_append, List.length_singleton]; omega⟩ hlt hgr hs2 hen
    · rw [List.mem_append, List.mem_singleton, hks q l hq hl]
      by_cases e : q = k
      · subst e
        have : l = kl := Option.some.inj (hl.symm.trans hkl)
        subst this
        simp [hhas, WideAt.sameKey_self (M.keyed.key hl)]
      · have hne : l ≠ kl := KMap.lit_ne hq hk hl hkl e
        rw [sameKey_ne hne]
        simp [e]
    · rcases List.mem_append.1 hq with h6 | h6
      · exact hok q h6
      · rw [List.mem_singleton.1 h6]; exact hk
end
end Go.Proofs.YtcdjkgfdhngmeaaGreatDoor

namespace Go.Proofs.YtcdjkgfdhngmeaaGreatDoor
open Go Go.RowKit Go.Maps Go.Sort Go.Shelf

theorem boolRd_inv {u : Value} {v : Bool} {ps : List MemPlace} (h : boolRd u = some (.lit (.bool v), ps)) : u = .bool v := by
  unfold boolRd at h
  split at h
  · simp only [Option.some.injEq, Prod.mk.injEq, DataW.lit.injEq, Lit.bool.injEq] at h
    rw [h.1]
  · cases h
theorem boolRd_shape (v : Value) (y : DataW Unit × List MemPlace) (h : boolRd v = some y) : ∃ c : Bool, v = .bool c := by
  unfold boolRd at h
  split at h
  · exact ⟨_, rfl⟩
  · cases h
def manyB : KMap Tryz.prog (List Nat) Bool where
  kt := 80
  mt := 89
  vt := 4
  kv := manV
  ok := ManOk
  val := fun v => .bool v
  dat := fun v => .lit (.bool v)
  rd := boolRd
  zero := false
  keyed := many_keyed
  key := manV_key
  inj := manV_inj
  rd_mk := fun _ => rfl
  rd_inv := fun u v ps h => boolRd_inv h
  und := Tryz.underlying89
  zer := fun w => Tryz.zeroValue4 w
def intB : KMap Tryz.prog Nat Bool where
  kt := 3
  mt := 90
  vt := 4
  kv := fun k => .int .i64 k
  ok := fun k => k ≤ 1000
  val := fun v => .bool v
  dat := fun v => .lit (.bool v)
  rd := boolRd
  zero := false
  keyed := int_keyed Tryz.underlying3
  key := fun k h => ⟨_, keyOf_int_mk Tryz.underlying3 (by have h1 : IntKind.i64.min = -9223372036854775808 := rfl; have h2 : IntKind.i64.max = 9223372036854775807 := rfl; simp [Lit.wf]; omega)⟩
  inj := fun a b _ _ e => by
    simp only [Value.int.injEq, true_and] at e
    exact Int.ofNat_inj.1 e
  rd_mk := fun _ => rfl
  rd_inv := fun u v ps h => boolRd_inv h
  und := Tryz.underlying90
  zer := fun w => Tryz.zeroValue4 w
theorem datB_inj (c d : Bool) (h : (DataW.lit (H := Unit) (.bool c)) = .lit (.bool d)) : c = d := by
  simpa using h
section
variable {P : Program} {κ ν : Type} {M : KMap P κ ν}
theorem OwnX.at_ {w w' : World} {b n : Nat} {f : κ → Option ν} (h : OwnX M w b n f) (hb : w'.heap[b]? = w.heap[b]?) : OwnX M w' b n f := by
  obtain ⟨D, ⟨es, clock, a1, a2⟩, h2⟩ := h
  exact ⟨D, ⟨es, clock, hb.trans a1, a2⟩, h2⟩
/-- More than one key. -/
theorem OwnX.two {w : World} {b n : Nat} {f : κ → Option ν} (h : OwnX M w b n f) : 1 < n ↔ ∃ k q, M.ok k ∧ M.ok q ∧ (f k).isSome = true ∧ (f q).isSome = true ∧ k ≠ q := by
  obtain ⟨D, hD, hsz, hT, h1, h2, h4⟩ := h
  obtain ⟨es, rfl, hpw, hkl⟩ := hD.entries M.keyed
  have hn : es.length = n := by rw [← hsz]; rfl
  have hin : ∀ p ∈ es, Maps.has (.map es) p.1 = true := fun p hp => by
    rw [has_eq, List.any_eq_true]
    exact ⟨p, hp, WideAt.sameKey_self (hkl p hp)⟩
  have hof : ∀ l, Maps.has (.map es) l = true → ∃ p ∈ es, p.1 = l := fun l hl => by
    rw [has_eq, List.any_eq_true] at hl
    obtain ⟨p, hp, e⟩ := hl
    exact ⟨p, hp, WideAt.sameKey_eq e⟩
  constructor
  · intro hlt
    match es, hn, hpw, hin with
    | a :: c :: es, _, hpw, hin =>
      have hne : a.1 ≠ c.1 := (List.pairwise_cons.1 hpw).1 c (List.mem_cons_self ..)
      have ha := hin a (List.mem_cons_self ..)
      have hc := hin c (List.mem_cons_of_mem _ (List.mem_cons_self ..))
      obtain ⟨k, hk, ek⟩ := h4 _ ha
      obtain ⟨q, hq, eq⟩ := h4 _ hc
      refine ⟨k, q, hk, hq, by rw [← h1 k _ hk ek]; exact ha, by rw [← h1 q _ hq eq]; exact hc, fun e => hne ?_⟩
      subst e
      exact Option.some.inj (ek.symm.trans eq)
    | [], hn, _, _ => simp at hn; omega
    | [a], hn, _, _ => simp at hn; omega
  · rintro ⟨k, q, hk, hq, fk, fq, hne⟩
    obtain ⟨l, hl⟩ := M.key k hk
    obtain ⟨m, hm⟩ := M.key q hq
    have hlm := KMap.lit_ne hk hq hl hm hne
    obtain ⟨p, hp, e1⟩ := hof l (by rw [h1 k l hk hl]; exact fk)
    obtain ⟨p', hp', e2⟩ := hof m (by rw [h1 q m hq hm]; exact fq)
    match es, hn, hp, hp' with
    | [], _, hp, _ => cases hp
    | [a], _, hp, hp' =>
      rw [List.mem_singleton] at hp hp'
      exact absurd (e1.symm.trans (by rw [hp, ← hp']; exact e2)) hlm
    | a :: c :: es, hn, _, _ => simp at hn; omega
end
section
variable {P : List PartV} {C : List (List Int)}
theorem states_nok : ∀ (i : Nat) (N : List Nat), statesP P C [0, 0, 0, 0] i N → NOk i N
  | 0, N, h => by
    obtain rfl : N = [0, 0, 0, 0] := h
    exact ⟨rfl, by simp⟩
  | i + 1, N, ⟨N', k, h1, _, _, e⟩ => by
    subst e
    exact (states_nok i N' h1).inc
/-- A singer who is given different parts in the best divisions. -/
def unsB (P : List PartV) (C : List (List Int)) (i : Nat) : Bool := (bestL P C [0, 0, 0, 0]).any fun d => decide (d[i]? ≠ (divG P C [0, 0, 0, 0])[i]?)
theorem uns_two (h : fromF P C [0, 0, 0, 0] ≠ -1) {i : Nat} (hi : i < C.length) : unsB P C i = true ↔ ∃ k q, givenP P C [0, 0, 0, 0] i k ∧ givenP P C [0, 0, 0, 0] i q ∧ k ≠ q := by
  obtain ⟨l, hl⟩ := best_head C [0, 0, 0, 0] h
  have hb : divG P C [0, 0, 0, 0] ∈ bestL P C [0, 0, 0, 0] := by rw [hl]; exact List.mem_cons_self ..
  have hlen : ∀ d ∈ bestL P C [0, 0, 0, 0], ∃ k, d[i]? = some k := fun d hd => by
    obtain ⟨N, h1, h2⟩ := states_all h hd i (by omega)
    obtain ⟨h3, -⟩ := states_ok h i (by omega) N h1
    rw [drop_at hi] at h2 h3
    obtain ⟨p, g', e, -⟩ := (best_mem h3).1 h2
    have := List.getElem?_drop (xs := d) (i := i) (j := 0)
    rw [e, Nat.add_zero] at this
    exact ⟨p, by rw [← this]; rfl⟩
  unfold unsB
  rw [List.any_eq_true]
  constructor
  · rintro ⟨d, hd, hne⟩
    have hne := of_decide_eq_true hne
    obtain ⟨k, hk⟩ := hlen d hd
    obtain ⟨q, hq⟩ := hlen _ hb
    exact ⟨k, q, (given_is h hi).2 ⟨d, hd, hk⟩, (given_is h hi).2 ⟨_, hb, hq⟩, fun e => hne (by rw [hk, hq, e])⟩
  · rintro ⟨k, q, hk, hq, hne⟩
    obtain ⟨d, hd, ed⟩ := (given_is h hi).1 hk
    obtain ⟨d', hd', ed'⟩ := (given_is h hi).1 hq
    by_cases e : d[i]? = (divG P C [0, 0, 0, 0])[i]?
    · refine ⟨d', hd', decide_eq_true fun e2 => hne ?_⟩
      have := ed.symm.trans (e.trans (e2.symm.trans ed'))
      exact Option.some.inj this
    · exact ⟨d, hd, decide_eq_true e⟩
/-- Who is unsure, among the first ones. -/
def unsT (P : List PartV) (S : List ByteArray) (C : List (List Int)) : Nat → List ByteArray
  | 0 => []
  | i + 1 => unsT P S C i ++ if unsB P C i then [S.getD i ⟨#[]⟩] else []
theorem unsT_len (S : List ByteArray) : ∀ i, (unsT P S C i).length ≤ i
  | 0 => Nat.le_refl _
  | i + 1 => by
    have := unsT_len S i
    simp only [unsT, List.length_append]
    split <;> simp <;> omega
end
theorem own_mapX_ne {P : Program} {κ ν : Type} {M : KMap P κ ν} {w : World} {b n : Nat} {f : κ → Option ν} (h : OwnX M w b n f) {base k m : Nat} {e : TypeId} {v : Value} {xs : List Value} (ho : w.ownsRow base e k v m xs) : v.ownBlock ≠ some b := by
  obtain ⟨D, ⟨es, clock, hb, -⟩, -⟩ := h
  rcases ho.2 with ⟨rfl, _⟩ | ⟨g, cap, cur, rfl, _, h3, _⟩
  · simp [Value.ownBlock]
  · intro e1
    have e2 : g = b := by simpa [Value.ownBlock] using e1
    subst e2
    rw [h3] at hb
    cases hb
theorem wpList_len_X {P : Program} {κ ν : Type} {M : KMap P κ ν} {ops : Array Oper} {rest : List Oper} {o : Oper} {a : Act} {w : World} {Q : Exit → Act → World → Prop} (hg : o.guard = none) (m : Operand) (hop : o.op = Op.call { callee := Callee.builtin Builtin.len, args := #[m], argTypes := #[M.mt] })
    (b n : Nat) (f : κ → Option ν) (hm : a.eval m = .map (some b)) (h : OwnX M w b n f) (hK : wpList P ops Q rest (a.put o.dst (.int .i64 (n : Int))) w) : wpList P ops Q (o :: rest) a w := by
  obtain ⟨D, hD, hsz, -⟩ := h
  refine wpList_plain hg fun K' hK' => ?_
  have hrun := hD.len M.und o.type
  rw [hsz] at hrun
  unfold Oper.wp
  simp [execOp, hop, resolve, invoke, builtin, hm, hrun, Result.andThen]
  exact hK' _ _ hK
/-- A part that is best for a singer, behind some counts. -/
def HitT (P : List PartV) (C : List (List Int)) (i : Nat) (N : List Nat) (k : Nat) : Prop := k < P.length ∧ withV P (fromF P (C.drop (i + 1))) (C.getD i []) N k = fromF P (C.drop i) N
/-- The memory of Unsure while it looks at a singer. -/
structure UnsM (w0 : World) (cb db : Nat) (bp : Option Addr) (bc : Nat) (gs : List Nat) (P : List PartV) (C : List (List Int)) (B gS r gT gG n : Nat) (f : List Nat → Option Bool) (T : List ByteArray) (v : Value) (ks : List (List Nat)) (cnt nT : Nat) (fT : List Nat → Option Bool) (nG : Nat) (fG : Nat → Option Bool) (w : World) : Prop where
  rng : RngX manyB w gS r n f ks cnt
  thn : OwnX manyB w gT nT fT
  giv : OwnX intB w gG nG fG
  row : w.ownsRow B 9 1 v T.length (T.flatMap strC)
  div : DivM w0 w cb db bp bc gs P C 0
  bel : db < B ∧ (∀ a, bp = some a → a.block < B) ∧ ∀ g ∈ gs, g < B
  ord : B ≤ gS ∧ gS < gT ∧ gT < gG ∧ gG < r
  own : ∀ j, v.ownBlock = some j → j ≠ gS ∧ j ≠ r ∧ j ≠ gT ∧ j ≠ gG
section
variable {w0 w w' : World} {cb db : Nat} {bp : Option Addr} {bc : Nat} {gs : List Nat} {P : List PartV} {C : List (List Int)} {B gS r gT gG n : Nat} {f : List Nat → Option Bool} {T : List ByteArray} {v : Value} {ks : List (List Nat)} {cnt nT : Nat} {fT : List Nat → Option Bool} {nG : Nat} {fG : Nat → Option Bool}
theorem UnsM.aside (h : UnsM w0 cb db bp bc gs P C B gS r gT gG n f T v ks cnt nT fT nG fG w) {row : Option Nat} (hg : w.grownBy w' row) (hr : ∀ j, row = some j → r < j ∧ v.ownBlock ≠ some j) : UnsM w0 cb db bp bc gs P C B gS r gT gG n f T v ks cnt nT fT nG fG w' := by
  obtain ⟨o1, o2, o3, o4⟩ := h.ord
  refine ⟨h.rng.kept hg (fun e => ?_) (fun e => ?_), h.thn.grown hg (fun e => ?_), h.giv.grown hg (fun e => ?_), ?_, h.div.aside hg h.bel (fun j e => ?_), h.bel, h.ord, h.own⟩
  · have := (hr _ e.symm).1; omega
  · have := (hr _ e.symm).1; omega
  · have := (hr _ e.symm).1; omega
  · have := (hr _ e.symm).1; omega
  · cases row with
    | none => exact h.row.kept hg (by cases hv : v.ownBlock <;> simp)
    | some j => exact h.row.kept hg (.inr (hr j rfl).2)
  · have := (hr _ e).1; omega
theorem UnsM.ext (h : UnsM w0 cb db bp bc gs P C B gS r gT gG n f T v ks cnt nT fT nG fG w) (he : Ext w w') : UnsM w0 cb db bp bc gs P C B gS r gT gG n f T v ks cnt nT fT nG fG w' :=
  h.aside (World.grownBy_of_ext he) (fun j e => by cases e)
theorem UnsM.keeps (h : UnsM w0 cb db bp bc gs P C B gS r gT gG n f T v ks cnt nT fT nG fG w) (hK : Keeps gs w w') (hD : DivM w0 w' cb db bp bc gs P C 0) : UnsM w0 cb db bp bc gs P C B gS r gT gG n f T v ks cnt nT fT nG fG w' := by
  obtain ⟨o1, o2, o3, o4⟩ := h.ord
  have hn : ∀ j, B ≤ j → j ∉ gs := fun j hj hin => by have := h.bel.2.2 j hin; omega
  obtain ⟨l1, l2⟩ := h.rng.lt
  exact ⟨h.rng.at_ (hK.2.2 _ l2 (hn _ o1)) (hK.2.2 _ l1 (hn _ (by omega))), h.thn.at_ (hK.2.2 _ h.thn.lt (hn _ (by omega))), h.giv.at_ (hK.2.2 _ h.giv.lt (hn _ (by omega))), own_keeps hK h.row, hD, h.bel, h.ord, h.own⟩
theorem UnsM.putT (h : UnsM w0 cb db bp bc gs P C B gS r gT gG n f T v ks cnt nT fT nG fG w) {N : List Nat} (hN : ManOk N) (hn : nT ≤ 1000000000000000000) :
    ∃ w' n', (Instr.mapUpdate 89 (.map (some gT)) (manV N) (.bool true)).run Tryz.prog w = .ok () w' ∧ UnsM w0 cb db bp bc gs P C B gS r gT gG n f T v ks cnt n' (updK fT N true) nG fG w' ∧ n' ≤ nT + 1 ∧ w.grownBy w' (some gT) := by
  obtain ⟨o1, o2, o3, o4⟩ := h.ord
  obtain ⟨w', h1, h2, h3⟩ := h.thn.put hN hn true
  refine ⟨w', _, h1, ⟨h.rng.kept h3 (fun e => by cases e; omega) (fun e => by cases e; omega), h2, h.giv.grown h3 (fun e => by cases e; omega), h.row.kept h3 (.inr fun e => (h.own _ e).2.2.1 rfl), h.div.aside h3 h.bel (fun j e => by cases e; omega), h.bel, h.ord, h.own⟩, by split <;> omega, h3⟩
theorem UnsM.putG (h : UnsM w0 cb db bp bc gs P C B gS r gT gG n f T v ks cnt nT fT nG fG w) {k : Nat} (hk : k ≤ 1000) (hn : nG ≤ 1000000000000000000) :
    ∃ w' n', (Instr.mapUpdate 90 (.map (some gG)) (.int .i64 k) (.bool true)).run Tryz.prog w = .ok () w' ∧ UnsM w0 cb db bp bc gs P C B gS r gT gG n f T v ks cnt nT fT n' (updK fG k true) w' ∧ n' ≤ nG + 1 ∧ w.grownBy w' (some gG) := by
  obtain ⟨o1, o2, o3, o4⟩ := h.ord
  obtain ⟨w', h1, h2, h3⟩ := h.giv.put hk hn true
  refine ⟨w', _, h1, ⟨h.rng.kept h3 (fun e => by cases e; omega) (fun e => by cases e; omega), h.thn.grown h3 (fun e => by cases e; omega), h2, h.row.kept h3 (.inr fun e => (h.own _ e).2.2.2 rfl), h.div.aside h3 h.bel (fun j e => by cases e; omega), h.bel, h.ord, h.own⟩, by split <;> omega, h3⟩
end
theorem wpList_insertV {P : Program} {ops : Array Oper} {rest : List Oper} {o : Oper} {a : Act} {w : World} {Q : Exit → Act → World → Prop} (hg : o.guard = none) (m x y : Operand) (t : TypeId) (hop : o.op = Op.insert t m x y) (mv kv v : Value) (hm : a.eval m = mv) (hx : a.eval x = kv) (hy : a.eval y = v) (w' : World) (hrun : (Instr.mapUpdate t mv kv v).run P w = .ok () w')
    (hK : wpList P ops Q rest (a.put o.dst undef) w') : wpList P ops Q (o :: rest) a w := by
  refine wpList_plain hg fun K' hK' => ?_
  unfold Oper.wp
  simp [execOp, hop, hm, hx, hy, hrun, Result.andThen]
  exact hK' _ _ hK
end Go.Proofs.YtcdjkgfdhngmeaaGreatDoor
