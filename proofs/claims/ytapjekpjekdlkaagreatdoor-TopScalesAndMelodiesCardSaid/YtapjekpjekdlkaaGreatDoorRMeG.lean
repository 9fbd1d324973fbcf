/- How few choices behind a note are not usual: the maps that tune.fewest makes. Conditions: all choices are right, sizes. -/
import Derived.Test.YtapjekpjekdlkaaGreatDoorRMeF
import Derived.Test.YtapjekpjekdlkaaGreatDoorRFactsB
import Derived.Laws.MakeOwn
import Derived.Deep.DeepCutAuto
set_option linter.unusedSimpArgs false
set_option linter.unusedVariables false
namespace Go.Proofs.YtapjekpjekdlkaaGreatDoor
open Go Go.RowKit Go.Maps

theorem mapIInfo : (Tryz.prog.info? 80).map (fun i => (i.zero, i.size, i.bytes)) = some (some (.map none), 1, 8) := by kernel_rfl
theorem make_mapsI (n : Nat) (hn : n ≤ 1001) (u : World) : (Instr.makeSlice 77 (.int .i64 (n : Int)) (.int .i64 (n : Int))).run Tryz.prog u = .ok (.slice (some ⟨u.heap.size, 0, none⟩) n n) (u.alloc (.cells (List.replicate n (Value.map none)).toArray 80)) := by
  obtain ⟨i0, hi, hz0, hz1, hz2⟩ := info_parts mapIInfo
  have := run_make (P := Tryz.prog) u 77 80 i0 (.map none) Tryz.underlying77 hi hz0 .i64 .i64 (n : Int) (n : Int) (by omega) (by omega) (by rw [hz2]; omega) (by omega)
  have hvs : madeCells #[Value.map none] n = (List.replicate n (Value.map none)).toArray := by
    apply Array.ext
    · simp [size_madeCells]
    · intro i h1 h2
      simp [madeCells, Nat.mod_one]
  rw [this, hz1, Int.toNat_natCast, Nat.mul_one, show (Value.map none).cells = #[Value.map none] from rfl, hvs]
/-- Maps that tell the fewest, from the k-th note on. -/
structure MapsF (w : World) (e : I4) (C : List (List I4)) (g n : Nat) (us : List Value) (k : Nat) : Prop where
  blk : Blk w g 80 us.toArray
  len : us.length = n
  at_ : ∀ j, k ≤ j → j < n → ∃ b ks f, us[j]? = some (.map (some b)) ∧ OwnL ivI w b ks f ∧ TellsF e C j f
theorem MapsF.ext {w w' : World} {e : I4} {C : List (List I4)} {g n k : Nat} {us : List Value} (h : MapsF w e C g n us k) (he : Ext w w') : MapsF w' e C g n us k :=
  ⟨h.blk.ext he, h.len, fun j h1 h2 => let ⟨b, ks, f, a1, a2, a3⟩ := h.at_ j h1 h2; ⟨b, ks, f, a1, a2.ext he, a3⟩⟩
theorem MapsF.cell {w : World} {e : I4} {C : List (List I4)} {g n k : Nat} {us : List Value} (h : MapsF w e C g n us k) (j : Nat) : w.cell? ⟨g, j, none⟩ = us[j]? := by
  rw [h.blk.cell j]; simp
theorem ownX_blk {P : Program} {κ ν : Type} {M : KMap P κ ν} {w : World} {b n g : Nat} {f : κ → Option ν} {t : TypeId} {cs : Array Value} (h : OwnX M w b n f) (hB : Blk w g t cs) : b ≠ g := by
  intro e
  subst e
  obtain ⟨D, ⟨es, clock, hb, -⟩, -⟩ := h
  unfold Blk at hB
  rw [hB] at hb
  cases hb

theorem few_le (e : I4) : ∀ (cs : List (List I4)) (i : I4) (m : Nat), fewL e cs i = some m → m ≤ cs.length
  | [], i, m, h => by
    unfold fewL at h
    split at h
    · cases h; exact Nat.zero_le _
    · cases h
  | c :: cs, i, m, h => by
    obtain ⟨n, h1, h2, -⟩ := bestO_some (g := tryO (fewL e cs) c i) h
    obtain ⟨-, r, h3, h4⟩ := tryO_some h2
    have := few_le e cs _ r h3
    rw [List.length_cons]; omega
theorem tells_last_yes {C : List (List I4)} {e : I4} {m : Nat} (hl : C.length ≤ m) (h : Rch C m e) : TellsF e C m (updK (fun _ => none) e (0 : Int)) := fun x v => by
  rw [List.drop_eq_nil_of_le hl]
  unfold updK fewL
  by_cases hx : x = e
  · subst hx
    rw [if_pos rfl, if_pos rfl]
    constructor
    · intro hv; cases hv; exact ⟨h, 0, rfl, rfl⟩
    · rintro ⟨-, q, hq, rfl⟩; cases hq; rfl
  · rw [if_neg hx, if_neg hx]
    constructor
    · intro hv; cases hv
    · rintro ⟨-, q, hq, -⟩; cases hq
theorem tells_last_no {C : List (List I4)} {e : I4} {m : Nat} (hl : C.length ≤ m) (h : ¬ Rch C m e) : TellsF e C m (fun _ => none) := fun x v => by
  rw [List.drop_eq_nil_of_le hl]
  unfold fewL
  constructor
  · intro hv; cases hv
  · rintro ⟨hr, q, hq, -⟩
    split at hq
    · rename_i hx; rw [hx] at hr; exact absurd hr h
    · cases hq
/-- The map of a note behind some of its intervals, and some choices at one more. -/
def FewT (e : I4) (C : List (List I4)) (k : Nat) (r seen : List I4) (i : I4) (j : Nat) (nf : I4 → Option Int) : Prop :=
  ∀ x v, nf x = some v ↔ ((x ∈ seen ∧ ∃ m, fewL e (C.drop k) x = some m ∧ v = (m : Int)) ∨ (x = i ∧ ∃ m, bestO (tryO (fewL e (C.drop (k + 1))) r i) j = some m ∧ v = (m : Int)))
theorem FewT.start0 {e : I4} {C : List (List I4)} {k : Nat} {r : List I4} : FewT e C k r [] zeroI 0 (fun _ => none) := fun x v => by
  constructor
  · intro h; cases h
  · rintro (⟨h, _⟩ | ⟨_, m, h, _⟩)
    · cases h
    · cases h
theorem FewT.start {e : I4} {C : List (List I4)} {k : Nat} {r seen : List I4} {i0 : I4} {nf : I4 → Option Int} (h : FewT e C k r seen i0 0 nf) (i : I4) : FewT e C k r seen i 0 nf := fun x v => by
  rw [h x v]
  refine or_congr Iff.rfl ⟨?_, ?_⟩ <;> rintro ⟨_, m, h, _⟩ <;> cases h
theorem FewT.done {e : I4} {C : List (List I4)} {k : Nat} {r seen : List I4} {i : I4} {nf : I4 → Option Int} (hr : C[k]? = some r) (h : FewT e C k r seen i r.length nf) : FewT e C k r (seen ++ [i]) zeroI 0 nf := fun x v => by
  obtain ⟨hk, e1⟩ := List.getElem?_eq_some_iff.1 hr
  have hd : C.drop k = r :: C.drop (k + 1) := by rw [List.drop_eq_getElem_cons hk, e1]
  rw [h x v]
  constructor
  · rintro (⟨h1, h2⟩ | ⟨h1, m, h2, h3⟩)
    · exact .inl ⟨List.mem_append_left _ h1, h2⟩
    · refine .inl ⟨List.mem_append_right _ (List.mem_singleton.2 h1), m, ?_, h3⟩
      rw [hd, h1]; exact h2
  · rintro (⟨h1, m, h2, h3⟩ | ⟨_, m, h2, _⟩)
    · rcases List.mem_append.1 h1 with h1 | h1
      · exact .inl ⟨h1, m, h2, h3⟩
      · rw [List.mem_singleton.1 h1] at h2 ⊢
        rw [hd] at h2
        exact .inr ⟨rfl, m, h2, h3⟩
    · cases h2
theorem FewT.none {e : I4} {C : List (List I4)} {k : Nat} {r seen : List I4} {i : I4} {j : Nat} {nf : I4 → Option Int} (h : FewT e C k r seen i j nf) (ht : tryO (fewL e (C.drop (k + 1))) r i j = none) : FewT e C k r seen i (j + 1) nf := fun x v => by
  have hs : bestO (tryO (fewL e (C.drop (k + 1))) r i) (j + 1) = bestO (tryO (fewL e (C.drop (k + 1))) r i) j := by
    show betO _ _ = _
    rw [ht, betO_none_right]
  rw [hs]
  exact h x v
/-- What the map tells of the interval at hand. -/
theorem FewT.here {e : I4} {C : List (List I4)} {k : Nat} {r seen : List I4} {i : I4} {j : Nat} {nf : I4 → Option Int} (h : FewT e C k r seen i j nf) (hi : i ∉ seen) : nf i = (bestO (tryO (fewL e (C.drop (k + 1))) r i) j).map (fun (m : Nat) => (m : Int)) := by
  cases hb : bestO (tryO (fewL e (C.drop (k + 1))) r i) j with
  | none =>
    cases hn : nf i with
    | none => rfl
    | some v =>
      rcases (h i v).1 hn with ⟨h1, _⟩ | ⟨_, m, h1, _⟩
      · exact absurd h1 hi
      · rw [hb] at h1; cases h1
  | some m => exact (h i m).2 (.inr ⟨rfl, m, hb, rfl⟩)
theorem FewT.less {e : I4} {C : List (List I4)} {k : Nat} {r seen : List I4} {i : I4} {j M : Nat} {nf : I4 → Option Int} (h : FewT e C k r seen i j nf) (hi : i ∉ seen) (ht : tryO (fewL e (C.drop (k + 1))) r i j = some M) (hb : ∀ a, bestO (tryO (fewL e (C.drop (k + 1))) r i) j = some a → M < a) : FewT e C k r seen i (j + 1) (updK nf i (M : Int)) := fun x v => by
  have hs : bestO (tryO (fewL e (C.drop (k + 1))) r i) (j + 1) = some M := by
    show betO _ _ = _
    rw [ht]
    cases hq : bestO (tryO (fewL e (C.drop (k + 1))) r i) j with
    | none => rfl
    | some a => rw [betO_both, if_pos (hb a hq)]
  rw [hs]
  unfold updK
  by_cases hx : x = i
  · subst hx
    rw [if_pos rfl]
    constructor
    · intro hv; cases hv; exact .inr ⟨rfl, M, rfl, rfl⟩
    · rintro (⟨h1, _⟩ | ⟨_, m, h1, rfl⟩)
      · exact absurd h1 hi
      · cases h1; rfl
  · rw [if_neg hx, h x v]
    refine or_congr Iff.rfl ⟨?_, ?_⟩ <;> rintro ⟨h1, _⟩ <;> exact absurd h1 hx
theorem FewT.more {e : I4} {C : List (List I4)} {k : Nat} {r seen : List I4} {i : I4} {j M a : Nat} {nf : I4 → Option Int} (h : FewT e C k r seen i j nf) (ht : tryO (fewL e (C.drop (k + 1))) r i j = some M) (hb : bestO (tryO (fewL e (C.drop (k + 1))) r i) j = some a) (hm : ¬ M < a) : FewT e C k r seen i (j + 1) nf := fun x v => by
  have hs : bestO (tryO (fewL e (C.drop (k + 1))) r i) (j + 1) = bestO (tryO (fewL e (C.drop (k + 1))) r i) j := by
    show betO _ _ = _
    rw [ht, hb, betO_both, if_neg hm]
  rw [hs]
  exact h x v
theorem FewT.tells {e : I4} {C : List (List I4)} {k : Nat} {r seen : List I4} {nf : I4 → Option Int} (h : FewT e C k r seen zeroI 0 nf) (hs : ∀ x, x ∈ seen ↔ Rch C k x) : TellsF e C k nf := fun x v => by
  rw [h x v, hs x]
  constructor
  · rintro (h | ⟨_, m, h1, _⟩)
    · exact h
    · cases h1
  · exact .inl
/-- What the next map tells of an interval with a choice. -/
theorem TellsF.try_ {e : I4} {C : List (List I4)} {k : Nat} {r : List I4} {F : I4 → Option Int} (h : TellsF e C (k + 1) F) (hr : C[k]? = some r) {i c : I4} (hi : Rch C k i) {j : Nat} (hc : r[j]? = some c) :
    (F (addI i c) = none ∧ tryO (fewL e (C.drop (k + 1))) r i j = none) ∨ ∃ v : Nat, F (addI i c) = some (v : Int) ∧ v ≤ C.length ∧ tryO (fewL e (C.drop (k + 1))) r i j = some (v + min j 1) := by
  have hg : r.getD j zeroI = c := by rw [List.getD_eq_getElem?_getD, hc]; rfl
  have hd : C.getD k [] = r := by rw [List.getD_eq_getElem?_getD, hr]; rfl
  have hx : Rch C (k + 1) (addI i c) ↔ rightB (addI i c) = true := ⟨fun h => h.1, fun h => ⟨h, i, c, hi, by rw [hd]; exact List.mem_of_getElem? hc, rfl⟩⟩
  unfold tryO
  rw [hg]
  by_cases hb : rightB (addI i c) = true
  · rw [if_pos hb]
    cases hf : fewL e (C.drop (k + 1)) (addI i c) with
    | none =>
      refine .inl ⟨?_, rfl⟩
      cases hF : F (addI i c) with
      | none => rfl
      | some v =>
        obtain ⟨_, m, h1, _⟩ := (h _ v).1 hF
        rw [hf] at h1; cases h1
    | some m =>
      refine .inr ⟨m, (h _ _).2 ⟨hx.2 hb, m, hf, rfl⟩, ?_, rfl⟩
      have := few_le _ _ _ _ hf
      rw [List.length_drop] at this
      omega
  · rw [if_neg hb]
    refine .inl ⟨?_, rfl⟩
    cases hF : F (addI i c) with
    | none => rfl
    | some v => exact absurd (hx.1 ((h _ v).1 hF).1) hb
theorem Blk.at_ {w w' : World} {g : Nat} {t : TypeId} {cs : Array Value} (h : Blk w g t cs) (he : w'.heap[g]? = w.heap[g]?) : Blk w' g t cs := he.trans h
theorem OwnX.setCell {P : Program} {κ ν : Type} {M : KMap P κ ν} {w : World} {b n : Nat} {f : κ → Option ν} (h : OwnX M w b n f) {p : Addr} (hp : b ≠ p.block) (u : Value) : OwnX M (w.setCell p u) b n f := h.at_ (Below.heap_setCell w p u b hp)
theorem OwnL.setCell {P : Program} {κ ν : Type} {M : KMap P κ ν} {w : World} {b : Nat} {ks : List κ} {f : κ → Option ν} (h : OwnL M w b ks f) {p : Addr} (hp : b ≠ p.block) (u : Value) : OwnL M (w.setCell p u) b ks f := ⟨h.1.setCell hp u, h.2⟩

theorem MapsF.set {w : World} {e : I4} {C : List (List I4)} {g n k : Nat} {us : List Value} (h : MapsF w e C g n us (k + 1)) (v : Value) : MapsF (w.setCell ⟨g, k, none⟩ v) e C g n (us.set k v) (k + 1) :=
  ⟨(h.blk.set_ k v).cast (by apply Array.ext'; simp), by rw [List.length_set]; exact h.len, fun j h1 h2 => by
    obtain ⟨b, ks, f, a1, a2, a3⟩ := h.at_ j h1 h2
    exact ⟨b, ks, f, by rw [List.getElem?_set, if_neg (by omega)]; exact a1, a2.setCell (ownX_blk a2.1 h.blk) _, a3⟩⟩
theorem MapsF.add {w : World} {e : I4} {C : List (List I4)} {g n k b : Nat} {us : List Value} {ks : List I4} {f : I4 → Option Int} (h : MapsF w e C g n us (k + 1)) (hk : us[k]? = some (.map (some b))) (hO : OwnL ivI w b ks f) (hT : TellsF e C k f) : MapsF w e C g n us k :=
  ⟨h.blk, h.len, fun j h1 h2 => by
    rcases Nat.eq_or_lt_of_le h1 with e | h3
    · subst e; exact ⟨b, ks, f, hk, hO, hT⟩
    · exact h.at_ j h3 h2⟩

set_option maxRecDepth 100000 in
set_option maxHeartbeats 6400000 in
theorem fewest_any {w : World} {p : Option Addr} {m c B vb vc : Nat} {C : List (List I4)} {vs : List Value} (h : RowsI w p m c C) (hM : MapsR w B C vb vc (m + 1) vs) (hm : m ≤ 1000) (hC : RightC C) (hl : ∀ r ∈ C, r.length ≤ 1000) (e : I4) (he : rightB e = true) :
    Calls Tryz.prog 32 #[.slice p m c, .slice (some ⟨vb, 0, none⟩) (m + 1) vc, .agg #[.int .i64 e.a, .int .i64 e.b, .int .i64 e.c, .int .i64 e.d]] w fun ex w' => Ext w w' ∧ ∃ g us, ex = .returned (.slice (some ⟨g, 0, none⟩) (m + 1) (m + 1)) ∧ MapsF w' e C g (m + 1) us 0 := by
  have hmm := @run_makeMap Tryz.prog
  have hmk : ∀ u, (Instr.makeSlice 77 (.int .i64 ((m : Int) + 1)) (.int .i64 ((m : Int) + 1))).run Tryz.prog u = .ok (.slice (some ⟨u.heap.size, 0, none⟩) (m + 1) (m + 1)) (u.alloc (.cells (List.replicate (m + 1) (Value.map none)).toArray 80)) := fun u => by
    have := make_mapsI (m + 1) (by omega) u
    rwa [Int.natCast_add] at this
  have hlen := h.len
  go_enter Tryz.func32, Tryz.ntmps32
  go_upto_region 3 with fail
  have hE1 : Ext w (((w.alloc (.cells #[.int .i64 e.a, .int .i64 e.b, .int .i64 e.c, .int .i64 e.d] 27)).alloc (.cells ((Array.replicate (m + 1) (Value.map none)).setIfInBounds m (.map (some (w.heap.size + 1 + 1)))) 80)).alloc (.map #[] 0)) := (((Ext.refl w).alloc _).alloc _).alloc _
  have hEnd : Blk (((w.alloc (.cells #[.int .i64 e.a, .int .i64 e.b, .int .i64 e.c, .int .i64 e.d] 27)).alloc (.cells ((Array.replicate (m + 1) (Value.map none)).setIfInBounds m (.map (some (w.heap.size + 1 + 1)))) 80)).alloc (.map #[] 0)) w.heap.size 27 #[.int .i64 e.a, .int .i64 e.b, .int .i64 e.c, .int .i64 e.d] := ((Blk.new' rfl).alloc _).alloc _
  have hG : Blk (((w.alloc (.cells #[.int .i64 e.a, .int .i64 e.b, .int .i64 e.c, .int .i64 e.d] 27)).alloc (.cells ((Array.replicate (m + 1) (Value.map none)).setIfInBounds m (.map (some (w.heap.size + 1 + 1)))) 80)).alloc (.map #[] 0)) (w.heap.size + 1) 80 ((List.replicate (m + 1) (Value.map none)).set m (.map (some (w.heap.size + 1 + 1)))).toArray := by
    have h1 : Blk (((w.alloc (.cells #[.int .i64 e.a, .int .i64 e.b, .int .i64 e.c, .int .i64 e.d] 27)).alloc (.cells ((Array.replicate (m + 1) (Value.map none)).setIfInBounds m (.map (some (w.heap.size + 1 + 1)))) 80)).alloc (.map #[] 0)) (w.heap.size + 1) 80 ((Array.replicate (m + 1) (Value.map none)).setIfInBounds m (.map (some (w.heap.size + 1 + 1)))) := by
      refine Blk.alloc (Blk.new' ?_) _
      simp
    exact h1.cast (by apply Array.ext'; simp)
  have hO : OwnL ivI (((w.alloc (.cells #[.int .i64 e.a, .int .i64 e.b, .int .i64 e.c, .int .i64 e.d] 27)).alloc (.cells ((Array.replicate (m + 1) (Value.map none)).setIfInBounds m (.map (some (w.heap.size + 1 + 1)))) 80)).alloc (.map #[] 0)) (w.heap.size + 1 + 1) [] (fun _ => none) := by
    have := OwnL.made (M := ivI) ((w.alloc (.cells #[.int .i64 e.a, .int .i64 e.b, .int .i64 e.c, .int .i64 e.d] 27)).alloc (.cells ((Array.replicate (m + 1) (Value.map none)).setIfInBounds m (.map (some (w.heap.size + 1 + 1)))) 80))
    rwa [World.size_alloc, World.size_alloc] at this
  have hgl : w.heap.size ≤ w.heap.size + 1 := by omega
  have hbl : w.heap.size ≤ w.heap.size + 1 + 1 := by omega
  generalize ((w.alloc (.cells #[.int .i64 e.a, .int .i64 e.b, .int .i64 e.c, .int .i64 e.d] 27)).alloc (.cells ((Array.replicate (m + 1) (Value.map none)).setIfInBounds m (.map (some (w.heap.size + 1 + 1)))) 80)).alloc (.map #[] 0) = W at *
  generalize hb0 : w.heap.size + 1 + 1 = b0 at *
  generalize hg0 : w.heap.size + 1 = g at *
  generalize hge : w.heap.size = gE at hEnd ⊢
  replace hb0 := Lib.hid hb0
  replace hg0 := Lib.hid hg0
  replace hge := Lib.hid hge
  have hul : ((List.replicate (m + 1) (Value.map none)).set m (.map (some b0))).length = m + 1 := by simp
  have hum : ((List.replicate (m + 1) (Value.map none)).set m (.map (some b0)))[m]? = some (.map (some b0)) := by simp
  generalize (List.replicate (m + 1) (Value.map none)).set m (.map (some b0)) = us0 at *
  obtain ⟨bm, ksm, fm, hvm, hOm, hTm, -⟩ := hM.at_ m (Nat.lt_succ_self m)
  have cm := hM.cell (Nat.lt_succ_self m)
  rw [hvm] at cm
  have hvb := hM.lt
  have hlk : ∀ u, Ext w u → (Instr.lookup 97 (.map (some bm)) (.agg #[.int .i64 e.a, .int .i64 e.b, .int .i64 e.c, .int .i64 e.d]) false).run Tryz.prog u = .ok (.bool ((fm e).getD false)) u := fun u hu => (hOm.ext hu).1.look (okK_right he)
  have hRe : (fm e).getD false = true ↔ Rch C m e := by
    rw [← (hTm e).1]
    rcases (hTm e).2 with h | h <;> simp [h]
  replace hlk := Lib.hid hlk
  have hmI : (m : Int) < m + 1 := by omega
  have hcut : ∃ x, (fm e).getD false = x := ⟨_, rfl⟩
  obtain ⟨x0, hx0⟩ := hcut
  rw [hx0] at hlk hRe
  refine wp_region_facts [] [([], false, false), ([], false, false), ([1], false, false), ([0, 1, 2], false, false), ([0, 1, 2, 3], false, false), ([], false, false), ([0, 1, 2, 3, 4, 5], false, false)] (Ext) Ext (fun _ => True) (by kernel_rfl) (by kernel_rfl) Ext.refl (fun _ _ _ => Ext.trans) (fun _ _ h => h) (fun _ _ h => h.size) (fun _ _ h _ => h) trivial ?_
  dsimp only [List.length_cons, List.length_nil, List.drop_succ_cons, List.drop_zero, List.drop_nil]
  refine fac_quiet 0 rfl rfl rfl (fun _ _ h _ => h) rfl rfl ?_
  apply Exists.intro
  refine ⟨fun sv w' hw' hfa => ?_, ?_⟩
  · refine ⟨rfl, ?_⟩
    simp only [putsL]
    change quietTo _ _ _ _ (Sem.run _ (execOp (Act.eval _) _) _)
    try simp only [Act.put, List.setIfInBounds_toArray, List.set_cons_succ, List.set_cons_zero]
    simp [go_sem, quietTo, Ext.refl]
    all_goals first
      | rfl
  refine fac_quiet 1 rfl rfl rfl (fun _ _ h _ => h) rfl rfl ?_
  apply Exists.intro
  refine ⟨fun sv w' hw' hfa => ?_, ?_⟩
  · refine ⟨rfl, ?_⟩
    simp only [putsL]
    change quietTo _ _ _ _ (Sem.run _ (execOp (Act.eval _) _) _)
    try simp only [Act.put, List.setIfInBounds_toArray, List.set_cons_succ, List.set_cons_zero]
    simp [go_sem, quietTo, Ext.refl]
    all_goals first
      | rfl
  refine fac_quiet 2 rfl rfl rfl (fun _ _ h _ => h) rfl rfl ?_
  apply Exists.intro
  refine ⟨fun sv w' hw' hfa => ?_, ?_⟩
  · obtain ⟨f1, -⟩ := hfa
    replace f1 : sv 1 = _ := f1
    try dsimp only at f1
    refine ⟨rfl, ?_⟩
    simp only [putsL]
    change quietTo _ _ _ _ (Sem.run _ (execOp (Act.eval (Act.put _ (some 25) (sv 1))) _) _)
    try simp only [Act.put, List.setIfInBounds_toArray, List.set_cons_succ, List.set_cons_zero]
    simp [go_sem, quietTo, Ext.refl, ↓IntWalk.iteOmega, f1]
    all_goals try simp (disch := omega) only [IntWalk.i64_in]
    all_goals first
      | rfl
  refine fac_quiet 3 rfl rfl rfl (fun _ _ h _ => h) rfl rfl ?_
  apply Exists.intro
  refine ⟨fun sv w' hw' hfa => ?_, ?_⟩
  · obtain ⟨f0, _, f2, -⟩ := hfa
    replace f0 : sv 0 = _ := f0
    try dsimp only at f0
    replace f2 : sv 2 = _ := f2
    try dsimp only at f2
    refine ⟨rfl, ?_⟩
    simp only [putsL]
    change quietTo _ _ _ _ (Sem.run _ (execOp (Act.eval (Act.put (Act.put (Act.put _ (some 26) (sv 2)) (some 25) (sv 1)) (some 24) (sv 0))) _) _)
    try simp only [Act.put, List.setIfInBounds_toArray, List.set_cons_succ, List.set_cons_zero]
    simp [go_sem, quietTo, Ext.refl, ↓IntWalk.iteOmega, f0, f2]
    all_goals try simp (disch := omega) only [IntWalk.i64_in]
    all_goals first
      | rfl
  refine fac_quiet 4 rfl rfl rfl (fun _ _ h _ => h) rfl rfl ?_
  apply Exists.intro
  refine ⟨fun sv w' hw' hfa => ?_, ?_⟩
  · obtain ⟨_, _, _, f3, -⟩ := hfa
    replace f3 : sv 3 = _ := f3
    try dsimp only at f3
    have hk9 := (Ext.refl W).drew.trans hw'; have y1 := ((hE1.trans hk9).walk.1 _ _ hvb).trans cm; obtain ⟨y2, -⟩ := (hEnd.ext hk9).walk; have y3 := hlk.out w' (hE1.trans hk9)
    refine ⟨rfl, ?_⟩
    simp only [putsL]
    change quietTo _ _ _ _ (Sem.run _ (execOp (Act.eval (Act.put (Act.put (Act.put (Act.put _ (some 27) (sv 3)) (some 26) (sv 2)) (some 25) (sv 1)) (some 24) (sv 0))) _) _)
    try simp only [Act.put, List.setIfInBounds_toArray, List.set_cons_succ, List.set_cons_zero]
    simp [go_sem, quietTo, Ext.refl, ↓IntWalk.iteOmega, f3, y1]
    all_goals try simp (disch := omega) only [IntWalk.i64_in]
    all_goals first
      | rfl
  refine fac_quiet 5 rfl rfl rfl (fun _ _ h _ => h) rfl rfl ?_
  apply Exists.intro
  refine ⟨fun sv w' hw' hfa => ?_, ?_⟩
  · have hk9 := (Ext.refl W).drew.trans hw'; have y1 := ((hE1.trans hk9).walk.1 _ _ hvb).trans cm; obtain ⟨y2, -⟩ := (hEnd.ext hk9).walk; have y3 := hlk.out w' (hE1.trans hk9)
    refine ⟨rfl, ?_⟩
    simp only [putsL]
    change quietTo _ _ _ _ (Sem.run _ (execOp (Act.eval _) _) _)
    try simp only [Act.put, List.setIfInBounds_toArray, List.set_cons_succ, List.set_cons_zero]
    simp [go_sem, quietTo, Ext.refl, ↓IntWalk.iteOmega, y2]
    all_goals try simp (disch := omega) only [IntWalk.i64_in]
    all_goals first
      | rfl
  refine fac_quiet 6 rfl rfl rfl (fun _ _ h _ => h) rfl rfl ?_
  apply Exists.intro
  refine ⟨fun sv w' hw' hfa => ?_, ?_⟩
  · obtain ⟨_, _, _, _, f4, f5, -⟩ := hfa
    replace f4 : sv 4 = _ := f4
    try dsimp only at f4
    replace f5 : sv 5 = _ := f5
    try dsimp only at f5
    have hk9 := (Ext.refl W).drew.trans hw'; have y1 := ((hE1.trans hk9).walk.1 _ _ hvb).trans cm; obtain ⟨y2, -⟩ := (hEnd.ext hk9).walk; have y3 := hlk.out w' (hE1.trans hk9)
    refine ⟨rfl, ?_⟩
    simp only [putsL]
    change quietTo _ _ _ _ (Sem.run _ (execOp (Act.eval (Act.put (Act.put (Act.put (Act.put (Act.put (Act.put _ (some 29) (sv 5)) (some 28) (sv 4)) (some 27) (sv 3)) (some 26) (sv 2)) (some 25) (sv 1)) (some 24) (sv 0))) _) _)
    try simp only [Act.put, List.setIfInBounds_toArray, List.set_cons_succ, List.set_cons_zero]
    simp [go_sem, quietTo, Ext.refl, ↓IntWalk.iteOmega, f4, f5, y3]
    all_goals try simp (disch := omega) only [IntWalk.i64_in]
    all_goals first
      | rfl
  refine fac_nil fun xa wra hera hfra hcra holda hapa => ?_
  obtain ⟨f0, f1, f2, f3, f4, f5, f6, -⟩ := hfra
  replace f0 : xa 0 = _ := f0
  try dsimp only at f0
  replace f1 : xa 1 = _ := f1
  try dsimp only at f1
  replace f2 : xa 2 = _ := f2
  try dsimp only at f2
  replace f3 : xa 3 = _ := f3
  try dsimp only at f3
  replace f4 : xa 4 = _ := f4
  try dsimp only at f4
  replace f5 : xa 5 = _ := f5
  try dsimp only at f5
  replace f6 : xa 6 = _ := f6
  try dsimp only at f6
  change wpList _ _ _ _ (Act.put (Act.put (Act.put (Act.put (Act.put (Act.put (Act.put _ (some 24) (xa 0)) (some 25) (xa 1)) (some 26) (xa 2)) (some 27) (xa 3)) (some 28) (xa 4)) (some 29) (xa 5)) (some 30) (xa 6)) _
  simp only [putsL, Nat.reduceAdd, List.drop_succ_cons, List.drop_zero, List.drop_nil, Act.put, List.setIfInBounds_toArray, List.set_cons_succ, List.set_cons_zero]
  try simp only [f0, f1, f2, f3, f4, f5, f6]
  clear f0 f1 f2 f3 f4 f5 f6
  clear holda hapa
  have hEa := (Ext.refl W).drew.trans hera
  go_upto_if 30 with fail
  have hG1 := hG.ext hEa
  have hO1 := hO.ext hEa
  have hEnd1 := hEnd.ext hEa
  have hEw := hE1.trans hEa
  clear hG hO hEnd hera hEa hE1
  generalize wra = W1 at *
  go_cut [] (fun wr => ∃ ks f, Blk wr g 80 us0.toArray ∧ OwnL ivI wr b0 ks f ∧ TellsF e C m f ∧ Ext w wr)
  case first =>
    cases x0
    · have hno : ¬ Rch C m e := fun h => by have := hRe.2 h; cases this
      go_wp2
      go_meet
      exact ⟨[], _, hG1, hO1, tells_last_no (by omega) hno, hEw⟩
    · have hyes := hRe.1 rfl
      go_upto_region 4 with fail
      obtain ⟨y1, -⟩ := hG1.walk
      have hg1l := hG1.lt
      obtain ⟨y2, -⟩ := hEnd1.walk
      have hEl := hEnd1.lt
      refine wp_region_facts [] [([], false, false), ([], false, false), ([1], false, false), ([0, 1, 2], false, false), ([0, 1, 2, 3], false, false), ([], false, false)] (Ext) Ext (fun _ => True) (by kernel_rfl) (by kernel_rfl) Ext.refl (fun _ _ _ => Ext.trans) (fun _ _ h => h) (fun _ _ h => h.size) (fun _ _ h _ => h) trivial ?_
      dsimp only [List.length_cons, List.length_nil, List.drop_succ_cons, List.drop_zero, List.drop_nil]
      refine fac_quiet 0 rfl rfl rfl (fun _ _ h _ => h) rfl rfl ?_
      apply Exists.intro
      refine ⟨fun sv w' hw' hfa => ?_, ?_⟩
      · refine ⟨rfl, ?_⟩
        simp only [putsL]
        change quietTo _ _ _ _ (Sem.run _ (execOp (Act.eval _) _) _)
        try simp only [Act.put, List.setIfInBounds_toArray, List.set_cons_succ, List.set_cons_zero]
        simp [go_sem, quietTo, Ext.refl]
        all_goals first
          | rfl
      refine fac_quiet 1 rfl rfl rfl (fun _ _ h _ => h) rfl rfl ?_
      apply Exists.intro
      refine ⟨fun sv w' hw' hfa => ?_, ?_⟩
      · refine ⟨rfl, ?_⟩
        simp only [putsL]
        change quietTo _ _ _ _ (Sem.run _ (execOp (Act.eval _) _) _)
        try simp only [Act.put, List.setIfInBounds_toArray, List.set_cons_succ, List.set_cons_zero]
        simp [go_sem, quietTo, Ext.refl]
        all_goals first
          | rfl
      refine fac_quiet 2 rfl rfl rfl (fun _ _ h _ => h) rfl rfl ?_
      apply Exists.intro
      refine ⟨fun sv w' hw' hfa => ?_, ?_⟩
      · obtain ⟨f1, -⟩ := hfa
        replace f1 : sv 1 = _ := f1
        try dsimp only at f1
        refine ⟨rfl, ?_⟩
        simp only [putsL]
        change quietTo _ _ _ _ (Sem.run _ (execOp (Act.eval (Act.put _ (some 32) (sv 1))) _) _)
        try simp only [Act.put, List.setIfInBounds_toArray, List.set_cons_succ, List.set_cons_zero]
        simp [go_sem, quietTo, Ext.refl, ↓IntWalk.iteOmega, f1]
        all_goals try simp (disch := omega) only [IntWalk.i64_in]
        all_goals first
          | rfl
      refine fac_quiet 3 rfl rfl rfl (fun _ _ h _ => h) rfl rfl ?_
      apply Exists.intro
      refine ⟨fun sv w' hw' hfa => ?_, ?_⟩
      · obtain ⟨f0, _, f2, -⟩ := hfa
        replace f0 : sv 0 = _ := f0
        try dsimp only at f0
        replace f2 : sv 2 = _ := f2
        try dsimp only at f2
        refine ⟨rfl, ?_⟩
        simp only [putsL]
        change quietTo _ _ _ _ (Sem.run _ (execOp (Act.eval (Act.put (Act.put (Act.put _ (some 33) (sv 2)) (some 32) (sv 1)) (some 31) (sv 0))) _) _)
        try simp only [Act.put, List.setIfInBounds_toArray, List.set_cons_succ, List.set_cons_zero]
        simp [go_sem, quietTo, Ext.refl, ↓IntWalk.iteOmega, f0, f2]
        all_goals try simp (disch := omega) only [IntWalk.i64_in]
        all_goals first
          | rfl
      refine fac_quiet 4 rfl rfl rfl (fun _ _ h _ => h) rfl rfl ?_
      apply Exists.intro
      refine ⟨fun sv w' hw' hfa => ?_, ?_⟩
      · obtain ⟨_, _, _, f3, -⟩ := hfa
        replace f3 : sv 3 = _ := f3
        try dsimp only at f3
        have hk9 := (Ext.refl W1).drew.trans hw'; have y1 := ((hG1.ext hk9).cell m).trans ((List.getElem?_toArray).trans hum); obtain ⟨y2, -⟩ := (hEnd1.ext hk9).walk
        refine ⟨rfl, ?_⟩
        simp only [putsL]
        change quietTo _ _ _ _ (Sem.run _ (execOp (Act.eval (Act.put (Act.put (Act.put (Act.put _ (some 34) (sv 3)) (some 33) (sv 2)) (some 32) (sv 1)) (some 31) (sv 0))) _) _)
        try simp only [Act.put, List.setIfInBounds_toArray, List.set_cons_succ, List.set_cons_zero]
        simp [go_sem, quietTo, Ext.refl, ↓IntWalk.iteOmega, f3, y1]
        all_goals try simp (disch := omega) only [IntWalk.i64_in]
        all_goals first
          | rfl
      refine fac_quiet 5 rfl rfl rfl (fun _ _ h _ => h) rfl rfl ?_
      apply Exists.intro
      refine ⟨fun sv w' hw' hfa => ?_, ?_⟩
      · have hk9 := (Ext.refl W1).drew.trans hw'; have y1 := ((hG1.ext hk9).cell m).trans ((List.getElem?_toArray).trans hum); obtain ⟨y2, -⟩ := (hEnd1.ext hk9).walk
        refine ⟨rfl, ?_⟩
        simp only [putsL]
        change quietTo _ _ _ _ (Sem.run _ (execOp (Act.eval _) _) _)
        try simp only [Act.put, List.setIfInBounds_toArray, List.set_cons_succ, List.set_cons_zero]
        simp [go_sem, quietTo, Ext.refl, ↓IntWalk.iteOmega, y2]
        all_goals try simp (disch := omega) only [IntWalk.i64_in]
        all_goals first
          | rfl
      refine fac_nil fun xb wrb herb hfrb hcrb holdb hapb => ?_
      obtain ⟨f0, f1, f2, f3, f4, f5, -⟩ := hfrb
      replace f0 : xb 0 = _ := f0
      try dsimp only at f0
      replace f1 : xb 1 = _ := f1
      try dsimp only at f1
      replace f2 : xb 2 = _ := f2
      try dsimp only at f2
      replace f3 : xb 3 = _ := f3
      try dsimp only at f3
      replace f4 : xb 4 = _ := f4
      try dsimp only at f4
      replace f5 : xb 5 = _ := f5
      try dsimp only at f5
      change wpList _ _ _ _ (Act.put (Act.put (Act.put (Act.put (Act.put (Act.put _ (some 31) (xb 0)) (some 32) (xb 1)) (some 33) (xb 2)) (some 34) (xb 3)) (some 35) (xb 4)) (some 36) (xb 5)) _
      simp only [putsL, Nat.reduceAdd, List.drop_succ_cons, List.drop_zero, List.drop_nil, Act.put, List.setIfInBounds_toArray, List.set_cons_succ, List.set_cons_zero]
      try simp only [f0, f1, f2, f3, f4, f5]
      clear f0 f1 f2 f3 f4 f5
      clear holdb hapb
      have hEb := (Ext.refl W1).drew.trans herb
      obtain ⟨w5, ks5, hrun0, hO5, hg5, -, -⟩ := (hO1.ext hEb).put (k := e) (okK_right he) (by simp) 0
      have hrun : (Instr.mapUpdate 80 (.map (some b0)) (.agg #[.int .i64 e.a, .int .i64 e.b, .int .i64 e.c, .int .i64 e.d]) (.int .i64 0)).run Tryz.prog wrb = .ok () w5 := hrun0
      have hG5 := (hG1.ext hEb).at_ (w' := w5) (hg5.block g (hG1.ext hEb).lt (fun e9 => ownX_blk (hO1.ext hEb).1 (hG1.ext hEb) (by cases e9; rfl)))
      have hE5 := (hEw.trans hEb).grown hg5 fun j e9 => by cases e9; exact hbl
      clear hrun0
      go_wp2_with (refine wpList_putM rfl _ _ _ 80 rfl (.map (some b0)) (.agg #[.int .i64 e.a, .int .i64 e.b, .int .i64 e.c, .int .i64 e.d]) (.int .i64 0) rfl rfl rfl w5 hrun ?_)
      go_meet
      exact ⟨ks5, _, hG5, hO5, tells_last_yes (by omega) hyes, hE5⟩
  case rest =>
    obtain ⟨ks, f, hG, hO, hT, hE⟩ := hcut
    have hF0 : MapsF wc e C g (m + 1) us0 m := ⟨hG, hul, fun j h1 h2 => by
      obtain rfl : j = m := by omega
      exact ⟨b0, ks, f, hum, hO, hT⟩⟩
    replace hF0 := Lib.hid hF0
    clear hG hO hT hG1 hO1 hEnd1 hEw hlk hx0 hRe cm hTm hOm hvm hum hul hmk hb0
    go_wp2
    go_loopw [8] (fun v8 wr => ∃ (k : Nat) (us : List Value), v8 = .int .i64 ((k : Int) - 1) ∧ k ≤ m ∧ MapsF wr e C g (m + 1) us k ∧ Ext w wr) (fun v8 _ => (intOf v8 + 1).toNat)
    case atStart => exact ⟨m, us0, by go_num, Nat.le_refl _, hF0.out, hE⟩
    case round =>
      clear hF0 hE
      obtain ⟨k, us, rfl, hk, hF, hE⟩ := hrel
      cases k with
      | zero =>
        rw [show (((0 : Nat) : Int) - 1) = -1 from rfl]
        go_wp2
        go_ret
        exact ⟨hE, g, us, rfl, hF⟩
      | succ k =>
        rw [show (((k + 1 : Nat) : Int) - 1) = (k : Int) by omega]
        obtain ⟨r, hr⟩ := getD_some hlen (show k < m by omega)
        have hr1000 := hl r (List.mem_of_getElem? hr)
        obtain ⟨pb, poff, q, d, rfl, hpb, -, -⟩ := h.at_ hr
        obtain ⟨bk, ksk, fk, hvk, hOk, hTk, hnk⟩ := hM.at_ k (by omega)
        have ck := (hM.ext hE).cell (show k < m + 1 by omega)
        rw [hvk] at ck
        have hvb1 := (hM.ext hE).lt
        have hOk1 := hOk.ext hE
        obtain ⟨v0, hv0⟩ : ∃ v, us[k]? = some v := ⟨_, List.getElem?_eq_getElem (by rw [hF.len]; omega)⟩
        have cg := hF.cell k
        rw [hv0] at cg
        obtain ⟨-, zg⟩ := hF.blk.walk
        have hgl2 := hF.blk.lt
        have hkI : (k : Int) < m := by omega
        have hkI1 : (k : Int) < m + 1 := by omega
        have hbk := hOk1.lt
        go_upto_region 9 with fail
        have hF1 := hF.set (.map (some wr.heap.size))
        have hEV : Ext w (wr.setCell ⟨g, k, none⟩ (.map (some wr.heap.size))) := hE.setCell (p := ⟨g, k, none⟩) hgl _
        have hz : (wr.setCell ⟨g, k, none⟩ (.map (some wr.heap.size))).heap.size = wr.heap.size := by simp
        have hus : (us.set k (.map (some wr.heap.size)))[k]? = some (.map (some wr.heap.size)) := by rw [List.getElem?_set_self (by rw [hF.len]; omega)]
        have ck1 : (wr.setCell ⟨g, k, none⟩ (.map (some wr.heap.size))).cell? ⟨vb, k, none⟩ = some (.map (some bk)) := (hEV.walk.1 _ _ hvb).trans (by rw [hM.cell (show k < m + 1 by omega), hvk])
        clear hF cg zg hgl2 ck hE hv0 hOk1
        generalize wr.setCell ⟨g, k, none⟩ (.map (some wr.heap.size)) = V at *
        generalize wr.heap.size = Bk at *
        subst hz
        generalize us.set k (.map (some V.heap.size)) = us1 at *
        have hEa : Ext V (V.alloc (.map #[] 0)) := (Ext.refl _).alloc _
        have hN1 : OwnL ivI (V.alloc (.map #[] 0)) V.heap.size [] (fun _ => none) := OwnL.made V
        have hOk2 := hOk.ext (hEV.trans hEa)
        have hvbV := Nat.lt_of_lt_of_le hvb hEV.size
        replace hN1 := Lib.hid hN1
        go_wp2_with (at_range; go_loud (refine wpList_range_X (M := ivB) _ rfl _ rfl bk ksk.length fk rfl hOk2.1 ?_; intro w6 hr6 hg6 hs6))
        go_frame
        have hN6 := hN1.out.grown hg6 (by simp)
        have hE6 : Ext V w6 := hEa.grown hg6 fun k e => by cases e
        have hrr : (V.alloc (.map #[] 0)).heap.size = V.heap.size + 1 := by simp
        rw [hrr] at hr6
        rw [hrr]
        have hbkV := Nat.lt_of_lt_of_le hOk.lt hEV.size
        clear hN1 hg6 hs6 hOk2 hEa hrr ck1
        replace hr6 := Lib.hid hr6
        replace hN6 := Lib.hid hN6
        replace hE6 := Lib.hid hE6
        replace hF1 := Lib.hid hF1
        go_loopw [] (fun wr' => ∃ (seen : List I4) (cnt : Nat) (ns : List I4) (nf : I4 → Option Int), RngX ivB wr' bk (V.heap.size + 1) ksk.length fk seen cnt ∧ OwnL ivI wr' V.heap.size ns nf ∧ ns.length ≤ 1000 * seen.length ∧ FewT e C k r seen zeroI 0 nf ∧ Ext V wr') (fun wr' => wr'.rangeLeft bk (V.heap.size + 1))
        case atStart => exact ⟨[], ksk.length, [], _, hr6.out, hN6.out, by simp, FewT.start0, hE6.out⟩
        case round =>
          clear hr6 hN6 hE6
          obtain ⟨seen, cnt, ns, nf, hR, hN, hns, hnx, hE⟩ := hrel
          obtain ⟨hoks, hcn⟩ := hR.oks
          go_wp2_with (at_next; go_loud (refine wpList_next_X (M := ivB) _ rfl _ rfl boolRd_shape datB_inj bk (V.heap.size + 1) ksk.length fk seen cnt rfl hR ?_ ?_))
          · intro hc0 hall
            have hsome : ∀ i, (fk i).isSome = true ↔ Rch C k i := fun i => by
              rw [← (hTk i).1]
              rcases (hTk i).2 with h | h <;> simp [h]
            have hs : ∀ x, x ∈ seen ↔ Rch C k x := fun x => ⟨fun hx => (hsome x).1 ((hall x (hoks x hx)).1 hx), fun hx => (hall x (okK_right (rch_right hx))).2 ((hsome x).2 hx)⟩
            have hTn := hnx.tells hs
            go_wp2
            go_roundw
            case rel => exact ⟨k, us1, by go_num, by omega, (hF1.out.ext hE).add hus hN hTn, hEV.trans hE⟩
            case measure => simp [intOf] <;> omega
          · intro i u w7 cnt2 hio his hin hrg2 hlt2 hg2 hs2 hen
            have hiR : Rch C k i := by
              refine (hTk i).1.1 ?_
              rcases (hTk i).2 with h | h
              · exact h
              · rw [h] at his; cases his
            have hiB := rch_right hiR
            rw [show ivB.kv i = Value.agg #[.int .i64 i.a, .int .i64 i.b, .int .i64 i.c, .int .i64 i.d] from rfl] at hen ⊢
            have hRl0 := hR.left_eq
            have hN7 := hN.grown hg2 (by simp)
            have hE7 : Ext V w7 := hE.grown hg2 fun k e => by cases e; exact Nat.le_succ _
            have hE8 : Ext w7 (w7.alloc (.cells #[.int .i64 i.a, .int .i64 i.b, .int .i64 i.c, .int .i64 i.d] 27)) := (Ext.refl _).alloc _
            have hX8 : Blk (w7.alloc (.cells #[.int .i64 i.a, .int .i64 i.b, .int .i64 i.c, .int .i64 i.d] 27)) w7.heap.size 27 #[.int .i64 i.a, .int .i64 i.b, .int .i64 i.c, .int .i64 i.d] := Blk.new' rfl
            have hR8 := hrg2.ext hE8
            have hN8 := hN7.ext hE8
            have hEo8 := hE7.trans hE8
            have hgXl : V.heap.size < w7.heap.size := by have := hrg2.lt.1; omega
            have hsn : (seen ++ [i]).length = seen.length + 1 := by simp
            have hcn2 := hrg2.oks.2
            rw [hsn] at hcn2
            obtain ⟨pb', poff', q', d', hpe, -, c0w, hSr⟩ := h.at_ hr
            cases hpe
            have c0 := ((hEV.trans hEo8).walk.1 _ _ hpb).trans c0w
            have hpb8 := Nat.lt_of_lt_of_le hpb (hEV.trans hEo8).size
            replace hR8 := Lib.hid hR8
            replace hN8 := Lib.hid hN8
            replace hX8 := Lib.hid hX8
            clear hR hN hE hg2 hs2 hN7 hE7 hE8 hrg2
            go_upto_region 12 with fail
            generalize w7.alloc (.cells #[.int .i64 i.a, .int .i64 i.b, .int .i64 i.c, .int .i64 i.d] 27) = W8 at *
            generalize w7.heap.size = gX at *
            clear hen
            go_wp2
            go_loopw [62] (fun v62 wr' => ∃ (j : Nat) (ns : List I4) (nf : I4 → Option Int), v62 = .int .i64 j ∧ j ≤ r.length ∧ RngX ivB wr' bk (V.heap.size + 1) ksk.length fk (seen ++ [i]) cnt2 ∧ OwnL ivI wr' V.heap.size ns nf ∧ ns.length ≤ 1000 * seen.length + j ∧ FewT e C k r seen i j nf ∧ Ext V wr' ∧
              Blk wr' gX 27 #[.int .i64 i.a, .int .i64 i.b, .int .i64 i.c, .int .i64 i.d]) (fun v62 _ => r.length - (intOf v62).toNat)
            case atStart => exact ⟨0, ns, nf, rfl, Nat.zero_le _, hR8.out, hN8.out, by omega, hnx.start i, hEo8, hX8.out⟩
            case round =>
              clear hR8 hN8 hEo8 hX8 hnx hns c0 hpb8
              obtain ⟨j, ns, nf, rfl, hj, hR, hN, hns, hnx, hE, hX⟩ := hrel
              by_cases hlj : j < r.length
              · obtain ⟨cc, hcc⟩ := getD_some (rfl : r.length = r.length) hlj
                have hEw := hEV.trans hE
                obtain ⟨-, ⟨_, e9⟩ | ⟨qb, qoff, rfl, hqb, hEl⟩⟩ := slcC hSr
                · rw [e9] at hcc; cases hcc
                obtain ⟨c1, c2, c3, c4⟩ := (hEl.ext hEw hqb).iv hcc
                have hqbl := Nat.lt_of_lt_of_le hqb hEw.size
                have hljI : (j : Int) < r.length := by omega
                obtain ⟨b1, ks1, F1, hu1, hO1, hT1⟩ := (hF1.out.ext hE).at_ (k + 1) (Nat.le_refl _) (by omega)
                have cu1 := (hF1.out.ext hE).cell (k + 1)
                rw [hu1] at cu1
                have cu0 := (hF1.out.ext hE).cell k
                rw [hus] at cu0
                have hgB := (hF1.out.ext hE).blk.lt
                have hccB : rightB cc = true := hC r (List.mem_of_getElem? hr) cc (List.mem_of_getElem? hcc)
                have htry := hT1.try_ hr hiR hcc
                have hxk := okK_add hiB hccB
                have hlk1 : ∀ u, Ext wr u → (Instr.lookup 80 (.map (some b1)) (.agg #[.int .i64 (addI i cc).a, .int .i64 (addI i cc).b, .int .i64 (addI i cc).c, .int .i64 (addI i cc).d]) true).run Tryz.prog u = .ok (.tuple #[.int .i64 ((F1 (addI i cc)).getD 0), .bool (F1 (addI i cc)).isSome]) u := fun u hu => (hO1.ext hu).1.look_ok hxk
                have hhere := hnx.here hin
                have hsum := fun u => sum_any i cc u
                have hb1 := hO1.lt
                have hXl := hX.lt
                generalize addI i cc = x at *
                replace hsum := Lib.hid hsum
                replace hlk1 := Lib.hid hlk1
                replace hR := Lib.hid hR
                replace hnx := Lib.hid hnx
                obtain ⟨x1, -⟩ := hX.walk
                clear hcc hO1 hT1 hu1 hEl
                go_upto_region 15 with fail
                have hEc : Ext wr (wr.alloc (.cells #[.int .i64 cc.a, .int .i64 cc.b, .int .i64 cc.c, .int .i64 cc.d] 27)) := (Ext.refl _).alloc _
                have hY : Blk (wr.alloc (.cells #[.int .i64 cc.a, .int .i64 cc.b, .int .i64 cc.c, .int .i64 cc.d] 27)) wr.heap.size 27 #[.int .i64 cc.a, .int .i64 cc.b, .int .i64 cc.c, .int .i64 cc.d] := Blk.new' rfl
                have hX9 := hX.ext hEc
                clear x1 c1 c2 c3 c4
                replace cu1 := (hEc.walk.1 _ _ hgB).trans cu1
                replace cu0 := (hEc.walk.1 _ _ hgB).trans cu0
                replace hgB := Nat.lt_of_lt_of_le hgB hEc.size
                generalize wr.alloc (.cells #[.int .i64 cc.a, .int .i64 cc.b, .int .i64 cc.c, .int .i64 cc.d] 27) = W9 at *
                generalize wr.heap.size = gC at *
                have hlk2 : ∀ u, Ext W9 u → (Instr.lookup 80 (.map (some b1)) (.agg #[.int .i64 x.a, .int .i64 x.b, .int .i64 x.c, .int .i64 x.d]) true).run Tryz.prog u = .ok (.tuple #[.int .i64 ((F1 x).getD 0), .bool (F1 x).isSome]) u := fun u hu => hlk1.out u (hEc.trans hu)
                replace hlk2 := Lib.hid hlk2
                clear hlk1
                refine wp_region_facts [11] [([], false, false), ([], false, false), ([1], false, false), ([0, 1, 2], false, false), ([0, 1, 2, 3], false, false), ([], false, false), ([], false, false), ([5, 6], false, false), ([0, 1, 2, 3, 4, 5, 6, 7], false, false), ([0, 1, 2, 3, 4, 5, 6, 7, 8], false, false), ([0, 1, 2, 3, 4, 5, 6, 7, 8, 9], false, false), ([0, 1, 2, 3, 4, 5, 6, 7, 8, 9], false, false)] (Ext) Ext (fun _ => True) (by kernel_rfl) (by kernel_rfl) Ext.refl (fun _ _ _ => Ext.trans) (fun _ _ h => h) (fun _ _ h => h.size) (fun _ _ h _ => h) trivial ?_
                dsimp only [List.length_cons, List.length_nil, List.drop_succ_cons, List.drop_zero, List.drop_nil]
                refine fac_quiet 0 rfl rfl rfl (fun _ _ h _ => h) rfl rfl ?_
                apply Exists.intro
                refine ⟨fun sv w' hw' hfa => ?_, ?_⟩
                · refine ⟨rfl, ?_⟩
                  simp only [putsL]
                  change quietTo _ _ _ _ (Sem.run _ (execOp (Act.eval _) _) _)
                  try simp only [Act.put, List.setIfInBounds_toArray, List.set_cons_succ, List.set_cons_zero]
                  simp [go_sem, quietTo, Ext.refl]
                  all_goals first
                    | rfl
                refine fac_quiet 1 rfl rfl rfl (fun _ _ h _ => h) rfl rfl ?_
                apply Exists.intro
                refine ⟨fun sv w' hw' hfa => ?_, ?_⟩
                · refine ⟨rfl, ?_⟩
                  simp only [putsL]
                  change quietTo _ _ _ _ (Sem.run _ (execOp (Act.eval _) _) _)
                  try simp only [Act.put, List.setIfInBounds_toArray, List.set_cons_succ, List.set_cons_zero]
                  simp [go_sem, quietTo, Ext.refl]
                  all_goals first
                    | rfl
                refine fac_quiet 2 rfl rfl rfl (fun _ _ h _ => h) rfl rfl ?_
                apply Exists.intro
                refine ⟨fun sv w' hw' hfa => ?_, ?_⟩
                · obtain ⟨f1, -⟩ := hfa
                  replace f1 : sv 1 = _ := f1
                  try dsimp only at f1
                  refine ⟨rfl, ?_⟩
                  simp only [putsL]
                  change quietTo _ _ _ _ (Sem.run _ (execOp (Act.eval (Act.put _ (some 69) (sv 1))) _) _)
                  try simp only [Act.put, List.setIfInBounds_toArray, List.set_cons_succ, List.set_cons_zero]
                  simp [go_sem, quietTo, Ext.refl, ↓IntWalk.iteOmega, f1]
                  all_goals try simp (disch := omega) only [IntWalk.i64_in]
                  all_goals first
                    | rfl
                refine fac_quiet 3 rfl rfl rfl (fun _ _ h _ => h) rfl rfl ?_
                apply Exists.intro
                refine ⟨fun sv w' hw' hfa => ?_, ?_⟩
                · obtain ⟨f0, _, f2, -⟩ := hfa
                  replace f0 : sv 0 = _ := f0
                  try dsimp only at f0
                  replace f2 : sv 2 = _ := f2
                  try dsimp only at f2
                  have hk9 := (Ext.refl W9).drew.trans hw'; have z1 := (hk9.walk.1 _ _ hgB).trans cu1; obtain ⟨z2, -⟩ := (hX9.ext hk9).walk; obtain ⟨z3, -⟩ := (hY.ext hk9).walk; have z4 := hlk2.out w' hk9
                  refine ⟨rfl, ?_⟩
                  simp only [putsL]
                  change quietTo _ _ _ _ (Sem.run _ (execOp (Act.eval (Act.put (Act.put (Act.put _ (some 70) (sv 2)) (some 69) (sv 1)) (some 68) (sv 0))) _) _)
                  try simp only [Act.put, List.setIfInBounds_toArray, List.set_cons_succ, List.set_cons_zero]
                  simp [go_sem, quietTo, Ext.refl, ↓IntWalk.iteOmega, f0, f2, hkI]
                  all_goals try simp (disch := omega) only [IntWalk.i64_in]
                  all_goals first
                    | rfl
                refine fac_quiet 4 rfl rfl rfl (fun _ _ h _ => h) rfl rfl ?_
                apply Exists.intro
                refine ⟨fun sv w' hw' hfa => ?_, ?_⟩
                · obtain ⟨_, _, _, f3, -⟩ := hfa
                  replace f3 : sv 3 = _ := f3
                  try dsimp only at f3
                  have hk9 := (Ext.refl W9).drew.trans hw'; have z1 := (hk9.walk.1 _ _ hgB).trans cu1; obtain ⟨z2, -⟩ := (hX9.ext hk9).walk; obtain ⟨z3, -⟩ := (hY.ext hk9).walk; have z4 := hlk2.out w' hk9
                  refine ⟨rfl, ?_⟩
                  simp only [putsL]
                  change quietTo _ _ _ _ (Sem.run _ (execOp (Act.eval (Act.put (Act.put (Act.put (Act.put _ (some 71) (sv 3)) (some 70) (sv 2)) (some 69) (sv 1)) (some 68) (sv 0))) _) _)
                  try simp only [Act.put, List.setIfInBounds_toArray, List.set_cons_succ, List.set_cons_zero]
                  simp [go_sem, quietTo, Ext.refl, ↓IntWalk.iteOmega, f3, z1]
                  all_goals try simp (disch := omega) only [IntWalk.i64_in]
                  all_goals first
                    | rfl
                refine fac_quiet 5 rfl rfl rfl (fun _ _ h _ => h) rfl rfl ?_
                apply Exists.intro
                refine ⟨fun sv w' hw' hfa => ?_, ?_⟩
                · have hk9 := (Ext.refl W9).drew.trans hw'; have z1 := (hk9.walk.1 _ _ hgB).trans cu1; obtain ⟨z2, -⟩ := (hX9.ext hk9).walk; obtain ⟨z3, -⟩ := (hY.ext hk9).walk; have z4 := hlk2.out w' hk9
                  refine ⟨rfl, ?_⟩
                  simp only [putsL]
                  change quietTo _ _ _ _ (Sem.run _ (execOp (Act.eval _) _) _)
                  try simp only [Act.put, List.setIfInBounds_toArray, List.set_cons_succ, List.set_cons_zero]
                  simp [go_sem, quietTo, Ext.refl, ↓IntWalk.iteOmega, z2]
                  all_goals try simp (disch := omega) only [IntWalk.i64_in]
                  all_goals first
                    | rfl
                refine fac_quiet 6 rfl rfl rfl (fun _ _ h _ => h) rfl rfl ?_
                apply Exists.intro
                refine ⟨fun sv w' hw' hfa => ?_, ?_⟩
                · have hk9 := (Ext.refl W9).drew.trans hw'; have z1 := (hk9.walk.1 _ _ hgB).trans cu1; obtain ⟨z2, -⟩ := (hX9.ext hk9).walk; obtain ⟨z3, -⟩ := (hY.ext hk9).walk; have z4 := hlk2.out w' hk9
                  refine ⟨rfl, ?_⟩
                  simp only [putsL]
                  change quietTo _ _ _ _ (Sem.run _ (execOp (Act.eval _) _) _)
                  try simp only [Act.put, List.setIfInBounds_toArray, List.set_cons_succ, List.set_cons_zero]
                  simp [go_sem, quietTo, Ext.refl, ↓IntWalk.iteOmega, z3]
                  all_goals try simp (disch := omega) only [IntWalk.i64_in]
                  all_goals first
                    | rfl
                refine fac_quiet 7 rfl rfl rfl (fun _ _ h _ => h) rfl rfl ?_
                apply Exists.intro
                refine ⟨fun sv w' hw' hfa => ?_, ?_⟩
                · obtain ⟨f5, f6, -⟩ := hfa
                  replace f5 : sv 5 = _ := f5
                  try dsimp only at f5
                  replace f6 : sv 6 = _ := f6
                  try dsimp only at f6
                  have hk9 := (Ext.refl W9).drew.trans hw'; have z1 := (hk9.walk.1 _ _ hgB).trans cu1; obtain ⟨z2, -⟩ := (hX9.ext hk9).walk; obtain ⟨z3, -⟩ := (hY.ext hk9).walk; have z4 := hlk2.out w' hk9
                  refine ⟨rfl, ?_⟩
                  simp only [putsL]
                  change quietTo _ _ _ _ (Sem.run _ (execOp (Act.eval (Act.put (Act.put _ (some 74) (sv 6)) (some 73) (sv 5))) _) _)
                  try simp only [Act.put, List.setIfInBounds_toArray, List.set_cons_succ, List.set_cons_zero]
                  simp [go_sem, quietTo, Ext.refl, ↓IntWalk.iteOmega, f5, f6]
                  all_goals try simp (disch := omega) only [IntWalk.i64_in]
                  all_goals first
                    | rfl
                    | (exact hsum.out _)
                refine fac_quiet 8 rfl rfl rfl (fun _ _ h _ => h) rfl rfl ?_
                apply Exists.intro
                refine ⟨fun sv w' hw' hfa => ?_, ?_⟩
                · obtain ⟨_, _, _, _, f4, _, _, f7, -⟩ := hfa
                  replace f4 : sv 4 = _ := f4
                  try dsimp only at f4
                  replace f7 : sv 7 = _ := f7
                  try dsimp only at f7
                  have hk9 := (Ext.refl W9).drew.trans hw'; have z1 := (hk9.walk.1 _ _ hgB).trans cu1; obtain ⟨z2, -⟩ := (hX9.ext hk9).walk; obtain ⟨z3, -⟩ := (hY.ext hk9).walk; have z4 := hlk2.out w' hk9
                  refine ⟨rfl, ?_⟩
                  simp only [putsL]
                  change quietTo _ _ _ _ (Sem.run _ (execOp (Act.eval (Act.put (Act.put (Act.put (Act.put (Act.put (Act.put (Act.put (Act.put _ (some 75) (sv 7)) (some 74) (sv 6)) (some 73) (sv 5)) (some 72) (sv 4)) (some 71) (sv 3)) (some 70) (sv 2)) (some 69) (sv 1)) (some 68) (sv 0))) _) _)
                  try simp only [Act.put, List.setIfInBounds_toArray, List.set_cons_succ, List.set_cons_zero]
                  simp [go_sem, quietTo, Ext.refl, ↓IntWalk.iteOmega, f4, f7, z4]
                  all_goals try simp (disch := omega) only [IntWalk.i64_in]
                  all_goals first
                    | rfl
                refine fac_quiet 9 rfl rfl rfl (fun _ _ h _ => h) rfl rfl ?_
                apply Exists.intro
                refine ⟨fun sv w' hw' hfa => ?_, ?_⟩
                · obtain ⟨_, _, _, _, _, _, _, _, f8, -⟩ := hfa
                  replace f8 : sv 8 = _ := f8
                  try dsimp only at f8
                  refine ⟨rfl, ?_⟩
                  simp only [putsL]
                  change quietTo _ _ _ _ (Sem.run _ (execOp (Act.eval (Act.put (Act.put (Act.put (Act.put (Act.put (Act.put (Act.put (Act.put (Act.put _ (some 76) (sv 8)) (some 75) (sv 7)) (some 74) (sv 6)) (some 73) (sv 5)) (some 72) (sv 4)) (some 71) (sv 3)) (some 70) (sv 2)) (some 69) (sv 1)) (some 68) (sv 0))) _) _)
                  try simp only [Act.put, List.setIfInBounds_toArray, List.set_cons_succ, List.set_cons_zero]
                  simp [go_sem, quietTo, Ext.refl, f8]
                  all_goals first
                    | rfl
                refine fac_quiet 10 rfl rfl rfl (fun _ _ h _ => h) rfl rfl ?_
                apply Exists.intro
                refine ⟨fun sv w' hw' hfa => ?_, ?_⟩
                · obtain ⟨_, _, _, _, _, _, _, _, _, f9, -⟩ := hfa
                  replace f9 : sv 9 = _ := f9
                  try dsimp only at f9
                  refine ⟨rfl, ?_⟩
                  simp only [putsL]
                  change quietTo _ _ _ _ (Sem.run _ (execOp (Act.eval (Act.put (Act.put (Act.put (Act.put (Act.put (Act.put (Act.put (Act.put (Act.put (Act.put _ (some 67) (sv 9)) (some 76) (sv 8)) (some 75) (sv 7)) (some 74) (sv 6)) (some 73) (sv 5)) (some 72) (sv 4)) (some 71) (sv 3)) (some 70) (sv 2)) (some 69) (sv 1)) (some 68) (sv 0))) _) _)
                  try simp only [Act.put, List.setIfInBounds_toArray, List.set_cons_succ, List.set_cons_zero]
                  simp [go_sem, quietTo, Ext.refl, f9]
                  all_goals first
                    | rfl
                refine fac_late 11 rfl rfl Ext.refl (fun _ _ h _ => h) rfl rfl (fun _ _ _ _ h => h) ?_
                apply Exists.intro
                refine ⟨fun sv w' hw' hfa => ?_, ?_⟩
                · obtain ⟨_, _, _, _, _, _, _, _, _, f9, -⟩ := hfa
                  replace f9 : sv 9 = _ := f9
                  try dsimp only at f9
                  refine ⟨rfl, fun w2 => ?_⟩
                  simp only [putsL]
                  change pureTo _ _ (Sem.run _ (execOp (Act.eval (Act.put (Act.put (Act.put (Act.put (Act.put (Act.put (Act.put (Act.put (Act.put (Act.put _ (some 67) (sv 9)) (some 76) (sv 8)) (some 75) (sv 7)) (some 74) (sv 6)) (some 73) (sv 5)) (some 72) (sv 4)) (some 71) (sv 3)) (some 70) (sv 2)) (some 69) (sv 1)) (some 68) (sv 0))) _) _)
                  try simp only [Act.put, List.setIfInBounds_toArray, List.set_cons_succ, List.set_cons_zero]
                  simp [go_sem, pureTo, f9]
                  all_goals try simp (disch := omega) only [IntWalk.i64_in]
                  all_goals first
                    | rfl
                refine fac_nil fun xa wra hera hfra hcra holda hapa => ?_
                obtain ⟨f0, f1, f2, f3, f4, f5, f6, f7, f8, f9, f10, f11, -⟩ := hfra
                replace f0 : xa 0 = _ := f0
                try dsimp only at f0
                replace f1 : xa 1 = _ := f1
                try dsimp only at f1
                replace f2 : xa 2 = _ := f2
                try dsimp only at f2
                replace f3 : xa 3 = _ := f3
                try dsimp only at f3
                replace f4 : xa 4 = _ := f4
                try dsimp only at f4
                replace f5 : xa 5 = _ := f5
                try dsimp only at f5
                replace f6 : xa 6 = _ := f6
                try dsimp only at f6
                replace f7 : xa 7 = _ := f7
                try dsimp only at f7
                replace f8 : xa 8 = _ := f8
                try dsimp only at f8
                replace f9 : xa 9 = _ := f9
                try dsimp only at f9
                replace f10 : xa 10 = _ := f10
                try dsimp only at f10
                replace f11 : xa 11 = _ := f11
                try dsimp only at f11
                change wpList _ _ _ _ (Act.put (Act.put (Act.put (Act.put (Act.put (Act.put (Act.put (Act.put (Act.put (Act.put (Act.put (Act.put _ (some 68) (xa 0)) (some 69) (xa 1)) (some 70) (xa 2)) (some 71) (xa 3)) (some 72) (xa 4)) (some 73) (xa 5)) (some 74) (xa 6)) (some 75) (xa 7)) (some 76) (xa 8)) (some 67) (xa 9)) (some 77) (xa 10)) (some 78) (xa 11)) _
                simp only [putsL, Nat.reduceAdd, List.drop_succ_cons, List.drop_zero, List.drop_nil, Act.put, List.setIfInBounds_toArray, List.set_cons_succ, List.set_cons_zero]
                try simp only [f0, f1, f2, f3, f4, f5, f6, f7, f8, f9, f10, f11]
                clear f0 f1 f2 f3 f4 f5 f6 f7 f8 f9 f10 f11
                clear holda hapa
                have hEa := hEc.trans ((Ext.refl W9).drew.trans hera)
                have hXa := hX9.ext ((Ext.refl W9).drew.trans hera)
                replace cu0 := (((Ext.refl W9).drew.trans hera).walk.1 _ _ hgB).trans cu0
                have hgBa := Nat.lt_of_lt_of_le hgB ((Ext.refl W9).drew.trans hera).size
                have hRa := hR.out.ext hEa
                have hNa := hN.ext hEa
                have hEVa := hE.trans hEa
                replace hRa := Lib.hid hRa
                clear hera hX hX9 hY hlk2 hsum hR hE hEc hEa cu1
                rcases htry with ⟨hFx, ht⟩ | ⟨v, hFx, hvC, ht⟩
                · rw [hFx]
                  have hn1 := hnx.out.none ht
                  replace hn1 := Lib.hid hn1
                  go_wp2
                  go_roundw
                  case rel => exact ⟨j + 1, ns, nf, by go_num, by omega, hRa.out, hNa, by omega, hn1.out, hEVa, hXa⟩
                  case measure => simp [intOf]; omega
                · rw [hFx]
                  obtain ⟨μ, hμ, hμ1, hμ2⟩ : ∃ μ : Nat, min (j : Int) 1 = (μ : Int) ∧ μ ≤ 1 ∧ min j 1 = μ := ⟨min j 1, by omega, by omega, rfl⟩
                  rw [hμ2] at ht
                  clear hμ2
                  have hμ3 : (if (1 : Int) < (j : Int) then (1 : Int) else (j : Int)) = (μ : Int) := by
                    split <;> omega
                  clear hμ
                  have hcs : (nf i = none ∧ ∀ a, bestO (tryO (fewL e (C.drop (k + 1))) r i) j = some a → v + μ < a) ∨ ∃ a : Nat, nf i = some (a : Int) ∧ bestO (tryO (fewL e (C.drop (k + 1))) r i) j = some a := by
                    rw [hhere]
                    cases hb : bestO (tryO (fewL e (C.drop (k + 1))) r i) j with
                    | none => exact .inl ⟨rfl, fun a h => by cases h⟩
                    | some a => exact .inr ⟨a, rfl, rfl⟩
                  have hvI : (v : Int) ≤ 1000 := by omega
                  rcases hcs with ⟨hni, hb⟩ | ⟨a, hni, hb⟩
                  · have hn1 := hnx.out.less hin ht hb
                    rw [Int.natCast_add] at hn1
                    replace hn1 := Lib.hid hn1
                    clear hnx hhere
                    have hlkB : ∀ u, Ext wra u → (Instr.lookup 80 (.map (some V.heap.size)) (.agg #[.int .i64 i.a, .int .i64 i.b, .int .i64 i.c, .int .i64 i.d]) true).run Tryz.prog u = .ok (.tuple #[.int .i64 (0), .bool false]) u := fun u hu => by
                      have := (hNa.ext hu).1.look_ok (k := i) hio
                      rw [hni] at this
                      exact this
                    go_upto_region 18 with fail
                    refine wp_region_facts [8] [([], false, false), ([], false, false), ([0, 1], false, false), ([0, 1, 2], false, false), ([], false, false), ([0, 1, 2, 3, 4], false, false), ([0, 1, 2, 3, 4, 5], false, false), ([0, 1, 2, 3, 4, 5, 6], false, false), ([0, 1, 2, 3, 4, 5, 6], false, false)] (Ext) Ext (fun _ => True) (by kernel_rfl) (by kernel_rfl) Ext.refl (fun _ _ _ => Ext.trans) (fun _ _ h => h) (fun _ _ h => h.size) (fun _ _ h _ => h) trivial ?_
                    dsimp only [List.length_cons, List.length_nil, List.drop_succ_cons, List.drop_zero, List.drop_nil]
                    refine fac_quiet 0 rfl rfl rfl (fun _ _ h _ => h) rfl rfl ?_
                    apply Exists.intro
                    refine ⟨fun sv w' hw' hfa => ?_, ?_⟩
                    · refine ⟨rfl, ?_⟩
                      simp only [putsL]
                      change quietTo _ _ _ _ (Sem.run _ (execOp (Act.eval _) _) _)
                      try simp only [Act.put, List.setIfInBounds_toArray, List.set_cons_succ, List.set_cons_zero]
                      simp [go_sem, quietTo, Ext.refl]
                      all_goals first
                        | rfl
                    refine fac_quiet 1 rfl rfl rfl (fun _ _ h _ => h) rfl rfl ?_
                    apply Exists.intro
                    refine ⟨fun sv w' hw' hfa => ?_, ?_⟩
                    · refine ⟨rfl, ?_⟩
                      simp only [putsL]
                      change quietTo _ _ _ _ (Sem.run _ (execOp (Act.eval _) _) _)
                      try simp only [Act.put, List.setIfInBounds_toArray, List.set_cons_succ, List.set_cons_zero]
                      simp [go_sem, quietTo, Ext.refl]
                      all_goals first
                        | rfl
                    refine fac_quiet 2 rfl rfl rfl (fun _ _ h _ => h) rfl rfl ?_
                    apply Exists.intro
                    refine ⟨fun sv w' hw' hfa => ?_, ?_⟩
                    · obtain ⟨f0, f1, -⟩ := hfa
                      replace f0 : sv 0 = _ := f0
                      try dsimp only at f0
                      replace f1 : sv 1 = _ := f1
                      try dsimp only at f1
                      have hk9 := (Ext.refl wra).drew.trans hw'; have z1 := (hk9.walk.1 _ _ hgBa).trans cu0; obtain ⟨z2, -⟩ := (hXa.ext hk9).walk; have z3 := hlkB w' hk9
                      refine ⟨rfl, ?_⟩
                      simp only [putsL]
                      change quietTo _ _ _ _ (Sem.run _ (execOp (Act.eval (Act.put (Act.put _ (some 87) (sv 1)) (some 86) (sv 0))) _) _)
                      try simp only [Act.put, List.setIfInBounds_toArray, List.set_cons_succ, List.set_cons_zero]
                      simp [go_sem, quietTo, Ext.refl, ↓IntWalk.iteOmega, f0, f1, hkI1]
                      all_goals try simp (disch := omega) only [IntWalk.i64_in]
                      all_goals first
                        | rfl
                    refine fac_quiet 3 rfl rfl rfl (fun _ _ h _ => h) rfl rfl ?_
                    apply Exists.intro
                    refine ⟨fun sv w' hw' hfa => ?_, ?_⟩
                    · obtain ⟨_, _, f2, -⟩ := hfa
                      replace f2 : sv 2 = _ := f2
                      try dsimp only at f2
                      have hk9 := (Ext.refl wra).drew.trans hw'; have z1 := (hk9.walk.1 _ _ hgBa).trans cu0; obtain ⟨z2, -⟩ := (hXa.ext hk9).walk; have z3 := hlkB w' hk9
                      refine ⟨rfl, ?_⟩
                      simp only [putsL]
                      change quietTo _ _ _ _ (Sem.run _ (execOp (Act.eval (Act.put (Act.put (Act.put _ (some 88) (sv 2)) (some 87) (sv 1)) (some 86) (sv 0))) _) _)
                      try simp only [Act.put, List.setIfInBounds_toArray, List.set_cons_succ, List.set_cons_zero]
                      simp [go_sem, quietTo, Ext.refl, ↓IntWalk.iteOmega, f2, z1]
                      all_goals try simp (disch := omega) only [IntWalk.i64_in]
                      all_goals first
                        | rfl
                    refine fac_quiet 4 rfl rfl rfl (fun _ _ h _ => h) rfl rfl ?_
                    apply Exists.intro
                    refine ⟨fun sv w' hw' hfa => ?_, ?_⟩
                    · have hk9 := (Ext.refl wra).drew.trans hw'; have z1 := (hk9.walk.1 _ _ hgBa).trans cu0; obtain ⟨z2, -⟩ := (hXa.ext hk9).walk; have z3 := hlkB w' hk9
                      refine ⟨rfl, ?_⟩
                      simp only [putsL]
                      change quietTo _ _ _ _ (Sem.run _ (execOp (Act.eval _) _) _)
                      try simp only [Act.put, List.setIfInBounds_toArray, List.set_cons_succ, List.set_cons_zero]
                      simp [go_sem, quietTo, Ext.refl, ↓IntWalk.iteOmega, z2]
                      all_goals try simp (disch := omega) only [IntWalk.i64_in]
                      all_goals first
                        | rfl
                    refine fac_quiet 5 rfl rfl rfl (fun _ _ h _ => h) rfl rfl ?_
                    apply Exists.intro
                    refine ⟨fun sv w' hw' hfa => ?_, ?_⟩
                    · obtain ⟨_, _, _, f3, f4, -⟩ := hfa
                      replace f3 : sv 3 = _ := f3
                      try dsimp only at f3
                      replace f4 : sv 4 = _ := f4
                      try dsimp only at f4
                      have hk9 := (Ext.refl wra).drew.trans hw'; have z1 := (hk9.walk.1 _ _ hgBa).trans cu0; obtain ⟨z2, -⟩ := (hXa.ext hk9).walk; have z3 := hlkB w' hk9
                      refine ⟨rfl, ?_⟩
                      simp only [putsL]
                      change quietTo _ _ _ _ (Sem.run _ (execOp (Act.eval (Act.put (Act.put (Act.put (Act.put (Act.put _ (some 90) (sv 4)) (some 89) (sv 3)) (some 88) (sv 2)) (some 87) (sv 1)) (some 86) (sv 0))) _) _)
                      try simp only [Act.put, List.setIfInBounds_toArray, List.set_cons_succ, List.set_cons_zero]
                      simp [go_sem, quietTo, Ext.refl, ↓IntWalk.iteOmega, f3, f4, z3]
                      all_goals try simp (disch := omega) only [IntWalk.i64_in]
                      all_goals first
                        | rfl
                    refine fac_quiet 6 rfl rfl rfl (fun _ _ h _ => h) rfl rfl ?_
                    apply Exists.intro
                    refine ⟨fun sv w' hw' hfa => ?_, ?_⟩
                    · obtain ⟨_, _, _, _, _, f5, -⟩ := hfa
                      replace f5 : sv 5 = _ := f5
                      try dsimp only at f5
                      refine ⟨rfl, ?_⟩
                      simp only [putsL]
                      change quietTo _ _ _ _ (Sem.run _ (execOp (Act.eval (Act.put (Act.put (Act.put (Act.put (Act.put (Act.put _ (some 91) (sv 5)) (some 90) (sv 4)) (some 89) (sv 3)) (some 88) (sv 2)) (some 87) (sv 1)) (some 86) (sv 0))) _) _)
                      try simp only [Act.put, List.setIfInBounds_toArray, List.set_cons_succ, List.set_cons_zero]
                      simp [go_sem, quietTo, Ext.refl, f5]
                      all_goals first
                        | rfl
                    refine fac_quiet 7 rfl rfl rfl (fun _ _ h _ => h) rfl rfl ?_
                    apply Exists.intro
                    refine ⟨fun sv w' hw' hfa => ?_, ?_⟩
                    · obtain ⟨_, _, _, _, _, _, f6, -⟩ := hfa
                      replace f6 : sv 6 = _ := f6
                      try dsimp only at f6
                      refine ⟨rfl, ?_⟩
                      simp only [putsL]
                      change quietTo _ _ _ _ (Sem.run _ (execOp (Act.eval (Act.put (Act.put (Act.put (Act.put (Act.put (Act.put (Act.put _ (some 85) (sv 6)) (some 91) (sv 5)) (some 90) (sv 4)) (some 89) (sv 3)) (some 88) (sv 2)) (some 87) (sv 1)) (some 86) (sv 0))) _) _)
                      try simp only [Act.put, List.setIfInBounds_toArray, List.set_cons_succ, List.set_cons_zero]
                      simp [go_sem, quietTo, Ext.refl, f6]
                      all_goals first
                        | rfl
                    refine fac_late 8 rfl rfl Ext.refl (fun _ _ h _ => h) rfl rfl (fun _ _ _ _ h => h) ?_
                    apply Exists.intro
                    refine ⟨fun sv w' hw' hfa => ?_, ?_⟩
                    · obtain ⟨_, _, _, _, _, _, f6, -⟩ := hfa
                      replace f6 : sv 6 = _ := f6
                      try dsimp only at f6
                      refine ⟨rfl, fun w2 => ?_⟩
                      simp only [putsL]
                      change pureTo _ _ (Sem.run _ (execOp (Act.eval (Act.put (Act.put (Act.put (Act.put (Act.put (Act.put (Act.put _ (some 85) (sv 6)) (some 91) (sv 5)) (some 90) (sv 4)) (some 89) (sv 3)) (some 88) (sv 2)) (some 87) (sv 1)) (some 86) (sv 0))) _) _)
                      try simp only [Act.put, List.setIfInBounds_toArray, List.set_cons_succ, List.set_cons_zero]
                      simp [go_sem, pureTo, f6]
                      all_goals try simp (disch := omega) only [IntWalk.i64_in]
                      all_goals first
                        | rfl
                    refine fac_nil fun xb wrb herb hfrb hcrb holdb hapb => ?_
                    obtain ⟨f0, f1, f2, f3, f4, f5, f6, f7, f8, -⟩ := hfrb
                    replace f0 : xb 0 = _ := f0
                    try dsimp only at f0
                    replace f1 : xb 1 = _ := f1
                    try dsimp only at f1
                    replace f2 : xb 2 = _ := f2
                    try dsimp only at f2
                    replace f3 : xb 3 = _ := f3
                    try dsimp only at f3
                    replace f4 : xb 4 = _ := f4
                    try dsimp only at f4
                    replace f5 : xb 5 = _ := f5
                    try dsimp only at f5
                    replace f6 : xb 6 = _ := f6
                    try dsimp only at f6
                    replace f7 : xb 7 = _ := f7
                    try dsimp only at f7
                    replace f8 : xb 8 = _ := f8
                    try dsimp only at f8
                    change wpList _ _ _ _ (Act.put (Act.put (Act.put (Act.put (Act.put (Act.put (Act.put (Act.put (Act.put _ (some 86) (xb 0)) (some 87) (xb 1)) (some 88) (xb 2)) (some 89) (xb 3)) (some 90) (xb 4)) (some 91) (xb 5)) (some 85) (xb 6)) (some 92) (xb 7)) (some 93) (xb 8)) _
                    simp only [putsL, Nat.reduceAdd, List.drop_succ_cons, List.drop_zero, List.drop_nil, Act.put, List.setIfInBounds_toArray, List.set_cons_succ, List.set_cons_zero]
                    try simp only [f0, f1, f2, f3, f4, f5, f6, f7, f8]
                    clear f0 f1 f2 f3 f4 f5 f6 f7 f8
                    clear holdb hapb
                    have hEb := (Ext.refl wra).drew.trans herb
                    have hXb := hXa.ext hEb
                    have hRb := hRa.out.ext hEb
                    have hNb := hNa.ext hEb
                    have hEVb := hEVa.trans hEb
                    replace cu0 := (hEb.walk.1 _ _ hgBa).trans cu0
                    have hgBb := Nat.lt_of_lt_of_le hgBa hEb.size
                    replace hRb := Lib.hid hRb
                    clear herb hXa hRa hNa hEVa hEb hlkB
                    have hvm : (v : Int) + μ ≤ 1001 := by omega
                    go_upto_region 20 with fail
                    refine wp_region_facts [] [([], false, false), ([], false, false), ([0, 1], false, false), ([0, 1, 2], false, false), ([], false, false), ([], false, false)] (Ext) Ext (fun _ => True) (by kernel_rfl) (by kernel_rfl) Ext.refl (fun _ _ _ => Ext.trans) (fun _ _ h => h) (fun _ _ h => h.size) (fun _ _ h _ => h) trivial ?_
                    dsimp only [List.length_cons, List.length_nil, List.drop_succ_cons, List.drop_zero, List.drop_nil]
                    refine fac_quiet 0 rfl rfl rfl (fun _ _ h _ => h) rfl rfl ?_
                    apply Exists.intro
                    refine ⟨fun sv w' hw' hfa => ?_, ?_⟩
                    · refine ⟨rfl, ?_⟩
                      simp only [putsL]
                      change quietTo _ _ _ _ (Sem.run _ (execOp (Act.eval _) _) _)
                      try simp only [Act.put, List.setIfInBounds_toArray, List.set_cons_succ, List.set_cons_zero]
                      simp [go_sem, quietTo, Ext.refl]
                      all_goals first
                        | rfl
                    refine fac_quiet 1 rfl rfl rfl (fun _ _ h _ => h) rfl rfl ?_
                    apply Exists.intro
                    refine ⟨fun sv w' hw' hfa => ?_, ?_⟩
                    · refine ⟨rfl, ?_⟩
                      simp only [putsL]
                      change quietTo _ _ _ _ (Sem.run _ (execOp (Act.eval _) _) _)
                      try simp only [Act.put, List.setIfInBounds_toArray, List.set_cons_succ, List.set_cons_zero]
                      simp [go_sem, quietTo, Ext.refl]
                      all_goals first
                        | rfl
                    refine fac_quiet 2 rfl rfl rfl (fun _ _ h _ => h) rfl rfl ?_
                    apply Exists.intro
                    refine ⟨fun sv w' hw' hfa => ?_, ?_⟩
                    · obtain ⟨f0, f1, -⟩ := hfa
                      replace f0 : sv 0 = _ := f0
                      try dsimp only at f0
                      replace f1 : sv 1 = _ := f1
                      try dsimp only at f1
                      have hk9 := (Ext.refl wrb).drew.trans hw'; have z1 := (hk9.walk.1 _ _ hgBb).trans cu0; obtain ⟨z2, -⟩ := (hXb.ext hk9).walk
                      refine ⟨rfl, ?_⟩
                      simp only [putsL]
                      change quietTo _ _ _ _ (Sem.run _ (execOp (Act.eval (Act.put (Act.put _ (some 102) (sv 1)) (some 101) (sv 0))) _) _)
                      try simp only [Act.put, List.setIfInBounds_toArray, List.set_cons_succ, List.set_cons_zero]
                      simp [go_sem, quietTo, Ext.refl, ↓IntWalk.iteOmega, f0, f1, hkI1]
                      all_goals try simp (disch := omega) only [IntWalk.i64_in]
                      all_goals first
                        | rfl
                    refine fac_quiet 3 rfl rfl rfl (fun _ _ h _ => h) rfl rfl ?_
                    apply Exists.intro
                    refine ⟨fun sv w' hw' hfa => ?_, ?_⟩
                    · obtain ⟨_, _, f2, -⟩ := hfa
                      replace f2 : sv 2 = _ := f2
                      try dsimp only at f2
                      have hk9 := (Ext.refl wrb).drew.trans hw'; have z1 := (hk9.walk.1 _ _ hgBb).trans cu0; obtain ⟨z2, -⟩ := (hXb.ext hk9).walk
                      refine ⟨rfl, ?_⟩
                      simp only [putsL]
                      change quietTo _ _ _ _ (Sem.run _ (execOp (Act.eval (Act.put (Act.put (Act.put _ (some 103) (sv 2)) (some 102) (sv 1)) (some 101) (sv 0))) _) _)
                      try simp only [Act.put, List.setIfInBounds_toArray, List.set_cons_succ, List.set_cons_zero]
                      simp [go_sem, quietTo, Ext.refl, ↓IntWalk.iteOmega, f2, z1]
                      all_goals try simp (disch := omega) only [IntWalk.i64_in]
                      all_goals first
                        | rfl
                    refine fac_quiet 4 rfl rfl rfl (fun _ _ h _ => h) rfl rfl ?_
                    apply Exists.intro
                    refine ⟨fun sv w' hw' hfa => ?_, ?_⟩
                    · have hk9 := (Ext.refl wrb).drew.trans hw'; have z1 := (hk9.walk.1 _ _ hgBb).trans cu0; obtain ⟨z2, -⟩ := (hXb.ext hk9).walk
                      refine ⟨rfl, ?_⟩
                      simp only [putsL]
                      change quietTo _ _ _ _ (Sem.run _ (execOp (Act.eval _) _) _)
                      try simp only [Act.put, List.setIfInBounds_toArray, List.set_cons_succ, List.set_cons_zero]
                      simp [go_sem, quietTo, Ext.refl, ↓IntWalk.iteOmega, z2]
                      all_goals try simp (disch := omega) only [IntWalk.i64_in]
                      all_goals first
                        | rfl
                    refine fac_quiet 5 rfl rfl rfl (fun _ _ h _ => h) rfl rfl ?_
                    apply Exists.intro
                    refine ⟨fun sv w' hw' hfa => ?_, ?_⟩
                    · refine ⟨rfl, ?_⟩
                      simp only [putsL]
                      change quietTo _ _ _ _ (Sem.run _ (execOp (Act.eval _) _) _)
                      try simp only [Act.put, List.setIfInBounds_toArray, List.set_cons_succ, List.set_cons_zero]
                      simp [go_sem, quietTo, Ext.refl]
                      all_goals first
                        | rfl
                    refine fac_nil fun xc wrc herc hfrc hcrc holdc hapc => ?_
                    obtain ⟨f0, f1, f2, f3, f4, f5, -⟩ := hfrc
                    replace f0 : xc 0 = _ := f0
                    try dsimp only at f0
                    replace f1 : xc 1 = _ := f1
                    try dsimp only at f1
                    replace f2 : xc 2 = _ := f2
                    try dsimp only at f2
                    replace f3 : xc 3 = _ := f3
                    try dsimp only at f3
                    replace f4 : xc 4 = _ := f4
                    try dsimp only at f4
                    replace f5 : xc 5 = _ := f5
                    try dsimp only at f5
                    change wpList _ _ _ _ (Act.put (Act.put (Act.put (Act.put (Act.put (Act.put _ (some 101) (xc 0)) (some 102) (xc 1)) (some 103) (xc 2)) (some 104) (xc 3)) (some 105) (xc 4)) (some 106) (xc 5)) _
                    simp only [putsL, Nat.reduceAdd, List.drop_succ_cons, List.drop_zero, List.drop_nil, Act.put, List.setIfInBounds_toArray, List.set_cons_succ, List.set_cons_zero]
                    try simp only [f0, f1, f2, f3, f4, f5]
                    clear f0 f1 f2 f3 f4 f5
                    clear holdc hapc
                    have hEc := (Ext.refl wrb).drew.trans herc
                    have hXc := hXb.ext hEc
                    obtain ⟨w12, ks2, hrun0, hN12, hg12, hk1, hk2⟩ := (hNb.ext hEc).put (k := i) hio (by omega) ((v : Int) + (μ : Int))
                    have hrun : (Instr.mapUpdate 80 (.map (some V.heap.size)) (.agg #[.int .i64 i.a, .int .i64 i.b, .int .i64 i.c, .int .i64 i.d]) (.int .i64 ((v : Int) + (μ : Int)))).run Tryz.prog wrc = .ok () w12 := hrun0
                    have hR12 := (hRb.out.ext hEc).kept hg12 (by simp; omega) (by simp)
                    have hX12 : Blk w12 gX 27 #[.int .i64 i.a, .int .i64 i.b, .int .i64 i.c, .int .i64 i.d] := (hg12.block gX hXc.lt fun e => by cases e; omega).trans hXc
                    have hE12 := (hEVb.trans hEc).grown hg12 fun j e => by cases e; exact Nat.le_refl _
                    replace hN12 := Lib.hid hN12
                    replace hR12 := Lib.hid hR12
                    clear hrun0 hRb hNb hEVb hXb hXc hEc herc hg12 cu0
                    go_wp2_with (refine wpList_putM rfl _ _ _ 80 rfl (.map (some V.heap.size)) (.agg #[.int .i64 i.a, .int .i64 i.b, .int .i64 i.c, .int .i64 i.d]) (.int .i64 ((v : Int) + (μ : Int))) rfl rfl rfl w12 hrun ?_)
                    go_roundw
                    case rel => exact ⟨j + 1, ks2, _, by go_num, by omega, hR12.out, hN12.out, by omega, hn1.out, hE12, hX12⟩
                    case measure => simp [intOf]; omega
                  · by_cases hlt : v + μ < a
                    · have hn1 := hnx.out.less hin ht fun q hq => by rw [hb] at hq; cases hq; exact hlt
                      rw [Int.natCast_add] at hn1
                      have hltI : (v : Int) + (μ : Int) < (a : Int) := by omega
                      replace hn1 := Lib.hid hn1
                      clear hnx hhere
                      have hlkB : ∀ u, Ext wra u → (Instr.lookup 80 (.map (some V.heap.size)) (.agg #[.int .i64 i.a, .int .i64 i.b, .int .i64 i.c, .int .i64 i.d]) true).run Tryz.prog u = .ok (.tuple #[.int .i64 (a), .bool true]) u := fun u hu => by
                        have := (hNa.ext hu).1.look_ok (k := i) hio
                        rw [hni] at this
                        exact this
                      go_upto_region 18 with fail
                      refine wp_region_facts [8] [([], false, false), ([], false, false), ([0, 1], false, false), ([0, 1, 2], false, false), ([], false, false), ([0, 1, 2, 3, 4], false, false), ([0, 1, 2, 3, 4, 5], false, false), ([0, 1, 2, 3, 4, 5, 6], false, false), ([0, 1, 2, 3, 4, 5, 6], false, false)] (Ext) Ext (fun _ => True) (by kernel_rfl) (by kernel_rfl) Ext.refl (fun _ _ _ => Ext.trans) (fun _ _ h => h) (fun _ _ h => h.size) (fun _ _ h _ => h) trivial ?_
                      dsimp only [List.length_cons, List.length_nil, List.drop_succ_cons, List.drop_zero, List.drop_nil]
                      refine fac_quiet 0 rfl rfl rfl (fun _ _ h _ => h) rfl rfl ?_
                      apply Exists.intro
                      refine ⟨fun sv w' hw' hfa => ?_, ?_⟩
                      · refine ⟨rfl, ?_⟩
                        simp only [putsL]
                        change quietTo _ _ _ _ (Sem.run _ (execOp (Act.eval _) _) _)
                        try simp only [Act.put, List.setIfInBounds_toArray, List.set_cons_succ, List.set_cons_zero]
                        simp [go_sem, quietTo, Ext.refl]
                        all_goals first
                          | rfl
                      refine fac_quiet 1 rfl rfl rfl (fun _ _ h _ => h) rfl rfl ?_
                      apply Exists.intro
                      refine ⟨fun sv w' hw' hfa => ?_, ?_⟩
                      · refine ⟨rfl, ?_⟩
                        simp only [putsL]
                        change quietTo _ _ _ _ (Sem.run _ (execOp (Act.eval _) _) _)
                        try simp only [Act.put, List.setIfInBounds_toArray, List.set_cons_succ, List.set_cons_zero]
                        simp [go_sem, quietTo, Ext.refl]
                        all_goals first
                          | rfl
                      refine fac_quiet 2 rfl rfl rfl (fun _ _ h _ => h) rfl rfl ?_
                      apply Exists.intro
                      refine ⟨fun sv w' hw' hfa => ?_, ?_⟩
                      · obtain ⟨f0, f1, -⟩ := hfa
                        replace f0 : sv 0 = _ := f0
                        try dsimp only at f0
                        replace f1 : sv 1 = _ := f1
                        try dsimp only at f1
                        have hk9 := (Ext.refl wra).drew.trans hw'; have z1 := (hk9.walk.1 _ _ hgBa).trans cu0; obtain ⟨z2, -⟩ := (hXa.ext hk9).walk; have z3 := hlkB w' hk9
                        refine ⟨rfl, ?_⟩
                        simp only [putsL]
                        change quietTo _ _ _ _ (Sem.run _ (execOp (Act.eval (Act.put (Act.put _ (some 87) (sv 1)) (some 86) (sv 0))) _) _)
                        try simp only [Act.put, List.setIfInBounds_toArray, List.set_cons_succ, List.set_cons_zero]
                        simp [go_sem, quietTo, Ext.refl, ↓IntWalk.iteOmega, f0, f1, hkI1]
                        all_goals try simp (disch := omega) only [IntWalk.i64_in]
                        all_goals first
                          | rfl
                      refine fac_quiet 3 rfl rfl rfl (fun _ _ h _ => h) rfl rfl ?_
                      apply Exists.intro
                      refine ⟨fun sv w' hw' hfa => ?_, ?_⟩
                      · obtain ⟨_, _, f2, -⟩ := hfa
                        replace f2 : sv 2 = _ := f2
                        try dsimp only at f2
                        have hk9 := (Ext.refl wra).drew.trans hw'; have z1 := (hk9.walk.1 _ _ hgBa).trans cu0; obtain ⟨z2, -⟩ := (hXa.ext hk9).walk; have z3 := hlkB w' hk9
                        refine ⟨rfl, ?_⟩
                        simp only [putsL]
                        change quietTo _ _ _ _ (Sem.run _ (execOp (Act.eval (Act.put (Act.put (Act.put _ (some 88) (sv 2)) (some 87) (sv 1)) (some 86) (sv 0))) _) _)
                        try simp only [Act.put, List.setIfInBounds_toArray, List.set_cons_succ, List.set_cons_zero]
                        simp [go_sem, quietTo, Ext.refl, ↓IntWalk.iteOmega, f2, z1]
                        all_goals try simp (disch := omega) only [IntWalk.i64_in]
                        all_goals first
                          | rfl
                      refine fac_quiet 4 rfl rfl rfl (fun _ _ h _ => h) rfl rfl ?_
                      apply Exists.intro
                      refine ⟨fun sv w' hw' hfa => ?_, ?_⟩
                      · have hk9 := (Ext.refl wra).drew.trans hw'; have z1 := (hk9.walk.1 _ _ hgBa).trans cu0; obtain ⟨z2, -⟩ := (hXa.ext hk9).walk; have z3 := hlkB w' hk9
                        refine ⟨rfl, ?_⟩
                        simp only [putsL]
                        change quietTo _ _ _ _ (Sem.run _ (execOp (Act.eval _) _) _)
                        try simp only [Act.put, List.setIfInBounds_toArray, List.set_cons_succ, List.set_cons_zero]
                        simp [go_sem, quietTo, Ext.refl, ↓IntWalk.iteOmega, z2]
                        all_goals try simp (disch := omega) only [IntWalk.i64_in]
                        all_goals first
                          | rfl
                      refine fac_quiet 5 rfl rfl rfl (fun _ _ h _ => h) rfl rfl ?_
                      apply Exists.intro
                      refine ⟨fun sv w' hw' hfa => ?_, ?_⟩
                      · obtain ⟨_, _, _, f3, f4, -⟩ := hfa
                        replace f3 : sv 3 = _ := f3
                        try dsimp only at f3
                        replace f4 : sv 4 = _ := f4
                        try dsimp only at f4
                        have hk9 := (Ext.refl wra).drew.trans hw'; have z1 := (hk9.walk.1 _ _ hgBa).trans cu0; obtain ⟨z2, -⟩ := (hXa.ext hk9).walk; have z3 := hlkB w' hk9
                        refine ⟨rfl, ?_⟩
                        simp only [putsL]
                        change quietTo _ _ _ _ (Sem.run _ (execOp (Act.eval (Act.put (Act.put (Act.put (Act.put (Act.put _ (some 90) (sv 4)) (some 89) (sv 3)) (some 88) (sv 2)) (some 87) (sv 1)) (some 86) (sv 0))) _) _)
                        try simp only [Act.put, List.setIfInBounds_toArray, List.set_cons_succ, List.set_cons_zero]
                        simp [go_sem, quietTo, Ext.refl, ↓IntWalk.iteOmega, f3, f4, z3]
                        all_goals try simp (disch := omega) only [IntWalk.i64_in]
                        all_goals first
                          | rfl
                      refine fac_quiet 6 rfl rfl rfl (fun _ _ h _ => h) rfl rfl ?_
                      apply Exists.intro
                      refine ⟨fun sv w' hw' hfa => ?_, ?_⟩
                      · obtain ⟨_, _, _, _, _, f5, -⟩ := hfa
                        replace f5 : sv 5 = _ := f5
                        try dsimp only at f5
                        refine ⟨rfl, ?_⟩
                        simp only [putsL]
                        change quietTo _ _ _ _ (Sem.run _ (execOp (Act.eval (Act.put (Act.put (Act.put (Act.put (Act.put (Act.put _ (some 91) (sv 5)) (some 90) (sv 4)) (some 89) (sv 3)) (some 88) (sv 2)) (some 87) (sv 1)) (some 86) (sv 0))) _) _)
                        try simp only [Act.put, List.setIfInBounds_toArray, List.set_cons_succ, List.set_cons_zero]
                        simp [go_sem, quietTo, Ext.refl, f5]
                        all_goals first
                          | rfl
                      refine fac_quiet 7 rfl rfl rfl (fun _ _ h _ => h) rfl rfl ?_
                      apply Exists.intro
                      refine ⟨fun sv w' hw' hfa => ?_, ?_⟩
                      · obtain ⟨_, _, _, _, _, _, f6, -⟩ := hfa
                        replace f6 : sv 6 = _ := f6
                        try dsimp only at f6
                        refine ⟨rfl, ?_⟩
                        simp only [putsL]
                        change quietTo _ _ _ _ (Sem.run _ (execOp (Act.eval (Act.put (Act.put (Act.put (Act.put (Act.put (Act.put (Act.put _ (some 85) (sv 6)) (some 91) (sv 5)) (some 90) (sv 4)) (some 89) (sv 3)) (some 88) (sv 2)) (some 87) (sv 1)) (some 86) (sv 0))) _) _)
                        try simp only [Act.put, List.setIfInBounds_toArray, List.set_cons_succ, List.set_cons_zero]
                        simp [go_sem, quietTo, Ext.refl, f6]
                        all_goals first
                          | rfl
                      refine fac_late 8 rfl rfl Ext.refl (fun _ _ h _ => h) rfl rfl (fun _ _ _ _ h => h) ?_
                      apply Exists.intro
                      refine ⟨fun sv w' hw' hfa => ?_, ?_⟩
                      · obtain ⟨_, _, _, _, _, _, f6, -⟩ := hfa
                        replace f6 : sv 6 = _ := f6
                        try dsimp only at f6
                        refine ⟨rfl, fun w2 => ?_⟩
                        simp only [putsL]
                        change pureTo _ _ (Sem.run _ (execOp (Act.eval (Act.put (Act.put (Act.put (Act.put (Act.put (Act.put (Act.put _ (some 85) (sv 6)) (some 91) (sv 5)) (some 90) (sv 4)) (some 89) (sv 3)) (some 88) (sv 2)) (some 87) (sv 1)) (some 86) (sv 0))) _) _)
                        try simp only [Act.put, List.setIfInBounds_toArray, List.set_cons_succ, List.set_cons_zero]
                        simp [go_sem, pureTo, f6]
                        all_goals try simp (disch := omega) only [IntWalk.i64_in]
                        all_goals first
                          | rfl
                      refine fac_nil fun xb wrb herb hfrb hcrb holdb hapb => ?_
                      obtain ⟨f0, f1, f2, f3, f4, f5, f6, f7, f8, -⟩ := hfrb
                      replace f0 : xb 0 = _ := f0
                      try dsimp only at f0
                      replace f1 : xb 1 = _ := f1
                      try dsimp only at f1
                      replace f2 : xb 2 = _ := f2
                      try dsimp only at f2
                      replace f3 : xb 3 = _ := f3
                      try dsimp only at f3
                      replace f4 : xb 4 = _ := f4
                      try dsimp only at f4
                      replace f5 : xb 5 = _ := f5
                      try dsimp only at f5
                      replace f6 : xb 6 = _ := f6
                      try dsimp only at f6
                      replace f7 : xb 7 = _ := f7
                      try dsimp only at f7
                      replace f8 : xb 8 = _ := f8
                      try dsimp only at f8
                      change wpList _ _ _ _ (Act.put (Act.put (Act.put (Act.put (Act.put (Act.put (Act.put (Act.put (Act.put _ (some 86) (xb 0)) (some 87) (xb 1)) (some 88) (xb 2)) (some 89) (xb 3)) (some 90) (xb 4)) (some 91) (xb 5)) (some 85) (xb 6)) (some 92) (xb 7)) (some 93) (xb 8)) _
                      simp only [putsL, Nat.reduceAdd, List.drop_succ_cons, List.drop_zero, List.drop_nil, Act.put, List.setIfInBounds_toArray, List.set_cons_succ, List.set_cons_zero]
                      try simp only [f0, f1, f2, f3, f4, f5, f6, f7, f8]
                      clear f0 f1 f2 f3 f4 f5 f6 f7 f8
                      clear holdb hapb
                      have hEb := (Ext.refl wra).drew.trans herb
                      have hXb := hXa.ext hEb
                      have hRb := hRa.out.ext hEb
                      have hNb := hNa.ext hEb
                      have hEVb := hEVa.trans hEb
                      replace cu0 := (hEb.walk.1 _ _ hgBa).trans cu0
                      have hgBb := Nat.lt_of_lt_of_le hgBa hEb.size
                      replace hRb := Lib.hid hRb
                      clear herb hXa hRa hNa hEVa hEb hlkB
                      have hvm : (v : Int) + μ ≤ 1001 := by omega
                      go_upto_region 20 with fail
                      refine wp_region_facts [] [([], false, false), ([], false, false), ([0, 1], false, false), ([0, 1, 2], false, false), ([], false, false), ([], false, false)] (Ext) Ext (fun _ => True) (by kernel_rfl) (by kernel_rfl) Ext.refl (fun _ _ _ => Ext.trans) (fun _ _ h => h) (fun _ _ h => h.size) (fun _ _ h _ => h) trivial ?_
                      dsimp only [List.length_cons, List.length_nil, List.drop_succ_cons, List.drop_zero, List.drop_nil]
                      refine fac_quiet 0 rfl rfl rfl (fun _ _ h _ => h) rfl rfl ?_
                      apply Exists.intro
                      refine ⟨fun sv w' hw' hfa => ?_, ?_⟩
                      · refine ⟨rfl, ?_⟩
                        simp only [putsL]
                        change quietTo _ _ _ _ (Sem.run _ (execOp (Act.eval _) _) _)
                        try simp only [Act.put, List.setIfInBounds_toArray, List.set_cons_succ, List.set_cons_zero]
                        simp [go_sem, quietTo, Ext.refl]
                        all_goals first
                          | rfl
                      refine fac_quiet 1 rfl rfl rfl (fun _ _ h _ => h) rfl rfl ?_
                      apply Exists.intro
                      refine ⟨fun sv w' hw' hfa => ?_, ?_⟩
                      · refine ⟨rfl, ?_⟩
                        simp only [putsL]
                        change quietTo _ _ _ _ (Sem.run _ (execOp (Act.eval _) _) _)
                        try simp only [Act.put, List.setIfInBounds_toArray, List.set_cons_succ, List.set_cons_zero]
                        simp [go_sem, quietTo, Ext.refl]
                        all_goals first
                          | rfl
                      refine fac_quiet 2 rfl rfl rfl (fun _ _ h _ => h) rfl rfl ?_
                      apply Exists.intro
                      refine ⟨fun sv w' hw' hfa => ?_, ?_⟩
                      · obtain ⟨f0, f1, -⟩ := hfa
                        replace f0 : sv 0 = _ := f0
                        try dsimp only at f0
                        replace f1 : sv 1 = _ := f1
                        try dsimp only at f1
                        have hk9 := (Ext.refl wrb).drew.trans hw'; have z1 := (hk9.walk.1 _ _ hgBb).trans cu0; obtain ⟨z2, -⟩ := (hXb.ext hk9).walk
                        refine ⟨rfl, ?_⟩
                        simp only [putsL]
                        change quietTo _ _ _ _ (Sem.run _ (execOp (Act.eval (Act.put (Act.put _ (some 102) (sv 1)) (some 101) (sv 0))) _) _)
                        try simp only [Act.put, List.setIfInBounds_toArray, List.set_cons_succ, List.set_cons_zero]
                        simp [go_sem, quietTo, Ext.refl, ↓IntWalk.iteOmega, f0, f1, hkI1]
                        all_goals try simp (disch := omega) only [IntWalk.i64_in]
                        all_goals first
                          | rfl
                      refine fac_quiet 3 rfl rfl rfl (fun _ _ h _ => h) rfl rfl ?_
                      apply Exists.intro
                      refine ⟨fun sv w' hw' hfa => ?_, ?_⟩
                      · obtain ⟨_, _, f2, -⟩ := hfa
                        replace f2 : sv 2 = _ := f2
                        try dsimp only at f2
                        have hk9 := (Ext.refl wrb).drew.trans hw'; have z1 := (hk9.walk.1 _ _ hgBb).trans cu0; obtain ⟨z2, -⟩ := (hXb.ext hk9).walk
                        refine ⟨rfl, ?_⟩
                        simp only [putsL]
                        change quietTo _ _ _ _ (Sem.run _ (execOp (Act.eval (Act.put (Act.put (Act.put _ (some 103) (sv 2)) (some 102) (sv 1)) (some 101) (sv 0))) _) _)
                        try simp only [Act.put, List.setIfInBounds_toArray, List.set_cons_succ, List.set_cons_zero]
                        simp [go_sem, quietTo, Ext.refl, ↓IntWalk.iteOmega, f2, z1]
                        all_goals try simp (disch := omega) only [IntWalk.i64_in]
                        all_goals first
                          | rfl
                      refine fac_quiet 4 rfl rfl rfl (fun _ _ h _ => h) rfl rfl ?_
                      apply Exists.intro
                      refine ⟨fun sv w' hw' hfa => ?_, ?_⟩
                      · have hk9 := (Ext.refl wrb).drew.trans hw'; have z1 := (hk9.walk.1 _ _ hgBb).trans cu0; obtain ⟨z2, -⟩ := (hXb.ext hk9).walk
                        refine ⟨rfl, ?_⟩
                        simp only [putsL]
                        change quietTo _ _ _ _ (Sem.run _ (execOp (Act.eval _) _) _)
                        try simp only [Act.put, List.setIfInBounds_toArray, List.set_cons_succ, List.set_cons_zero]
                        simp [go_sem, quietTo, Ext.refl, ↓IntWalk.iteOmega, z2]
                        all_goals try simp (disch := omega) only [IntWalk.i64_in]
                        all_goals first
                          | rfl
                      refine fac_quiet 5 rfl rfl rfl (fun _ _ h _ => h) rfl rfl ?_
                      apply Exists.intro
                      refine ⟨fun sv w' hw' hfa => ?_, ?_⟩
                      · refine ⟨rfl, ?_⟩
                        simp only [putsL]
                        change quietTo _ _ _ _ (Sem.run _ (execOp (Act.eval _) _) _)
                        try simp only [Act.put, List.setIfInBounds_toArray, List.set_cons_succ, List.set_cons_zero]
                        simp [go_sem, quietTo, Ext.refl]
                        all_goals first
                          | rfl
                      refine fac_nil fun xc wrc herc hfrc hcrc holdc hapc => ?_
                      obtain ⟨f0, f1, f2, f3, f4, f5, -⟩ := hfrc
                      replace f0 : xc 0 = _ := f0
                      try dsimp only at f0
                      replace f1 : xc 1 = _ := f1
                      try dsimp only at f1
                      replace f2 : xc 2 = _ := f2
                      try dsimp only at f2
                      replace f3 : xc 3 = _ := f3
                      try dsimp only at f3
                      replace f4 : xc 4 = _ := f4
                      try dsimp only at f4
                      replace f5 : xc 5 = _ := f5
                      try dsimp only at f5
                      change wpList _ _ _ _ (Act.put (Act.put (Act.put (Act.put (Act.put (Act.put _ (some 101) (xc 0)) (some 102) (xc 1)) (some 103) (xc 2)) (some 104) (xc 3)) (some 105) (xc 4)) (some 106) (xc 5)) _
                      simp only [putsL, Nat.reduceAdd, List.drop_succ_cons, List.drop_zero, List.drop_nil, Act.put, List.setIfInBounds_toArray, List.set_cons_succ, List.set_cons_zero]
                      try simp only [f0, f1, f2, f3, f4, f5]
                      clear f0 f1 f2 f3 f4 f5
                      clear holdc hapc
                      have hEc := (Ext.refl wrb).drew.trans herc
                      have hXc := hXb.ext hEc
                      obtain ⟨w12, ks2, hrun0, hN12, hg12, hk1, hk2⟩ := (hNb.ext hEc).put (k := i) hio (by omega) ((v : Int) + (μ : Int))
                      have hrun : (Instr.mapUpdate 80 (.map (some V.heap.size)) (.agg #[.int .i64 i.a, .int .i64 i.b, .int .i64 i.c, .int .i64 i.d]) (.int .i64 ((v : Int) + (μ : Int)))).run Tryz.prog wrc = .ok () w12 := hrun0
                      have hR12 := (hRb.out.ext hEc).kept hg12 (by simp; omega) (by simp)
                      have hX12 : Blk w12 gX 27 #[.int .i64 i.a, .int .i64 i.b, .int .i64 i.c, .int .i64 i.d] := (hg12.block gX hXc.lt fun e => by cases e; omega).trans hXc
                      have hE12 := (hEVb.trans hEc).grown hg12 fun j e => by cases e; exact Nat.le_refl _
                      replace hN12 := Lib.hid hN12
                      replace hR12 := Lib.hid hR12
                      clear hrun0 hRb hNb hEVb hXb hXc hEc herc hg12 cu0
                      go_wp2_with (refine wpList_putM rfl _ _ _ 80 rfl (.map (some V.heap.size)) (.agg #[.int .i64 i.a, .int .i64 i.b, .int .i64 i.c, .int .i64 i.d]) (.int .i64 ((v : Int) + (μ : Int))) rfl rfl rfl w12 hrun ?_)
                      go_roundw
                      case rel => exact ⟨j + 1, ks2, _, by go_num, by omega, hR12.out, hN12.out, by omega, hn1.out, hE12, hX12⟩
                      case measure => simp [intOf]; omega
                    · have hn1 := hnx.out.more ht hb hlt
                      have hltI : ¬ (v : Int) + (μ : Int) < (a : Int) := by omega
                      replace hn1 := Lib.hid hn1
                      clear hnx hhere
                      have hlkB : ∀ u, Ext wra u → (Instr.lookup 80 (.map (some V.heap.size)) (.agg #[.int .i64 i.a, .int .i64 i.b, .int .i64 i.c, .int .i64 i.d]) true).run Tryz.prog u = .ok (.tuple #[.int .i64 (a), .bool true]) u := fun u hu => by
                        have := (hNa.ext hu).1.look_ok (k := i) hio
                        rw [hni] at this
                        exact this
                      go_upto_region 18 with fail
                      refine wp_region_facts [8] [([], false, false), ([], false, false), ([0, 1], false, false), ([0, 1, 2], false, false), ([], false, false), ([0, 1, 2, 3, 4], false, false), ([0, 1, 2, 3, 4, 5], false, false), ([0, 1, 2, 3, 4, 5, 6], false, false), ([0, 1, 2, 3, 4, 5, 6], false, false)] (Ext) Ext (fun _ => True) (by kernel_rfl) (by kernel_rfl) Ext.refl (fun _ _ _ => Ext.trans) (fun _ _ h => h) (fun _ _ h => h.size) (fun _ _ h _ => h) trivial ?_
                      dsimp only [List.length_cons, List.length_nil, List.drop_succ_cons, List.drop_zero, List.drop_nil]
                      refine fac_quiet 0 rfl rfl rfl (fun _ _ h _ => h) rfl rfl ?_
                      apply Exists.intro
                      refine ⟨fun sv w' hw' hfa => ?_, ?_⟩
                      · refine ⟨rfl, ?_⟩
                        simp only [putsL]
                        change quietTo _ _ _ _ (Sem.run _ (execOp (Act.eval _) _) _)
                        try simp only [Act.put, List.setIfInBounds_toArray, List.set_cons_succ, List.set_cons_zero]
                        simp [go_sem, quietTo, Ext.refl]
                        all_goals first
                          | rfl
                      refine fac_quiet 1 rfl rfl rfl (fun _ _ h _ => h) rfl rfl ?_
                      apply Exists.intro
                      refine ⟨fun sv w' hw' hfa => ?_, ?_⟩
                      · refine ⟨rfl, ?_⟩
                        simp only [putsL]
                        change quietTo _ _ _ _ (Sem.run _ (execOp (Act.eval _) _) _)
                        try simp only [Act.put, List.setIfInBounds_toArray, List.set_cons_succ, List.set_cons_zero]
                        simp [go_sem, quietTo, Ext.refl]
                        all_goals first
                          | rfl
                      refine fac_quiet 2 rfl rfl rfl (fun _ _ h _ => h) rfl rfl ?_
                      apply Exists.intro
                      refine ⟨fun sv w' hw' hfa => ?_, ?_⟩
                      · obtain ⟨f0, f1, -⟩ := hfa
                        replace f0 : sv 0 = _ := f0
                        try dsimp only at f0
                        replace f1 : sv 1 = _ := f1
                        try dsimp only at f1
                        have hk9 := (Ext.refl wra).drew.trans hw'; have z1 := (hk9.walk.1 _ _ hgBa).trans cu0; obtain ⟨z2, -⟩ := (hXa.ext hk9).walk; have z3 := hlkB w' hk9
                        refine ⟨rfl, ?_⟩
                        simp only [putsL]
                        change quietTo _ _ _ _ (Sem.run _ (execOp (Act.eval (Act.put (Act.put _ (some 87) (sv 1)) (some 86) (sv 0))) _) _)
                        try simp only [Act.put, List.setIfInBounds_toArray, List.set_cons_succ, List.set_cons_zero]
                        simp [go_sem, quietTo, Ext.refl, ↓IntWalk.iteOmega, f0, f1, hkI1]
                        all_goals try simp (disch := omega) only [IntWalk.i64_in]
                        all_goals first
                          | rfl
                      refine fac_quiet 3 rfl rfl rfl (fun _ _ h _ => h) rfl rfl ?_
                      apply Exists.intro
                      refine ⟨fun sv w' hw' hfa => ?_, ?_⟩
                      · obtain ⟨_, _, f2, -⟩ := hfa
                        replace f2 : sv 2 = _ := f2
                        try dsimp only at f2
                        have hk9 := (Ext.refl wra).drew.trans hw'; have z1 := (hk9.walk.1 _ _ hgBa).trans cu0; obtain ⟨z2, -⟩ := (hXa.ext hk9).walk; have z3 := hlkB w' hk9
                        refine ⟨rfl, ?_⟩
                        simp only [putsL]
                        change quietTo _ _ _ _ (Sem.run _ (execOp (Act.eval (Act.put (Act.put (Act.put _ (some 88) (sv 2)) (some 87) (sv 1)) (some 86) (sv 0))) _) _)
                        try simp only [Act.put, List.setIfInBounds_toArray, List.set_cons_succ, List.set_cons_zero]
                        simp [go_sem, quietTo, Ext.refl, ↓IntWalk.iteOmega, f2, z1]
                        all_goals try simp (disch := omega) only [IntWalk.i64_in]
                        all_goals first
                          | rfl
                      refine fac_quiet 4 rfl rfl rfl (fun _ _ h _ => h) rfl rfl ?_
                      apply Exists.intro
                      refine ⟨fun sv w' hw' hfa => ?_, ?_⟩
                      · have hk9 := (Ext.refl wra).drew.trans hw'; have z1 := (hk9.walk.1 _ _ hgBa).trans cu0; obtain ⟨z2, -⟩ := (hXa.ext hk9).walk; have z3 := hlkB w' hk9
                        refine ⟨rfl, ?_⟩
                        simp only [putsL]
                        change quietTo _ _ _ _ (Sem.run _ (execOp (Act.eval _) _) _)
                        try simp only [Act.put, List.setIfInBounds_toArray, List.set_cons_succ, List.set_cons_zero]
                        simp [go_sem, quietTo, Ext.refl, ↓IntWalk.iteOmega, z2]
                        all_goals try simp (disch := omega) only [IntWalk.i64_in]
                        all_goals first
                          | rfl
                      refine fac_quiet 5 rfl rfl rfl (fun _ _ h _ => h) rfl rfl ?_
                      apply Exists.intro
                      refine ⟨fun sv w' hw' hfa => ?_, ?_⟩
                      · obtain ⟨_, _, _, f3, f4, -⟩ := hfa
                        replace f3 : sv 3 = _ := f3
                        try dsimp only at f3
                        replace f4 : sv 4 = _ := f4
                        try dsimp only at f4
                        have hk9 := (Ext.refl wra).drew.trans hw'; have z1 := (hk9.walk.1 _ _ hgBa).trans cu0; obtain ⟨z2, -⟩ := (hXa.ext hk9).walk; have z3 := hlkB w' hk9
                        refine ⟨rfl, ?_⟩
                        simp only [putsL]
                        change quietTo _ _ _ _ (Sem.run _ (execOp (Act.eval (Act.put (Act.put (Act.put (Act.put (Act.put _ (some 90) (sv 4)) (some 89) (sv 3)) (some 88) (sv 2)) (some 87) (sv 1)) (some 86) (sv 0))) _) _)
                        try simp only [Act.put, List.setIfInBounds_toArray, List.set_cons_succ, List.set_cons_zero]
                        simp [go_sem, quietTo, Ext.refl, ↓IntWalk.iteOmega, f3, f4, z3]
                        all_goals try simp (disch := omega) only [IntWalk.i64_in]
                        all_goals first
                          | rfl
                      refine fac_quiet 6 rfl rfl rfl (fun _ _ h _ => h) rfl rfl ?_
                      apply Exists.intro
                      refine ⟨fun sv w' hw' hfa => ?_, ?_⟩
                      · obtain ⟨_, _, _, _, _, f5, -⟩ := hfa
                        replace f5 : sv 5 = _ := f5
                        try dsimp only at f5
                        refine ⟨rfl, ?_⟩
                        simp only [putsL]
                        change quietTo _ _ _ _ (Sem.run _ (execOp (Act.eval (Act.put (Act.put (Act.put (Act.put (Act.put (Act.put _ (some 91) (sv 5)) (some 90) (sv 4)) (some 89) (sv 3)) (some 88) (sv 2)) (some 87) (sv 1)) (some 86) (sv 0))) _) _)
                        try simp only [Act.put, List.setIfInBounds_toArray, List.set_cons_succ, List.set_cons_zero]
                        simp [go_sem, quietTo, Ext.refl, f5]
                        all_goals first
                          | rfl
                      refine fac_quiet 7 rfl rfl rfl (fun _ _ h _ => h) rfl rfl ?_
                      apply Exists.intro
                      refine ⟨fun sv w' hw' hfa => ?_, ?_⟩
                      · obtain ⟨_, _, _, _, _, _, f6, -⟩ := hfa
                        replace f6 : sv 6 = _ := f6
                        try dsimp only at f6
                        refine ⟨rfl, ?_⟩
                        simp only [putsL]
                        change quietTo _ _ _ _ (Sem.run _ (execOp (Act.eval (Act.put (Act.put (Act.put (Act.put (Act.put (Act.put (Act.put _ (some 85) (sv 6)) (some 91) (sv 5)) (some 90) (sv 4)) (some 89) (sv 3)) (some 88) (sv 2)) (some 87) (sv 1)) (some 86) (sv 0))) _) _)
                        try simp only [Act.put, List.setIfInBounds_toArray, List.set_cons_succ, List.set_cons_zero]
                        simp [go_sem, quietTo, Ext.refl, f6]
                        all_goals first
                          | rfl
                      refine fac_late 8 rfl rfl Ext.refl (fun _ _ h _ => h) rfl rfl (fun _ _ _ _ h => h) ?_
                      apply Exists.intro
                      refine ⟨fun sv w' hw' hfa => ?_, ?_⟩
                      · obtain ⟨_, _, _, _, _, _, f6, -⟩ := hfa
                        replace f6 : sv 6 = _ := f6
                        try dsimp only at f6
                        refine ⟨rfl, fun w2 => ?_⟩
                        simp only [putsL]
                        change pureTo _ _ (Sem.run _ (execOp (Act.eval (Act.put (Act.put (Act.put (Act.put (Act.put (Act.put (Act.put _ (some 85) (sv 6)) (some 91) (sv 5)) (some 90) (sv 4)) (some 89) (sv 3)) (some 88) (sv 2)) (some 87) (sv 1)) (some 86) (sv 0))) _) _)
                        try simp only [Act.put, List.setIfInBounds_toArray, List.set_cons_succ, List.set_cons_zero]
                        simp [go_sem, pureTo, f6]
                        all_goals try simp (disch := omega) only [IntWalk.i64_in]
                        all_goals first
                          | rfl
                      refine fac_nil fun xb wrb herb hfrb hcrb holdb hapb => ?_
                      obtain ⟨f0, f1, f2, f3, f4, f5, f6, f7, f8, -⟩ := hfrb
                      replace f0 : xb 0 = _ := f0
                      try dsimp only at f0
                      replace f1 : xb 1 = _ := f1
                      try dsimp only at f1
                      replace f2 : xb 2 = _ := f2
                      try dsimp only at f2
                      replace f3 : xb 3 = _ := f3
                      try dsimp only at f3
                      replace f4 : xb 4 = _ := f4
                      try dsimp only at f4
                      replace f5 : xb 5 = _ := f5
                      try dsimp only at f5
                      replace f6 : xb 6 = _ := f6
                      try dsimp only at f6
                      replace f7 : xb 7 = _ := f7
                      try dsimp only at f7
                      replace f8 : xb 8 = _ := f8
                      try dsimp only at f8
                      change wpList _ _ _ _ (Act.put (Act.put (Act.put (Act.put (Act.put (Act.put (Act.put (Act.put (Act.put _ (some 86) (xb 0)) (some 87) (xb 1)) (some 88) (xb 2)) (some 89) (xb 3)) (some 90) (xb 4)) (some 91) (xb 5)) (some 85) (xb 6)) (some 92) (xb 7)) (some 93) (xb 8)) _
                      simp only [putsL, Nat.reduceAdd, List.drop_succ_cons, List.drop_zero, List.drop_nil, Act.put, List.setIfInBounds_toArray, List.set_cons_succ, List.set_cons_zero]
                      try simp only [f0, f1, f2, f3, f4, f5, f6, f7, f8]
                      clear f0 f1 f2 f3 f4 f5 f6 f7 f8
                      clear holdb hapb
                      have hEb := (Ext.refl wra).drew.trans herb
                      have hXb := hXa.ext hEb
                      have hRb := hRa.out.ext hEb
                      have hNb := hNa.ext hEb
                      have hEVb := hEVa.trans hEb
                      replace cu0 := (hEb.walk.1 _ _ hgBa).trans cu0
                      have hgBb := Nat.lt_of_lt_of_le hgBa hEb.size
                      replace hRb := Lib.hid hRb
                      clear herb hXa hRa hNa hEVa hEb hlkB
                      go_wp2
                      go_roundw
                      case rel => exact ⟨j + 1, ns, nf, by go_num, by omega, hRb.out, hNb, by omega, hn1.out, hEVb, hXb⟩
                      case measure => simp [intOf]; omega
              · obtain rfl : j = r.length := by omega
                have hRl := hR.left_eq
                go_wp2
                go_roundw
                case rel => exact ⟨seen ++ [i], cnt2, ns, nf, hR, hN, by rw [hsn]; omega, hnx.done hr, hE⟩
                case measure => omega
end Go.Proofs.YtapjekpjekdlkaaGreatDoor
