/- By how much rows would have to be higher, by the document's text: the walk. Conditions: people, stage and stands are right. Which part of those who stand is seen: the walks. Conditions: people, stage and stands are in memory. Hides, Seen and Lift of all arguments. Conditions: sizes. Which part of those who stand is seen, by the document's text. Conditions: people, stage and stands are right. Stands the other way round: the program's walk. Conditions: people, a stage and stands are right. The best stands: plain mathematics (a search that leaves what can't be better finds what the search of all finds). Conditions: as each theorem says. -/
import Derived.Test.YtfcoeikekbjgpaaGreatDoorSxJ25
import Derived.Test.YtfcoeikekbjgpaaGreatDoorSxStL
import Derived.Test.YtfcoeikekbjgpaaGreatDoorSxJ3
import Derived.Test.YtfcoeikekbjgpaaGreatDoorSxStR
import Derived.Shelf.SlicesQ.IndexFunc
import Derived.Test.YtfcoeikekbjgpaaGreatDoorSxJ23
import Derived.Test.YtfcoeikekbjgpaaGreatDoorSxStZ
import Derived.Shelf.SlicesE.Clone
set_option linter.unusedSimpArgs false
set_option linter.unusedVariables false
namespace Go.Proofs.YtfcoeikekbjgpaaGreatDoor
open Go Go.RowKit

end Go.Proofs.YtfcoeikekbjgpaaGreatDoor

namespace Go.Proofs.YtfcoeikekbjgpaaGreatDoor
open Go Go.RowKit

end Go.Proofs.YtfcoeikekbjgpaaGreatDoor

namespace Go.Proofs.YtfcoeikekbjgpaaGreatDoor
open Go Go.RowKit

theorem Elems.hid {w : World} {b off : Nat} {xs : List (ByteArray × ByteArray)} (h : Elems 2 hidC w b off xs) {i : Nat} {x : ByteArray × ByteArray} (hx : xs[i]? = some x) :
    w.cell? ⟨b, off + i * 2, none⟩ = some (.string x.1) ∧ w.cell? ⟨b, off + i * 2 + 1, none⟩ = some (.string x.2) :=
  ⟨h i x hx 0 _ rfl, h i x hx 1 _ rfl⟩

section
variable {pp : Option Addr} {pc : Nat} {P : List PersonV} {wp : Option Addr} {wcap : Nat} {wide : List Int} {hp : Option Addr} {hc : Nat} {high : List Int} {lp : Option Addr} {lc : Nat} {S : List StandV} {w : World}
theorem PsM.check (h : PsM w pp pc P wp wcap wide hp hc high lp lc S) {v : Int} (hv : standsF P wide high S = v) : ∀ u, Ext w u → Calls Tryz.prog 62 #[.slice pp P.length pc, .agg #[.slice wp wide.length wcap, .slice hp high.length hc], .slice lp S.length lc] u fun e w' => e = .returned (.int .i64 v) ∧ Ext u w' :=
  fun u hu => hv ▸ checkStands_any pp pc P wp wcap wide hp hc high lp lc S u (h.more hu)
end
end Go.Proofs.YtfcoeikekbjgpaaGreatDoor

namespace Go.Proofs.YtfcoeikekbjgpaaGreatDoor
open Go Go.RowKit

end Go.Proofs.YtfcoeikekbjgpaaGreatDoor

namespace Go.Proofs.YtfcoeikekbjgpaaGreatDoor
open Go Go.RowKit Go.Sort

theorem sta_flat_len (xs : List StandV) : (xs.flatMap staC).length = xs.length * 3 := flat_lenK staC_len xs
theorem cloneSta_any (p : Option Addr) (n c : Nat) (xs : List StandV) (w : World) (h : Slc 3 staC w p n c xs) (hn : n ≤ 1000) :
    Calls Tryz.prog 63 #[.slice p n c] w fun e w' => ∃ v, e = .returned v ∧ w'.ownsRow w.heap.size 48 3 v n (xs.flatMap staC) ∧ Ext w w' := by
  obtain ⟨hS, hnc, hp0, hp⟩ := h
  cases p with
  | none =>
    obtain rfl := hp0 rfl
    have hx : xs = [] := List.eq_nil_of_length_eq_zero hS.1
    subst hx
    exact (AnyE.slices_Clone_nil Tryz.lecStand 0 c w).mono fun e w' ⟨he, hw⟩ => by
      subst hw
      exact ⟨_, he, World.ownsRow_nil _ _ _ _, Ext.refl _⟩
  | some a =>
    obtain ⟨b, off, rfl, hb⟩ := hp a rfl
    obtain ⟨i0, hi, hz0, hz1, hz2⟩ := info_parts (P := Tryz.prog) (e := 48) (z := .agg #[.string ⟨#[]⟩, .int .i64 0, .int .i64 0]) (size := 3) (bytes := 32) (by kernel_rfl)
    refine (AnyE.slices_Clone Tryz.lecStand i0 _ 3 32 hi hz0 hz1 hz2 rfl (by decide) Tryz.sizeOf48 b off n c (xs.flatMap staC) w (by rw [sta_flat_len, hS.1]) (by unfold maxLen; omega) (by omega) (fun j u hj => ?_) (fun u hu => ?_)).mono fun e w' ⟨v', he, ho, _, hb'⟩ => ⟨v', he, ho, hb'⟩
    · have hj' : j < xs.length * 3 := by rw [← sta_flat_len]; exact (List.getElem?_eq_some_iff.1 hj).1
      have hn0 : n ≠ 0 := by have := hS.1; omega
      obtain ⟨b', off', hpe, hb', hE⟩ := hS.2.2 hn0
      cases hpe
      obtain ⟨x, hx⟩ : ∃ x, xs[j / 3]? = some x := ⟨_, List.getElem?_eq_getElem (by omega)⟩
      have hjm : j % 3 < 3 := Nat.mod_lt _ (by omega)
      obtain ⟨u', hu'⟩ : ∃ u', (staC x)[j % 3]? = some u' := ⟨_, List.getElem?_eq_getElem (by rw [staC_len]; exact hjm)⟩
      have h2 := hE _ x hx _ u' hu'
      have h3 := flat_at staC_len xs (j / 3) x hx (j % 3) u' hu'
      rw [Nat.div_add_mod' j 3] at h3
      rw [h3] at hj
      cases hj
      have h4 : (⟨b, off, none⟩ : Addr).add j = ⟨b, off + j, none⟩ := by unfold Addr.add; split <;> simp_all
      rw [show off + j = off + j / 3 * 3 + j % 3 by omega]
      exact h2
    · obtain ⟨x, -, hx⟩ := List.mem_flatMap.1 hu
      exact sta_one x u hx

theorem cmp_swo : SWO (ltOf cmpV) where
  irrefl x := by unfold ltOf; rw [← ltV_cmp]; exact ltV_irrefl x
  trans x y z h1 h2 := by
    unfold ltOf at *
    rw [← ltV_cmp] at *
    exact ltV_trans h1 h2
  ntrans x y z h1 h2 := by
    unfold ltOf at *
    rw [← ltV_cmp] at *
    unfold ltV at *
    simp at *
    omega
/-- Nobody stands where somebody else does. -/
def Apart (a b : StandV) : Prop := ¬ (a.row = b.row ∧ a.place = b.place)
theorem sorted_apart {M : List StandV} (h1 : M.Pairwise Apart) (h2 : ∀ i j, i < j → (hj : j < M.length) → (hi : i < M.length) → ltV M[j] M[i] = false) : M.Pairwise (fun a b => ltV a b = true) := by
  rw [List.pairwise_iff_getElem] at h1 ⊢
  intro i j hi hj hij
  have k1 := h1 i j hi hj hij
  have k2 := h2 i j hij hj hi
  unfold Apart at k1
  unfold ltV at k2 ⊢
  simp at k2 ⊢
  omega
theorem sortSta_any {w : World} {base g n cap : Nat} {L : List StandV} (h : w.ownsRow base 48 3 (.slice (some ⟨g, 0, none⟩) n cap) n (L.flatMap staC)) (hn : L.length = n) (hn1 : n ≤ 1000) (hd : L.Pairwise Apart) (f : Nat) (hf : ∀ a b u, Calls Tryz.prog f #[.agg #[.string a.name, .int .i64 a.row, .int .i64 a.place], .agg #[.string b.name, .int .i64 b.row, .int .i64 b.place]] u fun e w' => e = .returned (.int .i64 (cmpV a b)) ∧ ∃ q os', w' = grow (u.drewN q) os')
    (eg : ∀ args w, (callFunc f args).run Tryz.prog w = .ok (.enter f args) w) :
    Calls Tryz.prog 64 #[.slice (some ⟨g, 0, none⟩) n cap, .func (.func f) #[] #[]] w fun e w' => e = .returned (.tuple #[]) ∧ ∃ M : List StandV, M.Perm L ∧ M.Pairwise (fun a b => ltV a b = true) ∧ w'.ownsRow base 48 3 (.slice (some ⟨g, 0, none⟩) n cap) n (M.flatMap staC) ∧ ∀ a : World, Ext a w → a.heap.size ≤ g → Ext a w' := by
  have hgl := (h.lt g rfl).2
  subst hn
  have hs := AnyQ.slices_SortFunc Tryz.lsfStand 3 Tryz.isAgg48 Tryz.sizeOf48 staC staC_len sta_one cmpV cmp_swo f #[] g 0 cap L.toArray w eg (fun m os dk _ x y => hf x y _) (holdsK_own staC_len h) hgl (by simp; omega)
  refine hs.mono fun e w' ⟨he, d', q, os, hp, hso, hw⟩ => ?_
  have e1 : d'.extract 0 L.toArray.size = d' := by rw [← hp.1]; simp
  have hperm : d'.toList.Perm L := by
    have h9 := hp.2.2
    rw [e1] at h9
    simpa using h9
  have hsz : d'.size = L.length := by have := hp.1; simpa using this
  refine ⟨he, d'.toList, hperm, sorted_apart ((hperm.symm.pairwise_iff (fun {x y} h k => h ⟨k.1.symm, k.2.symm⟩)).1 hd) (fun i j hij hj hi => ?_), ?_, ?_⟩
  · have h9 := hso i j (Nat.zero_le _) hij (by simp at hj ⊢; omega)
    unfold ltOf at h9
    rw [← ltV_cmp] at h9
    simp at hi hj
    rw [getElem!_pos d' j hj, getElem!_pos d' i hi] at h9
    simpa using h9
  · rw [hw]
    exact own_sortK staC_len h (by have := hp.1; simpa using this)
  · intro a ha hg
    rw [hw]
    exact ext_sortK ha hg
end Go.Proofs.YtfcoeikekbjgpaaGreatDoor

namespace Go.Proofs.YtfcoeikekbjgpaaGreatDoor
open Go Go.RowKit

section
variable (P : List PersonV) (wide high : List Int) (all : List StandV)
variable {P wide high all}
end

/-! ### who is hidden, by bits -/
section
variable (P : List PersonV) (wide high : List Int)
end
end Go.Proofs.YtfcoeikekbjgpaaGreatDoor
