/- Stands the other way round and with gaps closed, called again. Conditions: people, a stage and stands are right. -/
import Derived.Test.YtflcbphlhoibiaaGreatDoorMtMiF
import Derived.Test.YtflcbphlhoibiaaGreatDoorMtMiJ
set_option linter.unusedSimpArgs false
set_option linter.unusedVariables false
namespace Go.Proofs.YtflcbphlhoibiaaGreatDoor
open Go Go.RowKit

section
variable {pp : Option Addr} {pc : Nat} {P : List PersonV} {wp : Option Addr} {wcap : Nat} {wide : List Int} {hp : Option Addr} {hc : Nat} {high : List Int} {lp : Option Addr} {lc : Nat} {S : List StandV} {w : World}
theorem PsM.swap (h : PsM w pp pc P wp wcap wide hp hc high lp lc S) {q : Option Addr} {c : Nat} {T : List StandV} (hT : Slc 3 staC w q T.length c T) (hs : ∀ x ∈ T, x.Small) (hl : T.length ≤ 1000) : PsM w pp pc P wp wcap wide hp hc high q c T :=
  ⟨h.per, h.wid, h.hig, hT, h.sP, h.sw, h.sh, hs, h.nP, hl⟩
theorem mirror_of (h : PsM w pp pc P wp wcap wide hp hc high lp lc S) (hz : standsF P wide high S = 0) {q : Option Addr} {c : Nat} {T : List StandV} (hTp : T.Perm (S.map (mirS wide))) (hTs : T.Pairwise (fun a b => ltV a b = true)) (hT : Slc 3 staC w q S.length c T) :
    Calls Tryz.prog 9 #[.slice pp P.length pc, .agg #[.slice wp wide.length wcap, .slice hp high.length hc], .slice q S.length c] w fun e w' => ∃ (q' : Option Addr) (c' : Nat), e = .returned (.tuple #[.slice q' S.length c', .int .i64 0]) ∧ Slc 3 staC w' q' S.length c' S ∧ Ext w w' := by
  have hl : T.length = S.length := by rw [hTp.length_eq, List.length_map]
  have h1 := mirror_any pp pc P wp wcap wide hp hc high q c T w (h.swap (by rw [hl]; exact hT) (mir_small hz h.sS hTp) (by rw [hl]; exact h.nS)) (standsF_mir hz hTp hTs)
  rw [hl] at h1
  refine h1.mono fun e w' ⟨q', c', U, he, hUp, hUs, hU, hE⟩ => ?_
  have := mir_twice (standsF_right hz).2.2.2.1 hUs hTp hUp
  subst this
  exact ⟨q', c', he, hU, hE⟩
theorem hides_of (h : PsM w pp pc P wp wcap wide hp hc high lp lc S) (hz : standsF P wide high S = 0) {q : Option Addr} {c : Nat} {T : List StandV} (hTp : T.Perm (S.map (mirS wide))) (hTs : T.Pairwise (fun a b => ltV a b = true)) (hT : Slc 3 staC w q S.length c T) :
    Calls Tryz.prog 25 #[.slice pp P.length pc, .agg #[.slice wp wide.length wcap, .slice hp high.length hc], .slice q S.length c] w fun e w' => ∃ (q' : Option Addr) (c' : Nat), e = .returned (.tuple #[.slice q' (hiddenL P wide high S).length c', .int .i64 0]) ∧ Ext w w' := by
  have hl : T.length = S.length := by rw [hTp.length_eq, List.length_map]
  have h1 := hides_good (h.swap (q := q) (c := c) (by rw [hl]; exact hT) (mir_small hz h.sS hTp) (by rw [hl]; exact h.nS)) (standsF_mir hz hTp hTs)
  rw [hl, hiddenL_perm hTp, hiddenL_mir] at h1
  exact h1.mono fun e w' ⟨q', c', he, _, hE⟩ => ⟨q', c', he, hE⟩
theorem close_small (hz : standsF P wide high S = 0) (hs : ∀ x ∈ S, x.Small) (g : StandV → Bool) : ∀ x ∈ closeL S g, x.Small := by
  obtain ⟨-, -, ha, hr, -⟩ := standsF_right hz
  intro x hx
  obtain ⟨y, hy, rfl⟩ := List.mem_map.1 hx
  have hyS := (List.mem_filter.1 hy).1
  obtain ⟨s1, s2, s3, s4, s5⟩ := hs y hyS
  have hc := cnt_le hr (fun z hz => (ha z hz).2.2.1) g hyS
  refine ⟨s1, s2, s3, ?_, ?_⟩
  · show -1099511627776 ≤ y.place - cntG S g y
    omega
  · show y.place - cntG S g y ≤ 1099511627776
    omega
theorem checkClosed_of (h : PsM w pp pc P wp wcap wide hp hc high lp lc S) (hz : standsF P wide high S = 0) (g : StandV → Bool) {q : Option Addr} {c : Nat} (hT : Slc 3 staC w q (closeL S g).length c (closeL S g)) :
    Calls Tryz.prog 26 #[.slice pp P.length pc, .agg #[.slice wp wide.length wcap, .slice hp high.length hc], .slice q (closeL S g).length c] w fun e w' => e = .returned (.int .i64 0) ∧ Ext w w' := by
  have hl : (closeL S g).length ≤ S.length := by unfold closeL; rw [List.length_map]; exact List.length_filter_le _ _
  have hnS := h.nS
  exact (h.swap hT (close_small hz h.sS g) (by omega)).check (standsF_close hz g) w (Ext.refl _)
end
end Go.Proofs.YtflcbphlhoibiaaGreatDoor
