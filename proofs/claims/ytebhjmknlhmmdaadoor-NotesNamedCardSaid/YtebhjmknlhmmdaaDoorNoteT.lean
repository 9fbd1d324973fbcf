/- The texts of notes that the stream makes; a note out of range has no name. Conditions: the two tables stand. -/
import Derived.Test.YtebhjmknlhmmdaaDoorNoteW
import Derived.Test.YtebhjmknlhmmdaaDoorStreamB
namespace Go.Proofs.YtebhjmknlhmmdaaDoor
open Go Go.RowKit

set_option maxRecDepth 100000 in
theorem name0_any (n : Int) (w : World) (h : outB n 0 127 = true) :
    Calls Tryd.prog 15 #[.int .i64 n] w fun e w' => e = .returned (.tuple #[.string ⟨#[]⟩, .int .i64 1]) ∧ Ext w w' := by
  go_enter Tryd.func15, Tryd.ntmps15
  go_wp2_with (go_at_call 38; refine (outside_any n 0 127 _).mono ?_; rintro e w' ⟨rfl, rfl⟩)
  go_ret2
  exact ⟨rfl, Ext.refl _⟩

set_option maxRecDepth 100000 in
theorem some_any (s k b t cap : Nat) (xs : List ByteArray) (w : World) (hk : k ≤ 1000000) (hn : 1 ≤ xs.length) (hn' : xs.length ≤ 1000000) (h : Str w s k) (hs : b ≠ s) (hb : Blk w b t (xs.map Value.string).toArray) :
    Calls Tryd.prog 37 #[.pointer (some ⟨s, 0, none⟩), .slice (some ⟨b, 0, none⟩) xs.length cap] w fun e w' =>
      ∃ v : Nat, v < xs.length ∧ e = .returned (.string (xs.getD v ⟨#[]⟩)) ∧ Str w' s (k + 1) ∧ ExtS s w w' := by
  have hN := next_any s k xs.length w hk hn hn' h
  have hc : ∀ i, i < xs.length → w.cell? ⟨b, i, none⟩ = some (.string (xs.getD i ⟨#[]⟩)) := fun i hi => by rw [hb.cell]; simp [hi]
  have hbl := hb.lt
  clear hb
  replace hN := Lib.hid hN
  replace hc := Lib.hid hc
  go_enter Tryd.func37, Tryd.ntmps37
  go_wp2_with (go_at_call 30; refine hN.out.mono ?_; rintro e w1 ⟨v, rfl, hv, hS, hE⟩; have hx := (hE.cell hbl hs v).trans (hc.out v hv))
  go_ret
  exact ⟨v, hv, by simp [hv], hS, hE⟩

theorem some_odd (s k b t : Nat) (w : World) (hk : k ≤ 1000000) (h : Str w s k) (hs : b ≠ s) (hb : Blk w b t (oddTexts.map Value.string).toArray) :
    Calls Tryd.prog 37 #[.pointer (some ⟨s, 0, none⟩), .slice (some ⟨b, 0, none⟩) 16 16] w fun e w' =>
      ∃ v : Nat, v < 16 ∧ e = .returned (.string (oddTexts.getD v ⟨#[]⟩)) ∧ Str w' s (k + 1) ∧ ExtS s w w' :=
  some_any s k b t 16 oddTexts w hk (by decide) (by decide) h hs hb

/-- The texts: names of notes, and odd ones. -/
def IsText (t : ByteArray) : Prop := goodQ t = true ∧ noteQR t = noteR t ∧ noteQE t = noteE t ∧ t.size ≤ 1000
theorem isText_name {n : Nat} (h : n ≤ 127) : IsText (nameB n) := by
  obtain ⟨h1, h2, h3⟩ := name_both ⟨n, by omega⟩
  exact ⟨h1, h2, h3, name_size h⟩
theorem isText_odd {v : Nat} (h : v < 16) : IsText (oddTexts.getD v ⟨#[]⟩) := by
  obtain ⟨h1, h2, h3⟩ := odd_both ⟨v, h⟩
  have hs : ∀ n : Fin 16, (oddTexts.getD n.val ⟨#[]⟩).size ≤ 1000 := by decide +kernel
  exact ⟨h1, h2, h3, hs ⟨v, h⟩⟩

set_option maxRecDepth 100000 in
set_option maxHeartbeats 1600000 in
theorem noteText_any (s k B : Nat) (w : World) (hk : k ≤ 999000) (h : Str w s k) (hBs : B ≤ s) (ht : Tab B w) (hT : TabS B w) :
    Calls Tryd.prog 12 #[.pointer (some ⟨s, 0, none⟩)] w fun e w' => ∃ t : ByteArray, e = .returned (.string t) ∧ IsText t ∧ Str w' s (k + 3) ∧ ExtS s w w' := by
  have l0 := h.lt
  go_enter Tryd.func12, Tryd.ntmps12
  go_wp2_with (first
    | (go_at_call 14; (with_reducible refine Calls.mono (range_any s k 0 127 _ (by omega) (by omega) (by omega) (by omega) (by omega) h) ?_); rintro e w1 ⟨v, rfl, hv0, hv1, hS1, hE1⟩; obtain ⟨m, rfl⟩ : ∃ m : Nat, v = m := ⟨v.toNat, by omega⟩)
    | (go_at_call 17; (with_reducible refine Calls.mono (nameOf_any m B _ (by omega) (ht.extS hBs hE1) (hT.extS hBs hE1)) ?_); rintro e w2 ⟨rfl, hb2⟩; have hS2 := hS1.ext hb2; have hE2 := hE1.ext hb2)
    | (go_at_call 13; (with_reducible refine Calls.mono (flip_any s (k + 1) 3 _ (by omega) (by omega) (by omega) hS2) ?_); rintro e w3 ⟨b, rfl, hS3, hE3⟩; cases b)
    | (go_at_call 37; have l1 := hS3.lt; refine (some_odd s (k + 1 + 1) _ _ _ (by omega) (hS3.ext (Ext.alloc (Ext.refl _) _)) (Nat.ne_of_gt l1) (Blk.new' rfl)).mono ?_; rintro e w4 ⟨v, hv, rfl, hS4, hE4⟩))
  · go_ret
    exact ⟨_, rfl, isText_name (by omega), hS3.more (by omega), hE2.trans hE3⟩
  · go_ret
    exact ⟨_, rfl, isText_odd hv, hS4.more (by omega), (hE2.trans hE3).trans (((ExtS.refl _ _).alloc _).trans hE4)⟩

end Go.Proofs.YtebhjmknlhmmdaaDoor
