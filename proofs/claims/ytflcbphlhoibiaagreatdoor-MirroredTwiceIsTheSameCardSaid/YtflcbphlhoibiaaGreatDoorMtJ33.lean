/- Who hides whom, by the document's text: the walks. Conditions: people, stage and stands are right. Who is hidden, by the document's text: the walk. Conditions: people, stage and stands are right. By how much rows would have to be higher, by the document's text: the walk. Conditions: people, stage and stands are right. -/
import Derived.Test.YtflcbphlhoibiaaGreatDoorMtJ31
import Derived.Test.YtflcbphlhoibiaaGreatDoorMtStR
import Derived.Test.YtflcbphlhoibiaaGreatDoorMtJ27
set_option linter.unusedSimpArgs false
set_option linter.unusedVariables false
namespace Go.Proofs.YtflcbphlhoibiaaGreatDoor
open Go Go.RowKit

theorem height_bound {P : List PersonV} {wide high : List Int} {S : List StandV} {x : StandV} (hok : StandsOk P wide high S) (hx : x ∈ S) : 500 ≤ heightOf P x.name ∧ heightOf P x.name ≤ 2500 := by
  obtain ⟨k, q, hq, hn⟩ := hok.all x hx
  rw [← hn, heightOf_is hok.po hq]
  exact (hok.po.one q (List.mem_of_getElem? hq)).2.2

end Go.Proofs.YtflcbphlhoibiaaGreatDoor

namespace Go.Proofs.YtflcbphlhoibiaaGreatDoor
open Go Go.RowKit

theorem own_noT {w : World} {base k n g : Nat} {t e : TypeId} {v : Value} {xs : List Value} {cs : Array Value} (ho : w.ownsRow base e k v n xs) (h : Blk w g t cs) (ht : t ≠ e) : v.ownBlock ≠ some g := by
  intro hv
  rcases ho.2 with ⟨rfl, -⟩ | ⟨g', cap, cur, rfl, -, hg, -⟩
  · simp [Value.ownBlock] at hv
  · simp [Value.ownBlock] at hv
    subst hv
    unfold Blk at h
    rw [hg] at h
    cases h
    exact ht rfl
theorem Blk.appT {b c : World} {base g : Nat} {t e : TypeId} {k n : Nat} {v : Value} {xs : List Value} {cs : Array Value} (h : Blk b g t cs) (ho : b.ownsRow base e k v n xs) (ht : t ≠ e) (hg : b.grownBy c v.ownBlock) : Blk c g t cs :=
  (hg.block g h.lt fun e => own_noT ho h ht e.symm).trans h

end Go.Proofs.YtflcbphlhoibiaaGreatDoor

namespace Go.Proofs.YtflcbphlhoibiaaGreatDoor
open Go Go.RowKit

theorem foldl_same {α β : Type} {f : β → α → β} (b : β) : ∀ (l : List α), (∀ x ∈ l, f b x = b) → l.foldl f b = b
  | [], _ => rfl
  | x :: l, h => by
    rw [List.foldl_cons, h x List.mem_cons_self]
    exact foldl_same b l fun y hy => h y (List.mem_cons_of_mem _ hy)
theorem liftR_first {P : List PersonV} {wide high : List Int} {S : List StandV} (hon : ∀ x ∈ S, OnStage wide x) (u : List Int) (acc : Int) : liftR P wide high u 0 S acc = acc := by
  unfold liftR
  refine foldl_same _ _ fun b hb => ?_
  unfold liftB
  refine foldl_same _ _ fun a ha => ?_
  have h0 := (hon a ha).1
  unfold beforeS
  by_cases h1 : b.row = ((0 : Nat) : Int)
  · rw [show decide (a.row < b.row) = false from decide_eq_false (by omega)]; simp
  · rw [decide_eq_false h1]; simp

end Go.Proofs.YtflcbphlhoibiaaGreatDoor
