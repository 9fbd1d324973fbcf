/- Who is hidden, by the document's text: the walk. Conditions: people, stage and stands are right. By how much rows would have to be higher, by the document's text: the walk. Conditions: people, stage and stands are right. Which part of those who stand is seen: the walks. Conditions: people, stage and stands are in memory. Hides, Seen and Lift of all arguments. Conditions: sizes. Which part of those who stand is seen, by the document's text. Conditions: people, stage and stands are right. -/
import Derived.Test.YtakfanmoepiagaaGreatDoorSmStS
import Derived.Test.YtakfanmoepiagaaGreatDoorSmJ20
import Derived.Test.YtakfanmoepiagaaGreatDoorSmJ3
import Derived.Test.YtakfanmoepiagaaGreatDoorSmStR
import Derived.Shelf.SlicesQ.IndexFunc
set_option linter.unusedSimpArgs false
set_option linter.unusedVariables false
namespace Go.Proofs.YtakfanmoepiagaaGreatDoor
open Go Go.RowKit

theorem own_noT {w : World} {base k n g : Nat} {t e : TypeId} {v : Value} {xs : List Value} {cs : Array Value} (ho : w.ownsRow base e k v n xs) (h : Blk w g t cs) (ht : t ≠ e) : v.ownBlock ≠ some g := by
  intro hv
  rcases ho.2 with ⟨rfl, -⟩ | ⟨g', cap, cur, rfl, -, hg, -⟩
  · simp [Value.ownBlock] at hv
  · simp [Value.ownBlock] at hv
    subst hv
    unfold Blk at h
    rw [hg] at h
    cases h
    exact ht rfl
theorem Blk.appT {b c : World} {base g : Nat} {t e : TypeId} {k n : Nat} {v : Value} {xs : List Value} {cs : Array Value} (h : Blk b g t cs) (ho : b.ownsRow base e k v n xs) (ht : t ≠ e) (hg : b.grownBy c v.ownBlock) : Blk c g t cs :=
  (hg.block g h.lt fun e => own_noT ho h ht e.symm).trans h

end Go.Proofs.YtakfanmoepiagaaGreatDoor

namespace Go.Proofs.YtakfanmoepiagaaGreatDoor
open Go Go.RowKit

end Go.Proofs.YtakfanmoepiagaaGreatDoor

namespace Go.Proofs.YtakfanmoepiagaaGreatDoor
open Go Go.RowKit

end Go.Proofs.YtakfanmoepiagaaGreatDoor

namespace Go.Proofs.YtakfanmoepiagaaGreatDoor
open Go Go.RowKit

theorem Elems.hid {w : World} {b off : Nat} {xs : List (ByteArray × ByteArray)} (h : Elems 2 hidC w b off xs) {i : Nat} {x : ByteArray × ByteArray} (hx : xs[i]? = some x) :
    w.cell? ⟨b, off + i * 2, none⟩ = some (.string x.1) ∧ w.cell? ⟨b, off + i * 2 + 1, none⟩ = some (.string x.2) :=
  ⟨h i x hx 0 _ rfl, h i x hx 1 _ rfl⟩

section
variable {pp : Option Addr} {pc : Nat} {P : List PersonV} {wp : Option Addr} {wcap : Nat} {wide : List Int} {hp : Option Addr} {hc : Nat} {high : List Int} {lp : Option Addr} {lc : Nat} {S : List StandV} {w : World}
theorem PsM.check (h : PsM w pp pc P wp wcap wide hp hc high lp lc S) {v : Int} (hv : standsF P wide high S = v) : ∀ u, Ext w u → Calls Tryz.prog 40 #[.slice pp P.length pc, .agg #[.slice wp wide.length wcap, .slice hp high.length hc], .slice lp S.length lc] u fun e w' => e = .returned (.int .i64 v) ∧ Ext u w' :=
  fun u hu => hv ▸ checkStands_any pp pc P wp wcap wide hp hc high lp lc S u (h.more hu)
theorem hides_good (h : PsM w pp pc P wp wcap wide hp hc high lp lc S) (hz : standsF P wide high S = 0) :
    Calls Tryz.prog 39 #[.slice pp P.length pc, .agg #[.slice wp wide.length wcap, .slice hp high.length hc], .slice lp S.length lc] w fun e w' => ∃ (q : Option Addr) (c : Nat), e = .returned (.tuple #[.slice q (hiddenL P wide high S).length c, .int .i64 0]) ∧ Slc 2 hidC w' q (hiddenL P wide high S).length c (hiddenL P wide high S) ∧ Ext w w' :=
  hidesL_ok pp pc P wp wcap wide hp hc high lp lc S w h.per h.wid h.hig h.sta (standsF_ok hz).1 (h.check hz)
set_option maxRecDepth 100000 in
theorem choirOf_bad (h : PsM w pp pc P wp wcap wide hp hc high lp lc S) {v : Int} (hz : standsF P wide high S = v) (hv : v ≠ 0) :
    Calls Tryz.prog 74 #[.slice pp P.length pc, .agg #[.slice wp wide.length wcap, .slice hp high.length hc], .slice lp S.length lc] w fun e w' => e = .returned (.tuple #[.pointer none, .int .i64 v]) ∧ Ext w w' := by
  have hE0 : Ext w (w.alloc (.cells #[.slice wp wide.length wcap, .slice hp high.length hc] 29)) := (Ext.refl _).alloc _
  have hck := h.check hz _ hE0
  replace hck := Lib.hid hck
  clear h hz
  go_enter Tryz.func74, Tryz.ntmps74
  go_wp2_with (go_at_call 40; (with_reducible refine Calls.mono hck.out ?_); rintro e w1 ⟨rfl, hb1⟩)
  go_ret2
  exact ⟨rfl, hE0.trans hb1⟩
end
end Go.Proofs.YtakfanmoepiagaaGreatDoor

namespace Go.Proofs.YtakfanmoepiagaaGreatDoor
open Go Go.RowKit

end Go.Proofs.YtakfanmoepiagaaGreatDoor
