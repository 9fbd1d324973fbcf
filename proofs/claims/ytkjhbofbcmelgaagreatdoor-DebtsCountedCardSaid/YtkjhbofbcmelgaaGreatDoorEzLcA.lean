/- What is out, how a copy is, who had it: the walks of Out, State and Way when all is right. Conditions: sizes; at most 19 slips. -/
import Derived.Test.YtkjhbofbcmelgaaGreatDoorEzJ21
import Derived.Test.YtkjhbofbcmelgaaGreatDoorEzJ27
set_option linter.unusedSimpArgs false
set_option linter.unusedVariables false
namespace Go.Proofs.YtkjhbofbcmelgaaGreatDoor
open Go Go.RowKit Go.Maps Go.Sort
theorem libAt_N {T : List TitleV} {r : LendR} {d : List SlipV} {t : Int} (hd : RightS d) (hs : ∀ x ∈ d, x.Small) : LibN d.length (libAt T r d t).1 := by
 have h := run_ok (T := T) (r := r) (d := d) (fun x hx => ⟨(slip_ok (hd.one x hx)).kind, (hs x hx).2.2⟩) (is := ordF d t) (fun i hi => (mem_ord.1 hi).1) (ordF d t).length (Nat.le_refl _) (by have := ord_len d t; have := hd.len; omega)
 rw [List.take_length] at h
 exact h.le (ord_len d t)
theorem libAt_I {T : List TitleV} {r : LendR} {d : List SlipV} {t : Int} (hd : RightS d) (hs : ∀ x ∈ d, x.Small) : LibI r.each t (libAt T r d t).1 := by
 have h := run_I (T := T) (r := r) (d := d) (t := t) (fun x hx => ⟨⟨(slip_ok (hd.one x hx)).kind, (hs x hx).2.2⟩, (slip_ok (hd.one x hx)).at_.1⟩) (is := ordF d t) (fun i hi => mem_ord.1 hi) (ordF d t).length (Nat.le_refl _) (by have := ord_len d t; have := hd.len; omega)
 rw [List.take_length] at h
 exact h
/-- What Out answers when all is right. -/
def OutR (T : List TitleV) (r : LendR) (d : List SlipV) (t : Int) (w : World) (e : Ending) (w' : World) : Prop := ∃ (v : Value) (M : List LentV), e = .returned (.tuple #[v, .int .i64 0]) ∧ M.Perm (outL (libAt T r d t).1.loans) ∧ M.Pairwise entLt ∧ w'.ownsRow w.heap.size 65 4 v M.length (M.flatMap lentC) ∧ Ext w w'
set_option maxRecDepth 100000 in
set_option maxHeartbeats 1600000 in
theorem out_any (tp : Option Addr) (tn tc : Nat) (T : List TitleV) (r : LendR) (dp : Option Addr) (dn dc : Nat) (d : List SlipV) (t : Int) (w : World) (h : ListsM w tp tn tc T r dp dn dc d) (ht : outB t 0 345686399999 = false) :
 Calls Tryz.prog 14 #[.slice tp tn tc, lendVal r, .slice dp dn dc, .int .i64 t] w (OutR T r d t w) := by
 have hat := fun u (hu : Ext w u) => atN_any tp tn tc T r dp dn dc d t u (h.ext hu) ht
 have hd := slipsF_right (libF_zero h.ok).2.2
 have hN := libAt_N (T := T) (r := r) (t := t) hd h.ss
 have hI := libAt_I (T := T) (r := r) (t := t) hd h.ss
 have hdl := h.sl.1.1
 have hdn := h.sn
 unfold lendVal at hat ⊢
 have hE : Ext w (w.alloc (.cells #[.int .i64 r.days, .int .i64 r.late, .int .i64 r.most, .int .i64 r.each] 28)) := (Ext.refl w).alloc _
 clear h; replace hat := Lib.hid hat; replace hE := Lib.hid hE; replace hN := Lib.hid hN; replace hI := Lib.hid hI
 go_enter Tryz.func14, Tryz.ntmps14
 go_wp2_with (first
  | (go_at_call 64; (with_reducible refine Calls.mono (hat.out _ hE.out) ?_); rintro e w1 ⟨base, bb, ms, ml, mh, q, rfl, hL, hb1⟩; have hle := lent_any hL (by have := hN.out.loans; omega) (out_diff hI.out); clear hat)
  | (go_at_call 68; (with_reducible refine Calls.mono hle ?_); rintro e w2 ⟨v, M, rfl, hp, hr, ho, hb2⟩))
 have hEw := hE.out.trans hb1
 have hres : OutR T r d t w (.returned (.tuple #[v, .int .i64 0])) w2 := ⟨v, M, rfl, hp, hr, own_low ho hEw.size, hEw.trans hb2⟩
 go_ret2
 exact hres
/-! ### State and Way -/
def LibP (tp : Option Addr) (tn tc : Nat) (r : LendR) (L : LibS) (u : World) (bb : Nat) : Prop := ∃ base ms ml mh q : Nat, LibM base u bb ms ml mh q tp tn tc r L
theorem LibP.ext {tp : Option Addr} {tn tc : Nat} {r : LendR} {L : LibS} {u v : World} {bb : Nat} (h : LibP tp tn tc r L u bb) (he : Ext u v) : LibP tp tn tc r L v bb := by
 obtain ⟨base, ms, ml, mh, q, h⟩ := h
 exact ⟨base, ms, ml, mh, q, h.ext he⟩
end Go.Proofs.YtkjhbofbcmelgaaGreatDoor
