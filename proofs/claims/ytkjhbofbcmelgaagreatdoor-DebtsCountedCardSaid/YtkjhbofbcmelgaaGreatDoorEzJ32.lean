/- Those that are out are with one singer each: plain. Conditions: as each theorem says. What is owed for loans: plain. Conditions: as each theorem says. What is owed for a loan: the walks of due and owed. Conditions: sizes. Debts sorted, by both texts. Conditions: sizes. The kinds of maps that the property of copies that are out uses. Conditions: as each theorem says. -/
import Derived.Test.YtkjhbofbcmelgaaGreatDoorEzJ31
import Derived.Test.YtkjhbofbcmelgaaGreatDoorEzJ17
import Derived.Test.YtkjhbofbcmelgaaGreatDoorEzJ16
import Derived.Test.YtkjhbofbcmelgaaGreatDoorEzJ20
import Derived.Test.YtkjhbofbcmelgaaGreatDoorEzJ5
import Derived.Test.YtkjhbofbcmelgaaGreatDoorEzJ11
import Derived.Shelf.SlSortCmp.NoneTotal
import Derived.Shelf.SlSortCmp.InsertionK
set_option linter.unusedSimpArgs false
set_option linter.unusedVariables false
namespace Go.Proofs.YtkjhbofbcmelgaaGreatDoor
open Go Go.RowKit Go.Sort
theorem nodup_sub {α : Type} [DecidableEq α] : ∀ {A B : List α}, A.Nodup → (∀ x ∈ A, x ∈ B) → A.length ≤ B.length
 | [], _, _, _ => by simp
 | a :: A, B, hn, hs => by
   obtain ⟨h1, h2⟩ := List.nodup_cons.1 hn
   have hm := hs a List.mem_cons_self
   obtain ⟨X, Y, rfl⟩ := List.append_of_mem hm
   have h3 := nodup_sub (A := A) (B := X ++ Y) h2 fun x hx => by
    have := hs x (List.mem_cons_of_mem _ hx)
    rcases List.mem_append.1 this with h | h
    ·exact List.mem_append_left _ h
    ·rcases List.mem_cons.1 h with h | h
     ·exact absurd (h ▸ hx) h1
     ·exact List.mem_append_right _ h
   simp only [List.length_append, List.length_cons] at h3 ⊢
   omega
end Go.Proofs.YtkjhbofbcmelgaaGreatDoor
namespace Go.Proofs.YtkjhbofbcmelgaaGreatDoor
open Go Go.RowKit Go.Sort
/-! ### what always holds of loans -/
def LoanT (l : LoanV) : Prop := (0 ≤ l.since ∧ l.since ≤ 345686399999) ∧ (-1 ≤ l.till ∧ l.till ≤ 345686399999) ∧ keyB l.singer = true
def LibT (L : LibS) : Prop := ∀ l ∈ L.loans, LoanT l
theorem slipD_T {n : Nat} {T : List TitleV} {r : LendR} {L : LibS} {x : SlipV} (h : LibT L) (hn : LibN n L) (hx : SlipOk x) : LibT (slipD T r L x).1 := by
 unfold slipD
 by_cases h1 : isCopyT T (x.piece, x.copy) = false
 ·rw [if_pos h1]; exact h
 rw [if_neg h1]
 by_cases h2 : L.at_ (x.piece, x.copy) ≠ needW x.kind
 ·rw [if_pos h2]; exact h
 rw [if_neg h2]
 have h2 : L.at_ (x.piece, x.copy) = needW x.kind := Classical.byContradiction h2
 have hset : ∀ (y : LoanV), (L.at_ (x.piece, x.copy) = outW ∨ L.at_ (x.piece, x.copy) = lostW) → (LoanT (lastL L (x.piece, x.copy)) → LoanT y) → ∀ l ∈ L.loans.set (lastI L (x.piece, x.copy)) y, LoanT l := fun y hs hy l hl => by
  obtain ⟨i, e1, e2⟩ := hn.ok.last _ hs
  rcases List.mem_or_eq_of_mem_set hl with hl | rfl
  ·exact h l hl
  ·exact hy (h _ (List.mem_of_getElem? (lastL_of e1 e2)))
 by_cases k1 : x.kind = 1
 ·rw [if_pos k1]
  unfold lendD
  by_cases h3 : x.piece ∈ ownOf L x.singer
  ·rw [if_pos h3]; exact h
  rw [if_neg h3]
  by_cases h4 : r.each ≤ (ownOf L x.singer).length
  ·rw [if_pos h4]; exact h
  rw [if_neg h4]
  intro l hl
  rcases List.mem_append.1 hl with hl | hl
  ·exact h l hl
  ·rw [List.mem_singleton.1 hl]
   exact ⟨hx.at_, ⟨by simp only; omega, by simp only; omega⟩, (hx.singer.resolve_right fun hh => hh.1 k1).2⟩
 rw [if_neg k1]
 by_cases k2 : x.kind = 2 ∨ x.kind = 3
 ·rw [if_pos k2]
  refine hset _ (.inl (by rw [h2]; rcases k2 with e | e <;> rw [e] <;> rfl)) fun hh => ⟨hh.1, ⟨?_, hx.at_.2⟩, hh.2.2⟩
  have := hx.at_.1
  simp only
  omega
 rw [if_neg k2]
 by_cases k4 : x.kind = 4
 ·rw [if_pos k4]
  exact hset _ (.inr (by rw [h2, k4]; rfl)) fun hh => hh
 rw [if_neg k4]
 exact h
theorem run_T {T : List TitleV} {r : LendR} {d : List SlipV} (hd : ∀ x ∈ d, SlipOk x ∧ x.singer.size ≤ 1000000) {is : List Nat} (hi : ∀ i ∈ is, i < d.length) : ∀ (k : Nat), k ≤ is.length → k ≤ 100000 → LibT (runR T r d (LibS.new, fun _ => none) (is.take k)).1
 | 0, _, _ => by
   intro l hl
   simp [runR, LibS.new] at hl
 | k + 1, hk, hb => by
   have e : is[k]? = some is[k] := List.getElem?_eq_getElem (by omega)
   rw [run_take e]
   have hm : is[k] < d.length := hi _ (List.getElem_mem _)
   have hx := hd d[is[k]] (List.getElem_mem _)
   have ed : d.getD is[k] default = d[is[k]] := by rw [List.getD_eq_getElem?_getD, List.getElem?_eq_getElem hm]; rfl
   unfold stepR
   rw [ed]
   exact slipD_T (run_T hd hi k (by omega) (by omega)) (run_ok (fun x hx => ⟨(hd x hx).1.kind, (hd x hx).2⟩) hi k (by omega) (by omega)) hx.1
theorem libAt_T {T : List TitleV} {r : LendR} {d : List SlipV} {t : Int} (hd : RightS d) (hs : ∀ x ∈ d, x.Small) : LibT (libAt T r d t).1 := by
 have h := run_T (T := T) (r := r) (d := d) (fun x hx => ⟨slip_ok (hd.one x hx), (hs x hx).2.2⟩) (is := ordF d t) (fun i hi => (mem_ord.1 hi).1) (ordF d t).length (Nat.le_refl _) (by have := ord_len d t; have := hd.len; omega)
 rw [List.take_length] at h
 exact h
/-! ### what is owed -/
def dueF (r : LendR) (s : Int) : Int := s + r.days * 86400000
def overF (r : LendR) (t : Int) (l : LoanV) : Int := (if l.till < 0 then t else l.till) - dueF r l.since
def costF (T : List TitleV) (p : ByteArray) : Int := ((titleOf T p).getD ⟨⟨#[]⟩, 0,0⟩).cost
def lateF (r : LendR) (v : Int) : Int := if 0 < v then min ((v + 86399999) / 86400000 * r.late) r.most else 0
def owedF (T : List TitleV) (r : LendR) (t : Int) (l : LoanV) : Int := lateF r (overF r t l) + if l.lost then costF T l.piece else 0
structure LendOk (r : LendR) : Prop where
 days : 1 ≤ r.days ∧ r.days ≤ 1000
 late : 0 ≤ r.late ∧ r.late ≤ 10000
 most : 0 ≤ r.most ∧ r.most ≤ 10000
 each : 1 ≤ r.each ∧ r.each ≤ 300
theorem lend_ok {r : LendR} (h : lendF r = 0) : LendOk r := by
 unfold lendF at h
 split at h
 ·rename_i h1
  unfold inB at h1
  simp at h1
  exact ⟨h1.1.1.1, h1.1.1.2, h1.1.2, h1.2⟩
 ·cases h
theorem over_bound {r : LendR} {t : Int} {l : LoanV} (hr : LendOk r) (ht : 0 ≤ t ∧ t ≤ 345686399999) (hl : LoanT l) : -432086399999 ≤ overF r t l ∧ overF r t l ≤ 345686399999 := by
 obtain ⟨⟨a1, a2⟩, ⟨a3, a4⟩, -⟩ := hl
 have h1 := hr.days
 unfold overF dueF
 have h2 : r.days * 86400000 ≤ 86400000000 := by omega
 have h3 : 86400000 ≤ r.days * 86400000 := by omega
 split <;> omega
theorem mul_bound {a b A B : Int} (ha : 0 ≤ a ∧ a ≤ A) (hb : 0 ≤ b ∧ b ≤ B) : 0 ≤ a * b ∧ a * b ≤ A * B :=
 ⟨Int.mul_nonneg ha.1 hb.1, Int.mul_le_mul ha.2 hb.2 hb.1 (Int.le_trans ha.1 ha.2)⟩
theorem days_bound {v : Int} (h0 : 0 < v) (h1 : v ≤ 345686399999) : 0 ≤ (v + 86399999) / 86400000 ∧ (v + 86399999) / 86400000 ≤ 4002 := by omega
theorem late_bound {r : LendR} {v : Int} (hr : LendOk r) (h1 : v ≤ 345686399999) : 0 ≤ lateF r v ∧ lateF r v ≤ 10000 := by
 unfold lateF
 split
 ·rename_i h0
  have h2 := (mul_bound (days_bound h0 h1) hr.late).1
  have h3 := hr.most
  omega
 ·omega
theorem cost_bound {T : List TitleV} (hT : TitlesOk T) (p : ByteArray) : 0 ≤ costF T p ∧ costF T p ≤ 10000 := by
 unfold costF
 cases e : titleOf T p with
 | none => simp
 | some t =>
   have h := hT.one t (titleOf_get e).1
   exact h.2.2.2
theorem owed_bound {T : List TitleV} {r : LendR} {t : Int} {l : LoanV} (hT : TitlesOk T) (hr : LendOk r) (ht : 0 ≤ t ∧ t ≤ 345686399999) (hl : LoanT l) : 0 ≤ owedF T r t l ∧ owedF T r t l ≤ 20000 := by
 have h1 := late_bound hr (over_bound hr ht hl).2
 have h2 := cost_bound hT l.piece
 unfold owedF
 split <;> omega
/-- All that a singer owes. -/
def sumD (T : List TitleV) (r : LendR) (t : Int) (X : List LoanV) (s : ByteArray) : Int := ((X.filter fun l => decide (l.singer = s)).map (owedF T r t)).sum
theorem sumD_snoc (T : List TitleV) (r : LendR) (t : Int) (X : List LoanV) (l : LoanV) (s : ByteArray) : sumD T r t (X ++ [l]) s = sumD T r t X s + if l.singer = s then owedF T r t l else 0 := by
 unfold sumD
 rw [List.filter_append, List.map_append, List.sum_append]
 by_cases h : l.singer = s <;> simp [h]
theorem sumD_bound {T : List TitleV} {r : LendR} {t : Int} (hT : TitlesOk T) (hr : LendOk r) (ht : 0 ≤ t ∧ t ≤ 345686399999) (s : ByteArray) : ∀ {X : List LoanV}, (∀ l ∈ X, LoanT l) → 0 ≤ sumD T r t X s ∧ sumD T r t X s ≤ 20000 * X.length
 | [], _ => by simp [sumD]
 | l :: X, h => by
   have ih := sumD_bound hT hr ht s (X := X) fun z hz => h z (List.mem_cons_of_mem _ hz)
   have h1 := owed_bound hT hr ht (h l List.mem_cons_self)
   unfold sumD at ih ⊢
   by_cases e : l.singer = s
   ·rw [List.filter_cons_of_pos (by simpa using e)]
    simp only [List.map_cons, List.sum_cons, List.length_cons]
    omega
   ·rw [List.filter_cons_of_neg (by simpa using e)]
    simp only [List.length_cons]
    omega
def owedM (T : List TitleV) (r : LendR) (t : Int) (X : List LoanV) : ByteArray → Option Int := fun s => if X.any (fun l => decide (l.singer = s)) = true then some (sumD T r t X s) else none
theorem owedM_nil (T : List TitleV) (r : LendR) (t : Int) : owedM T r t [] = fun _ => none := rfl
theorem owedM_get (T : List TitleV) (r : LendR) (t : Int) (X : List LoanV) (s : ByteArray) : (owedM T r t X s).getD 0 = sumD T r t X s := by
 unfold owedM
 split
 ·rfl
 ·rename_i h
  unfold sumD
  rw [List.filter_eq_nil_iff.2 fun l hl => ?_]
  ·rfl
  ·intro e
   exact h (List.any_eq_true.2 ⟨l, hl, e⟩)
theorem owedM_put (T : List TitleV) (r : LendR) (t : Int) (X : List LoanV) (l : LoanV) : updK (owedM T r t X) l.singer (sumD T r t X l.singer + owedF T r t l) = owedM T r t (X ++ [l]) := by
 funext s
 unfold updK owedM
 rw [List.any_append, sumD_snoc]
 by_cases e : s = l.singer
 ·subst e
  simp
 ·rw [if_neg e]
  have e2 : ¬ l.singer = s := fun h => e h.symm
  simp [e2]
abbrev DebtV := ByteArray × Int
def debtLt (a b : DebtV) : Prop := b.2 < a.2 ∨ (a.2 = b.2 ∧ cmpS a.1 b.1 = -1)
theorem debtLt_asym {a b : DebtV} (h : debtLt a b) (k : debtLt b a) : False := by
 rcases h with h | ⟨h, h'⟩ <;> rcases k with k | ⟨k, k'⟩
 ·omega
 ·omega
 ·omega
 ·have h9 := cmpS_trans h' k'
  rw [cmpS_refl] at h9
  cases h9
def DebtP (T : List TitleV) (r : LendR) (t : Int) (X : List LoanV) (M : List DebtV) : Prop := M.Pairwise debtLt ∧ ∀ z : DebtV, z ∈ M ↔ owedM T r t X z.1 = some z.2 ∧ 0 < z.2
theorem debt_nodup {M : List DebtV} (h : M.Pairwise debtLt) : M.Nodup := h.imp fun h e => by subst e; exact debtLt_asym h h
theorem debt_uniq {T : List TitleV} {r : LendR} {t : Int} {X : List LoanV} {M N : List DebtV} (h : DebtP T r t X M) (k : DebtP T r t X N) : M = N :=
 same_of (fun _ _ => debtLt_asym) h.1 k.1 ((List.perm_ext_iff_of_nodup (debt_nodup h.1) (debt_nodup k.1)).2 fun z => (h.2 z).trans (k.2 z).symm)
def debtPair (z : DebtV) : ByteArray × ByteArray := (z.1, itoaL z.2)
end Go.Proofs.YtkjhbofbcmelgaaGreatDoor
namespace Go.Proofs.YtkjhbofbcmelgaaGreatDoor
open Go Go.RowKit
set_option maxRecDepth 100000 in
theorem due_any (bb : Nat) (cs : Array Value) (r : LendR) (v : Int) (w : World) (hB : Blk w bb 130 cs) (h1 : cs[1]? = some (.int .i64 r.days)) (hr : LendOk r) (hv : 0 ≤ v ∧ v ≤ 345686399999) :
 Calls Tryz.prog 90 #[.pointer (some ⟨bb, 0, none⟩), .int .i64 v] w fun e w' => e = .returned (.int .i64 (dueF r v)) ∧ w = w' := by
 have hl := hB.lt
 have c1 := (hB.cell 1).trans h1
 obtain ⟨h2, h3⟩ := hr.days
 have hw1 : IntKind.i64.wrap (r.days * 86400000) = r.days * 86400000 := IntWalk.i64_in _ (by omega)
 have hw2 : IntKind.i64.wrap (v + r.days * 86400000) = v + r.days * 86400000 := IntWalk.i64_in _ (by omega)
 replace hr := Lib.hid hr; replace hB := Lib.hid hB
 go_enter Tryz.func90, Tryz.ntmps90
 go_wp2
 go_ret
 exact ⟨rfl, rfl⟩
set_option maxRecDepth 100000 in
set_option maxHeartbeats 1600000 in
theorem owed_any (bb : Nat) (cs : Array Value) (tp : Option Addr) (tn tc : Nat) (T : List TitleV) (r : LendR) (t : Int) (l : LoanV) (w : World) (hB : Blk w bb 130 cs) (h0 : cs[0]? = some (.slice tp tn tc)) (h1 : cs[1]? = some (.int .i64 r.days)) (h2 : cs[2]? = some (.int .i64 r.late)) (h3 : cs[3]? = some (.int .i64 r.most))
 (hT : Slc 3 titleC w tp tn tc T) (hTo : TitlesOk T) (hr : LendOk r) (ht : 0 ≤ t ∧ t ≤ 345686399999) (hl : LoanT l) :
 Calls Tryz.prog 82 #[.pointer (some ⟨bb, 0, none⟩), .agg (loanC l).toArray, .int .i64 t] w fun e w' => e = .returned (.int .i64 (owedF T r t l)) ∧ Ext w w' := by
 obtain ⟨tl, htl⟩ : ∃ tl, tl = if l.till < 0 then t else l.till := ⟨_, rfl⟩
 have hov : overF r t l = tl - dueF r l.since := by rw [htl]; rfl
 have hob := over_bound hr ht hl
 have hlb := late_bound hr hob.2
 have hcb := cost_bound hTo l.piece
 have hres : owedF T r t l = lateF r (overF r t l) + if l.lost then costF T l.piece else 0 := rfl
 rw [hres]
 have hdu := fun u (hu : Ext w u) => due_any bb cs r l.since u (hB.ext hu) h1 hr hl.1
 have htt := fun u (hu : Ext w u) => title_any bb cs tp tn tc T l.piece u (hB.ext hu) h0 (hT.ext hu) hTo
 have hco : ((titleOf T l.piece).getD ⟨⟨#[]⟩, 0,0⟩).cost = costF T l.piece := rfl
 have hcell : ∀ u, Ext w u → u.cell? ⟨bb, 2, none⟩ = some (.int .i64 r.late) ∧ u.cell? ⟨bb, 3, none⟩ = some (.int .i64 r.most) := fun u hu => ⟨((hB.ext hu).cell 2).trans h2, ((hB.ext hu).cell 3).trans h3⟩
 have hla : ∀ o, lateF r o = if 0 < o then min ((o + 86399999) / 86400000 * r.late) r.most else 0 := fun o => rfl
 have hlt := hr.late
 have hmo := hr.most
 have hbl := hB.lt
 have hX := Blk.new' (w := w) (g := w.heap.size) (t := 132) (cs := (loanC l).toArray) rfl
 have hE : Ext w (w.alloc (.cells (loanC l).toArray 132)) := (Ext.refl w).alloc _
 have ht1 := hl.2.1
 generalize hov2 : overF r t l = o at *
 generalize dueF r l.since = du at *
 have hwo : IntKind.i64.wrap (tl - du) = o := by rw [← hov]; exact IntWalk.i64_in _ (by omega)
 unfold titleVal at htt
 rw [hco] at htt
 generalize costF T l.piece = co at *
 generalize ((titleOf T l.piece).getD ⟨⟨#[]⟩, 0,0⟩).piece = tpi at *
 generalize ((titleOf T l.piece).getD ⟨⟨#[]⟩, 0,0⟩).owned = tow at *
 generalize (titleOf T l.piece).isSome = tis at *
 unfold loanC at hX hE ⊢
 generalize l.lost = lo at *
 obtain ⟨la, hle⟩ : ∃ la, la = lateF r o := ⟨_, rfl⟩
 rw [← hle] at hlb
 replace hle := Lib.hid hle; clear hr hl hres hco hT hTo hB h0 h1 h2 h3 hov hov2; replace hdu := Lib.hid hdu; replace htt := Lib.hid htt; replace hcell := Lib.hid hcell; replace hE := Lib.hid hE; replace hla := Lib.hid hla; replace htl := Lib.hid htl; replace hlt := Lib.hid hlt; replace hmo := Lib.hid hmo; replace hwo := Lib.hid hwo; replace hlb := Lib.hid hlb; replace hcb := Lib.hid hcb
 replace hob := Lib.hid hob
 go_enter Tryz.func82, Tryz.ntmps82
 go_upto_region 1 with fail
 have lx := hX.lt
 have x0 := hX.cell 0
 have x2 := hX.cell 2
 have x3 := hX.cell 3
 have x4 := hX.cell 4
 generalize hgl : w.heap.size = gl at *
 generalize (w.alloc (.cells #[.string l.piece, .int .i64 l.no, .string l.singer, .int .i64 l.since, .int .i64 l.till, .bool lo] 132)) = W1 at *
 replace hgl := Lib.hid hgl
 go_upto_if 16 with fail
 go_cut [7] (fun v7 w' => v7 = .int .i64 tl ∧ w' = W1)
 case first =>
  by_cases hneg : l.till < 0
  ·have e := htl.out
   rw [if_pos hneg] at e
   go_wp2
   go_meet
   exact ⟨by rw [e], rfl⟩
  ·have e := htl.out
   rw [if_neg hneg] at e
   go_wp2
   go_meet
   exact ⟨by rw [e], rfl⟩
 case rest =>
  obtain ⟨rfl, hwc⟩ := hcut
  subst hwc
  obtain ⟨W1, rfl⟩ : ∃ w9, w9 = wc := ⟨_, rfl⟩
  have hwo2 := hwo.out
  go_upto_if 25 with (go_at_call 90; (with_reducible refine Calls.mono (hdu.out _ hE.out) ?_); rintro e w2 ⟨rfl, rfl⟩)
  clear hwo2
  go_cut [8] (fun v8 w' => v8 = .int .i64 la ∧ Ext W1 w')
  case first =>
   by_cases hpos : 0 < o
   ·have hq0 := days_bound hpos hob.out.2
    have hqq : Int.tdiv (o + 86399999) 86400000 = (o + 86399999) / 86400000 := Int.tdiv_eq_ediv_of_nonneg (by omega)
    have hw1 : IntKind.i64.wrap (o + 86400000) = o + 86400000 := IntWalk.i64_in _ (by have := hob.out; omega)
    have hw2 : IntKind.i64.wrap (o + 86400000 - 1) = o + 86399999 := by rw [show o + 86400000 - 1 = o + 86399999 by omega]; exact IntWalk.i64_in _ (by have := hob.out; omega)
    have hml := hla.out o
    rw [if_pos hpos] at hml
    generalize (o + 86399999) / 86400000 = qd at *
    have hwq : IntKind.i64.wrap qd = qd := IntWalk.i64_in _ (by omega)
    have hmb := mul_bound hq0 hlt.out
    have hwm : IntKind.i64.wrap (qd * r.late) = qd * r.late := IntWalk.i64_in _ (by omega)
    replace hml := Lib.hid hml; replace hmb := Lib.hid hmb; replace hq0 := Lib.hid hq0
    go_upto_region 8 with fail
    have hm1 : (if r.most < qd * r.late then r.most else qd * r.late) = la := by rw [hle.out, hml.out]; split <;> omega
    have hm2 : min (qd * r.late) r.most = la := by rw [hle.out, hml.out]
    have hm3 : (if qd * r.late ≤ r.most then qd * r.late else r.most) = la := by rw [hle.out, hml.out]; split <;> omega
    refine wp_region_planS [(0, true), (1, true), (2, true), (3, true), (4, true), (5, true), (6, true), (7, true), (8, true), (9, true), (10, true), (11, true), (12, true)] 13 (fun w' => Ext W1 w' ∧ Ext W1 w') Ext (by kernel_rfl) (by kernel_rfl) Ext.refl (fun _ _ _ => Ext.trans) (fun _ _ h he => ⟨h.1.trans he, h.2.trans he⟩) ⟨(by (repeat (with_reducible first | assumption | exact Blk.new' (by simp) | refine Blk.drew ?_ | refine Blk.alloc ?_ _ | exact Ext.refl _ | refine Ext.drew ?_ | refine Ext.alloc ?_ _))), (by (repeat (with_reducible first | assumption | exact Blk.new' (by simp) | refine Blk.drew ?_ | refine Blk.alloc ?_ _ | exact Ext.refl _ | refine Ext.drew ?_ | refine Ext.alloc ?_ _)))⟩ ?_
    repeat
     first
      | (refine plan_quiet rfl rfl (fun _ _ _ _ h => h) ?_
         apply Exists.intro
         refine ⟨fun w' hw' => ?_, ?_⟩
         ·obtain ⟨hHq0, hHq1⟩ := hw'
          have v2 := (hcell.out _ (hE.out.trans hHq0)).1; have v3 := (hcell.out _ (hE.out.trans hHq0)).2
          skip
          simp [go_sem, quietTo, Ext.refl, ↓IntWalk.iteOmega, v2, v3, hwm, hm1, hm2, hm3]
          first
           | rfl
         simp only [Act.put, sIA, sCS, sCZ])
      | (refine plan_skip rfl rfl (fun _ _ _ _ h => h) ?_
         simp only [Act.put, sIA, sCS, sCZ])
    refine plan_nil fun wrq herq hwrq => ?_
    clear herq
    obtain ⟨hHq0, hHq1⟩ := hwrq
    simp only [List.drop_succ_cons, List.drop_zero, List.drop_nil]
    go_wp2
    go_meet
    exact ⟨rfl, hHq0⟩
   ·have hml := hla.out o
    rw [if_neg hpos] at hml
    replace hml := Lib.hid hml
    go_wp2
    go_meet
    exact ⟨by rw [hle.out, hml.out], Ext.refl _⟩
  case rest =>
   obtain ⟨rfl, he⟩ := hcut
   have lw := he.size
   have hX2 := hX.ext he
   have y0 := hX2.cell 0
   have y4 := hX2.cell 5
   have hlb2 := hlb.out
   have hwl : IntKind.i64.wrap (la + co) = la + co := IntWalk.i64_in _ (by have := hcb.out; omega)
   clear hla hX hX2 x0 x2 x3 x4
   cases lo
   ·go_wp2
    go_ret
    exact ⟨by simp [hle.out], hE.out.trans he⟩
   ·go_wp2_with (go_at_call 106; (with_reducible refine Calls.mono (htt.out _ (hE.out.trans he)) ?_); rintro e w3 ⟨rfl, hb3⟩)
    go_ret
    exact ⟨by simp [hle.out], ((hE.out.trans he).trans hb3).alloc _⟩
end Go.Proofs.YtkjhbofbcmelgaaGreatDoor
namespace Go.Proofs.YtkjhbofbcmelgaaGreatDoor
open Go Go.RowKit Go.Sort
def debtC (x : DebtV) : List Value := [.string x.1, .int .i64 x.2]
theorem debtC_len (x : DebtV) : (debtC x).length = 2 := rfl
theorem debtC_one (x : DebtV) : ∀ u ∈ debtC x, u.oneCell' = true := by simp [debtC, Value.oneCell']
def debtN (x : DebtV) : Int := -x.2
theorem cmpZ_negD (x y : Int) : cmpZ (-x) (-y) = cmpZ y x := by unfold cmpZ; split <;> split <;> (try split) <;> (try split) <;> omega
theorem debtLt_K (a b : DebtV) : LtK debtN Prod.fst a b ↔ debtLt a b := by unfold LtK debtN debtLt; constructor <;> rintro (h | ⟨h, k⟩) <;> first | exact .inl (by omega) | exact .inr ⟨by omega, k⟩
set_option maxRecDepth 100000 in
set_option maxHeartbeats 1600000 in
theorem debtG_any (a b : DebtV) (w : World) :
 Calls Tryz.prog 84 #[.agg #[.string a.1, .int .i64 a.2], .agg #[.string b.1, .int .i64 b.2]] w fun e w' => e = .returned (.int .i64 (cmpK debtN Prod.fst a b)) ∧ ∃ q os', w' = grow (w.drewN q) os' := by
 have hF : cmpK debtN Prod.fst a b = orF [cmpZ b.2 a.2, cmpS a.1 b.1] := by unfold cmpK debtN; rw [cmpZ_negD]
 rw [hF]
 clear hF
 have hX : Blk ((w.alloc (.cells #[.string a.1, .int .i64 a.2] 155)).alloc (.cells #[.string b.1, .int .i64 b.2] 155)) w.heap.size 155 #[.string a.1, .int .i64 a.2] := (Blk.new' rfl).alloc _
 have hY : Blk ((w.alloc (.cells #[.string a.1, .int .i64 a.2] 155)).alloc (.cells #[.string b.1, .int .i64 b.2] 155)) (w.heap.size + 1) 155 #[.string b.1, .int .i64 b.2] := Blk.new' (by simp)
 go_enter Tryz.func84, Tryz.ntmps84
 go_upto_region 1 with fail
 refine wp_region_planS [(0, true), (1, true), (2, true), (3, true), (4, true), (5, true), (6, true), (7, true), (8, true), (9, true)] 10 (fun w' => Blk w' w.heap.size 155 #[.string a.1, .int .i64 a.2] ∧ Blk w' (w.heap.size + 1) 155 #[.string b.1, .int .i64 b.2]) Drw (by kernel_rfl) (by kernel_rfl) Drw.refl (fun _ _ _ => Drw.trans) (fun _ _ h he => ⟨h.1.drw he, h.2.drw he⟩) ⟨(by (repeat (with_reducible first | assumption | exact Blk.new' (by simp) | refine Blk.drew ?_ | refine Blk.alloc ?_ _ | exact Drw.refl _ | refine Ext.drew ?_ | refine Ext.alloc ?_ _))), (by (repeat (with_reducible first | assumption | exact Blk.new' (by simp) | refine Blk.drew ?_ | refine Blk.alloc ?_ _ | exact Drw.refl _ | refine Ext.drew ?_ | refine Ext.alloc ?_ _)))⟩ ?_
 repeat
  first
   | (refine plan_quiet rfl rfl (fun _ _ _ _ h => h) ?_
      apply Exists.intro
      refine ⟨fun w' hw' => ?_, ?_⟩
      ·obtain ⟨hH0, hH1⟩ := hw'
       unfold Blk at hH0 hH1
       simp [go_sem, quietTo, World.cell?, hH0, hH1, Drw.refl, ↓IntWalk.iteOmega]
       first
        | rfl
        | (exact cmpIntE_any _ _ _)
        | (exact cmpSE_any _ _ _)
      simp only [Act.put, sIA, sCS, sCZ])
   | (refine plan_skip rfl rfl (fun _ _ _ _ h => h) ?_
      simp only [Act.put, sIA, sCS, sCZ])
 refine plan_nil fun wr her hwr => ?_
 obtain ⟨hH0, hH1⟩ := hwr
 obtain ⟨hC0, hF0⟩ := hH0.walk
 obtain ⟨hC1, hF1⟩ := hH1.walk
 simp only [List.drop_succ_cons, List.drop_zero, List.drop_nil]
 go_wp2_with (go_at_call 85; refine (orInt_blk _ _ 2 [cmpZ b.2 a.2, cmpS a.1 b.1] _ (by simp) (Blk.new' rfl)).mono ?_; rintro e w2 ⟨rfl, rfl⟩)
 go_ret
 refine ⟨rfl, ?_⟩
 obtain ⟨q, rfl⟩ := her
 exact ⟨q + 1, _, grow_three _ _ _ _ _⟩
set_option maxRecDepth 100000 in
theorem debtF_any (a b : DebtV) (w : World) :
 Calls Tryz.prog 96 #[.agg #[.string a.1, .int .i64 a.2], .agg #[.string b.1, .int .i64 b.2]] w fun e w' => e = .returned (.int .i64 (cmpF debtN a b)) ∧ ∃ q os', w' = grow (w.drewN q) os' := by
 have hF : cmpF debtN a b = cmpZ b.2 a.2 := by unfold cmpF debtN; rw [cmpZ_negD]
 rw [hF]
 clear hF
 go_enter Tryz.func96, Tryz.ntmps96
 go_wp2_with (go_at_call 86; (with_reducible refine Calls.mono (cmpIntE_any _ _ _) ?_); rintro e w2 ⟨rfl, q, rfl⟩)
 go_ret
 exact ⟨rfl, q, _, grow_two _ _ _ _⟩
set_option maxRecDepth 100000 in
theorem sortDebt_any {w : World} {base g n cap : Nat} {L : List DebtV} (h : w.ownsRow base 155 2 (.slice (some ⟨g, 0, none⟩) n cap) n (L.flatMap debtC)) (hn : L.length = n) (hn1 : n ≤ 1000) (hok : L.Pairwise fun a b => a.1 ≠ b.1) :
 Calls Tryz.prog 83 #[.slice (some ⟨g, 0, none⟩) n cap, .func (.func 84) #[] #[]] w fun e w' => e = .returned (.tuple #[]) ∧ ∃ M : List DebtV, ByK debtN Prod.fst L M ∧ w'.ownsRow base 155 2 (.slice (some ⟨g, 0, none⟩) n cap) n (M.flatMap debtC) ∧ ∀ a : World, Ext a w → a.heap.size ≤ g → Ext a w' := by
 have hgl := (h.lt g rfl).2
 subst hn
 have hs := AnyQ.slices_SortFunc Tryz.lsfDebt 2 Tryz.isAgg155 Tryz.sizeOf155 debtC debtC_len debtC_one (cmpK debtN Prod.fst) (k_swo _ _) 84 #[] g 0 cap L.toArray w (fun args u => by rfl) (fun m os dk _ x y => debtG_any x y _) (holdsK_own debtC_len h) hgl (by simp; omega)
 refine hs.mono fun e w' ⟨he, d', q, os, hp, hso, hw⟩ => ?_
 have hby : ByK debtN Prod.fst L d'.toList := byK_of _ _ hok (by simpa using hp) (by simpa using hso)
 refine ⟨he, d'.toList, hby, ?_, ?_⟩
 ·rw [hw]
  exact own_sortK debtC_len h hby.1.length_eq
 ·intro a ha hg
  rw [hw]
  exact ext_sortK ha hg
set_option maxRecDepth 100000 in
theorem stableDebt_any {w : World} {base g n cap : Nat} {L : List DebtV} (h : w.ownsRow base 165 2 (.slice (some ⟨g, 0, none⟩) n cap) n (L.flatMap debtC)) (hn : L.length = n) (hn1 : n ≤ 19) (hok : L.Pairwise fun a b => cmpS a.1 b.1 = -1) :
 Calls Tryz.prog 95 #[.slice (some ⟨g, 0, none⟩) n cap, .func (.func 96) #[] #[]] w fun e w' => e = .returned (.tuple #[]) ∧ ∃ M : List DebtV, ByK debtN Prod.fst L M ∧ w'.ownsRow base 165 2 (.slice (some ⟨g, 0, none⟩) n cap) n (M.flatMap debtC) ∧ ∀ a : World, Ext a w → a.heap.size ≤ g → Ext a w' := by
 have hgl := (h.lt g rfl).2
 have hs := AnyQ.insertionSortCmpFunc Tryz.lisDebt 2 Tryz.isAgg165 Tryz.sizeOf165 debtC debtC_len debtC_one (cmpF debtN) 96 #[] g 0 cap 0 n L.toArray w (fun args u => by rfl) (fun m os dk _ x y => debtF_any x y _) (holdsK_own debtC_len h) hgl (Nat.zero_le _) (by simp; omega) (by simp; omega)
 have hsz : L.toArray.size = n := by simpa using hn
 rw [hsz] at hs
 have hby := stableK_of debtN Prod.fst hok
 have hC : Calls Tryz.prog 147 #[.slice (some ⟨g, 0, none⟩) n cap, .int .i64 n, .func (.func 96) #[] #[]] w fun e w' => e = .returned (.tuple #[]) ∧ ∃ m os, w' = sortWorldK debtC 2 w g 0 m (insertionSort (ltOf (cmpF debtN)) L.toArray 0 n) os := by
  replace hs := Lib.hid hs; clear hsz hby hn hok h
  go_enter Tryz.func147, Tryz.ntmps147
  go_wp2
  refine wp_loop_rounds 1 ?_
  rw [rounds_succ]
  go_wp2_with (go_at_call 192; refine hs.out.mono ?_; rintro e w' ⟨rfl, m, os, rfl⟩)
  refine wp_loop_rounds 1 ?_
  rw [rounds_succ]
  go_wp2
  go_end0
  exact ⟨rfl, m, os, rfl⟩
 have hS : Calls Tryz.prog 95 #[.slice (some ⟨g, 0, none⟩) n cap, .func (.func 96) #[] #[]] w fun e w' => e = .returned (.tuple #[]) ∧ ∃ m os, w' = sortWorldK debtC 2 w g 0 m (insertionSort (ltOf (cmpF debtN)) L.toArray 0 n) os := by
  replace hC := Lib.hid hC; clear hs hsz hby hn hok h
  go_enter Tryz.func95, Tryz.ntmps95
  go_wp2_with (go_at_call 147; refine hC.out.mono ?_; rintro e w' ⟨rfl, m, os, rfl⟩)
  go_end0
  exact ⟨rfl, m, os, rfl⟩
 subst hn
 refine hS.mono fun e w' ⟨he, q, os, hw⟩ => ?_
 refine ⟨he, _, hby, ?_, ?_⟩
 ·rw [hw]
  exact own_sortK debtC_len h hby.1.length_eq
 ·intro a ha hg
  rw [hw]
  exact ext_sortK ha hg
theorem sortDebtNone_any (p : Option Addr) (cap : Nat) (fv : Value) (w : World) :
 Calls Tryz.prog 83 #[.slice p 0 cap, fv] w fun e w' => e = .returned (.tuple #[]) ∧ w = w' := (AnyF.slices_SortFunc_none Tryz.lsfDebt _ _ _ _).mono (fun _ _ h => And.intro h.1 h.2.symm)
set_option maxRecDepth 100000 in
theorem stableDebtNone_any (p : Option Addr) (cap : Nat) (fv : Value) (w : World) :
 Calls Tryz.prog 95 #[.slice p 0 cap, fv] w fun e w' => e = .returned (.tuple #[]) ∧ w = w' := by
 have hs := fun u => AnyF.insertionSortCmpFunc_none Tryz.lisDebt p cap fv u
 have hC : ∀ u, Calls Tryz.prog 147 #[.slice p 0 cap, .int .i64 0, fv] u fun e w' => e = .returned (.tuple #[]) ∧ u = w' := fun u => by
  replace hs := Lib.hid hs
  go_enter Tryz.func147, Tryz.ntmps147
  go_wp2
  refine wp_loop_rounds 1 ?_
  rw [rounds_succ]
  go_wp2_with (go_at_call 192; refine (hs.out _).mono ?_; rintro e w' ⟨rfl, rfl⟩)
  refine wp_loop_rounds 1 ?_
  rw [rounds_succ]
  go_wp2
  go_end0
  exact ⟨rfl, rfl⟩
 replace hC := Lib.hid hC; clear hs
 go_enter Tryz.func95, Tryz.ntmps95
 go_wp2_with (go_at_call 147; refine (hC.out _).mono ?_; rintro e w' ⟨rfl, rfl⟩)
 go_end0
 exact ⟨rfl, rfl⟩
theorem sortDebtAll_any {w : World} {base : Nat} {v : Value} {L : List DebtV} (h : w.ownsRow base 155 2 v L.length (L.flatMap debtC)) (hn1 : L.length ≤ 1000) (hok : L.Pairwise fun a b => a.1 ≠ b.1) :
 Calls Tryz.prog 83 #[v, .func (.func 84) #[] #[]] w fun e w' => e = .returned (.tuple #[]) ∧ ∃ M : List DebtV, ByK debtN Prod.fst L M ∧ w'.ownsRow base 155 2 v M.length (M.flatMap debtC) ∧ ∀ a : World, Ext a w → a.heap.size ≤ base → Ext a w' := by
 by_cases h0 : L.length = 0
 ·obtain ⟨q, d, rfl, -⟩ := slc_of_own debtC_len h (by decide) (by omega)
  obtain rfl : L = [] := List.eq_nil_of_length_eq_zero h0
  refine (sortDebtNone_any q d _ w).mono fun e w' hh => ?_
  obtain ⟨rfl, rfl⟩ := hh
  exact ⟨rfl, [], ⟨List.Perm.refl _, List.Pairwise.nil⟩, h, fun a ha _ => ha⟩
 ·obtain ⟨g, d, rfl, hg, hgl⟩ := h.form (by omega)
  refine (sortDebt_any h rfl (by omega) hok).mono fun e w' hh => ?_
  obtain ⟨rfl, M, hM, ho, hx⟩ := hh
  have hl := hM.1.length_eq
  exact ⟨rfl, M, hM, by rw [hl]; exact ho, fun a ha hb => hx a ha (by omega)⟩
end Go.Proofs.YtkjhbofbcmelgaaGreatDoor
namespace Go.Proofs.YtkjhbofbcmelgaaGreatDoor
open Go Go.RowKit Go.Maps Go.WideMaps
abbrev SpV := ByteArray × ByteArray
def strN : KMap Tryz.prog ByteArray Int where
 kt := 9
 mt := 152
 vt := 3
 kv := fun p => .string p
 ok := fun p => p.size ≤ 1000000
 val := fun v => .int .i64 v
 dat := fun v => .lit (.int .i64 v)
 rd := intRd
 zero := 0
 keyed := string_keyed Tryz.underlying9
 key := str_keyL
 inj := fun a b _ _ e => by cases e; rfl
 rd_mk := fun _ => rfl
 rd_inv := fun u v ps h => by
  unfold intRd at h
  split at h
  ·simp only [Option.some.injEq, Prod.mk.injEq, DataW.lit.injEq, Lit.int.injEq, true_and] at h
   rw [h.1]
  ·cases h
 und := Tryz.underlying152
 zer := fun w => Tryz.zeroValue3 w
instance memDecP (a : SpV) (l : List SpV) : Decidable (a ∈ l) := decidable_of_iff ((l.any fun z => decide (z = a)) = true) (by simp)
end Go.Proofs.YtkjhbofbcmelgaaGreatDoor
