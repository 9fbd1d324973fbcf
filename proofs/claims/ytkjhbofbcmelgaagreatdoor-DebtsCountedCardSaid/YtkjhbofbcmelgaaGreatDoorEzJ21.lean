/- The document's library follows slips as the package's does: plain. Conditions: as each theorem says. Open loans are not lost: plain. Conditions: as each theorem says. The copies that are out: the walks of lent and of Out. Conditions: sizes; at most 19 slips. -/
import Derived.Test.YtkjhbofbcmelgaaGreatDoorEzJ20
import Derived.Test.YtkjhbofbcmelgaaGreatDoorEzJ17
set_option linter.unusedSimpArgs false
set_option linter.unusedVariables false
namespace Go.Proofs.YtkjhbofbcmelgaaGreatDoor
open Go Go.RowKit Go.Sort
/-- The loans of a singer that are not ended. -/
def openOf (X : List LoanV) (s : ByteArray) : List LoanV := X.filter fun l => decide (l.Open ∧ l.singer = s)
theorem open_snoc (X : List LoanV) (l : LoanV) (s : ByteArray) : openOf (X ++ [l]) s = openOf X s ++ if l.Open ∧ l.singer = s then [l] else [] := by
 unfold openOf
 rw [List.filter_append]
 by_cases h : l.Open ∧ l.singer = s <;> simp [h]
theorem open_len (X : List LoanV) (s : ByteArray) : (openOf X s).length ≤ X.length := List.length_filter_le _ _
theorem own_mem {each t : Int} {L : LibS} (h : LibI each t L) (s p : ByteArray) : p ∈ ownOf L s ↔ ∃ l ∈ openOf L.loans s, l.piece = p := by
 unfold ownOf openOf
 cases e : L.has s with
 | none =>
   simp only [Option.getD_none, List.not_mem_nil, false_iff, List.mem_filter, decide_eq_true_eq]
   rintro ⟨l, ⟨h1, h2, h3⟩, -⟩
   exact h.none_ s e l h1 h2 h3
 | some o =>
   simp only [Option.getD_some, List.mem_filter, decide_eq_true_eq]
   rw [(h.has s o e).2 p]
   constructor
   ·rintro ⟨l, h1, h2, h3, h4⟩; exact ⟨l, ⟨h1, h2, h3⟩, h4⟩
   ·rintro ⟨l, ⟨h1, h2, h3⟩, h4⟩; exact ⟨l, h1, h2, h3, h4⟩
theorem own_len {n : Nat} {each t : Int} {L : LibS} (h : LibI each t L) (hn : LibN n L) (s : ByteArray) : (ownOf L s).length = (openOf L.loans s).length := by
 have h1 : (ownOf L s).Nodup := by
  unfold ownOf
  cases e : L.has s with
  | none => exact List.Pairwise.nil
  | some o => exact hn.ok.once s o e
 have h2 : ((openOf L.loans s).map LoanV.piece).Nodup := by
  unfold openOf
  refine List.pairwise_map.2 ?_
  refine (List.Pairwise.filter _ h.two).imp_of_mem fun {a b} ha hb hab => ?_
  have ha := (List.mem_filter.1 ha).2
  have hb := (List.mem_filter.1 hb).2
  simp only [decide_eq_true_eq] at ha hb
  exact hab ha.1 hb.1 (ha.2.trans hb.2.symm)
 have h3 : (ownOf L s).Perm ((openOf L.loans s).map LoanV.piece) := (List.perm_ext_iff_of_nodup h1 h2).2 fun p => by rw [own_mem h, List.mem_map]
 rw [h3.length_eq, List.length_map]
theorem last_is {n : Nat} {each t : Int} {L : LibS} (h : LibI each t L) (hn : LibN n L) {k : IdV} (hs : L.at_ k = outW ∨ L.at_ k = lostW) :
 ∃ l, L.loans[lastI L k]? = some l ∧ lastL L k = l ∧ idL l = k ∧ ∀ (j : Nat) (m : LoanV), lastI L k < j → L.loans[j]? = some m → idL m ≠ k := by
 obtain ⟨i, e1, e2⟩ := hn.ok.last k hs
 have hi := lastI_of e1
 have hl := lastL_of e1 e2
 obtain ⟨l, h1, h2⟩ := h.lastId k i e1
 rw [hi]
 have e3 : lastL L k = l := Option.some.inj (hl.symm.trans h1)
 exact ⟨l, h1, e3, h2, fun j m hj hm => h.later k i j m e1 hj hm⟩
/-- What the document's 'lend' asks, in its order. -/
def lendE (r : LendR) (L : LibS) (x : SlipV) : Int := if L.at_ (x.piece, x.copy) ≠ inW then 11 else if (openOf L.loans x.singer).any (fun l => decide (l.piece = x.piece)) = true then 6 else if r.each ≤ ((openOf L.loans x.singer).length : Int) then 12 else 0
theorem lend_same {n : Nat} {T : List TitleV} {r : LendR} {t : Int} {L : LibS} {x : SlipV} (h : LibI r.each t L) (hn : LibN n L) (hc : isCopyT T (x.piece, x.copy) = true) (hk : x.kind = 1) :
 (slipD T r L x).2 = lendE r L x ∧ (lendE r L x = 0 → (slipD T r L x).1 = (lendD r L x).1 ∧ (lendD r L x).1.st = setF L.st (x.piece, x.copy) outW ∧ (lendD r L x).1.loans = L.loans ++ [⟨x.piece, x.copy, x.singer, x.at_, -1, false⟩]) := by
 have e1 : needW x.kind = inW := by rw [hk]; rfl
 have e2 : (x.piece ∈ ownOf L x.singer) ↔ (openOf L.loans x.singer).any (fun l => decide (l.piece = x.piece)) = true := by
  rw [own_mem h, List.any_eq_true]
  simp only [decide_eq_true_eq]
 have e3 := own_len h hn x.singer
 unfold slipD lendE
 rw [if_neg (by rw [hc]; decide), e1, if_pos hk]
 by_cases h1 : L.at_ (x.piece, x.copy) ≠ inW
 ·rw [if_pos h1, if_pos h1]
  exact ⟨rfl, fun h => by cases h⟩
 ·rw [if_neg h1, if_neg h1]
  unfold lendD
  by_cases h2 : x.piece ∈ ownOf L x.singer
  ·rw [if_pos h2, if_pos (e2.1 h2)]
   exact ⟨rfl, fun h => by cases h⟩
  ·rw [if_neg h2, if_neg fun h9 => h2 (e2.2 h9), e3]
   by_cases h3 : r.each ≤ ((openOf L.loans x.singer).length : Int)
   ·rw [if_pos h3, if_pos h3]
    exact ⟨rfl, fun h => by cases h⟩
   ·rw [if_neg h3, if_neg h3]
    exact ⟨rfl, fun _ => ⟨rfl, rfl, rfl⟩⟩
/-- How copies are behind a slip other than lending. -/
def nextW (k : Int) : ByteArray := if k = 2 then inW else if k = 3 then lostW else if k = 4 then inW else goneW
def turnL (x : SlipV) (l : LoanV) : LoanV := if x.kind = 2 then { l with till := x.at_ } else if x.kind = 3 then { l with till := x.at_, lost := true } else { l with lost := false }
/-- No loan of a copy that is not lost is lost. -/
theorem other_same {T : List TitleV} {r : LendR} {L : LibS} {x : SlipV} (hc : isCopyT T (x.piece, x.copy) = true) (hk : 2 ≤ x.kind ∧ x.kind ≤ 5) :
 (L.at_ (x.piece, x.copy) ≠ needW x.kind → (slipD T r L x) = (L, 11)) ∧ (L.at_ (x.piece, x.copy) = needW x.kind → (slipD T r L x).2 = 0 ∧ (slipD T r L x).1.st = setF L.st (x.piece, x.copy) (nextW x.kind) ∧
   (slipD T r L x).1.loans = if x.kind = 5 then L.loans else L.loans.set (lastI L (x.piece, x.copy)) (if x.kind = 2 then { lastL L (x.piece, x.copy) with till := x.at_, lost := false } else turnL x (lastL L (x.piece, x.copy)))) := by
 unfold slipD
 rw [if_neg (by rw [hc]; decide)]
 refine ⟨fun h => by rw [if_pos h], fun h => ?_⟩
 rw [if_neg (by simpa using h), if_neg (by omega)]
 have h4 : x.kind = 2 ∨ x.kind = 3 ∨ x.kind = 4 ∨ x.kind = 5 := by omega
 rcases h4 with e | e | e | e
 ·rw [if_pos (.inl e)]
  unfold endD nextW
  simp [e]
 ·rw [if_pos (.inr e)]
  unfold endD nextW turnL
  simp [e]
 ·rw [if_neg (by omega), if_pos e]
  unfold nextW turnL
  simp [e]
 ·rw [if_neg (by omega), if_neg (by omega)]
  unfold nextW
  simp [e]
end Go.Proofs.YtkjhbofbcmelgaaGreatDoor
namespace Go.Proofs.YtkjhbofbcmelgaaGreatDoor
open Go Go.RowKit Go.Sort
def LibL (L : LibS) : Prop := ∀ l ∈ L.loans, l.Open → l.lost = false
theorem slipD_L {T : List TitleV} {r : LendR} {L : LibS} {x : SlipV} (h : LibL L) (hx : 0 ≤ x.at_) : LibL (slipD T r L x).1 := by
 unfold slipD
 by_cases h1 : isCopyT T (x.piece, x.copy) = false
 ·rw [if_pos h1]; exact h
 rw [if_neg h1]
 by_cases h2 : L.at_ (x.piece, x.copy) ≠ needW x.kind
 ·rw [if_pos h2]; exact h
 rw [if_neg h2]
 have hset : ∀ (y : LoanV), (y.Open → y.lost = false) → ∀ l ∈ L.loans.set (lastI L (x.piece, x.copy)) y, l.Open → l.lost = false := fun y hy l hl ho => by
  rcases List.mem_or_eq_of_mem_set hl with hl | rfl
  ·exact h l hl ho
  ·exact hy ho
 by_cases k1 : x.kind = 1
 ·rw [if_pos k1]
  unfold lendD
  by_cases h3 : x.piece ∈ ownOf L x.singer
  ·rw [if_pos h3]; exact h
  rw [if_neg h3]
  by_cases h4 : r.each ≤ (ownOf L x.singer).length
  ·rw [if_pos h4]; exact h
  rw [if_neg h4]
  intro l hl ho
  rcases List.mem_append.1 hl with hl | hl
  ·exact h l hl ho
  ·rw [List.mem_singleton.1 hl]
 rw [if_neg k1]
 by_cases k2 : x.kind = 2 ∨ x.kind = 3
 ·rw [if_pos k2]
  refine hset _ fun ho => ?_
  unfold LoanV.Open at ho
  simp only at ho
  omega
 rw [if_neg k2]
 by_cases k4 : x.kind = 4
 ·rw [if_pos k4]
  exact hset _ fun _ => rfl
 rw [if_neg k4]
 exact h
theorem run_L {T : List TitleV} {r : LendR} {d : List SlipV} (hd : ∀ x ∈ d, 0 ≤ x.at_) {is : List Nat} (hi : ∀ i ∈ is, i < d.length) : ∀ (k : Nat), k ≤ is.length → LibL (runR T r d (LibS.new, fun _ => none) (is.take k)).1
 | 0, _ => by
   intro l hl
   simp [runR, LibS.new] at hl
 | k + 1, hk => by
   have e : is[k]? = some is[k] := List.getElem?_eq_getElem (by omega)
   rw [run_take e]
   have hm : is[k] < d.length := hi _ (List.getElem_mem _)
   have ed : d.getD is[k] default = d[is[k]] := by rw [List.getD_eq_getElem?_getD, List.getElem?_eq_getElem hm]; rfl
   unfold stepR
   rw [ed]
   exact slipD_L (run_L hd hi k (by omega)) (hd _ (List.getElem_mem _))
/-- A loan of a copy that is out is not lost. -/
theorem out_lost {each t : Int} {L : LibS} (hI : LibI each t L) (hL : LibL L) {k : IdV} (hs : L.at_ k = outW) : (lastL L k).lost = false := by
 obtain ⟨i, l, e1, e2, ho⟩ := hI.outI k hs
 have h1 := lastL_of e1 (List.getElem?_eq_some_iff.1 e2).1
 rw [h1] at e2
 cases e2
 exact hL _ (List.mem_of_getElem? h1) ho
theorem other_doc {T : List TitleV} {r : LendR} {t : Int} {L : LibS} {x : SlipV} (hI : LibI r.each t L) (hL : LibL L) (hc : isCopyT T (x.piece, x.copy) = true) (hk : 2 ≤ x.kind ∧ x.kind ≤ 5) (hs : L.at_ (x.piece, x.copy) = needW x.kind) :
 (slipD T r L x).2 = 0 ∧ (slipD T r L x).1.st = setF L.st (x.piece, x.copy) (nextW x.kind) ∧ (slipD T r L x).1.loans = if x.kind = 5 then L.loans else L.loans.set (lastI L (x.piece, x.copy)) (turnL x (lastL L (x.piece, x.copy))) := by
 obtain ⟨h1, h2, h3⟩ := (other_same (r := r) hc hk).2 hs
 refine ⟨h1, h2, ?_⟩
 rw [h3]
 by_cases k5 : x.kind = 5
 ·rw [if_pos k5, if_pos k5]
 rw [if_neg k5, if_neg k5]
 by_cases k2 : x.kind = 2
 ·have h4 := out_lost hI hL (k := (x.piece, x.copy)) (by rw [hs, k2]; rfl)
  rw [if_pos k2]
  unfold turnL
  rw [if_pos k2]
  congr 1
  generalize lastL L (x.piece, x.copy) = l at *
  cases l
  simp only at h4
  subst h4
  rfl
 ·rw [if_neg k2]
end Go.Proofs.YtkjhbofbcmelgaaGreatDoor
namespace Go.Proofs.YtkjhbofbcmelgaaGreatDoor
open Go Go.RowKit Go.Maps Go.Sort
structure LentV where
 piece : ByteArray
 no : Int
 singer : ByteArray
 since : Int
instance : Inhabited LentV := ⟨⟨⟨#[]⟩, 0, ⟨#[]⟩, 0⟩⟩
def lentC (x : LentV) : List Value := [.string x.piece, .int .i64 x.no, .string x.singer, .int .i64 x.since]
theorem lentC_len (x : LentV) : (lentC x).length = 4 := rfl
theorem lentC_one (x : LentV) : ∀ u ∈ lentC x, u.oneCell' = true := by simp [lentC, Value.oneCell']
theorem lentInfo : (Tryz.prog.info? 65).map (fun i => (i.zero, i.size, i.bytes)) = some (some (.agg #[.string ⟨#[]⟩, .int .i64 0, .string ⟨#[]⟩, .int .i64 0]), 4,48) := by kernel_rfl
/-- A copy that is out, as a slip with its piece for a name: so what is known of the order of slips holds of copies. -/
def tsV (x : LentV) : SlipV := ⟨x.piece, x.no, 0,0, ⟨#[]⟩, 0, ⟨#[]⟩⟩
def entO (a b : LentV) : Int := sliO (tsV a) (tsV b)
def entLt (a b : LentV) : Prop := sliLt (tsV a) (tsV b)
theorem ent_swo : SWO (ltOf entO) := ⟨fun x => sli_swo.irrefl (tsV x), fun x y z => sli_swo.trans (tsV x) (tsV y) (tsV z), fun x y z => sli_swo.ntrans (tsV x) (tsV y) (tsV z)⟩
theorem sortL_of {P : List LentV} (hdis : P.Pairwise fun a b => ¬ (a.piece = b.piece ∧ a.no = b.no)) {d : Array LentV} (hp : PermIn 0 P.length P.toArray d) (hs : SortedIn (ltOf entO) 0 P.length d) : d.toList.Perm P ∧ d.toList.Pairwise entLt := by
 have hsz : d.size = P.length := by have := hp.1; simpa using this
 have hperm : d.toList.Perm P := by
  have h9 := hp.2.2
  have e2 : d.extract 0 P.length = d := by simp [← hsz]
  rw [e2] at h9
  simpa using h9
 refine ⟨hperm, ?_⟩
 have hdd := (hperm.pairwise_iff fun {a b} (h : ¬ (a.piece = b.piece ∧ a.no = b.no)) => (fun k => h ⟨k.1.symm, k.2.symm⟩ : ¬ (b.piece = a.piece ∧ b.no = a.no))).2 hdis
 rw [List.pairwise_iff_getElem] at hdd ⊢
 intro i j hi hj hij
 have h1 := hdd i j hi hj hij
 have h9 := hs i j (Nat.zero_le _) hij (by simp at hj; omega)
 simp at hi hj
 rw [getElem!_pos d j hj, getElem!_pos d i hi] at h9
 have h8 : ltOf sliO (tsV d[j]) (tsV d[i]) = false := h9
 rw [← Bool.not_eq_true, ltS_iff] at h8
 rcases sliLt_tri (tsV d[i]) (tsV d[j]) with h | h | h
 ·exact h
 ·exact absurd h h8
 ·exact absurd h h1
set_option maxRecDepth 100000 in
set_option maxHeartbeats 1600000 in
theorem idsG_any (a b : ByteArray) (i j : Int) (w : World) :
 Calls Tryz.prog 130 #[.agg #[.string a, .int .i64 i], .agg #[.string b, .int .i64 j]] w fun e w' => e = .returned (.int .i64 (orF [cmpS a b, cmpZ i j])) ∧ ∃ q os', w' = grow (w.drewN q) os' := by
 have hX : Blk ((w.alloc (.cells #[.string a, .int .i64 i] 120)).alloc (.cells #[.string b, .int .i64 j] 120)) w.heap.size 120 #[.string a, .int .i64 i] := (Blk.new' rfl).alloc _
 have hY : Blk ((w.alloc (.cells #[.string a, .int .i64 i] 120)).alloc (.cells #[.string b, .int .i64 j] 120)) (w.heap.size + 1) 120 #[.string b, .int .i64 j] := Blk.new' (by simp)
 go_enter Tryz.func130, Tryz.ntmps130
 go_upto_region 1 with fail
 refine wp_region_planS [(0, true), (1, true), (2, true), (3, true), (4, true), (5, true), (6, true), (7, true), (8, true), (9, true)] 10 (fun w' => Blk w' w.heap.size 120 #[.string a, .int .i64 i] ∧ Blk w' (w.heap.size + 1) 120 #[.string b, .int .i64 j]) Drw (by kernel_rfl) (by kernel_rfl) Drw.refl (fun _ _ _ => Drw.trans) (fun _ _ h he => ⟨h.1.drw he, h.2.drw he⟩) ⟨(by (repeat (with_reducible first | assumption | exact Blk.new' (by simp) | refine Blk.drew ?_ | refine Blk.alloc ?_ _ | exact Drw.refl _ | refine Ext.drew ?_ | refine Ext.alloc ?_ _))), (by (repeat (with_reducible first | assumption | exact Blk.new' (by simp) | refine Blk.drew ?_ | refine Blk.alloc ?_ _ | exact Drw.refl _ | refine Ext.drew ?_ | refine Ext.alloc ?_ _)))⟩ ?_
 repeat
  first
   | (refine plan_quiet rfl rfl (fun _ _ _ _ h => h) ?_
      apply Exists.intro
      refine ⟨fun w' hw' => ?_, ?_⟩
      ·obtain ⟨hH0, hH1⟩ := hw'
       unfold Blk at hH0 hH1
       simp [go_sem, quietTo, World.cell?, hH0, hH1, Drw.refl, ↓IntWalk.iteOmega]
       first
        | rfl
        | (exact cmpSE_any _ _ _)
        | (exact cmpIntE_any _ _ _)
      simp only [Act.put, sIA, sCS, sCZ])
   | (refine plan_skip rfl rfl (fun _ _ _ _ h => h) ?_
      simp only [Act.put, sIA, sCS, sCZ])
 refine plan_nil fun wr her hwr => ?_
 obtain ⟨hH0, hH1⟩ := hwr
 obtain ⟨hC0, hF0⟩ := hH0.walk
 obtain ⟨hC1, hF1⟩ := hH1.walk
 simp only [List.drop_succ_cons, List.drop_zero, List.drop_nil]
 go_wp2_with (go_at_call 85; refine (orInt_blk _ _ 2 [cmpS a b, cmpZ i j] _ (by simp) (Blk.new' rfl)).mono ?_; rintro e w2 ⟨rfl, rfl⟩)
 go_ret
 refine ⟨rfl, ?_⟩
 obtain ⟨q, rfl⟩ := her
 exact ⟨q + 1, _, grow_three _ _ _ _ _⟩
theorem grow_more (w : World) (q : Nat) (A B : Obj) (os : Array Obj) : grow (((w.alloc A).alloc B).drewN q) os = grow (w.drewN q) (#[A, B] ++ os) := by
 rw [grow_two]
 simp [grow]
set_option maxRecDepth 100000 in
set_option maxHeartbeats 1600000 in
theorem entG_any (a b : LentV) (w : World) :
 Calls Tryz.prog 129 #[.agg #[.string a.piece, .int .i64 a.no, .string a.singer, .int .i64 a.since], .agg #[.string b.piece, .int .i64 b.no, .string b.singer, .int .i64 b.since]] w fun e w' => e = .returned (.int .i64 (entO a b)) ∧ ∃ q os', w' = grow (w.drewN q) os' := by
 have hF : entO a b = orF [cmpS a.piece b.piece, cmpZ a.no b.no] := rfl
 rw [hF]
 have hc := idsG_any a.piece b.piece a.no b.no ((w.alloc (.cells #[.string a.piece, .int .i64 a.no, .string a.singer, .int .i64 a.since] 65)).alloc (.cells #[.string b.piece, .int .i64 b.no, .string b.singer, .int .i64 b.since] 65))
 generalize orF [cmpS a.piece b.piece, cmpZ a.no b.no] = f at *
 clear hF; replace hc := Lib.hid hc
 go_enter Tryz.func129, Tryz.ntmps129
 go_wp2_with (go_at_call 130; (with_reducible refine Calls.mono hc.out ?_); rintro e w1 ⟨rfl, q, os, rfl⟩)
 go_ret
 exact ⟨rfl, q, _, grow_more w q _ _ os⟩
set_option maxRecDepth 100000 in
theorem sortLent_any {w : World} {base g n cap : Nat} {L : List LentV} (h : w.ownsRow base 65 4 (.slice (some ⟨g, 0, none⟩) n cap) n (L.flatMap lentC)) (hn : L.length = n) (hn1 : n ≤ 100000) (hok : L.Pairwise fun a b => ¬ (a.piece = b.piece ∧ a.no = b.no)) :
 Calls Tryz.prog 128 #[.slice (some ⟨g, 0, none⟩) n cap, .func (.func 129) #[] #[]] w fun e w' => e = .returned (.tuple #[]) ∧ ∃ M : List LentV, M.Perm L ∧ M.Pairwise entLt ∧ w'.ownsRow base 65 4 (.slice (some ⟨g, 0, none⟩) n cap) n (M.flatMap lentC) ∧ ∀ a : World, Ext a w → a.heap.size ≤ g → Ext a w' := by
 have hgl := (h.lt g rfl).2
 subst hn
 have hs := AnyQ.slices_SortFunc Tryz.lsfLent 4 Tryz.isAgg65 Tryz.sizeOf65 lentC lentC_len lentC_one entO ent_swo 129 #[] g 0 cap L.toArray w (fun args u => by rfl) (fun m os dk _ x y => entG_any x y _) (holdsK_own lentC_len h) hgl (by simp; omega)
 refine hs.mono fun e w' ⟨he, d', q, os, hp, hso, hw⟩ => ?_
 obtain ⟨hpm, hri⟩ := sortL_of hok (by simpa using hp) (by simpa using hso)
 refine ⟨he, d'.toList, hpm, hri, ?_, ?_⟩
 ·rw [hw]
  exact own_sortK lentC_len h hpm.length_eq
 ·intro a ha hg
  rw [hw]
  exact ext_sortK ha hg
theorem sortNoneL_any (p : Option Addr) (cap : Nat) (fv : Value) (w : World) :
 Calls Tryz.prog 128 #[.slice p 0 cap, fv] w fun e w' => e = .returned (.tuple #[]) ∧ w = w' := (AnyF.slices_SortFunc_none Tryz.lsfLent _ _ _ _).mono (fun _ _ h => And.intro h.1 h.2.symm)
/-- The loans that are not ended. -/
def toL (l : LoanV) : LentV := ⟨l.piece, l.no, l.singer, l.since⟩
def outL (X : List LoanV) : List LentV := (X.filter fun l => decide l.Open).map toL
theorem outL_snoc (X : List LoanV) (l : LoanV) : outL (X ++ [l]) = outL X ++ if l.Open then [toL l] else [] := by
 unfold outL
 rw [List.filter_append, List.map_append]
 by_cases h : l.Open <;> simp [h]
theorem outL_len (X : List LoanV) : (outL X).length ≤ X.length := by
 unfold outL
 rw [List.length_map]
 exact List.length_filter_le _ _
theorem out_diff {each t : Int} {L : LibS} (h : LibI each t L) : (outL L.loans).Pairwise fun a b => ¬ (a.piece = b.piece ∧ a.no = b.no) := by
 unfold outL
 rw [List.pairwise_map, List.pairwise_filter, List.pairwise_iff_getElem]
 intro i j hi hj hij ho1 ho2 he
 have ho1 : L.loans[i].Open := by simpa using ho1
 have ho2 : L.loans[j].Open := by simpa using ho2
 have h1 := (h.open_ i _ (List.getElem?_eq_getElem hi) ho1).2
 have h2 := (h.open_ j _ (List.getElem?_eq_getElem hj) ho2).2
 have e : idL L.loans[i] = idL L.loans[j] := Prod.ext he.1 he.2
 rw [e, h2] at h1
 have := Option.some.inj h1
 omega
def LentR (X : List LoanV) (w : World) (e : Ending) (w' : World) : Prop := ∃ (v : Value) (M : List LentV), e = .returned v ∧ M.Perm (outL X) ∧ M.Pairwise entLt ∧ w'.ownsRow w.heap.size 65 4 v M.length (M.flatMap lentC) ∧ Ext w w'
set_option maxRecDepth 100000 in
set_option maxHeartbeats 3200000 in
theorem lent_any {base : Nat} {w : World} {bb ms ml mh q : Nat} {tp : Option Addr} {tn tc : Nat} {r : LendR} {L : LibS} (h : LibM base w bb ms ml mh q tp tn tc r L) (hl : L.loans.length ≤ 1000) (hdf : (outL L.loans).Pairwise fun a b => ¬ (a.piece = b.piece ∧ a.no = b.no)) :
 Calls Tryz.prog 68 #[.pointer (some ⟨bb, 0, none⟩)] w (LentR L.loans w) := by
 obtain ⟨⟨lv, hB, ho⟩, -⟩ := h
 obtain ⟨lp, lc, rfl, hS⟩ := slc_of_own loanC_len ho (by decide) (by omega)
 have c7 := hB.cell 7
 have lb := hB.lt
 unfold libC at c7
 generalize L.loans = X at *
 clear hB ho; replace hS := Lib.hid hS; replace hdf := Lib.hid hdf
 go_enter Tryz.func68, Tryz.ntmps68
 go_wp2
 go_loopw [3,11] (fun v3 v11 wr => ∃ (k : Nat) (v : Value), v11 = .int .i64 k ∧ v = v3 ∧ k ≤ X.length ∧ wr.ownsRow w.heap.size 65 4 v (outL (X.take k)).length ((outL (X.take k)).flatMap lentC) ∧ Ext w wr) (fun _ v11 _ => X.length - (intOf v11).toNat)
 case atStart => exact ⟨0, _, rfl, rfl, Nat.zero_le _, World.ownsRow_nil _ _ _ _, Ext.refl _⟩
 case round =>
  obtain ⟨k, v, rfl, rfl, hk, hown, he⟩ := hrel
  by_cases hlt : k < X.length
  ·obtain ⟨l, hx⟩ := getD_some (rfl : X.length = X.length) hlt
   obtain ⟨b, off, rfl, hb, hE⟩ := hS.out.1.2.2 (by omega)
   have hEr := hE.ext he hb
   have d0 : wr.cell? ⟨b, off + k * 6, none⟩ = some (.string l.piece) := hEr k _ hx 0 _ rfl
   have d1 : wr.cell? ⟨b, off + k * 6 + 1, none⟩ = some (.int .i64 l.no) := hEr k _ hx 1 _ rfl
   have d2 : wr.cell? ⟨b, off + k * 6 + 2, none⟩ = some (.string l.singer) := hEr k _ hx 2 _ rfl
   have d3 : wr.cell? ⟨b, off + k * 6 + 3, none⟩ = some (.int .i64 l.since) := hEr k _ hx 3 _ rfl
   have d4 : wr.cell? ⟨b, off + k * 6 + 4, none⟩ = some (.int .i64 l.till) := hEr k _ hx 4 _ rfl
   have d5 : wr.cell? ⟨b, off + k * 6 + 5, none⟩ = some (.bool l.lost) := hEr k _ hx 5 _ rfl
   have hkI : (k : Int) < (X.length : Int) := by omega
   have hsn := outL_snoc (X.take k) l
   rw [← take_snocL hx] at hsn
   have hol : (outL (X.take k)).length ≤ 1000 := Nat.le_trans (outL_len _) (by rw [List.length_take]; omega)
   have hsz := he.size
   replace hx := Lib.hid hx; replace hE := Lib.hid hE; clear hEr
   by_cases hop : l.till < 0
   ·rw [if_pos (show l.Open from hop)] at hsn
    replace hsn := Lib.hid hsn
    go_wp2_with (at_builtin; go_loud (refine wp_app1 _ (.tmp 18) (.tmp 30) 43 65 4 48 _ rfl rfl Tryz.underlying43 lentInfo rfl (by decide) (by decide) w.heap.size _ _ _ rfl ((hown.alloc _).alloc _) _ (lentC ⟨l.piece, l.no, l.singer, l.since⟩) rfl rfl (Blk.new' (by simp)) (lentC_one _) (by omega) (by simp; omega) ?_; intro v' wz hownz hgrowz _))
    go_roundw
    case rel => exact ⟨k + 1, v', by go_num, rfl, by omega, by rw [hsn.out, List.length_append, flat_snoc]; exact hownz, ((he.alloc _).alloc _).app ((hown.alloc _).alloc _) (Nat.le_refl _) hgrowz⟩
    case measure => simp [intOf]; omega
   ·rw [if_neg (show ¬ l.Open from hop), List.append_nil] at hsn
    replace hsn := Lib.hid hsn
    go_wp2
    go_roundw
    case rel => exact ⟨k + 1, _, by go_num, rfl, by omega, by rw [hsn.out]; exact hown.alloc _, he.alloc _⟩
    case measure => simp [intOf]; omega
  ·obtain rfl : X.length = k := by omega
   rw [List.take_length] at hown
   have hol : (outL X).length ≤ 1000 := Nat.le_trans (outL_len _) hl
   rcases Nat.eq_zero_or_pos (outL X).length with h0 | h0
   ·obtain ⟨p9, c9, rfl, -⟩ := slc_of_own lentC_len hown (by decide) (by omega)
    have hr : LentR X w (.returned (.slice p9 (outL X).length c9)) wr := ⟨_, outL X, rfl, List.Perm.refl _, by rw [List.eq_nil_of_length_eq_zero h0]; exact List.Pairwise.nil, hown, he⟩
    rw [h0] at hr
    replace hr := Lib.hid hr
    rw [h0]
    replace h0 := Lib.hid h0; clear hown hol
    go_wp2_with (go_at_call 128; (with_reducible refine Calls.mono (sortNoneL_any p9 c9 _ _) ?_); rintro e w5 ⟨rfl, rfl⟩)
    go_ret
    exact hr.out
   ·obtain ⟨g, cap, rfl, hg, hgl2⟩ := hown.form h0
    have hso := sortLent_any hown rfl (by omega) hdf.out
    replace hso := Lib.hid hso; clear hown hol
    go_wp2_with (go_at_call 128; (with_reducible refine Calls.mono hso.out ?_); rintro e w5 ⟨rfl, M, hSp, hSr, hSo, hSx⟩)
    have hr : LentR X w (.returned (.slice (some ⟨g, 0, none⟩) (outL X).length cap)) w5 := ⟨_, M, rfl, hSp, hSr, by rw [hSp.length_eq]; exact hSo, hSx w he hg⟩
    go_ret
    exact hr
end Go.Proofs.YtkjhbofbcmelgaaGreatDoor
