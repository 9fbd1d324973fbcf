/- A list of one that was paid, by tour. Conditions: it is right. Shares of a right bill, by tour. Conditions: it is right; the table of the powers of ten stands. The facts that all properties ask: they hold. Conditions: the table of the powers of ten stands. The facts of the properties. Conditions: the table of the powers of ten stands. -/
import Derived.Test.YtehboinleolihaaGreatDoorCzJ6
import Derived.Test.YtehboinleolihaaGreatDoorCzJ3
import Derived.Test.YtehboinleolihaaGreatDoorCzFactsB
import Derived.Deep.Light
import Derived.Outline
import Derived.Deep.DeepCutAuto
import Derived.Test.YtehboinleolihaaGreatDoorCzJ11
import Derived.Test.YtehboinleolihaaGreatDoorCzJ4
set_option linter.unusedSimpArgs false
set_option linter.unusedVariables false
namespace Go.Proofs.YtehboinleolihaaGreatDoor
open Go Go.RowKit Go.Maps Go.WideMaps
set_option maxRecDepth 100000 in
theorem isMoment_any (n : Int) (w : World) :
 Calls Tryz.prog 173 #[.int .i64 n] w fun e w' => e = .returned (.bool (!outB n 0 345686399999)) ∧ w = w' := by
 go_enter Tryz.func173, Tryz.ntmps173
 go_wp2_with (go_at_call 146; refine (outside_any n 0 345686399999 _).mono ?_; rintro e w' ⟨rfl, rfl⟩)
 go_ret
 exact ⟨rfl, rfl⟩
structure Paid where
 id : ByteArray
 by_ : ByteArray
 at_ : Int
 cents : Int
 p : Option Addr
 n : Nat
 c : Nat
def Paid.cells (x : Paid) : Array Value := #[.string x.id, .string x.by_, .int .i64 x.at_, .int .i64 x.cents, .slice x.p x.n x.c]
structure Paid.Right (x : Paid) (ls : List ByteArray) : Prop where
 id : keyB x.id = true
 by_ : keyB x.by_ = true
 ids : x.id.size ≤ 1000000000
 bys : x.by_.size ≤ 1000000000
 at_ : outB x.at_ 0 345686399999 = false
 cents : outB x.cents 1 100000000 = false
 for_ : forF ls = 0
 sizes : ∀ (i : Nat) (s : ByteArray), ls[i]? = some s → s.size ≤ 1000000000
set_option maxRecDepth 100000 in
set_option maxHeartbeats 1600000 in
theorem checkPaid1_ok (b cap : Nat) (x : Paid) (ls : List ByteArray) (w : World) (hB : Blk w b 190 x.cells) (hR : x.Right ls) (hL : Sl 1 strC w x.p x.n ls) :
 Calls Tryz.prog 198 #[.slice (some ⟨b, 0, none⟩) 1 cap] w fun e w' => e = .returned (.int .i64 0) ∧ Ext w w' := by
 have hmm := @run_makeMap Tryz.prog
 obtain ⟨r1, r2, r3, r4, r5, r6, r7, r8⟩ := hR
 unfold Paid.cells at hB
 have hlt := hB.lt
 replace hB := Lib.hid hB
 go_enter Tryz.func198, Tryz.ntmps198
 go_wp2
 go_loopw [14] (fun i w' => ∃ k : Nat, k ≤ 1 ∧ i = .int .i64 k ∧ Ext w w') (fun i _ => 1 - (intOf i).toNat)
 case atStart => exact ⟨0, Nat.zero_le _, rfl, Ext.refl _⟩
 case round =>
  obtain ⟨k, hk, rfl, he⟩ := hrel
  have hlw := Nat.lt_of_lt_of_le hlt he.size
  by_cases hk0 : k = 0
  ·subst hk0
   obtain ⟨q1, q2⟩ := (hB.out.ext he).walk
   have hX := Blk.new' (w := wr) (t := 190) (cs := x.cells) rfl
   unfold Paid.cells at hX
   replace hX := Lib.hid hX
   go_upto_region 13 with (first
    | (go_at_call 145; (with_reducible refine Calls.mono (isKey_is r1 r3 _) ?_); rintro e w1 ⟨rfl, hb1⟩; have hX1 := Blk.ext hX.out hb1; obtain ⟨s1, f1⟩ := hX1.walk; replace hX1 := Lib.hid hX1; have hz1 := hb1.size)
    | (go_at_call 145; (with_reducible refine Calls.mono (isKey_is r2 r4 _) ?_); rintro e w2 ⟨rfl, hb2⟩; have hX2 := Blk.ext hX1.out hb2; obtain ⟨s2, f2⟩ := hX2.walk; replace hX2 := Lib.hid hX2; have hz2 := hb2.size)
    | (go_at_call 173; refine (isMoment_any _ _).mono ?_; rintro e w' ⟨rfl, rfl⟩)
    | (go_at_call 146; refine (outside_any _ _ _ _).mono ?_; rintro e w' ⟨rfl, rfl⟩)
    | (go_at_call 251; refine (forFault_any x.p x.n x.c ls _ (hL.ext (((he.alloc _).trans hb1).trans hb2)) r8).mono ?_; rintro e w3 ⟨rfl, hb3⟩))
   refine wp_region_facts [] [([],false,false),([0],false,false),([0,1],false,false),([0,1,2],false,false),([0,1,2],false,false),([0,1,2,4],false,false),([0,1,2,3,4,5],false,false),([0,1,2,3,4,5,6],false,false),([0,1,2],false,false),([0,1,2,3,4,5,6,7,8],false,false),([0,1,2,3,4,5,6,7,8,9],false,false),([0,1,2,3,4,5,6,7,8,9,10],false,false)] (Ext) Ext (fun _ => True) (by kernel_rfl) (by kernel_rfl) Ext.refl (fun _ _ _ => Ext.trans) (fun _ _ h => h) (fun _ _ h => h.size) (fun _ _ h _ => h) trivial ?_
   dsimp only [List.length_cons, List.length_nil, List.drop_succ_cons, List.drop_zero, List.drop_nil]
   refine fq 0 rfl rfl rfl cK rfl rfl ?_; apply Exists.intro; constructor
   ·intro sv w' hw' hfa
    refine ⟨rfl, ?_⟩; simp only [putsL]; change qT _; simp only [qT, Act.put, sIA, sCS, sCZ]; simp [go_sem, quietTo, Ext.refl]; all_goals rfl
   refine fq 1 rfl rfl rfl cK rfl rfl ?_; apply Exists.intro; constructor
   ·rintro sv w' hw' ⟨(f0 : sv 0 = _), -⟩; (try dsimp only at f0)
    refine ⟨rfl, ?_⟩; simp only [putsL]; change qT (pT _ 44 (sv 0)); simp only [qT, pT, Act.put, sIA, sCS, sCZ]; simp [go_sem, quietTo, Ext.refl, ↓IntWalk.iteOmega, f0]; (all_goals try simp (disch := omega) only [IntWalk.i64_in]); all_goals rfl
   refine fq 2 rfl rfl rfl cK rfl rfl ?_; apply Exists.intro; constructor
   ·rintro sv w' hw' ⟨_, (f1 : sv 1 = _), -⟩; (try dsimp only at f1)
    refine ⟨rfl, ?_⟩; simp only [putsL]; change qT (pT (pT _ 45 (sv 1)) 44 (sv 0)); simp only [qT, pT, Act.put, sIA, sCS, sCZ]; simp [go_sem, quietTo, Ext.refl, f1]; all_goals rfl
   refine fac_skip 3 rfl rfl rfl cK Ext.refl ?_ ?_
   ·intro sv w' hw' hfa
    obtain ⟨(f0 : sv 0 = _), (f1 : sv 1 = _), (f2 : sv 2 = _), -⟩ := hfa; (try dsimp only at f0 f1 f2)
    simp [Region.wanted, yielded, putsL, Act.put, f2]
   refine fac_skip 4 rfl rfl rfl cK Ext.refl ?_ ?_
   ·intro sv w' hw' hfa
    obtain ⟨(f0 : sv 0 = _), (f1 : sv 1 = _), (f2 : sv 2 = _), -⟩ := hfa; (try dsimp only at f0 f1 f2)
    simp [Region.wanted, yielded, putsL, Act.put, f2]
   refine fac_skip 5 rfl rfl rfl cK Ext.refl ?_ ?_
   ·intro sv w' hw' hfa
    obtain ⟨(f0 : sv 0 = _), (f1 : sv 1 = _), (f2 : sv 2 = _), (f4 : sv 4 = _), -⟩ := hfa; (try dsimp only at f0 f1 f2 f4)
    simp [Region.wanted, yielded, putsL, Act.put, f2, f4]
   refine fac_skip 6 rfl rfl rfl cK Ext.refl ?_ ?_
   ·intro sv w' hw' hfa
    obtain ⟨(f0 : sv 0 = _), (f1 : sv 1 = _), (f2 : sv 2 = _), (f3 : sv 3 = _), (f4 : sv 4 = _), (f5 : sv 5 = _), -⟩ := hfa; (try dsimp only at f0 f1 f2 f3 f4 f5)
    simp [Region.wanted, yielded, putsL, Act.put, f2, f3, f5]
   refine fac_skip 7 rfl rfl rfl cK Ext.refl ?_ ?_
   ·intro sv w' hw' hfa
    obtain ⟨(f0 : sv 0 = _), (f1 : sv 1 = _), (f2 : sv 2 = _), (f3 : sv 3 = _), (f4 : sv 4 = _), (f5 : sv 5 = _), (f6 : sv 6 = _), -⟩ := hfa; (try dsimp only at f0 f1 f2 f3 f4 f5 f6)
    simp [Region.wanted, yielded, putsL, Act.put, f2, f6]
   refine fac_skip 8 rfl rfl rfl cK Ext.refl ?_ ?_
   ·intro sv w' hw' hfa
    obtain ⟨(f0 : sv 0 = _), (f1 : sv 1 = _), (f2 : sv 2 = _), -⟩ := hfa; (try dsimp only at f0 f1 f2)
    simp [Region.wanted, yielded, putsL, Act.put, f2]
   refine fac_skip 9 rfl rfl rfl cK Ext.refl ?_ ?_
   ·intro sv w' hw' hfa
    obtain ⟨(f0 : sv 0 = _), (f1 : sv 1 = _), (f2 : sv 2 = _), (f3 : sv 3 = _), (f4 : sv 4 = _), (f5 : sv 5 = _), (f6 : sv 6 = _), (f7 : sv 7 = _), (f8 : sv 8 = _), -⟩ := hfa; (try dsimp only at f0 f1 f2 f3 f4 f5 f6 f7 f8)
    simp [Region.wanted, yielded, putsL, Act.put, f2, f7, f8]
   refine fac_skip 10 rfl rfl rfl cK Ext.refl ?_ ?_
   ·intro sv w' hw' hfa
    obtain ⟨(f0 : sv 0 = _), (f1 : sv 1 = _), (f2 : sv 2 = _), (f3 : sv 3 = _), (f4 : sv 4 = _), (f5 : sv 5 = _), (f6 : sv 6 = _), (f7 : sv 7 = _), (f8 : sv 8 = _), (f9 : sv 9 = _), -⟩ := hfa; (try dsimp only at f0 f1 f2 f3 f4 f5 f6 f7 f8 f9)
    simp [Region.wanted, yielded, putsL, Act.put, f2, f9]
   refine fq 11 rfl rfl rfl cK rfl rfl ?_; apply Exists.intro; constructor
   ·rintro sv w' hw' ⟨_, _, (f2 : sv 2 = _), _, _, _, _, _, _, _, (f10 : sv 10 = _), -⟩; (try dsimp only at f2 f10)
    refine ⟨rfl, ?_⟩; simp only [putsL]; change qT (pT (pT (pT (pT (pT (pT (pT (pT (pT (pT (pT _ 54 (sv 10)) 53 (sv 9)) 52 (sv 8)) 51 (sv 7)) 50 (sv 6)) 49 (sv 5)) 48 (sv 4)) 47 (sv 3)) 46 (sv 2)) 45 (sv 1)) 44 (sv 0)); simp only [qT, pT, Act.put, sIA, sCS, sCZ]; simp [go_sem, quietTo, Ext.refl, ↓IntWalk.iteOmega, f2, f10]; (all_goals try simp (disch := omega) only [IntWalk.i64_in]); all_goals rfl
   refine fac_nil fun x wr her hfr hcr hold hap => ?_
   obtain ⟨(f0 : x 0 = _), (f1 : x 1 = _), (f2 : x 2 = _), (f3 : x 3 = _), (f4 : x 4 = _), (f5 : x 5 = _), (f6 : x 6 = _), (f7 : x 7 = _), (f8 : x 8 = _), (f9 : x 9 = _), (f10 : x 10 = _), (f11 : x 11 = _), -⟩ := hfr; (try dsimp only at f0 f1 f2 f3 f4 f5 f6 f7 f8 f9 f10 f11)
   change wpList _ _ _ _ (pT (pT (pT (pT (pT (pT (pT (pT (pT (pT (pT (pT _ 44 (x 0)) 45 (x 1)) 46 (x 2)) 47 (x 3)) 48 (x 4)) 49 (x 5)) 50 (x 6)) 51 (x 7)) 52 (x 8)) 53 (x 9)) 54 (x 10)) 55 (x 11)) _
   simp only [putsL, Nat.reduceAdd, List.drop_succ_cons, List.drop_zero, List.drop_nil, pT, Act.put, sIA, sCS, sCZ]
   try simp only [f0, f1, f2, f3, f4, f5, f6, f7, f8, f9, f10, f11]
   clear f0 f1 f2 f3 f4 f5 f6 f7 f8 f9 f10 f11; clear hold hap
   go_wp2
   exact ⟨⟨1, Nat.le_refl _, rfl, (((he.alloc _).trans hb1).trans hb2).trans hb3 |>.drew |>.trans her⟩, by simp [intOf]⟩
  ·obtain rfl : k = 1 := by omega
   rw [show ((1 : Nat) : Int) = 1 from rfl]
   go_wp2
   have hown0 : (wr.alloc (.map #[] 0)).ownsMap Tryz.prog 9 (plainElem (H := Unit) Tryz.prog 4) wr.heap.size 0 (.map []) := World.ownsMap_made _ _ _ _
   replace hown0 := Lib.hid hown0
   have he0 : Ext w (wr.alloc (.map #[] 0)) := he.alloc _
   replace he0 := Lib.hid he0
   have hwr := he.size
   clear he hlw
   generalize hW : wr.alloc (.map #[] 0) = W at *
   clear hW
   generalize wr.heap.size = mb at *
   go_loopw [60] (fun i w' => ∃ k : Nat, k ≤ 1 ∧ i = .int .i64 k ∧ Ext w w' ∧ (k = 0 → w'.ownsMap Tryz.prog 9 (plainElem (H := Unit) Tryz.prog 4) mb 0 (.map []))) (fun i _ => 1 - (intOf i).toNat)
   case atStart => exact ⟨0, Nat.zero_le _, rfl, he0.out, fun _ => hown0.out⟩
   case round =>
    clear hown0 he0
    obtain ⟨k, hk, rfl, he, hm⟩ := hrel
    have hlw := Nat.lt_of_lt_of_le hlt he.size
    by_cases hk0 : k = 0
    ·subst hk0
     have hown := hm rfl
     clear hm
     have hkey : keyOf Tryz.prog 9 (.string x.id) = some (.string x.id.data.toList) := keyOf_string_mk Tryz.underlying9 (by unfold maxLen; omega)
     obtain ⟨q1, q2⟩ := (hB.out.ext he).walk
     go_wp2_with (first
      | (at_lookup; refine wpList_lookup_own_bool _ rfl _ _ 305 rfl 9 4 (string_keyed Tryz.underlying9) Tryz.underlying305 Tryz.underlying4 (Tryz.zeroValue4 _) mb 0 (.map []) rfl (hown.alloc _) _ _ rfl hkey ?_; intro c hat; obtain rfl : false = c := by simpa [DataW.atKey] using hat)
      | (at_mapUpdate; refine wpList_mapUpdate_own _ rfl _ _ _ 305 rfl 9 4 (string_keyed Tryz.underlying9) Tryz.underlying305 (plainElem (H := Unit) Tryz.prog 4) mb 0 _ rfl (hown.alloc _) (by decide) _ _ _ rfl rfl hkey _ [] (plainElem_bool Tryz.underlying4 true) ?_; intro w1 hown1 hgrow1)
      | go_in)
     go_roundw
     case rel => exact ⟨1, Nat.le_refl _, rfl, (he.alloc _).grown hgrow1 (fun j hj => by cases hj; exact hwr), fun h => by cases h⟩
     case measure => simp [intOf]
    ·obtain rfl : k = 1 := by omega
     go_wp2
     go_ret
     exact ⟨rfl, he⟩
end Go.Proofs.YtehboinleolihaaGreatDoor
namespace Go.Proofs.YtehboinleolihaaGreatDoor
open Go Go.RowKit
def shareN (c n i : Nat) : Nat := c / n + if i < c % n then 1 else 0
theorem shareN_le (c n i : Nat) : shareN c n i ≤ c + 1 := by
 unfold shareN
 have := Nat.div_le_self c n
 split <;> omega
set_option maxRecDepth 100000 in
theorem share_any (id by_ : ByteArray) (at_ : Int) (c : Nat) (p : Option Addr) (n cap i : Nat) (w : World) (hc : c ≤ 100000000) (hn : 1 ≤ n) (hn' : n ≤ 1000) (hi : i ≤ 1000) :
 Calls Tryz.prog 199 #[.agg #[.string id, .string by_, .int .i64 at_, .int .i64 c, .slice p n cap], .int .i64 i] w fun e w' => e = .returned (.int .i64 (shareN c n i : Nat)) ∧ Ext w w' := by
 have hdv : (c : Int).tdiv n = ((c / n : Nat) : Int) := (Int.ofNat_tdiv c n).symm
 have hmo : (c : Int).tmod n = ((c % n : Nat) : Int) := (Int.ofNat_tmod c n).symm
 have hS : shareN c n i = c / n + if i < c % n then 1 else 0 := rfl
 have hdl := Nat.div_le_self c n
 have hml := Nat.mod_le c n
 obtain ⟨q, hq⟩ : ∃ q, c / n = q := ⟨_, rfl⟩
 obtain ⟨r, hr⟩ : ∃ r, c % n = r := ⟨_, rfl⟩
 rw [hq] at hdv hdl hS
 rw [hr] at hmo hml hS
 replace hS := Lib.hid hS; clear hq hr
 go_enter Tryz.func199, Tryz.ntmps199
 go_wp2
 all_goals
  go_ret
  exact ⟨ret_int (by rw [hS.out]; first | (rw [if_pos (by assumption)]; simp) | (rw [if_neg (by omega)]; simp)), by (repeat (with_reducible first | assumption | exact Ext.refl _ | refine Ext.drew ?_ | refine Ext.alloc ?_ _ | refine Ext.setCell ?_ (by simp <;> omega) _ | refine Ext.trans ?_ (by assumption)))⟩
def pairC (x : ByteArray × ByteArray) : List Value := [.string x.1, .string x.2]
theorem pairC_len (x : ByteArray × ByteArray) : (pairC x).length = 2 := rfl
def itoaB (n : Int) : ByteArray := ⟨(Lib.itoa n).toArray⟩
def shareP (c n : Nat) (s : ByteArray) (i : Nat) : ByteArray × ByteArray := (s, itoaB (shareN c n i : Nat))
def sharesL (c : Nat) (ls : List ByteArray) : List (ByteArray × ByteArray) := ls.zipIdx.map fun x => shareP c ls.length x.1 x.2
theorem sharesL_at {c : Nat} {ls : List ByteArray} {i : Nat} {s : ByteArray} (h : ls[i]? = some s) : (sharesL c ls)[i]? = some (shareP c ls.length s i) := by
 unfold sharesL
 rw [List.getElem?_map, List.getElem?_zipIdx, h]
 simp
theorem pair_one (x : ByteArray × ByteArray) : ∀ u ∈ pairC x, u.oneCell' = true := by simp [pairC, Value.oneCell']
theorem pairInfo : (Tryz.prog.info? 77).map (fun i => (i.zero, i.size, i.bytes)) = some (some (.agg #[.string ⟨#[]⟩, .string ⟨#[]⟩]), 2,32) := by kernel_rfl
set_option maxRecDepth 100000 in
set_option maxHeartbeats 1600000 in
theorem shares_ok (x : Paid) (ls : List ByteArray) (B c : Nat) (w : World) (ht : Tab B w) (hc : x.cents = c) (hR : x.Right ls) (hL : Sl 1 strC w x.p x.n ls) :
 Calls Tryz.prog 123 #[.agg #[.string x.id, .string x.by_, .int .i64 x.at_, .int .i64 x.cents, .slice x.p x.n x.c]] w fun e w' =>
  ∃ p' c', e = .returned (.tuple #[.slice p' x.n c', .int .i64 0]) ∧ Sl 2 pairC w' p' x.n (sharesL c ls) ∧ Ext w w' := by
 have hcr := hR.cents
 have hct : 1 ≤ c ∧ c ≤ 100000000 := by
  unfold outB at hcr
  rw [hc] at hcr
  simp at hcr
  omega
 have hfor := hR.for_
 have hl := hL.1
 have hn0 : x.n ≠ 0 := by
  intro h0
  unfold forF at hfor
  rw [if_pos (by omega)] at hfor
  cases hfor
 have hn1 : x.n ≤ 200 := by
  unfold forF at hfor
  rw [if_neg (by omega)] at hfor
  by_cases h : 200 < ls.length
  ·rw [if_pos h] at hfor; cases hfor
  ·omega
 clear hfor hcr
 obtain ⟨b, off, hp, hb, hE⟩ := hL.2.2 hn0
 have hchk := fun (b cap : Nat) (w' : World) (hB : Blk w' b 190 x.cells) (he : Ext w w') => checkPaid1_ok b cap x ls w' hB hR (hL.ext he)
 unfold Paid.cells at hchk
 obtain ⟨id, by_, at_, cents, p, n, cap⟩ := x
 simp only at hc hl hn0 hn1 hchk hp ⊢
 subst hc
 subst hp
 clear hR hL; replace hchk := Lib.hid hchk; replace hl := Lib.hid hl
 go_enter Tryz.func123, Tryz.ntmps123
 go_wp2_with (go_at_call 198; (with_reducible refine Calls.mono (hchk.out _ _ _ (by exact Blk.new' (by simp)) (by exact ((Ext.refl _).alloc _).alloc _)) ?_); rintro e w1 ⟨rfl, hb1⟩; have hX : Blk w1 w.heap.size 190 #[.string id, .string by_, .int .i64 at_, .int .i64 c, .slice (some ⟨b, off, none⟩) n cap] := (by exact Blk.ext (Blk.alloc (Blk.new' rfl) _) hb1); have he1 : Ext w w1 := (by exact ((Ext.refl _).alloc _).alloc _ |>.trans hb1); obtain ⟨s1, f1⟩ := hX.walk)
 clear s1 f1 hb1 hchk
 have hlen : ls.zipIdx.length = n := by rw [List.length_zipIdx]; exact hl.out
 go_loopw [5,17] (fun v i wr => ∃ k : Nat, k ≤ n ∧ i = .int .i64 k ∧ wr.ownsRow (w.heap.size + 1) 77 2 v k (((sharesL c ls).take k).flatMap pairC) ∧ Blk wr w.heap.size 190 #[.string id, .string by_, .int .i64 at_, .int .i64 c, .slice (some ⟨b, off, none⟩) n cap] ∧ Ext w wr) (fun _ i _ => n - (intOf i).toNat)
 case atStart => exact ⟨0, Nat.zero_le _, rfl, by simpa using World.ownsRow_nil _ _ _ _, hX, he1⟩
 case round =>
  clear hX he1
  obtain ⟨k, hk, rfl, hown, hX, he⟩ := hrel
  have hbw := Nat.lt_of_lt_of_le hb he.size
  obtain ⟨s1, f1⟩ := hX.walk
  by_cases hlt : k < n
  ·obtain ⟨s, hx⟩ := getD_some hl.out hlt
   have hcell := (hE.ext he hb).str hx
   replace hx := Lib.hid hx
   have hsh := shareN_le c n k
   go_wp2_with (first
    | (go_at_call 199; (with_reducible refine Calls.mono (share_any id by_ at_ c _ n cap k _ (by omega) (by omega) (by omega) (by omega)) ?_); rintro e w2 ⟨rfl, hb2⟩)
    | (go_at_call 110; (with_reducible refine Calls.mono (itoa_any (shareN c n k : Nat) (by omega) (by omega) B _ (ht.ext (he.trans hb2))) ?_); rintro e w3 ⟨rfl, hb3⟩; have hown3 := own_ext hb3 (own_ext hb2 hown); have he3 := (he.trans hb2).trans hb3; have hX3 := (hX.ext hb2).ext hb3; clear hb2 hb3 hown he hX s1 f1)
    | (at_builtin; go_loud (refine wp_app1 _ (.tmp 22) (.tmp 29) 70 77 2 32 _ rfl rfl Tryz.underlying70 pairInfo rfl (by decide) (by decide) (w.heap.size + 1) _ k _ rfl (hown3.alloc _) w3.heap.size (pairC (shareP c n s k)) rfl rfl (Blk.new' rfl) (pair_one _) (by omega) (by have := he3.size; simp; omega) ?_; intro v' w4 hown4 hgrow4 _)))
   go_roundw
   case rel => exact ⟨k + 1, by omega, by go_num, by rw [take_snocL (sharesL_at hx.out), flat_snoc, hl.out]; exact hown4, (hX3.alloc _).app (hown3.alloc _) (by omega) hgrow4, (he3.alloc _).app (hown3.alloc _) (by omega) hgrow4⟩
   case measure => simp [intOf]; omega
  ·obtain rfl : k = n := by omega
   have hfull : (sharesL c ls).take k = sharesL c ls := List.take_of_length_le (by unfold sharesL; rw [List.length_map]; omega)
   rw [hfull] at hown
   obtain ⟨p', c', rfl, hS, -⟩ := sl_of_own pairC_len hown (by decide) (by omega)
   replace hS := Lib.hid hS
   go_wp2
   go_ret2
   exact ⟨p', c', rfl, hS.out, he⟩
end Go.Proofs.YtehboinleolihaaGreatDoor
namespace Go.Proofs.YtehboinleolihaaGreatDoor
open Go Go.RowKit
theorem comfort_closed (w : World) :
 Calls Tryz.prog 121 #[.agg #[.int .i64 48, .int .i64 67], .agg #[.int .i64 50, .int .i64 64]] w fun e w' => e = .returned (.tuple #[.int .i64 2, .bool true, .int .i64 0]) ∧ Ext w w' :=
 (Comfort_any 48 67 50 64 w).mono fun e w' h => ⟨h.1.trans rfl, h.2⟩
def bB : ByteArray := ⟨#[98]⟩
def aB : ByteArray := ⟨#[97]⟩
def abcL : List ByteArray := [⟨#[97]⟩, ⟨#[98]⟩, ⟨#[99]⟩]
theorem abc_for : forF abcL = 0 := by kernel_rfl
theorem shares_abc : (sharesL 100 abcL)[0]? = some (aB, ⟨#[51,52]⟩) := by kernel_rfl
theorem shares_closed (g B : Nat) (w : World) (ht : Tab B w) (hB : Blk w g 9 #[.string ⟨#[97]⟩, .string ⟨#[98]⟩, .string ⟨#[99]⟩]) :
 Calls Tryz.prog 123 #[.agg #[.string ⟨#[98]⟩, .string ⟨#[97]⟩, .int .i64 0, .int .i64 100, .slice (some ⟨g, 0, none⟩) 3 3]] w fun e w' =>
  ∃ b off c', e = .returned (.tuple #[.slice (some ⟨b, off, none⟩) 3 c', .int .i64 0]) ∧ b < w'.heap.size ∧ w'.cell? ⟨b, off, none⟩ = some (.string ⟨#[97]⟩) ∧ w'.cell? ⟨b, off + 1, none⟩ = some (.string ⟨#[51,52]⟩) ∧ Ext w w' := by
 have hR : Paid.Right ⟨bB, aB, 0, (100 : Nat), some ⟨g, 0, none⟩, 3,3⟩ abcL :=
  ⟨(show keyB bB = true by kernel_rfl), (show keyB aB = true by kernel_rfl), (show bB.size ≤ 1000000000 by decide), (show aB.size ≤ 1000000000 by decide), (show outB 0 0 345686399999 = false by decide), (show outB 100 1 100000000 = false by decide), abc_for, fun i s h => by
   have : s ∈ abcL := List.mem_of_getElem? h
   simp [abcL] at this
   rcases this with rfl | rfl | rfl <;> decide⟩
 have hL : Sl 1 strC w (some ⟨g, 0, none⟩) 3 abcL := ⟨rfl, by decide, fun _ => ⟨g, 0, rfl, hB.lt, fun i x hx j v hv => by
  have hj : j = 0 := by
   have := (List.getElem?_eq_some_iff.1 hv).1
   simp [strC] at this
   omega
  subst hj
  have hi : i < 3 := (List.getElem?_eq_some_iff.1 hx).1
  obtain rfl : v = .string x := by simpa [strC] using hv.symm
  rw [hB.cell]
  obtain rfl | rfl | rfl : i = 0 ∨ i = 1 ∨ i = 2 := by omega
  all_goals simp [abcL] at hx; subst hx; rfl⟩⟩
 refine (shares_ok ⟨bB, aB, 0, (100 : Nat), some ⟨g, 0, none⟩, 3,3⟩ abcL B 100 w ht rfl hR hL).mono fun e w' h => ?_
 obtain ⟨p, c, rfl, hS, he⟩ := h
 obtain ⟨b, off, rfl, hb, hE⟩ := hS.2.2 (show 3 ≠ 0 by decide)
 have h0 := hE 0 _ shares_abc 0 _ rfl
 have h1 := hE 0 _ shares_abc 1 _ rfl
 exact ⟨b, off, c, rfl, hb, (by simpa using h0 : w'.cell? ⟨b, off, none⟩ = some (.string aB)), by simpa using h1, he⟩
end Go.Proofs.YtehboinleolihaaGreatDoor
namespace Go.Proofs.YtehboinleolihaaGreatDoor
open Go Go.RowKit
set_option maxRecDepth 100000 in
theorem ready_any (B : Nat) (w : World) (ht : Tab B w) :
 Calls Tryz.prog 42 #[] w fun e w' => e = .returned (.bool true) ∧ Ext w w' := by
 go_enter Tryz.func42, Tryz.ntmps42
 go_wp2_with (first
  | (go_at_call 121; refine (comfort_closed _).mono ?_; rintro e w1 ⟨rfl, hb1⟩)
  | (go_at_call 122; refine (name61_any _).mono ?_; rintro e w2 ⟨rfl, hb2⟩; replace hb2 : Ext w w2 := (by exact hb1.trans hb2); clear hb1)
  | (go_at_call 123; refine (shares_closed _ B _ (by exact (ht.ext hb2).ext ((Ext.refl _).alloc _)) (by exact Blk.new' rfl)).mono ?_; rintro e w3 ⟨b, off, c, rfl, hlt, h0, h1, hb3⟩))
 go_ret
 exact ⟨rfl, by exact (hb2.alloc _).trans hb3⟩
end Go.Proofs.YtehboinleolihaaGreatDoor
