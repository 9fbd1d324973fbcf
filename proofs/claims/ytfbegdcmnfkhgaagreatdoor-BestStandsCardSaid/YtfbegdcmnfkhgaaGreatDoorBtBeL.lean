/- The document's search for the best stands: its memory. Conditions: as each theorem says. -/
import Derived.Test.YtfbegdcmnfkhgaaGreatDoorBtBeK
import Derived.Test.YtfbegdcmnfkhgaaGreatDoorBtJ30
import Derived.Test.YtfbegdcmnfkhgaaGreatDoorBtJ39
set_option linter.unusedSimpArgs false
set_option linter.unusedVariables false
namespace Go.Proofs.YtfbegdcmnfkhgaaGreatDoor
open Go Go.RowKit

theorem app_run {P : Program} (w : World) (ty t e : TypeId) (size bytes : Nat) (z : Value)
    (ht : P.underlying t = some (.slice e)) (hinfo : (P.info? e).map (fun i => (i.zero, i.size, i.bytes)) = some (some z, size, bytes)) (hzs : z.cells.size = size) (hsz : 0 < size) (hby : bytes ≤ 1000)
    (base : Nat) (p : Option Addr) (n c : Nat) (xs : List Value) (hown : w.ownsRow base e size (.slice p n c) n xs)
    (g : Nat) (news : List Value) (hl : news.length = size) (hB : Blk w g e news.toArray) (h1 : ∀ u ∈ news, u.oneCell' = true) (hn : n ≤ 1000000000) (hbase : base ≤ w.heap.size) :
    ∃ b c' w', (Builtin.append_ #[t, t] ty #[.slice p n c, .slice (some ⟨g, 0, none⟩) 1 1]).run P w = .ok (.slice (some ⟨b, 0, none⟩) (n + 1) c') w' ∧ w'.ownsRow base e size (.slice (some ⟨b, 0, none⟩) (n + 1) c') (n + 1) (xs ++ news) ∧ w.grownBy w' (Value.slice p n c).ownBlock ∧ (w.heap.size ≤ b ∨ p = some ⟨b, 0, none⟩) := by
  have hcell : ∀ (j : Nat) (u : Value), news[j]? = some u → w.cell? ((⟨g, 0, none⟩ : Addr).add j) = some u := fun j u hu => by
    have : (⟨g, 0, none⟩ : Addr).add j = ⟨g, j, none⟩ := by unfold Addr.add; split <;> simp_all
    rw [this, hB.cell j]
    simpa using hu
  have hb2 : (n + 1) * bytes ≤ 1000000001 * 1000 := Nat.mul_le_mul (by omega) hby
  obtain ⟨i0, hi, hz0, hz1, hz2⟩ := info_parts hinfo
  rcases hown.2 with ⟨hv, hn0⟩ | ⟨b, cap, cur, hv, hb, hg, hnc, hcm, hcs, htk⟩
  · cases hv
    have hxs : xs = [] := List.eq_nil_of_length_eq_zero (by rw [hown.1]; omega)
    subst hxs
    obtain ⟨v', w', hr, h2, h3, -⟩ := run_append_own (P := P) w w.heap.size t ty e i0 z size bytes ht hi hz0 hz1 hz2 hzs hsz (.slice none 0 0) 0 [] (World.ownsRow_nil _ _ _ _) ⟨g, 0, none⟩ 1 1 news (by omega) hcell h1 (by unfold maxLen; omega) (by omega) (Nat.le_refl _)
    obtain ⟨b, c', rfl, hb, _⟩ := h2.form (by omega)
    exact ⟨b, c', w', hr, own_low h2 hbase, h3, .inl hb⟩
  · cases hv
    by_cases hroom : n + 1 ≤ c
    · obtain ⟨w', hr, h2, h3⟩ := run_append_fits (P := P) w base t ty e i0 size ht hi hz1 b n c xs hown ⟨g, 0, none⟩ 1 1 news (by omega) hcell h1 hroom
      exact ⟨b, c, w', hr, h2, h3, .inr rfl⟩
    · obtain ⟨v', w', hr, h2, h3⟩ := run_append_arg_grows (P := P) w t ty e i0 z size bytes ht hi hz0 hz1 hz2 hzs hsz ⟨b, 0, none⟩ n c xs hown.1 (fun j u hj => by
        have := hown.cells (g := b) rfl j u hj
        have e2 : (⟨b, 0, none⟩ : Addr).add j = ⟨b, j, none⟩ := by unfold Addr.add; split <;> simp_all
        simpa [e2] using this) ⟨g, 0, none⟩ 1 1 news (by omega) hcell (by omega) (by unfold maxLen; omega) (by omega)
      obtain ⟨b', c', rfl, hb', _⟩ := h2.form (by omega)
      exact ⟨b', c', w', hr, own_low h2 hbase, grown_of_none h3 _, .inl hb'⟩
theorem wp_appO {P : Program} (w : World) {o : Oper} {a : Act} {K : Act → World → Prop} {Q : Exit → Act → World → Prop} (s x : Operand) (t e : TypeId) (size bytes : Nat) (z : Value)
    (ho : o.op = .call { callee := .builtin .append, args := #[s, x], argTypes := #[t, t] })
    (ht : P.underlying t = some (.slice e)) (hinfo : (P.info? e).map (fun i => (i.zero, i.size, i.bytes)) = some (some z, size, bytes)) (hzs : z.cells.size = size) (hsz : 0 < size) (hby : bytes ≤ 1000)
    (base : Nat) (p : Option Addr) (n c : Nat) (xs : List Value) (hs : a.eval s = .slice p n c) (hown : w.ownsRow base e size (.slice p n c) n xs)
    (g : Nat) (news : List Value) (hx : a.eval x = .slice (some ⟨g, 0, none⟩) 1 1) (hl : news.length = size) (hB : Blk w g e news.toArray) (h1 : ∀ u ∈ news, u.oneCell' = true)
    (hn : n ≤ 1000000000) (hbase : base ≤ w.heap.size)
    (h : ∀ b c' w', w'.ownsRow base e size (.slice (some ⟨b, 0, none⟩) (n + 1) c') (n + 1) (xs ++ news) → w.grownBy w' (Value.slice p n c).ownBlock → (w.heap.size ≤ b ∨ p = some ⟨b, 0, none⟩) → K (a.put o.dst (.slice (some ⟨b, 0, none⟩) (n + 1) c')) w') : o.wp P a w K Q := by
  obtain ⟨b, c', w', hrun, h2, h3, h4⟩ := app_run (P := P) w o.type t e size bytes z ht hinfo hzs hsz hby base p n c xs hown g news hl hB h1 hn hbase
  unfold Oper.wp
  simp [execOp, ho, resolve, invoke, builtin, hs, hx, hrun, Result.andThen]
  exact h b c' w' h2 h3 h4

/-- All that was there stands, but for two cells. -/
def ExtP (F b : Nat) (w w' : World) : Prop := w'.os = w.os ∧ w'.tape = w.tape ∧ w'.output = w.output ∧ w.heap.size ≤ w'.heap.size ∧ ∀ k, k < w.heap.size → k ≠ F → k ≠ b → w'.heap[k]? = w.heap[k]?
theorem ExtP.refl (F b : Nat) (w : World) : ExtP F b w w := ⟨rfl, rfl, rfl, Nat.le_refl _, fun _ _ _ _ => rfl⟩
theorem ExtP.trans {F b : Nat} {u v w : World} (h : ExtP F b u v) (k : ExtP F b v w) : ExtP F b u w :=
  ⟨k.1.trans h.1, k.2.1.trans h.2.1, k.2.2.1.trans h.2.2.1, Nat.le_trans h.2.2.2.1 k.2.2.2.1, fun i hi h1 h2 => (k.2.2.2.2 i (Nat.lt_of_lt_of_le hi h.2.2.2.1) h1 h2).trans (h.2.2.2.2 i hi h1 h2)⟩
theorem Ext.extP {F b : Nat} {u v : World} (h : Ext u v) : ExtP F b u v := ⟨h.os, h.tape, h.output, h.size, fun k hk _ _ => h.block k hk⟩
theorem ExtP.ext {F b : Nat} {u v w : World} (h : ExtP F b u v) (k : Ext v w) : ExtP F b u w := h.trans k.extP
theorem ExtP.set {F b : Nat} {u v : World} (h : ExtP F b u v) {p : Addr} (hp : p.block = F ∨ p.block = b) (x : Value) : ExtP F b u (v.setCell p x) := by
  refine ⟨h.1, h.2.1, h.2.2.1, by simpa using h.2.2.2.1, fun k hk h1 h2 => ?_⟩
  rw [Below.heap_setCell v p x k (by omega)]
  exact h.2.2.2.2 k hk h1 h2
theorem Blk.extP {F b : Nat} {w w' : World} {g : Nat} {t : TypeId} {cs : Array Value} (h : Blk w g t cs) (h1 : g ≠ F) (h2 : g ≠ b) (he : ExtP F b w w') : Blk w' g t cs := (he.2.2.2.2 g h.lt h1 h2).trans h
theorem ExtP.cell {F b : Nat} {w w' : World} (he : ExtP F b w w') {g : Nat} (hg : g < w.heap.size) (h1 : g ≠ F) (h2 : g ≠ b) (o : Nat) : w'.cell? ⟨g, o, none⟩ = w.cell? ⟨g, o, none⟩ := World.cell?_of_block (w := w) (he.2.2.2.2 g hg h1 h2)
theorem ExtP.back {F b : Nat} {u v w : World} (h : Ext u v) (h1 : u.heap.size ≤ F) (h2 : u.heap.size ≤ b) (k : ExtP F b v w) : Ext u w :=
  ⟨k.1.trans h.os, k.2.1.trans h.tape, k.2.2.1.trans h.output, Nat.le_trans h.size k.2.2.2.1, fun i hi => (k.2.2.2.2 i (Nat.lt_of_lt_of_le hi h.size) (by omega) (by omega)).trans (h.block i hi)⟩
theorem Slc.extP {α : Type} {k : Nat} {enc : α → List Value} {w w' : World} {F b : Nat} {p : Option Addr} {n c : Nat} {xs : List α} (h : Slc k enc w p n c xs) (he : ExtP F b w w') (hp : ∀ a, p = some a → a.block ≠ F ∧ a.block ≠ b) : Slc k enc w' p n c xs := by
  obtain ⟨⟨h1, h2, h3⟩, h4, h5, h6⟩ := h
  refine ⟨⟨h1, h2, fun hn => ?_⟩, h4, h5, fun a ha => let ⟨b, off, e, hb⟩ := h6 a ha; ⟨b, off, e, Nat.lt_of_lt_of_le hb he.2.2.2.1⟩⟩
  obtain ⟨g, off, rfl, hb, hE⟩ := h3 hn
  obtain ⟨q1, q2⟩ := hp _ rfl
  exact ⟨g, off, rfl, Nat.lt_of_lt_of_le hb he.2.2.2.1, fun i x hx j v hv => (he.cell hb q1 q2 _).trans (hE i x hx j v hv)⟩

theorem cmpV_same (x y : StandV) : (cmpV x y == 0) = sameP x y := by
  unfold cmpV sameP
  by_cases h1 : x.row < y.row
  · rw [if_pos h1, Bool.eq_iff_iff]; simp; omega
  · rw [if_neg h1]
    by_cases h2 : y.row < x.row
    · rw [if_pos h2, Bool.eq_iff_iff]; simp; omega
    · rw [if_neg h2]
      by_cases h3 : x.place < y.place
      · rw [if_pos h3, Bool.eq_iff_iff]; simp; omega
      · rw [if_neg h3]
        by_cases h4 : y.place < x.place
        · rw [if_pos h4, Bool.eq_iff_iff]; simp; omega
        · rw [if_neg h4, Bool.eq_iff_iff]; simp; omega
set_option maxRecDepth 100000 in
theorem hasPred (x : StandV) (g : Nat) (w : World) (hB : Blk w g 46 #[.string x.name, .int .i64 x.row, .int .i64 x.place]) :
    PredBelow Tryz.prog 48 #[.pointer (some ⟨g, 0, none⟩)] (fun y : StandV => .agg (staC y).toArray) (fun y => sameP x y) w := fun W y hW => by
  have hE : Ext w W := hW
  have hEa := hE.alloc (.cells #[.string y.name, .int .i64 y.row, .int .i64 y.place] 46)
  obtain ⟨a1, -⟩ := (hB.ext hE).walk
  have l1 := (hB.ext hE).lt
  have hcs := cmpV_same x y
  show Calls Tryz.prog 48 #[.agg #[.string y.name, .int .i64 y.row, .int .i64 y.place], .pointer (some ⟨g, 0, none⟩)] W _
  have hbp := fun u => byPlaceSt_any x y u
  generalize cmpV x y = cv at *
  replace hbp := Lib.hid hbp
  clear hB hW
  go_enter Tryz.func48, Tryz.ntmps48
  go_wp2_with (go_at_call 49; (with_reducible refine Calls.mono (hbp.out _) ?_); rintro e w2 ⟨rfl, hb2⟩)
  go_ret
  exact ⟨rfl, hEa.trans hb2⟩
set_option maxRecDepth 100000 in
set_option maxHeartbeats 1600000 in
theorem contains_nil (c : Nat) (fv : Value) (w : World) : Calls Tryz.prog 47 #[.slice none 0 c, fv] w fun e w' => e = .returned (.bool false) ∧ Ext w w' := by
  have hi := idxFunc_nil c fv w
  replace hi := Lib.hid hi
  go_enter Tryz.func47, Tryz.ntmps47
  go_wp2_with (go_at_call 89; (with_reducible refine Calls.mono hi.out ?_); rintro e w1 ⟨rfl, hb1⟩)
  go_ret
  exact ⟨rfl, hb1⟩
theorem has_any {lp : Option Addr} {lc : Nat} {L : List StandV} {w : World} (h : Slc 3 staC w lp L.length lc L) (hn : L.length ≤ 1000) (x : StandV) (g : Nat) (hB : Blk w g 46 #[.string x.name, .int .i64 x.row, .int .i64 x.place]) :
    Calls Tryz.prog 47 #[.slice lp L.length lc, .func (.func 48) #[] #[.pointer (some ⟨g, 0, none⟩)]] w fun e w' => e = .returned (.bool (inT L x)) ∧ Ext w w' := by
  rcases (slcC h).2 with ⟨rfl, e⟩ | ⟨sb, so, rfl, hsb, hEl⟩
  · subst e
    exact contains_nil lc _ w
  · have eg : ∀ args w, (callFunc 48 args).run Tryz.prog w = .ok (.enter 48 args) w := enters_of Tryz.func48 (by kernel_rfl) rfl
    have := AnyQ.slices_ContainsFunc Tryz.lqcStand 3 Tryz.isAgg46 Tryz.sizeOf46 staC staC_len (fun y => sameP x y) 48 #[.pointer (some ⟨g, 0, none⟩)] eg sb so L.length lc L w
      (hasPred x g w hB) (Nat.le_refl _) (by omega) hsb (fun j hj i v hi => hEl j _ (by rw [List.getElem?_eq_getElem hj, getElem!_pos L j hj]) i v hi)
    rw [List.take_length] at this
    exact this

/-- The variables of the search. -/
structure LrM (z cP cS cF cB cA cT : Nat) (pp : Option Addr) (pc : Nat) (P : List PersonV) (wp : Option Addr) (wcap : Nat) (wide : List Int) (hp : Option Addr) (hc : Nat) (high : List Int) (plp : Option Addr) (plc : Nat) (all : List StandV) (w : World) (few : Int) (best : List StandV) (pb : Option Addr) (cb : Nat) : Prop where
  bP : Blk w cP 26 #[.slice pp P.length pc]
  bS : Blk w cS 29 #[.slice wp wide.length wcap, .slice hp high.length hc]
  bF : Blk w cF 3 #[.int .i64 few]
  bB : Blk w cB 34 #[.slice pb best.length cb]
  bA : Blk w cA 34 #[.slice plp all.length plc]
  bT : Blk w cT 85 #[.func (.func 45) #[] #[.pointer (some ⟨cP, 0, none⟩), .pointer (some ⟨cS, 0, none⟩), .pointer (some ⟨cF, 0, none⟩), .pointer (some ⟨cB, 0, none⟩), .pointer (some ⟨cA, 0, none⟩), .pointer (some ⟨cT, 0, none⟩)]]
  ps : PsM w pp pc P wp wcap wide hp hc high none 0 []
  pa : Slc 3 staC w plp all.length plc all
  fr : (∀ a, pp = some a → a.block ≠ cF ∧ a.block ≠ cB) ∧ (∀ a, wp = some a → a.block ≠ cF ∧ a.block ≠ cB) ∧ (∀ a, hp = some a → a.block ≠ cF ∧ a.block ≠ cB) ∧ ∀ a, plp = some a → a.block ≠ cF ∧ a.block ≠ cB
  bR : Slc 3 staC w pb best.length cb best
  bz : ∀ a, pb = some a → z ≤ a.block
  lt : cP < z ∧ cS < z ∧ cF < z ∧ cB < z ∧ cA < z ∧ cT < z
  ne : cF ≠ cP ∧ cF ≠ cS ∧ cF ≠ cB ∧ cF ≠ cA ∧ cF ≠ cT ∧ cB ≠ cP ∧ cB ≠ cS ∧ cB ≠ cA ∧ cB ≠ cT
section
variable {z cP cS cF cB cA cT : Nat} {pp : Option Addr} {pc : Nat} {P : List PersonV} {wp : Option Addr} {wcap : Nat} {wide : List Int} {hp : Option Addr} {hc : Nat} {high : List Int} {plp : Option Addr} {plc : Nat} {all : List StandV} {w : World} {few : Int} {best : List StandV} {pb : Option Addr} {cb : Nat}
theorem LrM.more (h : LrM z cP cS cF cB cA cT pp pc P wp wcap wide hp hc high plp plc all w few best pb cb) {w' : World} (he : Ext w w') : LrM z cP cS cF cB cA cT pp pc P wp wcap wide hp hc high plp plc all w' few best pb cb :=
  ⟨h.bP.ext he, h.bS.ext he, h.bF.ext he, h.bB.ext he, h.bA.ext he, h.bT.ext he, h.ps.more he, h.pa.ext he, h.fr, h.bR.ext he, h.bz, h.lt, h.ne⟩
theorem LrM.leaf (h : LrM z cP cS cF cB cA cT pp pc P wp wcap wide hp hc high plp plc all w few best pb cb) {L : List StandV} {po : Option Addr} {co : Nat} (hL : Slc 3 staC w po L.length co L) (hpz : ∀ a, po = some a → z ≤ a.block) (k : Int) :
    LrM z cP cS cF cB cA cT pp pc P wp wcap wide hp hc high plp plc all ((w.setCell ⟨cB, 0, none⟩ (.slice po L.length co)).setCell ⟨cF, 0, none⟩ (.int .i64 k)) k L po co := by
  obtain ⟨n1, n2, n3, n4, n5, n6, n7, n8, n9⟩ := h.ne
  obtain ⟨l1, l2, l3, l4, l5, l6⟩ := h.lt
  obtain ⟨f1, f2, f3, f4⟩ := h.fr
  have he : ExtP cF cB w ((w.setCell ⟨cB, 0, none⟩ (.slice po L.length co)).setCell ⟨cF, 0, none⟩ (.int .i64 k)) := ((ExtP.refl cF cB w).set (.inr rfl) _).set (.inl rfl) _
  refine ⟨h.bP.extP (fun e => n1 e.symm) (fun e => n6 e.symm) he, h.bS.extP (fun e => n2 e.symm) (fun e => n7 e.symm) he, ?_, ?_, h.bA.extP (fun e => n4 e.symm) (fun e => n8 e.symm) he, h.bT.extP (fun e => n5 e.symm) (fun e => n9 e.symm) he, ⟨h.ps.per.extP he f1, h.ps.wid.extP he f2, h.ps.hig.extP he f3, Slc.nil _ _ _, h.ps.sP, h.ps.sw, h.ps.sh, h.ps.sS, h.ps.nP, h.ps.nS⟩, h.pa.extP he f4, h.fr, hL.extP he fun a ha => by have := hpz a ha; omega, hpz, h.lt, h.ne⟩
  · exact (h.bF.far (p := ⟨cB, 0, none⟩) n3 _).set_ 0 _
  · exact (h.bB.set_ 0 _).far (p := ⟨cF, 0, none⟩) (fun e => n3 e.symm) _
end
end Go.Proofs.YtfbegdcmnfkhgaaGreatDoor
