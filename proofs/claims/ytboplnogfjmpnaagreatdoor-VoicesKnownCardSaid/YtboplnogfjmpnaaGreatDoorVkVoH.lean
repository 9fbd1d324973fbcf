/- The ranges of a moment, by both texts. Conditions: sizes. -/
import Derived.Test.YtboplnogfjmpnaaGreatDoorVkVoG
set_option linter.unusedSimpArgs false
set_option linter.unusedVariables false
namespace Go.Proofs.YtboplnogfjmpnaaGreatDoor
open Go Go.RowKit

section
variable {P : Program} {w : World} {ops : Array Oper} {rest : List Oper} {o : Oper} {a : Act} {Q : Exit → Act → World → Prop}
theorem wpList_lookV (hg : o.guard = none) (m x : Operand) (t : TypeId) (ok : Bool) (hop : o.op = Op.lookup t m x ok) (mv kv v : Value) (hm : a.eval m = mv) (hx : a.eval x = kv) (hrun : (Instr.lookup t mv kv ok).run P w = .ok v w)
    (hK : wpList P ops Q rest (a.put o.dst v) w) : wpList P ops Q (o :: rest) a w := by
  refine wpList_plain hg fun K' hK' => ?_
  unfold Oper.wp
  simp [execOp, hop, hm, hx, hrun, Result.andThen]
  exact hK' _ _ hK
theorem wpList_putV (hg : o.guard = none) (m x y : Operand) (t : TypeId) (hop : o.op = Op.mapUpdate t m x y) (mv kv v : Value) (hm : a.eval m = mv) (hx : a.eval x = kv) (hy : a.eval y = v) (w' : World) (hrun : (Instr.mapUpdate t mv kv v).run P w = .ok () w')
    (hK : wpList P ops Q rest (a.put o.dst undef) w') : wpList P ops Q (o :: rest) a w := by
  refine wpList_plain hg fun K' hK' => ?_
  unfold Oper.wp
  simp [execOp, hop, hm, hx, hy, hrun, Result.andThen]
  exact hK' _ _ hK
end
theorem results_rt {P : Program} {fn : Func} {p u : Tmp} {ty : TypeId} (h : fn.results = #[.cell p ty, .tmp u]) (tmps : Array Value) (w : World) (g : Nat) (t : TypeId) (cs : Array Value) (fr : Nat × Nat) (d : TypeDesc)
    (hp : tmps.getD p undef = .pointer (some ⟨g, 0, none⟩)) (hg : w.heap[g]? = some (.cells cs t fr))
    (hu : P.underlying ty = some d) (hd : (match d with | .struct _ | .array _ _ => true | _ => false) = true) (hi : (P.info? ty).map (·.size) = some cs.size) (v : Value) (hv : tmps.getD u undef = v) :
    (results fn tmps).run P w = .ok (.tuple #[.agg cs, v]) w := by
  have hp' : tmps[p]?.getD undef = .pointer (some ⟨g, 0, none⟩) := by simpa using hp
  have hv' : tmps[u]?.getD undef = v := by simpa using hv
  simp only [results, h]
  simp [Sem.run_bind, Result.andThen, hp', hv', asAddr, run_loadVar_row w g t ty cs fr d hg hu hd hi]

theorem vbytesB {a b : ByteArray} : (a.toList == b.toList) = true ↔ a = b := by
  rw [ByteArray.toList_eq, ByteArray.toList_eq]
  constructor
  · intro h
    have := eq_of_beq h
    cases a; cases b
    simp only at this
    congr 1
    exact Array.toList_inj.1 this
  · rintro rfl
    exact beq_self_eq_true _
/-- The range of a name among the first k voices, at a moment. -/
def rgOf (V : List VoiceV) (t : Int) (p : ByteArray) (k : Nat) : Option (Int × Int) := (V.take k).foldl (fun acc x => if x.fr ≤ t ∧ x.name = p then some (x.lo, x.hi) else acc) none
def rgS (V : List VoiceV) (t : Int) (k : Nat) : St := fun p => rgOf V t p k
theorem take_snocV {α : Type} {L : List α} {k : Nat} {x : α} (h : L[k]? = some x) : L.take (k + 1) = L.take k ++ [x] := by
  rw [List.take_add_one, h]; rfl
theorem rgOf_succ {V : List VoiceV} {t : Int} {p : ByteArray} {k : Nat} {x : VoiceV} (h : V[k]? = some x) : rgOf V t p (k + 1) = if x.fr ≤ t ∧ x.name = p then some (x.lo, x.hi) else rgOf V t p k := by
  unfold rgOf; rw [take_snocV h, List.foldl_append]; rfl
theorem rgS_in {V : List VoiceV} {t : Int} {k : Nat} {x : VoiceV} (h : V[k]? = some x) (ht : x.fr ≤ t) : rgS V t (k + 1) = (rgS V t k).upd x.name (x.lo, x.hi) := by
  funext p
  show rgOf V t p (k + 1) = _
  rw [rgOf_succ h]
  by_cases e : x.name = p
  · subst e; rw [if_pos ⟨ht, rfl⟩, St.upd_same]
  · rw [if_neg (fun h => e h.2), St.upd_other _ _ (fun h => e h.symm)]; rfl
theorem rgS_out {V : List VoiceV} {t : Int} {k : Nat} {x : VoiceV} (h : V[k]? = some x) (ht : ¬ x.fr ≤ t) : rgS V t (k + 1) = rgS V t k := by
  funext p
  show rgOf V t p (k + 1) = _
  rw [rgOf_succ h, if_neg (fun h => ht h.1)]; rfl

set_option maxRecDepth 100000 in
set_option maxHeartbeats 1600000 in
theorem rangesAt_any (p : Option Addr) (n c : Nat) (V : List VoiceV) (t : Int) (w : World) (h : Sl 4 voiC w p n V) (hs : ∀ x ∈ V, x.Small) (hn : n ≤ 200) :
    Calls Tryz.prog 53 #[.slice p n c, .int .i64 t] w fun e w' => ∃ b, e = .returned (.map (some b)) ∧ w.heap.size ≤ b ∧ OwnR w' b n (rgS V t n) ∧ Ext w w' := by
  have hl := h.1
  have hO := OwnR.made w
  have hE0 : Ext w (w.alloc (.map #[] 0)) := (Ext.refl _).alloc _
  have hmm := @run_makeMap Tryz.prog
  go_enter Tryz.func53, Tryz.ntmps53
  go_upto_region 3 with fail
  clear hmm
  go_loopw [11] (fun v11 wr => ∃ k : Nat, v11 = .int .i64 k ∧ k ≤ n ∧ OwnR wr w.heap.size k (rgS V t k) ∧ Ext w wr) (fun v11 _ => n - (intOf v11).toNat)
  case atStart => exact ⟨0, rfl, Nat.zero_le _, hO, hE0⟩
  case round =>
    clear hO hE0
    obtain ⟨k, rfl, hk, hO, he⟩ := hrel
    by_cases hlt : k < n
    · obtain ⟨b, off, rfl, hb, hE⟩ := h.2.2 (by omega)
      obtain ⟨x, hx⟩ := getD_some hl hlt
      have hbw := Nat.lt_of_lt_of_le hb he.size
      obtain ⟨c0, c1, c2, c3⟩ := (hE.ext he hb).voi hx
      obtain ⟨s1, ⟨s2, s3⟩, ⟨s4, s5⟩, ⟨s6, s7⟩⟩ := hs x (List.mem_of_getElem? hx)
      have he0 : Ext wr (wr.alloc (.cells #[.string x.name, .int .i64 x.fr, .int .i64 x.lo, .int .i64 x.hi] 37)) := (Ext.refl _).alloc _
      have hO1 := hO.ext he0
      have hE1 := he.trans he0
      have hkI : (k : Int) < n := by omega
      clear hE hO
      by_cases ht : x.fr ≤ t
      · obtain ⟨w5, hput, hO5, hg5⟩ := hO1.put s1 (by omega) (x.lo, x.hi)
        rw [← rgS_in hx ht] at hO5
        replace hx := Lib.hid hx
        replace hput := Lib.hid hput
        clear hO1
        go_wp2_with (refine wpList_putV rfl _ _ _ 95 rfl (.map (some w.heap.size)) (.string x.name) (rngV (x.lo, x.hi)) rfl rfl rfl w5 hput.out ?_)
        go_roundw
        case rel => exact ⟨k + 1, by go_num, by omega, hO5, hE1.grown hg5 (fun j e => by cases e; exact Nat.le_refl _)⟩
        case measure => simp [intOf]; omega
      · have hr := rgS_out hx ht
        replace hx := Lib.hid hx
        have htI : ¬ x.fr ≤ t := ht
        go_wp2
        go_roundw
        case rel => exact ⟨k + 1, by go_num, by omega, by rw [hr]; obtain ⟨D, a1, a2, a3, a4, a5⟩ := hO1; exact ⟨D, a1, a2, a3, a4, by omega⟩, hE1⟩
        case measure => simp [intOf]; omega
    · obtain rfl : k = n := by omega
      go_wp2
      go_ret
      exact ⟨_, rfl, Nat.le_refl _, hO, he⟩

/-- The names of those who have a range at a moment, as they stand. -/
def namesAt (V : List VoiceV) (t : Int) (k : Nat) : List ByteArray := ((V.take k).filter fun x => decide (x.fr ≤ t)).map (·.name)
def singersL (V : List VoiceV) (t : Int) : List ByteArray := onceL (namesAt V t V.length)
theorem namesAt_in {V : List VoiceV} {t : Int} {k : Nat} {x : VoiceV} (h : V[k]? = some x) (ht : x.fr ≤ t) : namesAt V t (k + 1) = namesAt V t k ++ [x.name] := by
  unfold namesAt; rw [take_snocV h, List.filter_append, List.map_append]; simp [ht]
theorem namesAt_out {V : List VoiceV} {t : Int} {k : Nat} {x : VoiceV} (h : V[k]? = some x) (ht : ¬ x.fr ≤ t) : namesAt V t (k + 1) = namesAt V t k := by
  unfold namesAt; rw [take_snocV h, List.filter_append, List.map_append]; simp [ht]
theorem namesAt_len (V : List VoiceV) (t : Int) (k : Nat) : (namesAt V t k).length ≤ k := by
  unfold namesAt
  rw [List.length_map]
  exact Nat.le_trans (List.length_filter_le _ _) (by rw [List.length_take]; omega)
theorem rgS_some {V : List VoiceV} {t : Int} {p : ByteArray} : ∀ k, k ≤ V.length → ((rgS V t k p).isSome = true ↔ p ∈ namesAt V t k)
  | 0, _ => by simp [rgS, rgOf, namesAt]
  | k + 1, hk => by
    obtain ⟨x, hx⟩ := getD_some (rfl : V.length = V.length) (show k < V.length by omega)
    have ih := rgS_some (V := V) (t := t) (p := p) k (by omega)
    by_cases ht : x.fr ≤ t
    · rw [rgS_in hx ht, namesAt_in hx ht, List.mem_append, List.mem_singleton, ← ih]
      by_cases e : p = x.name
      · subst e; rw [St.upd_same]; simp
      · rw [St.upd_other _ _ e]; simp [e]
    · rw [rgS_out hx ht, namesAt_out hx ht]; exact ih
theorem singers_rise (V : List VoiceV) (t : Int) : RiseN (singersL V t) := onceL_rise _
theorem singers_mem {V : List VoiceV} {t : Int} (p : ByteArray) : p ∈ singersL V t ↔ (rgS V t V.length p).isSome = true := by
  unfold singersL; rw [onceL_mem, rgS_some _ (Nat.le_refl _)]
theorem singers_len (V : List VoiceV) (t : Int) : (singersL V t).length ≤ V.length := Nat.le_trans (onceL_len_le _) (namesAt_len V t _)
set_option maxRecDepth 100000 in
set_option maxHeartbeats 1600000 in
theorem singersOf_any (p : Option Addr) (n c : Nat) (V : List VoiceV) (t : Int) (w : World) (h : Sl 4 voiC w p n V) (hs : ∀ x ∈ V, x.Small) (hn : n ≤ 200) :
    Calls Tryz.prog 24 #[.slice p n c, .int .i64 t] w fun e w' => ∃ (q : Option Addr) (d : Nat), e = .returned (.slice q (singersL V t).length d) ∧ w'.ownsRow w.heap.size 9 1 (.slice q (singersL V t).length d) (singersL V t).length ((singersL V t).flatMap strC) ∧ Ext w w' := by
  have hl := h.1
  go_enter Tryz.func24, Tryz.ntmps24
  go_wp2
  go_loopw [5, 10] (fun v5 v10 wr => ∃ (k : Nat) (v : Value), v10 = .int .i64 k ∧ v5 = v ∧ k ≤ n ∧ wr.ownsRow w.heap.size 9 1 v (namesAt V t k).length ((namesAt V t k).flatMap strC) ∧ Ext w wr) (fun _ v10 _ => n - (intOf v10).toNat)
  case atStart => exact ⟨0, _, rfl, rfl, Nat.zero_le _, World.ownsRow_nil _ _ _ _, Ext.refl _⟩
  case round =>
    obtain ⟨k, v, rfl, rfl, hk, hown, he⟩ := hrel
    by_cases hlt : k < n
    · obtain ⟨b, off, rfl, hb, hE⟩ := h.2.2 (by omega)
      obtain ⟨x, hx⟩ := getD_some hl hlt
      have hbw := Nat.lt_of_lt_of_le hb he.size
      obtain ⟨c0, c1, c2, c3⟩ := (hE.ext he hb).voi hx
      have he0 : Ext wr (wr.alloc (.cells #[.string x.name, .int .i64 x.fr, .int .i64 x.lo, .int .i64 x.hi] 37)) := (Ext.refl _).alloc _
      have hown1 := own_ext he0 hown
      have hE1 := he.trans he0
      have hkI : (k : Int) < n := by omega
      have hnl := namesAt_len V t k
      have hsz := he.size
      clear hE hown
      by_cases ht : x.fr ≤ t
      · have hna := namesAt_in hx ht
        generalize namesAt V t k = T at *
        have hlT : (T ++ [x.name]).length = T.length + 1 := by simp
        replace hx := Lib.hid hx
        replace hna := Lib.hid hna
        go_wp2_with (at_builtin; go_loud (refine wp_app1 _ (.tmp 18) (.tmp 21) 46 9 1 16 _ rfl rfl Tryz.underlying46 nmInfo rfl (by decide) (by decide) w.heap.size _ T.length _ rfl (hown1.alloc _) (wr.heap.size + 1) (strC x.name) rfl rfl (Blk.new' (by simp)) (by simp [strC, Value.oneCell']) (by omega) (by simp; omega) ?_; intro v' w6 hown6 hgrow6 _))
        go_roundw
        case rel => exact ⟨k + 1, v', by go_num, rfl, by omega, by rw [hna.out, flat_snoc, hlT]; exact hown6, (hE1.alloc _).grown hgrow6 fun j e => (hown1.lt j e).1⟩
        case measure => simp [intOf]; omega
      · have hna := namesAt_out hx ht
        generalize namesAt V t k = T at *
        replace hx := Lib.hid hx
        replace hna := Lib.hid hna
        replace hown1 := Lib.hid hown1
        have htI : ¬ x.fr ≤ t := ht
        go_wp2
        go_roundw
        case rel => exact ⟨k + 1, _, by go_num, rfl, by omega, by rw [hna.out]; exact hown1.out, hE1⟩
        case measure => simp [intOf]; omega
    · obtain rfl : k = n := by omega
      have hnl := namesAt_len V t k
      have hsi : singersL V t = onceL (namesAt V t k) := by unfold singersL; rw [hl]
      generalize namesAt V t k = T at *
      replace hsi := Lib.hid hsi
      obtain ⟨q, d, rfl, hSl⟩ := slc_of_own (enc := strC) (fun _ => rfl) hown (by decide) (by omega)
      have hon := onceG_any q T.length d T wr hSl.1 (by omega)
      have hsz := he.size
      replace hon := Lib.hid hon
      replace hown := Lib.hid hown
      replace hSl := Lib.hid hSl
      go_wp2_with (go_at_call 50; (with_reducible refine Calls.mono hon.out ?_); rintro e w1 ⟨q1, d1, rfl, ho1, hb1⟩)
      go_ret
      exact ⟨q1, d1, by rw [hsi.out]; rfl, by rw [hsi.out]; exact ⟨ho1.1, ho1.2.imp id fun ⟨g, cap, cur, hv, hg, r⟩ => ⟨g, cap, cur, hv, by omega, r⟩⟩, he.trans hb1⟩

set_option maxRecDepth 100000 in
set_option maxHeartbeats 1600000 in
theorem rangeOf_any (q : Option Addr) (n c : Nat) (V : List VoiceV) (p : ByteArray) (t : Int) (w : World) (h : Sl 4 voiC w q n V) (hs : ∀ x ∈ V, x.Small) (hn : n ≤ 200) (hp : p.size ≤ 1000) :
    Calls Tryz.prog 23 #[.slice q n c, .string p, .int .i64 t] w fun e w' => e = .returned (.tuple #[rngV ((rgS V t n p).getD (0, 0)), .bool (rgS V t n p).isSome]) ∧ Ext w w' := by
  have hl := h.1
  have hR : Blk ((w.alloc (.cells #[.int .i64 0, .int .i64 0] 35)).alloc (.cells #[.int .i64 0, .int .i64 0] 35)) w.heap.size 35 #[.int .i64 0, .int .i64 0] := (Blk.new' rfl).alloc _
  have hO : Blk ((w.alloc (.cells #[.int .i64 0, .int .i64 0] 35)).alloc (.cells #[.int .i64 0, .int .i64 0] 35)) (w.heap.size + 1) 35 #[.int .i64 0, .int .i64 0] := Blk.new' (by simp)
  have hE0 : Ext w ((w.alloc (.cells #[.int .i64 0, .int .i64 0] 35)).alloc (.cells #[.int .i64 0, .int .i64 0] 35)) := ((Ext.refl _).alloc _).alloc _
  go_enter Tryz.func23, Tryz.ntmps23
  go_upto_region 4 with fail
  generalize (w.alloc (.cells #[.int .i64 0, .int .i64 0] 35)).alloc (.cells #[.int .i64 0, .int .i64 0] 35) = W at *
  go_loopw [9, 14] (fun v9 v14 wr => ∃ (k : Nat), v14 = .int .i64 k ∧ k ≤ n ∧ v9 = .bool (rgS V t k p).isSome ∧ Blk wr w.heap.size 35 #[.int .i64 0, .int .i64 0] ∧ Blk wr (w.heap.size + 1) 35 #[.int .i64 ((rgS V t k p).getD (0, 0)).1, .int .i64 ((rgS V t k p).getD (0, 0)).2] ∧ Ext w wr) (fun _ v14 _ => n - (intOf v14).toNat)
  case atStart => exact ⟨0, rfl, Nat.zero_le _, rfl, hR, hO, hE0⟩
  case round =>
    clear hR hO hE0
    obtain ⟨k, rfl, hk, rfl, hR, hO, he⟩ := hrel
    by_cases hlt : k < n
    · obtain ⟨b, off, rfl, hb, hE⟩ := h.2.2 (by omega)
      obtain ⟨x, hx⟩ := getD_some hl hlt
      have hbw := Nat.lt_of_lt_of_le hb he.size
      obtain ⟨c0, c1, c2, c3⟩ := (hE.ext he hb).voi hx
      have hxs := (hs x (List.mem_of_getElem? hx)).1
      have he0 : Ext wr (wr.alloc (.cells #[.string x.name, .int .i64 x.fr, .int .i64 x.lo, .int .i64 x.hi] 37)) := (Ext.refl _).alloc _
      have hE1 := he.trans he0
      have hR1 := hR.ext he0
      have hO1 := hO.ext he0
      have hkI : (k : Int) < n := by omega
      have hnx : rgS V t (k + 1) p = if x.fr ≤ t ∧ x.name = p then some (x.lo, x.hi) else rgS V t k p := rgOf_succ hx
      obtain ⟨z1, z2⟩ := hO.walk
      have zl := hO.lt
      have hwl : w.heap.size + 1 ≠ wr.heap.size := by omega
      generalize rgS V t k p = R at *
      replace hx := Lib.hid hx
      have hO0 := hO
      have hR0 := hR
      clear hE hR hO
      by_cases hnm : x.name = p
      · by_cases ht : x.fr ≤ t
        · rw [if_pos ⟨ht, hnm⟩] at hnx
          have hb1 : (x.name.toList == p.toList) = true := by rw [hnm]; simp
          have hO2 := (((hO0.set_ 0 (.int .i64 x.lo)).set_ 1 (.int .i64 x.hi)).cast (cs' := #[.int .i64 x.lo, .int .i64 x.hi]) (by simp)).alloc (.cells #[.string x.name, .int .i64 x.fr, .int .i64 x.lo, .int .i64 x.hi] 37)
          have hR2 := ((hR0.far (p := ⟨w.heap.size + 1, 0, none⟩) (by simp only; omega) (.int .i64 x.lo)).far (p := ⟨w.heap.size + 1, 1, none⟩) (by simp only; omega) (.int .i64 x.hi)).alloc (.cells #[.string x.name, .int .i64 x.fr, .int .i64 x.lo, .int .i64 x.hi] 37)
          have hE2 := ((he.setCell (p := ⟨w.heap.size + 1, 0, none⟩) (by simp only; omega) (.int .i64 x.lo)).setCell (p := ⟨w.heap.size + 1, 1, none⟩) (by simp only; omega) (.int .i64 x.hi)).alloc (.cells #[.string x.name, .int .i64 x.fr, .int .i64 x.lo, .int .i64 x.hi] 37)
          replace hnx := Lib.hid hnx
          replace hnm := Lib.hid hnm
          replace hO2 := Lib.hid hO2
          replace hR2 := Lib.hid hR2
          clear hO1 hR1 hO0 hR0
          go_wp2
          go_roundw
          case rel => exact ⟨k + 1, by go_num, by omega, by rw [hnx.out]; rfl, hR2.out, by rw [hnx.out]; exact hO2.out, hE2⟩
          case measure => simp [intOf]; omega
        · rw [if_neg (fun h => ht h.1)] at hnx
          have hb1 : (x.name.toList == p.toList) = true := by rw [hnm]; simp
          replace hnx := Lib.hid hnx
          replace hnm := Lib.hid hnm
          replace hO1 := Lib.hid hO1
          replace hR1 := Lib.hid hR1
          have htI : ¬ x.fr ≤ t := ht
          go_wp2
          go_roundw
          case rel => exact ⟨k + 1, by go_num, by omega, by rw [hnx.out], hR1.out, by rw [hnx.out]; exact hO1.out, hE1⟩
          case measure => simp [intOf]; omega
      · rw [if_neg (fun h => hnm h.2)] at hnx
        have hb1 : (x.name.toList == p.toList) = false := by
          cases hb : (x.name.toList == p.toList)
          · rfl
          · exact absurd (vbytesB.1 hb) hnm
        replace hnx := Lib.hid hnx
        replace hO1 := Lib.hid hO1
        replace hR1 := Lib.hid hR1
        go_wp2
        go_roundw
        case rel => exact ⟨k + 1, by go_num, by omega, by rw [hnx.out], hR1.out, by rw [hnx.out]; exact hO1.out, hE1⟩
        case measure => simp [intOf]; omega
    · obtain rfl : k = n := by omega
      obtain ⟨R, hRR⟩ : ∃ R, rgS V t k p = R := ⟨_, rfl⟩
      rw [hRR] at hO ⊢
      obtain ⟨z1, z2⟩ := hO.walk
      have zl := hO.lt
      obtain ⟨y1, y2⟩ := hR.walk
      have hF1 := ((hR.set_ 0 (.int .i64 (R.getD (0, 0)).1)).set_ 1 (.int .i64 (R.getD (0, 0)).2)).cast (cs' := #[.int .i64 (R.getD (0, 0)).1, .int .i64 (R.getD (0, 0)).2]) (by simp)
      have hE2 := (he.setCell (p := ⟨w.heap.size, 0, none⟩) (Nat.le_refl _) (.int .i64 (R.getD (0, 0)).1)).setCell (p := ⟨w.heap.size, 1, none⟩) (Nat.le_refl _) (.int .i64 (R.getD (0, 0)).2)
      replace hF1 := Lib.hid hF1
      go_wp2
      go_light
      exact bodyPost_ret (results_rt Tryz.results23 _ _ w.heap.size 35 _ (0, 0) _ rfl hF1.out Tryz.underlying35 rfl (by kernel_rfl) _ rfl) rfl ⟨by rw [hRR]; rfl, hE2⟩

end Go.Proofs.YtboplnogfjmpnaaGreatDoor
