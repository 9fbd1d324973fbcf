/- A scale that is turned once. Conditions: as each theorem says. -/
import Derived.Test.YtkfdolnnkbhlhaaDoorMathF
namespace Go.Proofs.YtkfdolnnkbhlhaaDoor
open Go Go.RowKit

theorem results_row_tmp {P : Program} {fn : Func} {p q : Tmp} {ty : TypeId} (h : fn.results = #[.cell p ty, .tmp q]) (tmps : Array Value) (w : World) (g : Nat) (t : TypeId) (cs : Array Value) (fr : Nat × Nat) (d : TypeDesc)
    (hp : tmps.getD p undef = .pointer (some ⟨g, 0, none⟩)) (hg : w.heap[g]? = some (.cells cs t fr))
    (hu : P.underlying ty = some d) (hd : (match d with | .struct _ | .array _ _ => true | _ => false) = true) (hi : (P.info? ty).map (·.size) = some cs.size) (v : Value) (hq : tmps.getD q undef = v) :
    (results fn tmps).run P w = .ok (.tuple #[.agg cs, v]) w := by
  have hp' : tmps[p]?.getD undef = .pointer (some ⟨g, 0, none⟩) := by simpa using hp
  have hq' : tmps[q]?.getD undef = v := by simpa using hq
  simp [results, h, hp', hq', asAddr, run_loadVar_row w g t ty cs fr d hg hu hd hi]
theorem fault01 : ∀ ys : List I4, faultAll ys = 0 ∨ faultAll ys = 1
  | [] => .inl rfl
  | x :: l => by
    unfold faultAll
    split
    · exact fault01 l
    · exact .inr rfl
theorem row_store_self {w : World} {g : Nat} {t : TypeId} {cs : Array Value} (h : Blk w g t cs) : Blk (w.setRow g cs) g t cs := setRow_blk h

set_option maxRecDepth 100000 in
set_option maxHeartbeats 3200000 in
theorem turned_any (xs : List I4) (w : World) (h : ScaleOk xs) :
    Calls Tryd.prog 6 #[.agg (sc xs), .int .i64 1] w fun e w' => ∃ (ys : List I4) (f : Int), e = .returned (.tuple #[.agg (sc ys), .int .i64 f]) ∧ ys.length = 12 ∧ (f = 0 ∨ f = 1) ∧ (f = 0 → ys = turn xs ∧ faultAll (turn xs) = 0) ∧ Ext w w' := by
  have hl := h.len
  have hi := sc_info hl
  have hck := fun u => checkScale_ok xs u h
  have hX : Blk ((w.alloc (.cells (sc xs) 29)).alloc (.cells (sc zeroL) 29)) w.heap.size 29 (sc xs) := (Blk.new' rfl).alloc _
  have hZ : Blk ((w.alloc (.cells (sc xs) 29)).alloc (.cells (sc zeroL) 29)) (w.heap.size + 1) 29 (sc zeroL) := Blk.new' (by simp)
  have hE : Ext w ((w.alloc (.cells (sc xs) 29)).alloc (.cells (sc zeroL) 29)) := ((Ext.refl w).alloc _).alloc _
  replace hck := Lib.hid hck
  have h' := Lib.hid h
  have hl' := Lib.hid hl
  clear h hl
  go_enter Tryd.func6, Tryd.ntmps6
  go_upto_region 7 with (first
    | (refine wpList_load_row rfl 29 _ rfl w.heap.size rfl 29 (sc xs) (0, 0) _ hX Tryd.underlying29 rfl hi ?_)
    | (go_at_call 8; (with_reducible refine Calls.mono (hck.out _) ?_); rintro e w1 ⟨rfl, hb1⟩; have hX1 := hX.ext hb1; have hZ1 := hZ.ext hb1; have hE1 := hE.trans hb1; clear hX hZ hE hb1)
    | (go_at_call 20; refine (outside_any _ _ _ _).mono ?_; rintro e w' ⟨rfl, rfl⟩)
    | (refine wpList_store_row rfl 29 _ _ rfl w1.heap.size (sc zeroL) rfl rfl 29 _ (heap_alloc_new w1 _) (sc_info rfl) rfl (by kernel_rfl) ?_))
  have lX := hX1.lt
  have lZ := hZ1.lt
  have hsz := hE1.size
  obtain ⟨W, hW⟩ : ∃ W, W = (w1.alloc (.cells (sc zeroL) 29)).setRow w1.heap.size (sc zeroL) := ⟨_, rfl⟩
  have hT2 : Blk W w1.heap.size 29 (sc zeroL) := hW ▸ setRow_blk (heap_alloc_new w1 _)
  have hX2 : Blk W w.heap.size 29 (sc xs) := hW ▸ (hX1.alloc _).rowFar (Nat.ne_of_lt lX) _
  have hZ2 : Blk W (w.heap.size + 1) 29 (sc zeroL) := hW ▸ (hZ1.alloc _).rowFar (Nat.ne_of_lt lZ) _
  have hE2 : Ext w W := hW ▸ setRow_ext (hE1.alloc _) hsz
  have hg1 : w.heap.size < w1.heap.size := lX
  have hg2 : w.heap.size + 1 < w1.heap.size := lZ
  change Code.wp _ _ _ _ ((w1.alloc (.cells (sc zeroL) 29)).setRow w1.heap.size (sc zeroL))
  rw [← hW]
  clear hX1 hZ1 hE1 hck hW lX lZ hsz
  generalize w1.heap.size = g at *
  go_wp2
  go_loopw [20] (fun i wr => ∃ k : Nat, k ≤ 12 ∧ i = .int .i64 k ∧ Blk wr g 29 (sc ((turn xs).take k ++ zeroL.drop k)) ∧ Blk wr w.heap.size 29 (sc xs) ∧ Blk wr (w.heap.size + 1) 29 (sc zeroL) ∧ Ext w wr) (fun i _ => 12 - (intOf i).toNat)
  case atStart => exact ⟨0, by omega, rfl, hT2, hX2, hZ2, hE2⟩
  case round =>
    clear hT2 hX2 hZ2 hE2
    obtain ⟨k, hk, rfl, hT, hX, hZ, hE⟩ := hrel
    have htl : ((turn xs).take k ++ zeroL.drop k).length = 12 := by
      rw [List.length_append, List.length_take, List.length_drop, turn_len]
      show min k 12 + (12 - k) = 12
      omega
    by_cases hlt : k < 12
    · obtain ⟨x1, hx1⟩ := getD_some hl'.out (show 1 < 12 by omega)
      obtain ⟨x2, hx2⟩ := getD_some hl'.out (Nat.mod_lt (1 + k) (show 0 < 12 by omega))
      obtain ⟨y, hy⟩ := getD_some htl hlt
      have hte : betI x1 x2 1 (1 + k) = turnE xs k := by
        unfold turnE
        rw [List.getD_eq_getElem?_getD, List.getD_eq_getElem?_getD, hx1, hx2]
        rfl
      have hset := set_take_drop (xs := zeroL) (ys := turn xs) (k := k) (by rw [turn_len]; rfl) (turn_at xs hlt)
      have hb : ∀ u, Calls Tryd.prog 21 #[.agg (sc xs), .int .i64 1, .int .i64 (1 + (k : Int))] u fun e w' => e = .returned (.agg #[.int .i64 (turnE xs k).a, .int .i64 (turnE xs k).b, .int .i64 (turnE xs k).c, .int .i64 (turnE xs k).d]) ∧ Ext u w' := fun u => by
        have := between_any xs 1 (1 + k) x1 x2 u hl'.out (by omega) (by omega) hx1 hx2 (h'.out.right x1 (List.mem_of_getElem? hx1)) (h'.out.right x2 (List.mem_of_getElem? hx2))
        rw [hte, show ((1 + k : Nat) : Int) = 1 + (k : Int) by omega] at this
        exact this
      have hw1 : IntKind.i64.wrap (1 + (k : Int)) = 1 + (k : Int) := IntWalk.i64_in _ (by omega)
      have hk3 : (k : Int) < 12 := by omega
      replace hx1 := Lib.hid hx1
      replace hx2 := Lib.hid hx2
      replace hte := Lib.hid hte
      replace hset := Lib.hid hset
      replace hb := Lib.hid hb
      replace htl := Lib.hid htl
      generalize hz : turnE xs k = z at *
      replace hz := Lib.hid hz
      go_wp2_with (first
        | (refine wpList_load_row rfl 29 _ rfl w.heap.size rfl 29 (sc xs) (0, 0) _ hX Tryd.underlying29 rfl hi ?_)
        | (go_at_call 21; (with_reducible refine Calls.mono (hb.out _) ?_); rintro e w1 ⟨rfl, hb1⟩; have hX1 := hX.ext hb1; have hZ1 := hZ.ext hb1; have hT1 := hT.ext hb1; have hE1 := hE.trans hb1; obtain ⟨c0, c1, c2, c3⟩ := (sc_rows hT1).at_ hy; have hfz := hT1.frozen; replace hy := Lib.hid hy; clear hX hZ hT hE hb1))
      go_roundw
      case rel =>
        have hp := sc_put hT1 hy.out z
        rw [hset.out] at hp
        exact ⟨k + 1, by omega, by go_num, hp, ((((hX1.far (Nat.ne_of_lt hg1) _).far (Nat.ne_of_lt hg1) _).far (Nat.ne_of_lt hg1) _).far (Nat.ne_of_lt hg1) _), ((((hZ1.far (Nat.ne_of_lt hg2) _).far (Nat.ne_of_lt hg2) _).far (Nat.ne_of_lt hg2) _).far (Nat.ne_of_lt hg2) _), (((hE1.setCell (Nat.le_of_lt hg1) _).setCell (Nat.le_of_lt hg1) _).setCell (Nat.le_of_lt hg1) _).setCell (Nat.le_of_lt hg1) _⟩
      case measure => simp [intOf]; omega
    · obtain rfl : k = 12 := by omega
      have he12 : (turn xs).take 12 ++ zeroL.drop 12 = turn xs := by
        rw [List.take_of_length_le (Nat.le_of_eq (turn_len xs)), show zeroL.drop 12 = [] from rfl, List.append_nil]
      rw [he12] at hT
      rw [show ((12 : Nat) : Int) = 12 from rfl]
      have hck := checkAll_any g 0 12 (turn xs) wr (by rw [turn_len]; omega) (sc_rows hT) hT.lt
      rw [turn_len] at hck
      have hit := sc_info (turn_len xs)
      have hst := sc_same (show zeroL.length = 12 from rfl) (turn_len xs)
      have hot := sc_one (turn xs)
      have hlen := turn_len xs
      generalize hys : turn xs = ys at *
      replace hys := Lib.hid hys
      clear he12 htl hlt hk
      have hf01 : faultAll ys = 0 ∨ faultAll ys = 1 := fault01 ys
      replace hlen := Lib.hid hlen
      by_cases hz : faultAll ys = 0
      · rw [hz] at hck
        replace hz := Lib.hid hz
        go_wp2_with (first
          | (go_at_call 22; (with_reducible refine Calls.mono hck ?_); rintro e w1 ⟨rfl, hb1⟩; have hZ1 := hZ.ext hb1; have hT1 := hT.ext hb1; have hE1 := hE.trans hb1; clear hX hZ hT hE hb1)
          | (refine wpList_load_row rfl 29 _ rfl g rfl 29 (sc ys) (0, 0) _ hT1 Tryd.underlying29 rfl hit ?_)
          | (refine wpList_store_row rfl 29 _ _ rfl (w.heap.size + 1) (sc ys) rfl rfl 29 _ hZ1 hit hst hot ?_))
        exact bodyPost_ret (v := .tuple #[.agg (sc ys), .int .i64 0]) (results_row_tmp Tryd.results6 _ _ (w.heap.size + 1) 29 (sc ys) (0, 0) _ rfl (setRow_blk hZ1) Tryd.underlying29 rfl hit _ rfl) rfl ⟨ys, 0, rfl, hlen.out, .inl rfl, fun _ => ⟨hys.out.symm, by rw [hys.out]; exact hz.out⟩, setRow_ext hE1 (by omega)⟩
      · obtain hz1 : faultAll ys = 1 := by omega
        rw [hz1] at hck
        replace hz := Lib.hid hz
        go_wp2_with (first
          | (go_at_call 22; (with_reducible refine Calls.mono hck ?_); rintro e w1 ⟨rfl, hb1⟩; have hZ1 := hZ.ext hb1; have hT1 := hT.ext hb1; have hE1 := hE.trans hb1; clear hX hZ hT hE hb1)
          | (refine wpList_store_row rfl 29 _ _ rfl (w.heap.size + 1) (sc zeroL) rfl rfl 29 _ hZ1 (sc_info rfl) rfl (by kernel_rfl) ?_))
        exact bodyPost_ret (v := .tuple #[.agg (sc zeroL), .int .i64 1]) (results_row_tmp Tryd.results6 _ _ (w.heap.size + 1) 29 (sc zeroL) (0, 0) _ rfl (setRow_blk hZ1) Tryd.underlying29 rfl (sc_info rfl) _ rfl) rfl ⟨zeroL, 1, rfl, rfl, .inr rfl, (fun h => by cases h), setRow_ext hE1 (by omega)⟩
end Go.Proofs.YtkfdolnnkbhlhaaDoor
