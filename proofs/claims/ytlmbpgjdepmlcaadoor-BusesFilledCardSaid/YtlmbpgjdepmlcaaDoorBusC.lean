/- Groups that the stream makes. Conditions: as each theorem says. -/
import Derived.Test.YtlmbpgjdepmlcaaDoorBusB
import Derived.Test.YtlmbpgjdepmlcaaDoorStreamC
import Derived.Test.YtlmbpgjdepmlcaaDoorShelf
import Derived.Test.YtlmbpgjdepmlcaaDoorApp
namespace Go.Proofs.YtlmbpgjdepmlcaaDoor
open Go Go.RowKit

theorem digit_size : ∀ j : Fin 10, (⟨(Lib.decDigits j.val).toArray⟩ : ByteArray).size = 1 := by decide +kernel
theorem digit_any (j : Nat) (hj : j < 10) (w : World) :
    Calls Tryd.prog 42 #[.int .i64 j] w fun e w' => ∃ d : ByteArray, d.size = 1 ∧ e = .returned (.string d) ∧ w = w' :=
  (Tryd.strconv_Itoa_small j (by omega) w).mono fun e w' h => ⟨_, digit_size ⟨j, hj⟩, h.1, h.2.symm⟩
theorem grpInfo : (Tryd.prog.info? 49).map (fun i => (i.zero, i.size, i.bytes)) = some (some (.agg #[.string ⟨#[]⟩, .int .i64 0]), 2, 24) := by kernel_rfl
theorem grp_flat_len : ∀ (xs : List GrpV), (xs.flatMap grpC).length = xs.length * 2
  | [] => rfl
  | x :: l => by rw [List.flatMap_cons, List.length_append, grp_flat_len l, grpC_len, List.length_cons]; omega
theorem grp_mod2 {w : World} {base g n cap : Nat} {xs : List GrpV} (h : w.ownsRow base 49 2 (.slice (some ⟨g, 0, none⟩) n cap) n (xs.flatMap grpC)) {i : Nat} {x : GrpV} (hx : xs[i]? = some x) (nm : ByteArray) (m : Int) :
    ((w.setCell ⟨g, i * 2, none⟩ (.string nm)).setCell ⟨g, i * 2 + 1, none⟩ (.int .i64 m)).ownsRow base 49 2 (.slice (some ⟨g, 0, none⟩) n cap) n ((xs.set i ⟨nm, m⟩).flatMap grpC) := by
  have hi := (List.getElem?_eq_some_iff.1 hx).1
  have hs : ∀ y : GrpV, (xs.set i y)[i]? = some y := fun y => List.getElem?_set_self hi
  have h1 := own_set1 grpC_len h ⟨nm, x.many⟩ hx 0 (by decide) (.string nm) rfl
  have h2 := own_set1 grpC_len h1 ⟨nm, m⟩ (hs _) 1 (by decide) (.int .i64 m) rfl
  rw [List.set_set] at h2
  exact h2

set_option maxRecDepth 100000 in
set_option maxHeartbeats 6400000 in
theorem groupList_any (s k : Nat) (w : World) (hk : k ≤ 990000) (h : Str w s k) :
    Calls Tryd.prog 13 #[.pointer (some ⟨s, 0, none⟩)] w fun e w' => ∃ (p : Option Addr) (n c : Nat) (L : List GrpV), e = .returned (.slice p n c) ∧ n ≤ 6 ∧ Slc 2 grpC w' p n c L ∧ (∀ a, p = some a → w.heap.size ≤ a.block) ∧ (∀ x ∈ L, x.Small) ∧ Str w' s (k + 20) ∧ ExtS s w w' := by
  have l0 := h.lt
  go_enter Tryd.func13, Tryd.ntmps13
  go_upto_region 3 with (go_at_call 14; (with_reducible refine Calls.mono (range_any s k 0 6 _ (by omega) (by omega) (by omega) (by omega) (by omega) h) ?_); rintro e w1 ⟨v, rfl, hv0, hv1, hS1, hE1⟩; obtain ⟨m, rfl⟩ : ∃ m : Nat, v = m := ⟨v.toNat, by omega⟩)
  clear h
  go_loopw [3, 8] (fun v i wr => ∃ (j : Nat) (xs : List GrpV), j ≤ m ∧ i = .int .i64 j ∧ wr.ownsRow w.heap.size 49 2 v j (xs.flatMap grpC) ∧ (∀ x ∈ xs, x.Small) ∧ Str wr s (k + 1 + j) ∧ ExtS s w wr) (fun _ i _ => m - (intOf i).toNat)
  case atStart => exact ⟨0, [], by omega, rfl, World.ownsRow_nil _ _ _ _, (fun x hx => by cases hx), hS1, hE1⟩
  case round =>
    clear hS1 hE1
    obtain ⟨j, xs, hj, rfl, hown, hf, hS, hE⟩ := hrel
    by_cases hlt : j < m
    · replace hf := Lib.hid hf
      have hsz0 := hE.2.2.2.1
      have l1 := hS.lt
      go_wp2_with (first
        | (go_at_call 42; (with_reducible refine Calls.mono (digit_any j (by omega) _) ?_); rintro e w2 ⟨d, hd, rfl, rfl⟩)
        | (go_at_call 19; refine (pick_in s (k + 1 + j) _ _ 6 [1, 2, 3, 4, 5, 7] 1 7 _ (by omega) (by simp) (by simp) (by exact hS.ext (Ext.alloc (Ext.refl _) _)) (by exact Nat.ne_of_gt l1) (by exact Blk.new' rfl) (by decide)).mono ?_; rintro e w3 ⟨mm, m1, m2, rfl, hS3, hE3⟩; have hE3' := (hE.alloc _).trans hE3; have ho3 := own_extS hE3 (by omega) (hown.alloc _); clear hS hE hE3 hown)
        | (at_builtin; go_loud (refine wp_app1 _ (.tmp 11) (.tmp 19) 40 49 2 24 _ rfl rfl Tryd.underlying40 grpInfo rfl (by decide) (by decide) w.heap.size _ j _ rfl (ho3.alloc _) w3.heap.size (grpC ⟨⟨#[103]⟩ ++ d, mm⟩) rfl rfl (Blk.new' rfl) (grp_one _) (by omega) (by have := hE3'.2.2.2.1; simp; omega) ?_; intro v' w6 hown6 hgrow6 _)))
      go_roundw
      case rel =>
        exact ⟨j + 1, xs ++ [⟨⟨#[103]⟩ ++ d, mm⟩], by omega, by go_num, by rw [flat_snoc]; exact hown6, (fun x hx => by
          rcases List.mem_append.1 hx with h1 | h1
          · exact hf.out x h1
          · obtain rfl : x = ⟨⟨#[103]⟩ ++ d, mm⟩ := by simpa using h1
            exact ⟨by simp only [ByteArray.size_append, hd]; decide, by simp only; omega, by simp only; omega⟩), ((hS3.ext (Ext.alloc (Ext.refl _) _)).app (ho3.alloc _) (by omega) hgrow6).more (by omega), (hE3'.alloc _).app (ho3.alloc _) (by omega) hgrow6⟩
      case measure => simp [intOf]; omega
    · obtain rfl : j = m := by omega
      rcases Nat.eq_zero_or_pos j with h0 | h0
      · subst h0
        obtain ⟨p, c, rfl, hSl⟩ := slc_of_own grpC_len hown (by decide) (by omega)
        have hpa : ∀ a, p = some a → w.heap.size ≤ a.block := fun a ha => by
          subst ha
          exact (hown.lt a.block rfl).1
        replace hpa := Lib.hid hpa
        replace hown := Lib.hid hown
        replace hf := Lib.hid hf
        replace hSl := Lib.hid hSl
        go_wp2
        go_ret
        exact ⟨p, 0, c, xs, rfl, by omega, hSl.out, hpa.out, hf.out, hS.more (by omega), hE⟩
      · obtain ⟨g, cap, rfl, hg, hgl⟩ := hown.form h0
        have hxl : xs.length = j := by
          have := hown.1
          rw [grp_flat_len] at this
          omega
        replace hown := Lib.hid hown
        replace hf := Lib.hid hf
        replace hxl := Lib.hid hxl
        go_upto_if 28 with (go_at_call 27; (with_reducible refine Calls.mono (flip_any s (k + 1 + j) 15 _ (by omega) (by omega) (by omega) hS) ?_); rintro e w2 ⟨bb, rfl, hS2, hE2⟩)
        have hE2' := hE.trans hE2
        have ho2 := own_extS hE2 (by omega) hown.out
        clear hS hE hE2 hown
        replace ho2 := Lib.hid ho2
        cases bb
        · obtain ⟨p, c, hpc, hSl⟩ := slc_of_own grpC_len ho2.out (by decide) (by omega)
          cases hpc
          replace hSl := Lib.hid hSl
          go_wp2
          go_ret
          exact ⟨_, j, _, xs, rfl, by omega, hSl.out, (fun a ha => by cases ha; exact hg), hf.out, hS2.more (by omega), hE2'⟩
        · go_upto_region 9 with (go_at_call 28; (with_reducible refine Calls.mono (next_any s (k + 1 + j + 1) j _ (by omega) (by omega) (by omega) hS2) ?_); rintro e w3 ⟨i, rfl, hi, hS3, hE3⟩)
          have hE3' := hE2'.trans hE3
          have ho3 := own_extS hE3 (by omega) ho2.out
          clear hS2 hE2' hE3 ho2 hgl
          obtain ⟨x, hx⟩ := getD_some hxl.out hi
          obtain ⟨s1, s3, s4⟩ := hf.out x (List.mem_of_getElem? hx)
          have hgl : g < w3.heap.size := (ho3.lt g rfl).2
          have hgs : g ≠ s := by omega
          have hsl : s < w3.heap.size := hS3.lt
          have c0 : w3.cell? ⟨g, i * 2, none⟩ = some (.string x.name) := own_cell grpC_len ho3 hx 0 rfl hi
          replace ho3 := Lib.hid ho3
          replace hx := Lib.hid hx
          have hsg : s < g := by omega
          have hwg : w.heap.size ≤ g := by omega
          go_wp2_with (first
            | (go_at_call 7; refine (somes_any s (k + 1 + j + 1 + 1) _ _ 3 [x.name, ⟨#[]⟩, ⟨#[103, 48]⟩] _ (by omega) (by simp) (by simp) (by exact hS3.ext (Ext.alloc (Ext.refl _) _)) (by exact Nat.ne_of_gt hsl) (by exact Blk.new' rfl)).mono ?_; rintro e w4 ⟨nm, hnm, rfl, hS4, hE4⟩; have hE4' := (hE3'.alloc _).trans hE4; have ho4 := own_extS hE4 (by omega) (ho3.out.alloc _); clear hS3 hE3' hE4 ho3 c0; replace ho4 := Lib.hid ho4)
            | (go_at_call 29; refine (odd_any s (k + 1 + j + 1 + 1 + 1) 1 100 _ (by omega) (by omega) (by omega) (by omega) (by omega) hS4).mono ?_; rintro e w5 ⟨z2, rfl, za, zb, hS5, hE5⟩; have hE5' := hE4'.trans hE5; have ho5 := own_extS hE5 (by omega) ho4.out; have c0 : w5.cell? ⟨g, i * 2, none⟩ = some (.string x.name) := own_cell grpC_len ho5 hx.out 0 rfl hi; have c1 : w5.cell? ⟨g, i * 2 + 1, none⟩ = some (.int .i64 x.many) := own_cell grpC_len ho5 hx.out 1 rfl hi; have z0 : ∀ o, w5.frozen? ⟨g, o, none⟩ = false := fun o => ho5.frozenAt o; replace ho5 := Lib.hid ho5; clear hS4 hE4' hE5 ho4))
          have hset := grp_mod2 ho5.out hx.out nm z2
          obtain ⟨p, c, hpc, hSl⟩ := slc_of_own grpC_len hset (by decide) (by omega)
          cases hpc
          go_ret
          exact ⟨_, j, _, xs.set i ⟨nm, z2⟩, rfl, by omega, hSl, (fun a ha => by cases ha; exact hwg), (fun y hy => by
            rcases List.mem_or_eq_of_mem_set hy with h1 | h1
            · exact hf.out y h1
            · subst h1
              refine ⟨?_, za, zb⟩
              rcases (by simpa using hnm : nm = x.name ∨ nm = ⟨#[]⟩ ∨ nm = ⟨#[103, 48]⟩) with rfl | rfl | rfl
              · exact s1
              · show (⟨#[]⟩ : ByteArray).size ≤ 1000
                decide
              · show (⟨#[103, 48]⟩ : ByteArray).size ≤ 1000
                decide), ((hS5.set hsg _).set hsg _).more (by omega), (hE5'.setCell (.inr hwg) _).setCell (.inr hwg) _⟩
end Go.Proofs.YtlmbpgjdepmlcaaDoor
