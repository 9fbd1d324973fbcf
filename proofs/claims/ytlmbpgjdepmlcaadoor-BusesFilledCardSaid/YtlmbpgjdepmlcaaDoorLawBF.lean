/- CheckGroups and Buses are as specified for all groups and seats: the property answers true. Conditions: the argument is a list of ints that lies in memory; the table of the powers of ten stands. -/
import Derived.Test.YtlmbpgjdepmlcaaDoorBusT
import Derived.Test.YtlmbpgjdepmlcaaDoorRowKit
namespace Go.Proofs.YtlmbpgjdepmlcaaDoor
open Go Go.RowKit

theorem rows_short {most : Nat} {L : List GrpV} {bs : List Nat} (hL : L.length ≤ 12) : ∀ r ∈ rowsN most (nameL L) bs, r.length ≤ 1000 := fun r hr => by
  obtain ⟨b, _, rfl⟩ := List.mem_map.1 hr
  have h1 := pickN_len b (nameL L) bs
  have h2 : (nameL L).length = L.length := List.length_map _
  omega
theorem rowsN_len (most : Nat) (ss : List ByteArray) (bs : List Nat) : (rowsN most ss bs).length = most := by simp [rowsN]
theorem fewest_nil {seat : Int} {most : Nat} {bs : List Nat} (h : Fewest seat [] most bs) : most = 0 := by
  rcases Nat.eq_zero_or_pos most with h1 | h1
  · exact h1
  · have := h.2 0 h1
    simp [manyL, ldF] at this

set_option maxRecDepth 100000 in
set_option maxHeartbeats 6400000 in
theorem lawBF_any (B : Nat) (w : World) (p : Option Addr) (n c : Nat) (h : Lst w w.heap.size p n) (ht : Tab B w) :
    Calls Tryd.prog 5 #[.slice p n c] w fun e w' => e = .returned (.bool true) ∧ Ext w w' := by
  have hS0 : Str (w.alloc (.cells #[.slice p n c, .int .i64 0] 25)) w.heap.size 0 := ⟨p, n, c, 0, Nat.le_refl _, Blk.new' rfl, h.low fun j hj => Below.heap_alloc w _ j hj⟩
  have hB := ht.1
  clear h
  have hback : ∀ u, ExtS w.heap.size (w.alloc (.cells #[.slice p n c, .int .i64 0] 25)) u → Ext w u := fun u hu => ExtS.back ((Ext.refl w).alloc _) (by simp) hu
  have hX0 := ExtS.refl w.heap.size (w.alloc (.cells #[.slice p n c, .int .i64 0] 25))
  have hsz0 : (w.alloc (.cells #[.slice p n c, .int .i64 0] 25)).heap.size = w.heap.size + 1 := by simp
  go_enter Tryd.func5, Tryd.ntmps5
  go_upto_region 2 with fail
  generalize w.alloc (.cells #[.slice p n c, .int .i64 0] 25) = W0 at hback hX0 hsz0 hS0 ⊢
  go_upto_region 3 with (first
    | (go_at_call 13; (with_reducible refine Calls.mono (groupList_any w.heap.size 0 _ (by omega) hS0) ?_); rintro e w1 ⟨p1, n1, c1, L, rfl, hn1, hSl1, hpa, hsm, hS1, hE1⟩; have hX1 := hX0.trans hE1; replace hpa : ∀ a, p1 = some a → a.block ≠ w.heap.size := (fun a ha => by have := hpa a ha; omega); replace hpa := Lib.hid hpa; replace hsm := Lib.hid hsm; clear hX0 hE1 hS0)
    | (go_at_call 19; have l1 := hS1.lt; refine (pick_in w.heap.size (0 + 20) _ _ 6 [4, 7, 8, 10, 0, 101] 0 101 _ (by omega) (by simp) (by simp) (by exact hS1.ext (Ext.alloc (Ext.refl _) _)) (by exact Nat.ne_of_gt l1) (by exact Blk.new' rfl) (by decide)).mono ?_; rintro e w2 ⟨seat, hs0, hs1, rfl, hS2, hE2⟩; have hX2 := (hX1.alloc _).trans hE2; have hSl2 := (hSl1.ext (Ext.alloc (Ext.refl _) _)).extS hE2 hpa.out; clear hX1 hE2 hS1 hSl1))
  have hE2 := hback _ hX2
  clear hback hX2 hS2 hpa hsz0
  obtain ⟨gf, hgf⟩ : ∃ gf, groupsF L = gf := ⟨_, rfl⟩
  have hfa := faultGroups_any p1 n1 c1 L w2 hSl2.1 hsm.out (by omega)
  rw [hgf] at hfa
  have hcg : ∀ u, Ext w2 u → Calls Tryd.prog 20 #[.slice p1 n1 c1] u (fun e w' => e = .returned (.int .i64 gf) ∧ Ext u w') := fun u hu => by rw [← hgf]; exact checkGroups_any p1 n1 c1 L u (hSl2.ext hu).1 hsm.out (by omega)
  have hbu : ∀ u, Ext w2 u → Calls Tryd.prog 16 #[.slice p1 n1 c1, .int .i64 seat] u (BusRes u L seat) := fun u hu => buses_any p1 n1 c1 L seat u (hSl2.ext hu) hsm.out (by omega) (by omega) (by omega)
  have hsp := fun u => spanFault_any seat 1 100 u
  have hnl := hSl2.1.1
  have tail : ∀ u, Ext w2 u → Calls Tryd.prog 23 #[] u (fun e w' => e = .returned (.bool true) ∧ Ext u w') := fun u hu => toured_any B u (ht.ext (hE2.trans hu))
  have hspo : spanF seat 1 100 = if outB seat 1 100 then 1 else 0 := by unfold spanF; rw [outB_inB]; cases inB seat 1 100 <;> rfl
  replace hfa := Lib.hid hfa
  replace hcg := Lib.hid hcg
  replace hbu := Lib.hid hbu
  replace tail := Lib.hid tail
  subst hnl
  by_cases hz : gf = 0
  · subst hz
    cases ho : outB seat 1 100
    · rw [ho] at hspo
      have hor : orF [0, spanF seat 1 100] = 0 := by rw [hspo]; rfl
      have hin : 1 ≤ seat ∧ seat ≤ 100 := by
        rw [outB_inB] at ho
        unfold inB at ho
        simpa using ho
      have hok := groupsF_ok hgf
      have hob : ∀ u, Ext w2 u → Calls Tryd.prog 24 #[.slice p1 L.length c1, .int .i64 seat] u (OfRes u L seat) := fun u hu => of_buses p1 c1 L seat u (hSl2.ext hu) hok hin
      have hrs := fun most bs => rows_short (most := most) (bs := bs) hok.len
      rw [hspo] at hsp hor
      simp only [Bool.false_eq_true, if_false] at hsp hor
      replace hsp := Lib.hid hsp
      replace hor := Lib.hid hor
      replace hob := Lib.hid hob
      replace hok := Lib.hid hok
      replace hrs := Lib.hid hrs
      replace hgf := Lib.hid hgf
      replace hspo := Lib.hid hspo
      replace ho := Lib.hid ho
      cases ha : L.any (overB seat)
      · replace ha := Lib.hid ha
        have hall := over_all hok.out ha.out
        have hex := ld_each (seat := seat) (ns := manyL L) (by omega) fun n hn => ⟨by have := (hall n hn).1; omega, (hall n hn).2⟩
        rw [manyL_len] at hex
        have hmost : ∀ most bs, Fewest seat L most bs → most ≤ 12 := fun most bs hf => by
          obtain ⟨m, b, hf2, hle⟩ := fewest_ex hex
          obtain ⟨rfl, rfl⟩ := hf.one hf2
          have := hok.out.len
          omega
        replace hmost := Lib.hid hmost
        clear hall hex
        by_cases hLn : L = []
        · subst hLn
          have z0 : 0 = ([] : List (List ByteArray)).length := rfl
          have zr : ∀ w q, Rows w q [] := fun _ _ => .inl rfl
          have zn : 0 ≤ 1000 := by omega
          have zs : ∀ r ∈ ([] : List (List ByteArray)), r.length ≤ 1000 := fun r hr => by cases hr
          replace z0 := Lib.hid z0
          replace zr := Lib.hid zr
          replace zn := Lib.hid zn
          replace zs := Lib.hid zs
          go_wp2_with (first
            | (go_at_call 15; (with_reducible refine Calls.mono hfa.out ?_); rintro e w3 ⟨rfl, hb3⟩)
            | (go_at_call 20; (with_reducible refine Calls.mono (hcg.out _ (by exact hb3)) ?_); rintro e w4 ⟨rfl, hb4⟩)
            | (go_at_call 22; (with_reducible refine Calls.mono (hsp.out _) ?_); rintro e w6 ⟨rfl, rfl⟩)
            | (go_at_call 21; refine (orErr_blk _ _ _ [0, 0] _ (by simp) (by exact Blk.new' rfl)).mono ?_; rintro e w7 ⟨rfl, rfl⟩; rw [hor.out])
            | (go_at_call 16; (with_reducible refine Calls.mono (hbu.out _ (hb3.trans hb4)) ?_); rintro e w5 (⟨hq, _⟩ | ⟨_, hq, _⟩ | ⟨_, _, hq, _⟩ | ⟨_, _, hov, most, bs, og, vs, hfew, rfl, hO⟩) <;> (first | exact absurd hgf.out hq | (rw [ho.out] at hq; cases hq) | (rw [ha.out] at hq; cases hq) | skip); obtain rfl := fewest_nil hfew; have hb35 := (hb3.trans hb4).trans hO.ext)
            | (go_at_call 24; (with_reducible refine Calls.mono (hob.out _ (hb35.alloc _)) ?_); rintro e w8 (⟨hq, _⟩ | ⟨_, most', bs', hfew', hb8, (⟨_, rfl⟩ | ⟨og', vs', rfl, hO'⟩)⟩) <;> (first | (rw [ha.out] at hq; cases hq) | skip))
            | (go_at_call 25; (with_reducible refine Calls.mono (eqRows_any (some ⟨og, 0, none⟩) none 0 0 0 [] _ z0.out (zr.out _ _) (zr.out _ _) zn.out zs.out) ?_); rintro e w9 ⟨rfl, hb9⟩)
            | (go_at_call 25; obtain rfl := fewest_nil hfew'; (with_reducible refine Calls.mono (eqRows_any (some ⟨og, 0, none⟩) (some ⟨og', 0, none⟩) 0 0 0 [] _ z0.out (zr.out _ _) (zr.out _ _) zn.out zs.out) ?_); rintro e w9 ⟨rfl, hb9⟩)
            | (go_at_call 23; refine (tail.out _ (by exact ((hb35.alloc _).trans hb8).trans hb9)).mono ?_; rintro e wz ⟨rfl, hzz⟩))
          all_goals
            go_ret
            exact ⟨rfl, hE2.trans ((((hb35.alloc _).trans hb8).trans hb9).trans hzz)⟩
        · go_wp2_with (first
            | (go_at_call 15; (with_reducible refine Calls.mono hfa.out ?_); rintro e w3 ⟨rfl, hb3⟩)
            | (go_at_call 20; (with_reducible refine Calls.mono (hcg.out _ (by exact hb3)) ?_); rintro e w4 ⟨rfl, hb4⟩)
            | (go_at_call 22; (with_reducible refine Calls.mono (hsp.out _) ?_); rintro e w6 ⟨rfl, rfl⟩)
            | (go_at_call 21; refine (orErr_blk _ _ _ [0, 0] _ (by simp) (by exact Blk.new' rfl)).mono ?_; rintro e w7 ⟨rfl, rfl⟩; rw [hor.out])
            | (go_at_call 16; (with_reducible refine Calls.mono (hbu.out _ (hb3.trans hb4)) ?_); rintro e w5 (⟨hq, _⟩ | ⟨_, hq, _⟩ | ⟨_, _, hq, _⟩ | ⟨_, _, hov, most, bs, og, vs, hfew, rfl, hO⟩) <;> (first | exact absurd hgf.out hq | (rw [ho.out] at hq; cases hq) | (rw [ha.out] at hq; cases hq) | skip); have hb35 := (hb3.trans hb4).trans hO.ext; have hml : most ≤ 12 := hmost.out _ _ hfew)
            | (go_at_call 24; (with_reducible refine Calls.mono (hob.out _ (hb35.alloc _)) ?_); rintro e w8 (⟨hq, _⟩ | ⟨_, most', bs', hfew', hb8, (⟨hq, _⟩ | ⟨og', vs', rfl, hO'⟩)⟩) <;> (first | (rw [ha.out] at hq; cases hq) | exact absurd hq hLn | skip); obtain ⟨rfl, rfl⟩ := hfew.one hfew')
            | (go_at_call 25; refine (eqRows_any (some ⟨og, 0, none⟩) (some ⟨og', 0, none⟩) most most most (rowsN most (nameL L) bs) _ (by rw [rowsN_len]) (by exact (((hO.more (Ext.alloc (Ext.refl _) _)).more hb8).rows (hrs.out _ _))) (by exact hO'.rows (hrs.out _ _)) (by omega) (hrs.out _ _)).mono ?_; rintro e w9 ⟨rfl, hb9⟩)
            | (go_at_call 23; refine (tail.out _ (by exact ((hb35.alloc _).trans hb8).trans hb9)).mono ?_; rintro e wz ⟨rfl, hzz⟩))
          go_ret
          exact ⟨rfl, hE2.trans ((((hb35.alloc _).trans hb8).trans hb9).trans hzz)⟩
      · replace ha := Lib.hid ha
        go_wp2_with (first
          | (go_at_call 15; (with_reducible refine Calls.mono hfa.out ?_); rintro e w3 ⟨rfl, hb3⟩)
          | (go_at_call 20; (with_reducible refine Calls.mono (hcg.out _ (by exact hb3)) ?_); rintro e w4 ⟨rfl, hb4⟩)
          | (go_at_call 22; (with_reducible refine Calls.mono (hsp.out _) ?_); rintro e w6 ⟨rfl, rfl⟩)
          | (go_at_call 21; refine (orErr_blk _ _ _ [0, 0] _ (by simp) (by exact Blk.new' rfl)).mono ?_; rintro e w7 ⟨rfl, rfl⟩; rw [hor.out])
          | (go_at_call 16; (with_reducible refine Calls.mono (hbu.out _ (hb3.trans hb4)) ?_); rintro e w5 (⟨hq, _⟩ | ⟨_, hq, _⟩ | ⟨_, _, _, rfl, hb5⟩ | ⟨_, _, hq, _⟩) <;> (first | exact absurd hgf.out hq | (rw [ho.out] at hq; cases hq) | (rw [ha.out] at hq; cases hq) | skip); have hb35 := (hb3.trans hb4).trans hb5)
          | (go_at_call 24; (with_reducible refine Calls.mono (hob.out _ (hb35.alloc _)) ?_); rintro e w8 (⟨_, rfl, hb8⟩ | ⟨hq, _⟩) <;> (first | (rw [ha.out] at hq; cases hq) | skip))
          | (go_at_call 25; refine (eqRows_any none none 0 0 0 [] _ rfl (.inl rfl) (.inl rfl) (by omega) (fun r hr => by cases hr)).mono ?_; rintro e w9 ⟨rfl, hb9⟩)
          | (go_at_call 23; refine (tail.out _ (by exact ((hb35.alloc _).trans hb8).trans hb9)).mono ?_; rintro e wz ⟨rfl, hzz⟩))
        go_ret
        exact ⟨rfl, hE2.trans ((((hb35.alloc _).trans hb8).trans hb9).trans hzz)⟩
    · rw [ho] at hspo
      have hor : orF [0, spanF seat 1 100] = 1 := by rw [hspo]; rfl
      rw [hspo] at hsp hor
      simp only [if_true] at hsp hor
      replace hsp := Lib.hid hsp
      replace hor := Lib.hid hor
      replace hgf := Lib.hid hgf
      replace hspo := Lib.hid hspo
      replace ho := Lib.hid ho
      go_wp2_with (first
        | (go_at_call 15; (with_reducible refine Calls.mono hfa.out ?_); rintro e w3 ⟨rfl, hb3⟩)
        | (go_at_call 20; (with_reducible refine Calls.mono (hcg.out _ (by exact hb3)) ?_); rintro e w4 ⟨rfl, hb4⟩)
        | (go_at_call 22; (with_reducible refine Calls.mono (hsp.out _) ?_); rintro e w6 ⟨rfl, rfl⟩)
        | (go_at_call 21; refine (orErr_blk _ _ _ [0, 1] _ (by simp) (by exact Blk.new' rfl)).mono ?_; rintro e w7 ⟨rfl, rfl⟩; rw [hor.out])
        | (go_at_call 16; (with_reducible refine Calls.mono (hbu.out _ (hb3.trans hb4)) ?_); rintro e w5 (⟨hq, _⟩ | ⟨_, _, rfl, hb5⟩ | ⟨_, hq, _⟩ | ⟨_, hq, _⟩) <;> (first | exact absurd hgf.out hq | (rw [ho.out] at hq; cases hq) | skip); have hb35 := (hb3.trans hb4).trans hb5)
        | (go_at_call 23; refine (tail.out _ (by exact hb35.alloc _)).mono ?_; rintro e wz ⟨rfl, hzz⟩))
      go_ret
      exact ⟨rfl, hE2.trans ((hb35.alloc _).trans hzz)⟩
  · have hor : orF [gf, spanF seat 1 100] = gf := by simp [orF, hz]
    have hzz9 := Lib.hid hz
    clear hspo
    have hne : (gf == 0) = false := by simpa using hz
    replace hor := Lib.hid hor
    replace hsp := Lib.hid hsp
    replace hgf := Lib.hid hgf
    go_wp2_with (first
      | (go_at_call 15; (with_reducible refine Calls.mono hfa.out ?_); rintro e w3 ⟨rfl, hb3⟩)
      | (go_at_call 20; (with_reducible refine Calls.mono (hcg.out _ (by exact hb3)) ?_); rintro e w4 ⟨rfl, hb4⟩)
      | (go_at_call 22; (with_reducible refine Calls.mono (hsp.out _) ?_); rintro e w6 ⟨rfl, rfl⟩)
      | (go_at_call 21; refine (orErr_blk _ _ _ [gf, spanF seat 1 100] _ (by simp) (by exact Blk.new' rfl)).mono ?_; rintro e w7 ⟨rfl, rfl⟩; rw [hor.out])
      | (go_at_call 16; (with_reducible refine Calls.mono (hbu.out _ (hb3.trans hb4)) ?_); rintro e w5 (⟨_, rfl, hb5⟩ | ⟨hq, _⟩ | ⟨hq, _⟩ | ⟨hq, _⟩) <;> (first | exact absurd (hgf.out.symm.trans hq) hzz9.out | skip); have hb35 := (hb3.trans hb4).trans hb5; rw [hgf.out])
      | (go_at_call 23; refine (tail.out _ (by exact hb35.alloc _)).mono ?_; rintro e wz ⟨rfl, hzz⟩))
    go_ret
    exact ⟨rfl, hE2.trans ((hb35.alloc _).trans hzz)⟩
end Go.Proofs.YtlmbpgjdepmlcaaDoor
