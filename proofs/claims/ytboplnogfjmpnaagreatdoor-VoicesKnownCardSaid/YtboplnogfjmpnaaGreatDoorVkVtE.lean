/- A text of voices is read, by the program. Conditions: sizes. -/
import Derived.Test.YtboplnogfjmpnaaGreatDoorVkVtC
import Derived.Test.YtboplnogfjmpnaaGreatDoorVkVoC
set_option linter.unusedSimpArgs false
set_option linter.unusedVariables false
namespace Go.Proofs.YtboplnogfjmpnaaGreatDoor
open Go Go.RowKit

def ReadV (t : List UInt8) (w : World) (e : Ending) (w' : World) : Prop :=
  ∃ (p : Option Addr) (n c : Nat), e = .returned (.tuple #[.slice p n c, .int .i64 (readG rdVo voicesG t).2.1, .int .i64 (readG rdVo voicesG t).2.2]) ∧ (readG rdVo voicesG t).1.length = n ∧ n ≤ 200001 ∧ w'.ownsRow w.heap.size 37 4 (.slice p n c) n ((readG rdVo voicesG t).1.flatMap voiC) ∧ (∀ x ∈ (readG rdVo voicesG t).1, x.Wide) ∧ Ext w w'
theorem readV_none {t : List UInt8} {i f : Int} (h : readG rdVo voicesG t = ([], i, f)) {w w' : World} (he : Ext w w') : ReadV t w (.returned (.tuple #[.slice none 0 0, .int .i64 i, .int .i64 f])) w' := by
  unfold ReadV
  rw [h]
  exact ⟨none, 0, 0, rfl, rfl, by omega, World.ownsRow_nil _ _ _ _, (fun x hx => by cases hx), he⟩
theorem ReadV.slc {t : List UInt8} {w w' : World} {e : Ending} (h : ReadV t w e w') : ∃ (p : Option Addr) (n c : Nat), e = .returned (.tuple #[.slice p n c, .int .i64 (readG rdVo voicesG t).2.1, .int .i64 (readG rdVo voicesG t).2.2]) ∧ (readG rdVo voicesG t).1.length = n ∧ n ≤ 200001 ∧ Slc 4 voiC w' p n c (readG rdVo voicesG t).1 ∧ (∀ x ∈ (readG rdVo voicesG t).1, x.Wide) ∧ Ext w w' := by
  obtain ⟨p, n, c, he, hl, hn, ho, hs, hx⟩ := h
  obtain ⟨p', c', e', hS⟩ := slc_of_own voiC_len ho (by decide) (by omega)
  cases e'
  exact ⟨p, n, c, he, hl, hn, hS, hs, hx⟩
theorem rd_words {s : List UInt8} (h : (∃ w ∈ wordsL s, w = ⟨#[]⟩) ∨ (wordsL s).length ≠ 4) : rdVo s = none := by
  unfold rdVo; rw [if_pos h]
theorem rd_four {s : List UInt8} {a b c d : ByteArray} (hW : wordsL s = [a, b, c, d]) (h : ∀ x ∈ wordsL s, x ≠ ⟨#[]⟩) : rdVo s = if (numOk 15 b && numOk 15 c && numOk 15 d) = true then some ⟨a, numV b, numV c, numV d⟩ else none := by
  have hn : ¬ ((∃ w ∈ wordsL s, w = ⟨#[]⟩) ∨ (wordsL s).length ≠ 4) := fun e => e.elim (fun ⟨w, hw, e⟩ => h w hw e) fun e => e (by rw [hW]; rfl)
  unfold rdVo
  rw [if_neg hn, hW]
  rfl

set_option maxRecDepth 100000 in
set_option maxHeartbeats 12800000 in
theorem readVo_any (B : Nat) (s : ByteArray) (w : World) (hs : s.size ≤ 1000000) (hm : MaxL B w) :
    Calls Tryz.prog 7 #[.string s] w (ReadV s.data.toList w) := by
  have hsl : s.data.toList.length = s.size := Array.length_toList
  by_cases hbig : 200000 < s.size
  · have hres := readV_none (t := s.data.toList) (i := 0) (f := 2) (by unfold readG; rw [if_pos (by omega)]) (Ext.refl w)
    replace hres := Lib.hid hres
    clear hsl hm
    go_enter Tryz.func7, Tryz.ntmps7
    go_wp2
    go_ret3
    exact hres.out
  have hln := lines_uni s B w (by omega) hm
  have hbadE : ∀ k x, (linesB s.data.toList)[k]? = some x → badG rdVo (linesF s.data.toList) (endedF s.data.toList) k = ((rdVo x.data.toList).isNone || (!endedF s.data.toList && decide (k + 1 = (linesB s.data.toList).length))) := fun k x hx => badG_of hx _
  have hsz : ∀ (k : Nat) (x : ByteArray), (linesB s.data.toList)[k]? = some x → x.size ≤ 200000 := fun k x hx => by
    have h1 := linesF_size (List.mem_of_getElem? (linesB_at hx))
    have h2 : x.data.toList.length = x.size := Array.length_toList
    omega
  have hfm : ∀ k x y, (linesB s.data.toList)[k]? = some x → rdVo x.data.toList = some y → ((linesF s.data.toList).take (k + 1)).filterMap rdVo = ((linesF s.data.toList).take k).filterMap rdVo ++ [y] := fun k x y hx hy => by
    rw [take_snocL (linesB_at hx), List.filterMap_append, List.filterMap_cons, hy]
    rfl
  have hLl := linesB_len s.data.toList
  have hLm := linesF_len s.data.toList
  have hnone : ∀ k w', k < (linesF s.data.toList).length → (∀ i, i < k → badG rdVo (linesF s.data.toList) (endedF s.data.toList) i = false) → badG rdVo (linesF s.data.toList) (endedF s.data.toList) k = true → Ext w w' → ReadV s.data.toList w (.returned (.tuple #[.slice none 0 0, .int .i64 (k : Int), .int .i64 9])) w' := fun k w' hk hz hb he =>
    readV_none (readG_bad (by omega) hk hz hb) he
  have hall : (∀ i, i < (linesF s.data.toList).length → badG rdVo (linesF s.data.toList) (endedF s.data.toList) i = false) → readG rdVo voicesG s.data.toList = if voicesG ((linesF s.data.toList).filterMap rdVo) = 0 then ((linesF s.data.toList).filterMap rdVo, 0, 0) else ([], 0, voicesG ((linesF s.data.toList).filterMap rdVo)) := fun h => readG_fault (by omega) h
  obtain ⟨L, hL⟩ : ∃ L, L = linesB s.data.toList := ⟨_, rfl⟩
  obtain ⟨E, hE⟩ : ∃ E, E = endedF s.data.toList := ⟨_, rfl⟩
  rw [← hL, ← hE] at hln
  rw [← hL] at hLl
  simp only [← hL] at hbadE hsz hfm
  replace hln := Lib.hid hln
  replace hbadE := Lib.hid hbadE
  replace hsz := Lib.hid hsz
  replace hfm := Lib.hid hfm
  replace hnone := Lib.hid hnone
  replace hall := Lib.hid hall
  replace hE := Lib.hid hE
  have hLb : L.length ≤ 200001 := by omega
  replace hLl := Lib.hid hLl
  replace hL := Lib.hid hL
  clear hLm
  go_enter Tryz.func7, Tryz.ntmps7
  go_wp2_with (go_at_call 34; (with_reducible refine Calls.mono hln.out ?_); rintro e w1 ⟨p, rfl, hb1, hB1⟩)
  replace hB1 := Lib.hid hB1
  have hsz1 := hb1.size
  go_loopw [7, 24] (fun v7 v24 wr => ∃ (k : Nat) (X : List VoiceV) (v : Value), k ≤ L.length ∧ v7 = v ∧ v24 = .int .i64 k ∧ X.length = k ∧ wr.ownsRow w1.heap.size 37 4 v k (X.flatMap voiC) ∧ (∀ x ∈ X, x.Wide) ∧ X = ((linesF s.data.toList).take k).filterMap rdVo ∧ (∀ i, i < k → badG rdVo (linesF s.data.toList) (endedF s.data.toList) i = false) ∧ Ext w1 wr) (fun _ i _ => L.length - (intOf i).toNat)
  case atStart => exact ⟨0, [], _, Nat.zero_le _, rfl, rfl, rfl, World.ownsRow_nil _ _ _ _, (fun x hx => by cases hx), by simp, (fun i hi => absurd hi (Nat.not_lt_zero _)), Ext.refl _⟩
  case round =>
    obtain ⟨k, X, v, hk, rfl, rfl, hX, hown, hsm, hXe, hgood, he⟩ := hrel
    replace hXe := Lib.hid hXe
    replace hsm := Lib.hid hsm
    replace hgood := Lib.hid hgood
    by_cases hlt : k < L.length
    · obtain ⟨x, hx⟩ := getD_some (rfl : L.length = L.length) hlt
      obtain ⟨rfl, hB⟩ := hB1.out (by omega)
      have hBr := hB.ext he
      have hc := cell_of_row hBr hx
      have hxs := hsz.out k x hx
      have hxl : x.data.toList.length = x.size := Array.length_toList
      have hbe := hbadE.out k x hx
      have hmr := hm.ext (hb1.trans he)
      have hgw : w.heap.size < wr.heap.size := hBr.lt
      have hres : badG rdVo (linesF s.data.toList) (endedF s.data.toList) k = true → ∀ w', Ext wr w' → ReadV s.data.toList w (.returned (.tuple #[.slice none 0 0, .int .i64 (k : Int), .int .i64 9])) w' := fun hb w' hw' => hnone.out k w' (by have := hLl.out; omega) hgood.out hb ((hb1.trans he).trans hw')
      have hWm : ∀ u ∈ wordsL x.data.toList, u.size ≤ 1000000 := fun u hu => by have := wordsL_size hu; omega
      replace hWm := Lib.hid hWm
      replace hx := Lib.hid hx
      replace hBr := Lib.hid hBr
      replace hres := Lib.hid hres
      by_cases hem : ∃ u ∈ wordsL x.data.toList, u = ⟨#[]⟩
      · have hwb := words_bad x B wr (by omega) hmr hem
        have hbad := hres.out (by rw [hbe, rd_words (.inl hem)]; rfl)
        replace hwb := Lib.hid hwb
        replace hbad := Lib.hid hbad
        clear hem hown hbe
        go_wp2_with (go_at_call 35; (with_reducible refine Calls.mono hwb.out ?_); rintro e w2 ⟨rfl, hb2⟩)
        go_ret3
        exact hbad.out _ hb2
      have hne : ∀ u ∈ wordsL x.data.toList, u ≠ ⟨#[]⟩ := fun u hu e => hem ⟨u, hu, e⟩
      have hwb := words_row x B wr (by omega) hmr hne
      have hW6 : (wordsL x.data.toList).length ≤ 200001 := by have := splitW_most 32 x.data.toList; change (wordsL x.data.toList).length ≤ _ at this; omega
      by_cases h4 : (wordsL x.data.toList).length = 4
      rotate_left
      · have hbad := hres.out (by rw [hbe, rd_words (.inr h4)]; rfl)
        generalize wordsL x.data.toList = Wd at *
        have h4a : decide ((Wd.length : Int) = 4) = false := by simp; omega
        have h4b : ((Wd.length : Int) == 4) = false := by simp; omega
        have h4c : ¬ (Wd.length : Int) = 4 := by omega
        replace h4 := Lib.hid h4
        replace hwb := Lib.hid hwb
        replace hbad := Lib.hid hbad
        clear hem hne hown hbe
        go_wp2_with (go_at_call 35; (with_reducible refine Calls.mono hwb.out ?_); rintro e w2 ⟨rfl, hR2, hb2⟩)
        go_ret3
        exact hbad.out _ hb2
      obtain ⟨a0, a1, a2, a3, hW⟩ : ∃ a b c d, wordsL x.data.toList = [a, b, c, d] := ⟨_, _, _, _, getG ⟨#[]⟩ h4⟩
      have hrd := rd_four hW hne
      have hWs := hWm.out
      rw [hW] at hwb hWs
      have q0 := hWs a0 (by simp)
      have q1 := hWs a1 (by simp)
      have q2 := hWs a2 (by simp)
      have q3 := hWs a3 (by simp)
      clear hW h4 hem hne hWm hWs hW6
      replace hwb := Lib.hid hwb
      by_cases hend : E = false ∧ k + 1 = L.length
      · obtain ⟨hE0, hk1⟩ := hend
        have hbad := hres.out (by rw [hbe, ← hE.out, hE0]; simp [hk1])
        have hd1 : decide ((k : Int) = (L.length : Int) - 1) = true := by simp; omega
        have hd2 : ((k : Int) == (L.length : Int) - 1) = true := by simp; omega
        replace hk1 := Lib.hid hk1
        replace hbad := Lib.hid hbad
        replace hE := Lib.hid hE
        subst hE0
        clear hown hbe hrd
        go_wp2_with (go_at_call 35; (with_reducible refine Calls.mono hwb.out ?_); rintro e w2 ⟨rfl, hR2, hb2⟩)
        go_ret3
        exact hbad.out _ hb2
      have hnum : ∀ w2, Blk w2 wr.heap.size 9 (List.map Value.string [a0, a1, a2, a3]).toArray → ∀ (j : Nat) (y : ByteArray), [a1, a2, a3][j]? = some y → w2.cell? ⟨wr.heap.size, 1 + j, none⟩ = some (.string y) := fun w2 hR2 j y hy => by
        refine cell_of_row hR2 (j := 1 + j) ?_
        rw [Nat.add_comm]
        exact hy
      have hnsz : ∀ y ∈ [a1, a2, a3], y.size ≤ 1000000 := fun y hy => by
        simp only [List.mem_cons, List.not_mem_nil, or_false] at hy
        rcases hy with rfl | rfl | rfl <;> assumption
      have hend2 : E = false → ¬ k + 1 = L.length := fun h1 h2 => hend ⟨h1, h2⟩
      replace hnum := Lib.hid hnum
      replace hnsz := Lib.hid hnsz
      have hdd : E = false → decide ((k : Int) = (L.length : Int) - 1) = false := fun h1 => by have := hend2 h1; simp; omega
      have hde : E = false → ((k : Int) == (L.length : Int) - 1) = false := fun h1 => by have := hend2 h1; simp; omega
      by_cases hok : (numOk 15 a1 && numOk 15 a2 && numOk 15 a3) = true
      rotate_left
      · have hbad := hres.out (by rw [hbe, hrd, if_neg hok]; rfl)
        have hex : ∃ y ∈ [a1, a2, a3], numOk 15 y = false := by
          cases e1 : numOk 15 a1
          · exact ⟨a1, by simp, e1⟩
          · cases e2 : numOk 15 a2
            · exact ⟨a2, by simp, e2⟩
            · cases e3 : numOk 15 a3
              · exact ⟨a3, by simp, e3⟩
              · rw [e1, e2, e3] at hok; exact absurd rfl hok
        have hnb := fun w2 (hR2 : Blk w2 wr.heap.size 9 (List.map Value.string [a0, a1, a2, a3]).toArray) => nums_badO wr.heap.size 1 3 3 [a1, a2, a3] w2 (hnum.out w2 hR2) hR2.lt rfl (by decide) hnsz.out hex
        replace hnb := Lib.hid hnb
        replace hbad := Lib.hid hbad
        clear hown hbe hrd hex hok hend
        cases hEE : E
        · have hd1 := hdd hEE
          have hd2 := hde hEE
          clear hdd hde hend2
          subst hEE
          go_wp2_with (first
            | (go_at_call 35; (with_reducible refine Calls.mono hwb.out ?_); rintro e w2 ⟨rfl, hR2, hb2⟩)
            | (go_at_call 36; (with_reducible refine Calls.mono (hnb.out _ hR2) ?_); rintro e w3 ⟨rfl, hb3⟩))
          go_ret3
          exact hbad.out _ (hb2.trans hb3)
        · clear hdd hde hend2
          subst hEE
          go_wp2_with (first
            | (go_at_call 35; (with_reducible refine Calls.mono hwb.out ?_); rintro e w2 ⟨rfl, hR2, hb2⟩)
            | (go_at_call 36; (with_reducible refine Calls.mono (hnb.out _ hR2) ?_); rintro e w3 ⟨rfl, hb3⟩))
          go_ret3
          exact hbad.out _ (hb2.trans hb3)
      rw [if_pos hok] at hrd
      have hgk : badG rdVo (linesF s.data.toList) (endedF s.data.toList) k = false := by
        rw [hbe, ← hE.out, hrd]
        cases hEE : E
        · simpa using hend2 hEE
        · rfl
      have hgood2 : ∀ i, i < k + 1 → badG rdVo (linesF s.data.toList) (endedF s.data.toList) i = false := fun i hi => by
        rcases Nat.lt_succ_iff_lt_or_eq.1 hi with h | rfl
        · exact hgood.out i h
        · exact hgk
      have hfk := hfm.out k x _ hx.out hrd
      have hyw := rd_wide hrd (by omega)
      simp only [Bool.and_eq_true] at hok
      obtain ⟨⟨ok1, ok2⟩, ok3⟩ := hok
      have hoks : ∀ y ∈ [a1, a2, a3], numOk 15 y = true := fun y hy => by
        simp only [List.mem_cons, List.not_mem_nil, or_false] at hy
        rcases hy with rfl | rfl | rfl <;> assumption
      have hng : ∀ w2, Blk w2 wr.heap.size 9 (List.map Value.string [a0, a1, a2, a3]).toArray → Calls Tryz.prog 36 #[.slice (some ⟨wr.heap.size, 1, none⟩) 3 3] w2 fun e w' => (∃ p c', e = .returned (.tuple #[.slice p 3 c', .bool true]) ∧ Slc 1 intC w' p 3 c' [numV a1, numV a2, numV a3]) ∧ Ext w2 w' := fun w2 hR2 => nums_goodO wr.heap.size 1 3 3 [a1, a2, a3] w2 (hnum.out w2 hR2) hR2.lt rfl (by decide) hnsz.out hoks
      generalize numV a1 = z1 at *
      generalize numV a2 = z2 at *
      generalize numV a3 = z3 at *
      have hstep : ∀ v' w', w'.ownsRow w1.heap.size 37 4 v' (k + 1) (X.flatMap voiC ++ voiC ⟨a0, z1, z2, z3⟩) → Ext w1 w' → ∃ (k' : Nat) (X' : List VoiceV) (v9 : Value), k' ≤ L.length ∧ v' = v9 ∧ (Value.int .i64 ((k : Int) + 1)) = .int .i64 k' ∧ X'.length = k' ∧ w'.ownsRow w1.heap.size 37 4 v9 k' (X'.flatMap voiC) ∧ (∀ x ∈ X', x.Wide) ∧ X' = ((linesF s.data.toList).take k').filterMap rdVo ∧ (∀ i, i < k' → badG rdVo (linesF s.data.toList) (endedF s.data.toList) i = false) ∧ Ext w1 w' := fun v' w' ho he' =>
        ⟨k + 1, X ++ [⟨a0, z1, z2, z3⟩], v', by omega, rfl, by simp, by simp [hX], by rw [flat_snoc]; exact ho, (fun z hz => by
          rcases List.mem_append.1 hz with h | h
          · exact hsm.out z h
          · obtain rfl := List.mem_singleton.1 h; exact hyw), by rw [hfk, ← hXe.out], hgood2, he'⟩
      replace hstep := Lib.hid hstep
      replace hng := Lib.hid hng
      replace hown := Lib.hid hown
      clear hres hbe hrd hgk hgood2 hfk hyw ok1 ok2 ok3 hoks hend
      have hkb : k ≤ 200001 := by omega
      cases hEE : E
      · have hd1 := hdd hEE
        have hd2 := hde hEE
        clear hdd hde hend2
        subst hEE
        go_upto_region 14 with (first
          | (go_at_call 35; (with_reducible refine Calls.mono hwb.out ?_); rintro e w2 ⟨rfl, hR2, hb2⟩)
          | (go_at_call 36; (with_reducible refine Calls.mono (hng.out _ hR2) ?_); rintro e w3 ⟨⟨p3, c3, rfl, hS3⟩, hb3⟩))
        obtain ⟨-, hp3⟩ := slcC hS3
        rcases hp3 with ⟨-, e3⟩ | ⟨b3, o3, rfl, l3, hE3⟩
        · cases e3
        have hR3 := hR2.ext hb3
        have u0 : w3.cell? ⟨wr.heap.size, 0, none⟩ = some (.string a0) := cell_of_row hR3 (j := 0) rfl
        have y0 : w3.cell? ⟨b3, o3, none⟩ = some (.int .i64 z1) := by simpa using hE3 0 z1 rfl 0 (.int .i64 z1) rfl
        have y1 : w3.cell? ⟨b3, o3 + 1, none⟩ = some (.int .i64 z2) := by simpa using hE3 1 z2 rfl 0 (.int .i64 z2) rfl
        have y2 : w3.cell? ⟨b3, o3 + 2, none⟩ = some (.int .i64 z3) := by simpa using hE3 2 z3 rfl 0 (.int .i64 z3) rfl
        have lR := hR3.lt
        have hb23 := hb2.trans hb3
        have hown3 := own_ext hb23 hown.out
        replace hown3 := Lib.hid hown3
        clear hS3 hE3 hR2 hR3 hown
        refine wp_region_facts [] [([], false, false), ([], false, false), ([1], false, false), ([1, 2], false, false), ([], false, false), ([4], false, false), ([4, 5], false, false), ([], false, false), ([7], false, false), ([7, 8], false, false), ([], false, false), ([10], false, false), ([10, 11], false, false), ([7, 8, 9, 10, 11, 12], false, false), ([1, 2, 3, 4, 5, 6, 7, 8, 9, 10, 11, 12, 13], false, false), ([1, 2, 3, 4, 5, 6, 7, 8, 9, 10, 11, 12, 13, 14], false, true)] (Ext) Ext (fun _ => True) (by kernel_rfl) (by kernel_rfl) Ext.refl (fun _ _ _ => Ext.trans) (fun _ _ h => h) (fun _ _ h => h.size) (fun _ _ h _ => h) trivial ?_
        dsimp only [List.length_cons, List.length_nil, List.drop_succ_cons, List.drop_zero, List.drop_nil]
        refine fac_quiet 0 rfl rfl rfl (fun _ _ h _ => h) rfl rfl ?_
        apply Exists.intro
        refine ⟨fun sv w' hw' hfa => ?_, ?_⟩
        · refine ⟨rfl, ?_⟩
          simp only [putsL]
          change quietTo _ _ _ _ (Sem.run _ (execOp (Act.eval _) _) _)
          try simp only [Act.put, List.setIfInBounds_toArray, List.set_cons_succ, List.set_cons_zero]
          simp [go_sem, quietTo, Ext.refl]
          all_goals first
            | rfl
        refine fac_quiet 1 rfl rfl rfl (fun _ _ h _ => h) rfl rfl ?_
        apply Exists.intro
        refine ⟨fun sv w' hw' hfa => ?_, ?_⟩
        · refine ⟨rfl, ?_⟩
          simp only [putsL]
          change quietTo _ _ _ _ (Sem.run _ (execOp (Act.eval _) _) _)
          try simp only [Act.put, List.setIfInBounds_toArray, List.set_cons_succ, List.set_cons_zero]
          simp [go_sem, quietTo, Ext.refl]
          all_goals first
            | rfl
        refine fac_quiet 2 rfl rfl rfl (fun _ _ h _ => h) rfl rfl ?_
        apply Exists.intro
        refine ⟨fun sv w' hw' hfa => ?_, ?_⟩
        · obtain ⟨f1, -⟩ := hfa
          replace f1 : sv 1 = _ := f1
          try dsimp only at f1
          refine ⟨rfl, ?_⟩
          simp only [putsL]
          change quietTo _ _ _ _ (Sem.run _ (execOp (Act.eval (Act.put _ (some 63) (sv 1))) _) _)
          try simp only [Act.put, List.setIfInBounds_toArray, List.set_cons_succ, List.set_cons_zero]
          simp [go_sem, quietTo, Ext.refl, ↓IntWalk.iteOmega, f1]
          all_goals try simp (disch := omega) only [IntWalk.i64_in]
          all_goals first
            | rfl
        refine fac_quiet 3 rfl rfl rfl (fun _ _ h _ => h) rfl rfl ?_
        apply Exists.intro
        refine ⟨fun sv w' hw' hfa => ?_, ?_⟩
        · obtain ⟨_, f2, -⟩ := hfa
          replace f2 : sv 2 = _ := f2
          try dsimp only at f2
          obtain ⟨hc, hf, hz9⟩ := ((Ext.refl _).drew.trans hw').walk; have v0 := (hc _ 0 lR).trans u0; have v1 := (hc _ o3 l3).trans y0; have v2 := (hc _ (o3 + 1) l3).trans y1; have v3 := (hc _ (o3 + 2) l3).trans y2
          refine ⟨rfl, ?_⟩
          simp only [putsL]
          change quietTo _ _ _ _ (Sem.run _ (execOp (Act.eval (Act.put (Act.put _ (some 64) (sv 2)) (some 63) (sv 1))) _) _)
          try simp only [Act.put, List.setIfInBounds_toArray, List.set_cons_succ, List.set_cons_zero]
          simp [go_sem, quietTo, Ext.refl, ↓IntWalk.iteOmega, f2, v0]
          all_goals try simp (disch := omega) only [IntWalk.i64_in]
          all_goals first
            | rfl
        refine fac_quiet 4 rfl rfl rfl (fun _ _ h _ => h) rfl rfl ?_
        apply Exists.intro
        refine ⟨fun sv w' hw' hfa => ?_, ?_⟩
        · refine ⟨rfl, ?_⟩
          simp only [putsL]
          change quietTo _ _ _ _ (Sem.run _ (execOp (Act.eval _) _) _)
          try simp only [Act.put, List.setIfInBounds_toArray, List.set_cons_succ, List.set_cons_zero]
          simp [go_sem, quietTo, Ext.refl]
          all_goals first
            | rfl
        refine fac_quiet 5 rfl rfl rfl (fun _ _ h _ => h) rfl rfl ?_
        apply Exists.intro
        refine ⟨fun sv w' hw' hfa => ?_, ?_⟩
        · obtain ⟨f4, -⟩ := hfa
          replace f4 : sv 4 = _ := f4
          try dsimp only at f4
          refine ⟨rfl, ?_⟩
          simp only [putsL]
          change quietTo _ _ _ _ (Sem.run _ (execOp (Act.eval (Act.put _ (some 66) (sv 4))) _) _)
          try simp only [Act.put, List.setIfInBounds_toArray, List.set_cons_succ, List.set_cons_zero]
          simp [go_sem, quietTo, Ext.refl, ↓IntWalk.iteOmega, f4]
          all_goals try simp (disch := omega) only [IntWalk.i64_in]
          all_goals first
            | rfl
        refine fac_quiet 6 rfl rfl rfl (fun _ _ h _ => h) rfl rfl ?_
        apply Exists.intro
        refine ⟨fun sv w' hw' hfa => ?_, ?_⟩
        · obtain ⟨_, f5, -⟩ := hfa
          replace f5 : sv 5 = _ := f5
          try dsimp only at f5
          obtain ⟨hc, hf, hz9⟩ := ((Ext.refl _).drew.trans hw').walk; have v0 := (hc _ 0 lR).trans u0; have v1 := (hc _ o3 l3).trans y0; have v2 := (hc _ (o3 + 1) l3).trans y1; have v3 := (hc _ (o3 + 2) l3).trans y2
          refine ⟨rfl, ?_⟩
          simp only [putsL]
          change quietTo _ _ _ _ (Sem.run _ (execOp (Act.eval (Act.put (Act.put _ (some 67) (sv 5)) (some 66) (sv 4))) _) _)
          try simp only [Act.put, List.setIfInBounds_toArray, List.set_cons_succ, List.set_cons_zero]
          simp [go_sem, quietTo, Ext.refl, ↓IntWalk.iteOmega, f5, v1]
          all_goals try simp (disch := omega) only [IntWalk.i64_in]
          all_goals first
            | rfl
        refine fac_quiet 7 rfl rfl rfl (fun _ _ h _ => h) rfl rfl ?_
        apply Exists.intro
        refine ⟨fun sv w' hw' hfa => ?_, ?_⟩
        · refine ⟨rfl, ?_⟩
          simp only [putsL]
          change quietTo _ _ _ _ (Sem.run _ (execOp (Act.eval _) _) _)
          try simp only [Act.put, List.setIfInBounds_toArray, List.set_cons_succ, List.set_cons_zero]
          simp [go_sem, quietTo, Ext.refl]
          all_goals first
            | rfl
        refine fac_quiet 8 rfl rfl rfl (fun _ _ h _ => h) rfl rfl ?_
        apply Exists.intro
        refine ⟨fun sv w' hw' hfa => ?_, ?_⟩
        · obtain ⟨f7, -⟩ := hfa
          replace f7 : sv 7 = _ := f7
          try dsimp only at f7
          refine ⟨rfl, ?_⟩
          simp only [putsL]
          change quietTo _ _ _ _ (Sem.run _ (execOp (Act.eval (Act.put _ (some 69) (sv 7))) _) _)
          try simp only [Act.put, List.setIfInBounds_toArray, List.set_cons_succ, List.set_cons_zero]
          simp [go_sem, quietTo, Ext.refl, ↓IntWalk.iteOmega, f7]
          all_goals try simp (disch := omega) only [IntWalk.i64_in]
          all_goals first
            | rfl
        refine fac_quiet 9 rfl rfl rfl (fun _ _ h _ => h) rfl rfl ?_
        apply Exists.intro
        refine ⟨fun sv w' hw' hfa => ?_, ?_⟩
        · obtain ⟨_, f8, -⟩ := hfa
          replace f8 : sv 8 = _ := f8
          try dsimp only at f8
          obtain ⟨hc, hf, hz9⟩ := ((Ext.refl _).drew.trans hw').walk; have v0 := (hc _ 0 lR).trans u0; have v1 := (hc _ o3 l3).trans y0; have v2 := (hc _ (o3 + 1) l3).trans y1; have v3 := (hc _ (o3 + 2) l3).trans y2
          refine ⟨rfl, ?_⟩
          simp only [putsL]
          change quietTo _ _ _ _ (Sem.run _ (execOp (Act.eval (Act.put (Act.put _ (some 70) (sv 8)) (some 69) (sv 7))) _) _)
          try simp only [Act.put, List.setIfInBounds_toArray, List.set_cons_succ, List.set_cons_zero]
          simp [go_sem, quietTo, Ext.refl, ↓IntWalk.iteOmega, f8, v2]
          all_goals try simp (disch := omega) only [IntWalk.i64_in]
          all_goals first
            | rfl
        refine fac_quiet 10 rfl rfl rfl (fun _ _ h _ => h) rfl rfl ?_
        apply Exists.intro
        refine ⟨fun sv w' hw' hfa => ?_, ?_⟩
        · refine ⟨rfl, ?_⟩
          simp only [putsL]
          change quietTo _ _ _ _ (Sem.run _ (execOp (Act.eval _) _) _)
          try simp only [Act.put, List.setIfInBounds_toArray, List.set_cons_succ, List.set_cons_zero]
          simp [go_sem, quietTo, Ext.refl]
          all_goals first
            | rfl
        refine fac_quiet 11 rfl rfl rfl (fun _ _ h _ => h) rfl rfl ?_
        apply Exists.intro
        refine ⟨fun sv w' hw' hfa => ?_, ?_⟩
        · obtain ⟨f10, -⟩ := hfa
          replace f10 : sv 10 = _ := f10
          try dsimp only at f10
          refine ⟨rfl, ?_⟩
          simp only [putsL]
          change quietTo _ _ _ _ (Sem.run _ (execOp (Act.eval (Act.put _ (some 72) (sv 10))) _) _)
          try simp only [Act.put, List.setIfInBounds_toArray, List.set_cons_succ, List.set_cons_zero]
          simp [go_sem, quietTo, Ext.refl, ↓IntWalk.iteOmega, f10]
          all_goals try simp (disch := omega) only [IntWalk.i64_in]
          all_goals first
            | rfl
        refine fac_quiet 12 rfl rfl rfl (fun _ _ h _ => h) rfl rfl ?_
        apply Exists.intro
        refine ⟨fun sv w' hw' hfa => ?_, ?_⟩
        · obtain ⟨_, f11, -⟩ := hfa
          replace f11 : sv 11 = _ := f11
          try dsimp only at f11
          obtain ⟨hc, hf, hz9⟩ := ((Ext.refl _).drew.trans hw').walk; have v0 := (hc _ 0 lR).trans u0; have v1 := (hc _ o3 l3).trans y0; have v2 := (hc _ (o3 + 1) l3).trans y1; have v3 := (hc _ (o3 + 2) l3).trans y2
          refine ⟨rfl, ?_⟩
          simp only [putsL]
          change quietTo _ _ _ _ (Sem.run _ (execOp (Act.eval (Act.put (Act.put _ (some 73) (sv 11)) (some 72) (sv 10))) _) _)
          try simp only [Act.put, List.setIfInBounds_toArray, List.set_cons_succ, List.set_cons_zero]
          simp [go_sem, quietTo, Ext.refl, ↓IntWalk.iteOmega, f11, v3]
          all_goals try simp (disch := omega) only [IntWalk.i64_in]
          all_goals first
            | rfl
        refine fac_quiet 13 rfl rfl rfl (fun _ _ h _ => h) rfl rfl ?_
        apply Exists.intro
        refine ⟨fun sv w' hw' hfa => ?_, ?_⟩
        · obtain ⟨_, _, f9, _, _, f12, -⟩ := hfa
          replace f9 : sv 9 = _ := f9
          try dsimp only at f9
          replace f12 : sv 12 = _ := f12
          try dsimp only at f12
          refine ⟨rfl, ?_⟩
          simp only [putsL]
          change quietTo _ _ _ _ (Sem.run _ (execOp (Act.eval (Act.put (Act.put (Act.put (Act.put (Act.put (Act.put _ (some 74) (sv 12)) (some 73) (sv 11)) (some 72) (sv 10)) (some 71) (sv 9)) (some 70) (sv 8)) (some 69) (sv 7))) _) _)
          try simp only [Act.put, List.setIfInBounds_toArray, List.set_cons_succ, List.set_cons_zero]
          simp [go_sem, quietTo, Ext.refl, f9, f12]
          all_goals first
            | rfl
        refine fac_quiet 14 rfl rfl rfl (fun _ _ h _ => h) rfl rfl ?_
        apply Exists.intro
        refine ⟨fun sv w' hw' hfa => ?_, ?_⟩
        · obtain ⟨_, _, f3, _, _, f6, _, _, _, _, _, _, f13, -⟩ := hfa
          replace f3 : sv 3 = _ := f3
          try dsimp only at f3
          replace f6 : sv 6 = _ := f6
          try dsimp only at f6
          replace f13 : sv 13 = _ := f13
          try dsimp only at f13
          refine ⟨rfl, ?_⟩
          simp only [putsL]
          change quietTo _ _ _ _ (Sem.run _ (execOp (Act.eval (Act.put (Act.put (Act.put (Act.put (Act.put (Act.put (Act.put (Act.put (Act.put (Act.put (Act.put (Act.put (Act.put _ (some 75) (sv 13)) (some 74) (sv 12)) (some 73) (sv 11)) (some 72) (sv 10)) (some 71) (sv 9)) (some 70) (sv 8)) (some 69) (sv 7)) (some 68) (sv 6)) (some 67) (sv 5)) (some 66) (sv 4)) (some 65) (sv 3)) (some 64) (sv 2)) (some 63) (sv 1))) _) _)
          try simp only [Act.put, List.setIfInBounds_toArray, List.set_cons_succ, List.set_cons_zero]
          simp [go_sem, quietTo, Ext.refl, f3, f6, f13]
          all_goals first
            | rfl
        refine fac_row 15 rfl rfl rfl (fun _ _ h _ => h) (fun _ _ h => h.size) (fun _ _ _ _ _ he _ hb => hb.ext he) ?_
        apply Exists.intro
        apply Exists.intro
        apply Exists.intro
        apply Exists.intro
        refine ⟨fun sv w' hw' hfa => ?_, ?_⟩
        · obtain ⟨_, _, _, _, _, _, _, _, _, _, _, _, _, f14, -⟩ := hfa
          replace f14 : sv 14 = _ := f14
          try dsimp only at f14
          refine ⟨rfl, ?_⟩
          simp only [putsL]
          change rowTo _ _ _ _ _ (Sem.run _ (execOp (Act.eval (Act.put (Act.put (Act.put (Act.put (Act.put (Act.put (Act.put (Act.put (Act.put (Act.put (Act.put (Act.put (Act.put (Act.put _ (some 76) (sv 14)) (some 75) (sv 13)) (some 74) (sv 12)) (some 73) (sv 11)) (some 72) (sv 10)) (some 71) (sv 9)) (some 70) (sv 8)) (some 69) (sv 7)) (some 68) (sv 6)) (some 67) (sv 5)) (some 66) (sv 4)) (some 65) (sv 3)) (some 64) (sv 2)) (some 63) (sv 1))) _) _)
          try simp only [Act.put, List.setIfInBounds_toArray, List.set_cons_succ, List.set_cons_zero]
          simp [go_sem, rowTo, Ext.refl, f14]
          all_goals try simp (disch := omega) only [IntWalk.i64_in]
          all_goals first
            | rfl
            | exact ⟨rfl, rfl⟩
            | exact ⟨⟨rfl, rfl⟩, rfl⟩
        refine fac_nil fun xa wra hera hfra hcra holda hapa => ?_
        obtain ⟨f0, f1, f2, f3, f4, f5, f6, f7, f8, f9, f10, f11, f12, f13, f14, f15, -⟩ := hfra
        replace f0 : xa 0 = _ := f0
        try dsimp only at f0
        replace f1 : xa 1 = _ := f1
        try dsimp only at f1
        replace f2 : xa 2 = _ := f2
        try dsimp only at f2
        replace f3 : xa 3 = _ := f3
        try dsimp only at f3
        replace f4 : xa 4 = _ := f4
        try dsimp only at f4
        replace f5 : xa 5 = _ := f5
        try dsimp only at f5
        replace f6 : xa 6 = _ := f6
        try dsimp only at f6
        replace f7 : xa 7 = _ := f7
        try dsimp only at f7
        replace f8 : xa 8 = _ := f8
        try dsimp only at f8
        replace f9 : xa 9 = _ := f9
        try dsimp only at f9
        replace f10 : xa 10 = _ := f10
        try dsimp only at f10
        replace f11 : xa 11 = _ := f11
        try dsimp only at f11
        replace f12 : xa 12 = _ := f12
        try dsimp only at f12
        replace f13 : xa 13 = _ := f13
        try dsimp only at f13
        replace f14 : xa 14 = _ := f14
        try dsimp only at f14
        obtain ⟨g15, f15, l15, b15⟩ := f15
        replace f15 : xa 15 = _ := f15
        obtain ⟨p15, q15⟩ := b15.walk
        change wpList _ _ _ _ (Act.put (Act.put (Act.put (Act.put (Act.put (Act.put (Act.put (Act.put (Act.put (Act.put (Act.put (Act.put (Act.put (Act.put (Act.put (Act.put _ (some 62) (xa 0)) (some 63) (xa 1)) (some 64) (xa 2)) (some 65) (xa 3)) (some 66) (xa 4)) (some 67) (xa 5)) (some 68) (xa 6)) (some 69) (xa 7)) (some 70) (xa 8)) (some 71) (xa 9)) (some 72) (xa 10)) (some 73) (xa 11)) (some 74) (xa 12)) (some 75) (xa 13)) (some 76) (xa 14)) (some 77) (xa 15)) _
        simp only [putsL, Nat.reduceAdd, List.drop_succ_cons, List.drop_zero, List.drop_nil, Act.put, List.setIfInBounds_toArray, List.set_cons_succ, List.set_cons_zero]
        try simp only [f0, f1, f2, f3, f4, f5, f6, f7, f8, f9, f10, f11, f12, f13, f14, f15]
        clear f0 f1 f2 f3 f4 f5 f6 f7 f8 f9 f10 f11 f12 f13 f14
        clear holda hapa
        have hka := (Ext.refl _).drew.trans hera
        have howna := own_ext hka hown3.out
        have hea := (he.trans hb23).trans hka
        have hsa := hea.size
        clear u0 y0 y1 y2 hown3
        go_wp2_with (at_builtin; go_loud (refine wp_app1 _ (.tmp 62) (.tmp 77) 26 37 4 40 _ rfl rfl Tryz.underlying26 voiInfo rfl (by decide) (by decide) w1.heap.size _ k _ rfl howna g15 (voiC ⟨a0, z1, z2, z3⟩) rfl rfl (by exact b15) (voi_one _) (by omega) (by exact hsa) ?_; intro v' w6 hown6 hgrow6 _; have he6 := hea.app howna (Nat.le_refl _) hgrow6))
        go_roundw
        case rel => exact hstep.out _ _ hown6 he6
        case measure => simp [intOf]; omega

      · clear hdd hde hend2
        subst hEE
        go_upto_region 14 with (first
          | (go_at_call 35; (with_reducible refine Calls.mono hwb.out ?_); rintro e w2 ⟨rfl, hR2, hb2⟩)
          | (go_at_call 36; (with_reducible refine Calls.mono (hng.out _ hR2) ?_); rintro e w3 ⟨⟨p3, c3, rfl, hS3⟩, hb3⟩))
        obtain ⟨-, hp3⟩ := slcC hS3
        rcases hp3 with ⟨-, e3⟩ | ⟨b3, o3, rfl, l3, hE3⟩
        · cases e3
        have hR3 := hR2.ext hb3
        have u0 : w3.cell? ⟨wr.heap.size, 0, none⟩ = some (.string a0) := cell_of_row hR3 (j := 0) rfl
        have y0 : w3.cell? ⟨b3, o3, none⟩ = some (.int .i64 z1) := by simpa using hE3 0 z1 rfl 0 (.int .i64 z1) rfl
        have y1 : w3.cell? ⟨b3, o3 + 1, none⟩ = some (.int .i64 z2) := by simpa using hE3 1 z2 rfl 0 (.int .i64 z2) rfl
        have y2 : w3.cell? ⟨b3, o3 + 2, none⟩ = some (.int .i64 z3) := by simpa using hE3 2 z3 rfl 0 (.int .i64 z3) rfl
        have lR := hR3.lt
        have hb23 := hb2.trans hb3
        have hown3 := own_ext hb23 hown.out
        replace hown3 := Lib.hid hown3
        clear hS3 hE3 hR2 hR3 hown
        refine wp_region_facts [] [([], false, false), ([], false, false), ([1], false, false), ([1, 2], false, false), ([], false, false), ([4], false, false), ([4, 5], false, false), ([], false, false), ([7], false, false), ([7, 8], false, false), ([], false, false), ([10], false, false), ([10, 11], false, false), ([7, 8, 9, 10, 11, 12], false, false), ([1, 2, 3, 4, 5, 6, 7, 8, 9, 10, 11, 12, 13], false, false), ([1, 2, 3, 4, 5, 6, 7, 8, 9, 10, 11, 12, 13, 14], false, true)] (Ext) Ext (fun _ => True) (by kernel_rfl) (by kernel_rfl) Ext.refl (fun _ _ _ => Ext.trans) (fun _ _ h => h) (fun _ _ h => h.size) (fun _ _ h _ => h) trivial ?_
        dsimp only [List.length_cons, List.length_nil, List.drop_succ_cons, List.drop_zero, List.drop_nil]
        refine fac_quiet 0 rfl rfl rfl (fun _ _ h _ => h) rfl rfl ?_
        apply Exists.intro
        refine ⟨fun sv w' hw' hfa => ?_, ?_⟩
        · refine ⟨rfl, ?_⟩
          simp only [putsL]
          change quietTo _ _ _ _ (Sem.run _ (execOp (Act.eval _) _) _)
          try simp only [Act.put, List.setIfInBounds_toArray, List.set_cons_succ, List.set_cons_zero]
          simp [go_sem, quietTo, Ext.refl]
          all_goals first
            | rfl
        refine fac_quiet 1 rfl rfl rfl (fun _ _ h _ => h) rfl rfl ?_
        apply Exists.intro
        refine ⟨fun sv w' hw' hfa => ?_, ?_⟩
        · refine ⟨rfl, ?_⟩
          simp only [putsL]
          change quietTo _ _ _ _ (Sem.run _ (execOp (Act.eval _) _) _)
          try simp only [Act.put, List.setIfInBounds_toArray, List.set_cons_succ, List.set_cons_zero]
          simp [go_sem, quietTo, Ext.refl]
          all_goals first
            | rfl
        refine fac_quiet 2 rfl rfl rfl (fun _ _ h _ => h) rfl rfl ?_
        apply Exists.intro
        refine ⟨fun sv w' hw' hfa => ?_, ?_⟩
        · obtain ⟨f1, -⟩ := hfa
          replace f1 : sv 1 = _ := f1
          try dsimp only at f1
          refine ⟨rfl, ?_⟩
          simp only [putsL]
          change quietTo _ _ _ _ (Sem.run _ (execOp (Act.eval (Act.put _ (some 63) (sv 1))) _) _)
          try simp only [Act.put, List.setIfInBounds_toArray, List.set_cons_succ, List.set_cons_zero]
          simp [go_sem, quietTo, Ext.refl, ↓IntWalk.iteOmega, f1]
          all_goals try simp (disch := omega) only [IntWalk.i64_in]
          all_goals first
            | rfl
        refine fac_quiet 3 rfl rfl rfl (fun _ _ h _ => h) rfl rfl ?_
        apply Exists.intro
        refine ⟨fun sv w' hw' hfa => ?_, ?_⟩
        · obtain ⟨_, f2, -⟩ := hfa
          replace f2 : sv 2 = _ := f2
          try dsimp only at f2
          obtain ⟨hc, hf, hz9⟩ := ((Ext.refl _).drew.trans hw').walk; have v0 := (hc _ 0 lR).trans u0; have v1 := (hc _ o3 l3).trans y0; have v2 := (hc _ (o3 + 1) l3).trans y1; have v3 := (hc _ (o3 + 2) l3).trans y2
          refine ⟨rfl, ?_⟩
          simp only [putsL]
          change quietTo _ _ _ _ (Sem.run _ (execOp (Act.eval (Act.put (Act.put _ (some 64) (sv 2)) (some 63) (sv 1))) _) _)
          try simp only [Act.put, List.setIfInBounds_toArray, List.set_cons_succ, List.set_cons_zero]
          simp [go_sem, quietTo, Ext.refl, ↓IntWalk.iteOmega, f2, v0]
          all_goals try simp (disch := omega) only [IntWalk.i64_in]
          all_goals first
            | rfl
        refine fac_quiet 4 rfl rfl rfl (fun _ _ h _ => h) rfl rfl ?_
        apply Exists.intro
        refine ⟨fun sv w' hw' hfa => ?_, ?_⟩
        · refine ⟨rfl, ?_⟩
          simp only [putsL]
          change quietTo _ _ _ _ (Sem.run _ (execOp (Act.eval _) _) _)
          try simp only [Act.put, List.setIfInBounds_toArray, List.set_cons_succ, List.set_cons_zero]
          simp [go_sem, quietTo, Ext.refl]
          all_goals first
            | rfl
        refine fac_quiet 5 rfl rfl rfl (fun _ _ h _ => h) rfl rfl ?_
        apply Exists.intro
        refine ⟨fun sv w' hw' hfa => ?_, ?_⟩
        · obtain ⟨f4, -⟩ := hfa
          replace f4 : sv 4 = _ := f4
          try dsimp only at f4
          refine ⟨rfl, ?_⟩
          simp only [putsL]
          change quietTo _ _ _ _ (Sem.run _ (execOp (Act.eval (Act.put _ (some 66) (sv 4))) _) _)
          try simp only [Act.put, List.setIfInBounds_toArray, List.set_cons_succ, List.set_cons_zero]
          simp [go_sem, quietTo, Ext.refl, ↓IntWalk.iteOmega, f4]
          all_goals try simp (disch := omega) only [IntWalk.i64_in]
          all_goals first
            | rfl
        refine fac_quiet 6 rfl rfl rfl (fun _ _ h _ => h) rfl rfl ?_
        apply Exists.intro
        refine ⟨fun sv w' hw' hfa => ?_, ?_⟩
        · obtain ⟨_, f5, -⟩ := hfa
          replace f5 : sv 5 = _ := f5
          try dsimp only at f5
          obtain ⟨hc, hf, hz9⟩ := ((Ext.refl _).drew.trans hw').walk; have v0 := (hc _ 0 lR).trans u0; have v1 := (hc _ o3 l3).trans y0; have v2 := (hc _ (o3 + 1) l3).trans y1; have v3 := (hc _ (o3 + 2) l3).trans y2
          refine ⟨rfl, ?_⟩
          simp only [putsL]
          change quietTo _ _ _ _ (Sem.run _ (execOp (Act.eval (Act.put (Act.put _ (some 67) (sv 5)) (some 66) (sv 4))) _) _)
          try simp only [Act.put, List.setIfInBounds_toArray, List.set_cons_succ, List.set_cons_zero]
          simp [go_sem, quietTo, Ext.refl, ↓IntWalk.iteOmega, f5, v1]
          all_goals try simp (disch := omega) only [IntWalk.i64_in]
          all_goals first
            | rfl
        refine fac_quiet 7 rfl rfl rfl (fun _ _ h _ => h) rfl rfl ?_
        apply Exists.intro
        refine ⟨fun sv w' hw' hfa => ?_, ?_⟩
        · refine ⟨rfl, ?_⟩
          simp only [putsL]
          change quietTo _ _ _ _ (Sem.run _ (execOp (Act.eval _) _) _)
          try simp only [Act.put, List.setIfInBounds_toArray, List.set_cons_succ, List.set_cons_zero]
          simp [go_sem, quietTo, Ext.refl]
          all_goals first
            | rfl
        refine fac_quiet 8 rfl rfl rfl (fun _ _ h _ => h) rfl rfl ?_
        apply Exists.intro
        refine ⟨fun sv w' hw' hfa => ?_, ?_⟩
        · obtain ⟨f7, -⟩ := hfa
          replace f7 : sv 7 = _ := f7
          try dsimp only at f7
          refine ⟨rfl, ?_⟩
          simp only [putsL]
          change quietTo _ _ _ _ (Sem.run _ (execOp (Act.eval (Act.put _ (some 69) (sv 7))) _) _)
          try simp only [Act.put, List.setIfInBounds_toArray, List.set_cons_succ, List.set_cons_zero]
          simp [go_sem, quietTo, Ext.refl, ↓IntWalk.iteOmega, f7]
          all_goals try simp (disch := omega) only [IntWalk.i64_in]
          all_goals first
            | rfl
        refine fac_quiet 9 rfl rfl rfl (fun _ _ h _ => h) rfl rfl ?_
        apply Exists.intro
        refine ⟨fun sv w' hw' hfa => ?_, ?_⟩
        · obtain ⟨_, f8, -⟩ := hfa
          replace f8 : sv 8 = _ := f8
          try dsimp only at f8
          obtain ⟨hc, hf, hz9⟩ := ((Ext.refl _).drew.trans hw').walk; have v0 := (hc _ 0 lR).trans u0; have v1 := (hc _ o3 l3).trans y0; have v2 := (hc _ (o3 + 1) l3).trans y1; have v3 := (hc _ (o3 + 2) l3).trans y2
          refine ⟨rfl, ?_⟩
          simp only [putsL]
          change quietTo _ _ _ _ (Sem.run _ (execOp (Act.eval (Act.put (Act.put _ (some 70) (sv 8)) (some 69) (sv 7))) _) _)
          try simp only [Act.put, List.setIfInBounds_toArray, List.set_cons_succ, List.set_cons_zero]
          simp [go_sem, quietTo, Ext.refl, ↓IntWalk.iteOmega, f8, v2]
          all_goals try simp (disch := omega) only [IntWalk.i64_in]
          all_goals first
            | rfl
        refine fac_quiet 10 rfl rfl rfl (fun _ _ h _ => h) rfl rfl ?_
        apply Exists.intro
        refine ⟨fun sv w' hw' hfa => ?_, ?_⟩
        · refine ⟨rfl, ?_⟩
          simp only [putsL]
          change quietTo _ _ _ _ (Sem.run _ (execOp (Act.eval _) _) _)
          try simp only [Act.put, List.setIfInBounds_toArray, List.set_cons_succ, List.set_cons_zero]
          simp [go_sem, quietTo, Ext.refl]
          all_goals first
            | rfl
        refine fac_quiet 11 rfl rfl rfl (fun _ _ h _ => h) rfl rfl ?_
        apply Exists.intro
        refine ⟨fun sv w' hw' hfa => ?_, ?_⟩
        · obtain ⟨f10, -⟩ := hfa
          replace f10 : sv 10 = _ := f10
          try dsimp only at f10
          refine ⟨rfl, ?_⟩
          simp only [putsL]
          change quietTo _ _ _ _ (Sem.run _ (execOp (Act.eval (Act.put _ (some 72) (sv 10))) _) _)
          try simp only [Act.put, List.setIfInBounds_toArray, List.set_cons_succ, List.set_cons_zero]
          simp [go_sem, quietTo, Ext.refl, ↓IntWalk.iteOmega, f10]
          all_goals try simp (disch := omega) only [IntWalk.i64_in]
          all_goals first
            | rfl
        refine fac_quiet 12 rfl rfl rfl (fun _ _ h _ => h) rfl rfl ?_
        apply Exists.intro
        refine ⟨fun sv w' hw' hfa => ?_, ?_⟩
        · obtain ⟨_, f11, -⟩ := hfa
          replace f11 : sv 11 = _ := f11
          try dsimp only at f11
          obtain ⟨hc, hf, hz9⟩ := ((Ext.refl _).drew.trans hw').walk; have v0 := (hc _ 0 lR).trans u0; have v1 := (hc _ o3 l3).trans y0; have v2 := (hc _ (o3 + 1) l3).trans y1; have v3 := (hc _ (o3 + 2) l3).trans y2
          refine ⟨rfl, ?_⟩
          simp only [putsL]
          change quietTo _ _ _ _ (Sem.run _ (execOp (Act.eval (Act.put (Act.put _ (some 73) (sv 11)) (some 72) (sv 10))) _) _)
          try simp only [Act.put, List.setIfInBounds_toArray, List.set_cons_succ, List.set_cons_zero]
          simp [go_sem, quietTo, Ext.refl, ↓IntWalk.iteOmega, f11, v3]
          all_goals try simp (disch := omega) only [IntWalk.i64_in]
          all_goals first
            | rfl
        refine fac_quiet 13 rfl rfl rfl (fun _ _ h _ => h) rfl rfl ?_
        apply Exists.intro
        refine ⟨fun sv w' hw' hfa => ?_, ?_⟩
        · obtain ⟨_, _, f9, _, _, f12, -⟩ := hfa
          replace f9 : sv 9 = _ := f9
          try dsimp only at f9
          replace f12 : sv 12 = _ := f12
          try dsimp only at f12
          refine ⟨rfl, ?_⟩
          simp only [putsL]
          change quietTo _ _ _ _ (Sem.run _ (execOp (Act.eval (Act.put (Act.put (Act.put (Act.put (Act.put (Act.put _ (some 74) (sv 12)) (some 73) (sv 11)) (some 72) (sv 10)) (some 71) (sv 9)) (some 70) (sv 8)) (some 69) (sv 7))) _) _)
          try simp only [Act.put, List.setIfInBounds_toArray, List.set_cons_succ, List.set_cons_zero]
          simp [go_sem, quietTo, Ext.refl, f9, f12]
          all_goals first
            | rfl
        refine fac_quiet 14 rfl rfl rfl (fun _ _ h _ => h) rfl rfl ?_
        apply Exists.intro
        refine ⟨fun sv w' hw' hfa => ?_, ?_⟩
        · obtain ⟨_, _, f3, _, _, f6, _, _, _, _, _, _, f13, -⟩ := hfa
          replace f3 : sv 3 = _ := f3
          try dsimp only at f3
          replace f6 : sv 6 = _ := f6
          try dsimp only at f6
          replace f13 : sv 13 = _ := f13
          try dsimp only at f13
          refine ⟨rfl, ?_⟩
          simp only [putsL]
          change quietTo _ _ _ _ (Sem.run _ (execOp (Act.eval (Act.put (Act.put (Act.put (Act.put (Act.put (Act.put (Act.put (Act.put (Act.put (Act.put (Act.put (Act.put (Act.put _ (some 75) (sv 13)) (some 74) (sv 12)) (some 73) (sv 11)) (some 72) (sv 10)) (some 71) (sv 9)) (some 70) (sv 8)) (some 69) (sv 7)) (some 68) (sv 6)) (some 67) (sv 5)) (some 66) (sv 4)) (some 65) (sv 3)) (some 64) (sv 2)) (some 63) (sv 1))) _) _)
          try simp only [Act.put, List.setIfInBounds_toArray, List.set_cons_succ, List.set_cons_zero]
          simp [go_sem, quietTo, Ext.refl, f3, f6, f13]
          all_goals first
            | rfl
        refine fac_row 15 rfl rfl rfl (fun _ _ h _ => h) (fun _ _ h => h.size) (fun _ _ _ _ _ he _ hb => hb.ext he) ?_
        apply Exists.intro
        apply Exists.intro
        apply Exists.intro
        apply Exists.intro
        refine ⟨fun sv w' hw' hfa => ?_, ?_⟩
        · obtain ⟨_, _, _, _, _, _, _, _, _, _, _, _, _, f14, -⟩ := hfa
          replace f14 : sv 14 = _ := f14
          try dsimp only at f14
          refine ⟨rfl, ?_⟩
          simp only [putsL]
          change rowTo _ _ _ _ _ (Sem.run _ (execOp (Act.eval (Act.put (Act.put (Act.put (Act.put (Act.put (Act.put (Act.put (Act.put (Act.put (Act.put (Act.put (Act.put (Act.put (Act.put _ (some 76) (sv 14)) (some 75) (sv 13)) (some 74) (sv 12)) (some 73) (sv 11)) (some 72) (sv 10)) (some 71) (sv 9)) (some 70) (sv 8)) (some 69) (sv 7)) (some 68) (sv 6)) (some 67) (sv 5)) (some 66) (sv 4)) (some 65) (sv 3)) (some 64) (sv 2)) (some 63) (sv 1))) _) _)
          try simp only [Act.put, List.setIfInBounds_toArray, List.set_cons_succ, List.set_cons_zero]
          simp [go_sem, rowTo, Ext.refl, f14]
          all_goals try simp (disch := omega) only [IntWalk.i64_in]
          all_goals first
            | rfl
            | exact ⟨rfl, rfl⟩
            | exact ⟨⟨rfl, rfl⟩, rfl⟩
        refine fac_nil fun xa wra hera hfra hcra holda hapa => ?_
        obtain ⟨f0, f1, f2, f3, f4, f5, f6, f7, f8, f9, f10, f11, f12, f13, f14, f15, -⟩ := hfra
        replace f0 : xa 0 = _ := f0
        try dsimp only at f0
        replace f1 : xa 1 = _ := f1
        try dsimp only at f1
        replace f2 : xa 2 = _ := f2
        try dsimp only at f2
        replace f3 : xa 3 = _ := f3
        try dsimp only at f3
        replace f4 : xa 4 = _ := f4
        try dsimp only at f4
        replace f5 : xa 5 = _ := f5
        try dsimp only at f5
        replace f6 : xa 6 = _ := f6
        try dsimp only at f6
        replace f7 : xa 7 = _ := f7
        try dsimp only at f7
        replace f8 : xa 8 = _ := f8
        try dsimp only at f8
        replace f9 : xa 9 = _ := f9
        try dsimp only at f9
        replace f10 : xa 10 = _ := f10
        try dsimp only at f10
        replace f11 : xa 11 = _ := f11
        try dsimp only at f11
        replace f12 : xa 12 = _ := f12
        try dsimp only at f12
        replace f13 : xa 13 = _ := f13
        try dsimp only at f13
        replace f14 : xa 14 = _ := f14
        try dsimp only at f14
        obtain ⟨g15, f15, l15, b15⟩ := f15
        replace f15 : xa 15 = _ := f15
        obtain ⟨p15, q15⟩ := b15.walk
        change wpList _ _ _ _ (Act.put (Act.put (Act.put (Act.put (Act.put (Act.put (Act.put (Act.put (Act.put (Act.put (Act.put (Act.put (Act.put (Act.put (Act.put (Act.put _ (some 62) (xa 0)) (some 63) (xa 1)) (some 64) (xa 2)) (some 65) (xa 3)) (some 66) (xa 4)) (some 67) (xa 5)) (some 68) (xa 6)) (some 69) (xa 7)) (some 70) (xa 8)) (some 71) (xa 9)) (some 72) (xa 10)) (some 73) (xa 11)) (some 74) (xa 12)) (some 75) (xa 13)) (some 76) (xa 14)) (some 77) (xa 15)) _
        simp only [putsL, Nat.reduceAdd, List.drop_succ_cons, List.drop_zero, List.drop_nil, Act.put, List.setIfInBounds_toArray, List.set_cons_succ, List.set_cons_zero]
        try simp only [f0, f1, f2, f3, f4, f5, f6, f7, f8, f9, f10, f11, f12, f13, f14, f15]
        clear f0 f1 f2 f3 f4 f5 f6 f7 f8 f9 f10 f11 f12 f13 f14
        clear holda hapa
        have hka := (Ext.refl _).drew.trans hera
        have howna := own_ext hka hown3.out
        have hea := (he.trans hb23).trans hka
        have hsa := hea.size
        clear u0 y0 y1 y2 hown3
        go_wp2_with (at_builtin; go_loud (refine wp_app1 _ (.tmp 62) (.tmp 77) 26 37 4 40 _ rfl rfl Tryz.underlying26 voiInfo rfl (by decide) (by decide) w1.heap.size _ k _ rfl howna g15 (voiC ⟨a0, z1, z2, z3⟩) rfl rfl (by exact b15) (voi_one _) (by omega) (by exact hsa) ?_; intro v' w6 hown6 hgrow6 _; have he6 := hea.app howna (Nat.le_refl _) hgrow6))
        go_roundw
        case rel => exact hstep.out _ _ hown6 he6
        case measure => simp [intOf]; omega

    · obtain rfl : k = L.length := by omega
      have htk : X = (linesF s.data.toList).filterMap rdVo := by rw [hXe.out, hLl.out, List.take_length]
      have hR := hall.out (fun i hi => hgood.out i (by rw [hLl.out]; exact hi))
      rw [← htk] at hR
      obtain ⟨q, c, rfl, hS⟩ := slc_of_own voiC_len hown (by decide) (by omega)
      have hck := checkVoicesG_any q L.length c X wr hS.1 hsm.out (by omega)
      have hend : ∀ w', Ext wr w' → Ext w w' := fun w' h => hb1.trans (he.trans h)
      replace hend := Lib.hid hend
      clear htk
      by_cases hq : voicesG X = 0
      · rw [if_pos hq] at hR
        rw [hq] at hck
        have hres : ∀ w', Ext wr w' → ReadV s.data.toList w (.returned (.tuple #[.slice q L.length c, .int .i64 0, .int .i64 0])) w' := fun w' h => by
          unfold ReadV
          rw [hR]
          exact ⟨q, L.length, c, rfl, hX, hLb, own_low (own_ext h hown) hsz1, hsm.out, hend.out w' h⟩
        replace hres := Lib.hid hres
        replace hck := Lib.hid hck
        replace hR := Lib.hid hR
        replace hown := Lib.hid hown
        replace hX := Lib.hid hX
        replace hq := Lib.hid hq
        go_wp2_with (go_at_call 15; (with_reducible refine Calls.mono hck.out ?_); rintro e w2 ⟨rfl, hb2⟩)
        go_ret3
        exact hres.out _ hb2
      · rw [if_neg hq] at hR
        have hres := fun w' (h : Ext wr w') => readV_none hR (hend.out w' h)
        generalize voicesG X = f at *
        replace hres := Lib.hid hres
        replace hck := Lib.hid hck
        replace hR := Lib.hid hR
        replace hown := Lib.hid hown
        replace hX := Lib.hid hX
        go_wp2_with (go_at_call 15; (with_reducible refine Calls.mono hck.out ?_); rintro e w2 ⟨rfl, hb2⟩)
        go_ret3
        exact hres.out _ hb2
end Go.Proofs.YtboplnogfjmpnaaGreatDoor
