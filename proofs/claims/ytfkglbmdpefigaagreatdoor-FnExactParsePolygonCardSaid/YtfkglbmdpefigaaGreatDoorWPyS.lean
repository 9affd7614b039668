/- Polygons read of a text: the reference's function. -/
import Derived.Test.YtfkglbmdpefigaaGreatDoorWPyI
import Derived.Test.YtfkglbmdpefigaaGreatDoorWPyR
namespace Go.Proofs.YtfkglbmdpefigaaGreatDoor
open Go.RowKit
theorem pieceSP_no {p : Bs} (h : (spl 44 p).length ≠ 2) : pieceSP p = none := by
  unfold pieceSP
  split
  · rename_i a b e
    rw [e] at h
    exact absurd rfl h
  · rfl
theorem pieceSP_yes {p i j : Bs} (e : spl 44 p = [i, j]) : pieceSP p = some (pyVal i, pyVal j) := by
  unfold pieceSP
  rw [e]
set_option maxRecDepth 8192 in
set_option maxHeartbeats 8000000 in
theorem specParsePolygon_c (s : ByteArray) (hs : s.size ≤ 1048576) (w : World) :
    Calls Tryz.prog 4 #[.string s] w (RetPB 32 (pPgnS s.data.toList).1 (pPgnS s.data.toList).2 w) := by
  have HSl : Hid (s.data.toList.length ≤ 1048576) := Lib.hid (by rw [← Lib.size_eq]; exact hs)
  obtain ⟨i0, hi, hz0, hz1, hz2⟩ := info_parts info_pnt
  have HI := Lib.hid hi
  have HZ0 := Lib.hid hz0
  have HZ1 := Lib.hid hz1
  have HZ2 := Lib.hid hz2
  clear hi hz0 hz1 hz2
  go_enter Tryz.func4, Tryz.ntmps4
  go_wp2_with fail
  refine (l1Split_c s 59 59 rfl hs _).mono ?_
  rintro e w1 ⟨A1, n1, c1, rfl, own1, hb1⟩
  have hl1 := own1.len
  rw [splB, List.length_map] at hl1
  have hp1 := spl_pos 59 s.data.toList
  have hq1 := own1.capAt
  obtain ⟨M, rfl⟩ : ∃ M, n1 = M + 1 := ⟨n1 - 1, by omega⟩
  obtain ⟨g1, rfl⟩ := own1.head (by omega)
  have hle1 := own1.le
  have hs1 := hb1.size
  have h : RdS w1 w1.heap.size (some ⟨g1, 0, none⟩) M ((splB 59 s).dropLast) := by
    rw [List.dropLast_eq_take, show (splB 59 s).length = M + 1 from own1.len]
    exact own1.rd.pre (by omega)
  by_cases h41 : 41 < M + 1
  · have HN : Hid (pPgnS s.data.toList = ([], false)) := Lib.hid (by rw [pPgnS, if_pos (by rw [hl1]; exact h41)])
    have h41' : (41 : Int) < (M : Int) + 1 := by omega
    go_wp2_with fail
    go_ret2
    rw [HN.out]
    exact retPB_mk (OwnP.nil _ _ _) hb1 (by omega)
  have HPI : Hid (pPgnS s.data.toList = match allOf pieceSP (spl 59 s.data.toList).dropLast with
    | none => ([], false)
    | some T => if isPgn T = true ∧ pTxt T = s.data.toList then (T, true) else ([], false)) := Lib.hid (by rw [pPgnS, if_neg (by rw [hl1]; exact h41)]; rfl)
  have HWL : Hid ((spl 59 s.data.toList).dropLast.length = M) := Lib.hid (by rw [List.length_dropLast, hl1]; rfl)
  have HWA := Lib.hid (fun k (hk : k < M) => words_at (b := 59) (s := s) (k := k) (by rw [words_len, HWL.out]; exact hk))
  generalize hWW : (spl 59 s.data.toList).dropLast = W at *
  have HWs := Lib.hid (fun k (hk : k < M) => show (W.getD k []).length ≤ 1048576 from by
    have := word_size (b := 59) (l := s.data.toList) (k := k) (by rw [hWW, HWL.out]; exact hk)
    rw [hWW] at this
    have := HSl.out
    omega)
  have HFail : Hid (∀ k, k < M → pieceSP (W.getD k []) = none → pPgnS s.data.toList = ([], false)) := Lib.hid (fun k hk h => by
    rw [HPI.out, allOf_fail h (mem_at (by rw [HWL.out]; exact hk))])
  have h41' : ¬ (41 : Int) < (M : Int) + 1 := by omega
  have e1 : IntKind.i64.wrap (M : Int) = (M : Int) := IntWalk.i64_in _ (by omega)
  have e2 : (0 : Int) ≤ (M : Int) := by omega
  have e3 : (M : Int) ≤ (c1 : Int) := by omega
  have e4 : ¬ (c1 : Int) < (M : Int) := by omega
  have e5 : M ≤ c1 := by omega
  have hM12 : M ≤ 40 := by omega
  clear hWW own1 hl1 hp1 hle1 h41
  go_wp2_with fail
  go_loopw [5, 20] (fun v i wr => ∃ (k : Nat) (T : List Pnt), k ≤ M ∧ i = .int .i64 k ∧ Hid (allOf pieceSP (W.take k) = some T) ∧ OwnP wr w1.heap.size 32 v k T ∧ Below w1.heap.size w1 wr) (fun _ i _ => M - (intOf i).toNat)
  case atStart => exact ⟨0, [], Nat.zero_le _, rfl, Lib.hid rfl, OwnP.nil _ _ _, Below.refl _ _⟩
  case round =>
    obtain ⟨k, T, hk, rfl, HT, hown, bel⟩ := hrel
    have hr := h.below bel
    by_cases hlt : k < M
    · obtain ⟨ad', e, _, hc⟩ := hr.at_ hlt
      cases e
      rw [HWA.out k hlt, Addr.add_lit, Nat.zero_add] at hc
      have hps := HWs.out k hlt
      have HF1 : Hid (pieceSP (W.getD k []) = none → pPgnS s.data.toList = ([], false)) := Lib.hid (HFail.out k hlt)
      have HT1 : Hid (∀ t, pieceSP (W.getD k []) = some t → allOf pieceSP (W.take (k + 1)) = some (T ++ [t])) := Lib.hid (fun t ht => by
        rw [take_at (by rw [HWL.out]; exact hlt)]
        exact allOf_snoc HT.out ht)
      generalize W.getD k [] = p at *
      have CP := fun w => l1Split_c (txtB p) 44 44 rfl (by rw [txtB_size]; exact hps) w
      have hT0 := hown.lt
      have hzr := bel.size
      have hmem := spl_mem 44 p
      clear hr
      go_wp2_with fail
      refine (CP _).mono ?_
      rintro e w2 ⟨A2, n2, c2, rfl, own2, hb2⟩
      have hl2 := own2.len
      rw [splB, List.length_map, txtB_toList] at hl2
      have bel2 := bel.trans (hb2.mono hzr)
      have hownB := hown.go hb2
      have hz2 := hb2.size
      clear CP hc
      by_cases hn2 : n2 = 2
      rotate_left
      · have HN := Lib.hid (HF1.out (pieceSP_no (by rw [hl2]; exact hn2)))
        have hne : ((n2 : Int) == 2) = false := by rw [beq_eq_false_iff_ne]; omega
        have belw := hb1.trans (bel2.mono hs1)
        go_wp2_with fail
        go_ret2
        rw [HN.out]
        exact retPB_mk (OwnP.nil _ _ _) belw (by omega)
      subst hn2
      obtain ⟨i, j, hij⟩ := two_of hl2
      have hil : i.length ≤ 1048576 := Nat.le_trans (hmem i (by rw [hij]; simp)) hps
      have hjl : j.length ≤ 1048576 := Nat.le_trans (hmem j (by rw [hij]; simp)) hps
      have HN := Lib.hid (HT1.out _ (pieceSP_yes hij))
      obtain ⟨g2, rfl⟩ := own2.head (by omega)
      have d0 := own2.atJ 0 (by omega)
      have d1 := own2.atJ 1 (by omega)
      rw [splB, txtB_toList, hij] at d0 d1
      have hg2 := own2.lt g2 rfl
      have X0 : Cl w2 ⟨g2, 0, none⟩ (.string (txtB i)) := ⟨hg2.2, d0⟩
      have X1 : Cl w2 ⟨g2, 1, none⟩ (.string (txtB j)) := ⟨hg2.2, d1⟩
      have hne : u5.ownBlock ≠ some g2 := fun e => by
        have := (hT0 _ e).2
        omega
      have CI := fun w => pyRead_c (txtB i) (by rw [txtB_size]; exact hil) w
      have CJ := fun w => pyRead_c (txtB j) (by rw [txtB_size]; exact hjl) w
      rw [txtB_toList] at CI CJ
      have bel := bel2
      have ownF : OwnF w2 w1.heap.size 32 2 u5 k (flatP T) := hownB
      have hk3 : k + 1 ≤ 3000000000 := by omega
      clear own2 hl2 hij d0 d1 hmem hown hownB bel2 hb2
      generalize pyVal i = x0 at *
      generalize pyVal j = y0 at *
      generalize txtB i = I at *
      generalize txtB j = J at *
      go_wp2_with fail
      go_region_held3 (fun w' => w'.cell? ⟨g2, 0, none⟩ = some (.string I) ∧ w'.cell? ⟨g2, 1, none⟩ = some (.string J)) (first | exact ⟨X0.drew.2, X1.drew.2⟩ | exact ⟨(X0.alloc _).drew.2, (X1.alloc _).drew.2⟩ | exact ⟨Y0.2, Y1.2⟩)
        (first
        | (go_at_call 10; (with_reducible refine Calls.mono (CI _) ?_); rintro e v1 ⟨rfl, rfl⟩)
        | (go_at_call 10; (with_reducible refine Calls.mono (CJ _) ?_); rintro e v1 ⟨rfl, rfl⟩)
        | (refine step_appSrc (by rfl) (.tmp 29) (.tmp 39) 22 (by rfl) w1.heap.size 32 2 i0 _ Tryz.underlying22 HI.out HZ0.out HZ1.out HZ2.out (by omega) (by omega) rfl u5 k (flatP T) ?_ ?_ ?_ 1 [x0, y0] ?_ ?_ ?_ ?_ ?_; (exact rfl); (with_reducible exact OwnF.drewK (OwnF.new ownF _)); rotate_left; (exact rfl); (focus (exact SrcF.drewK (SrcF.new _ _ [x0, y0] _ rfl))); (exact hk3); (exact bel_size (B := w1.heap.size) (bel_alloc bel _).drew); intro v5 w5 own5 bel5 g5 at5; have Y0 := (X0.alloc _).drew.grown g5 hne; have Y1 := (X1.alloc _).drew.grown g5 hne; have bel := Below.trans (B := w1.heap.size) (a := w1) (bel_alloc bel _).drew bel5))
      all_goals
        have own5 : OwnP w5 w1.heap.size 32 v5 (k + 1) (T ++ [(x0, y0)]) := by unfold OwnP; rw [flatP_snoc]; exact own5
        clear ownF X0 X1 Y0 Y1 g5 at5 bel5
        go_wp2_with fail
        go_roundw
        case rel => exact ⟨k + 1, T ++ [(x0, y0)], by omega, by go_num, HN, own5, bel⟩
        case measure => simp [intOf]; omega
    · obtain rfl : k = M := by omega
      have HAll : Hid (allOf pieceSP W = some T) := Lib.hid (by have := HT.out; rwa [List.take_of_length_le (by rw [HWL.out]; exact Nat.le_refl _)] at this)
      have HP : Hid (pPgnS s.data.toList = if isPgn T = true ∧ pTxt T = s.data.toList then (T, true) else ([], false)) := Lib.hid (by rw [HPI.out, HAll.out])
      obtain ⟨A5, c5, rfl⟩ := hown.shape
      have belw := hb1.trans (bel.mono hs1)
      cases hpl : isPgn T
      · have HN : Hid (pPgnS s.data.toList = ([], false)) := Lib.hid (by rw [HP.out, if_neg (fun h => by rw [hpl] at h; cases h.1)])
        have HPl := Lib.hid hpl
        clear hpl
        go_wp2_with fail
        refine (pyGood_c _ _ _ _ _ _ hown.rd (Nat.le_refl _)).mono ?_; rw [HPl.out]; rintro e w4 ⟨rfl, hb4⟩
        have belw := bel_step belw hb4
        go_wp2_with fail
        go_ret2
        rw [HN.out]
        exact retPB_mk (OwnP.nil _ _ _) belw (by omega)
      · have HPl := Lib.hid hpl
        have HD := Lib.hid (pText_data T)
        have hk40 := (arePts_len (pgn_pts hpl)).2
        rw [hown.len] at hk40
        have CT := fun w h hB => pyText_c A5 k c5 T wr.heap.size w h hB (arePts_bd (pgn_pts HPl.out)) (by omega)
        by_cases he : pTxt T = s.data.toList
        · have HN : Hid (pPgnS s.data.toList = (T, true)) := Lib.hid (by rw [HP.out, if_pos ⟨hpl, he⟩])
          have hbs := bs_same (X := pText T) (s := s) (by rw [HD.out, he])
          clear hpl he HD
          generalize pText T = X at *
          go_wp2_with fail
          refine (pyGood_c _ _ _ _ _ _ hown.rd (Nat.le_refl _)).mono ?_; rw [HPl.out]; rintro e w4 ⟨rfl, hb4⟩
          have belw := bel_step belw hb4
          go_wp2_with fail
          refine (CT _ (hown.rd.below hb4) hb4.size).mono ?_; rintro e w5 ⟨rfl, hb5⟩
          have belw := bel_step belw hb5
          have hown := (hown.go hb4).go hb5
          go_wp2_with fail
          go_ret2
          rw [HN.out]
          exact retPB_mk (hown.more hs1) belw (by omega)
        · have HN : Hid (pPgnS s.data.toList = ([], false)) := Lib.hid (by rw [HP.out, if_neg (fun h => he h.2)])
          have hbs := bs_other (X := pText T) (s := s) (by rw [HD.out]; exact he)
          clear hpl he HD
          generalize pText T = X at *
          go_wp2_with fail
          refine (pyGood_c _ _ _ _ _ _ hown.rd (Nat.le_refl _)).mono ?_; rw [HPl.out]; rintro e w4 ⟨rfl, hb4⟩
          have belw := bel_step belw hb4
          go_wp2_with fail
          refine (CT _ (hown.rd.below hb4) hb4.size).mono ?_; rintro e w5 ⟨rfl, hb5⟩
          have belw := bel_step belw hb5
          go_wp2_with fail
          go_ret2
          rw [HN.out]
          exact retPB_mk (OwnP.nil _ _ _) belw (by omega)
end Go.Proofs.YtfkglbmdpefigaaGreatDoor
