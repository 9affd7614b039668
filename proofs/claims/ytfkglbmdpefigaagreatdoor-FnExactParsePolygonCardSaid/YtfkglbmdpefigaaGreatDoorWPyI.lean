/- Polygons read of a text: the program's function. -/
import Derived.Test.YtfkglbmdpefigaaGreatDoorPartW
import Derived.Test.YtfkglbmdpefigaaGreatDoorPurePy
import Derived.Test.YtfkglbmdpefigaaGreatDoorWPtx
namespace Go.Proofs.YtfkglbmdpefigaaGreatDoor
open Go.RowKit
theorem pTxt_snoc (t : Pnt) : ∀ l : List Pnt, pTxt (l ++ [t]) = pTxt l ++ (pPiece t ++ [59])
  | [] => rfl
  | u :: r => by simp only [List.cons_append, pTxt, pTxt_snoc t r, List.append_assoc]
theorem pText_txt (l : List Pnt) : ∀ k, k ≤ l.length → (pTextTo l k).data.toList = pTxt (l.take k)
  | 0, _ => rfl
  | k + 1, hk => by
    have ih := pText_txt l k (by omega)
    have e : l.take (k + 1) = l.take k ++ [l.getD k (0, 0)] := by
      rw [List.take_succ_eq_append_getElem (by omega)]
      simp [List.getD, List.getElem?_eq_getElem (show k < l.length by omega)]
    rw [e, pTxt_snoc, ← ih, pTextTo]
    simp [ByteArray.data_append, itoT, txt, pPiece]
theorem pText_data (l : List Pnt) : (pText l).data.toList = pTxt l := by rw [pText, pText_txt l l.length (Nat.le_refl _), List.take_length]
set_option maxRecDepth 8192 in
set_option maxHeartbeats 8000000 in
theorem implParsePolygon_c (s : ByteArray) (hs : s.size ≤ 1048576) (w : World) (hL : LibOk w) :
    Calls Tryz.prog 5 #[.string s] w (RetPB 32 (pPgnI s.data.toList).1 (pPgnI s.data.toList).2 w) := by
  have HSl : Hid (s.data.toList.length ≤ 1048576) := Lib.hid (by rw [← Lib.size_eq]; exact hs)
  obtain ⟨i0, hi, hz0, hz1, hz2⟩ := info_parts info_pnt
  have HI := Lib.hid hi
  have HZ0 := Lib.hid hz0
  have HZ1 := Lib.hid hz1
  have HZ2 := Lib.hid hz2
  clear hi hz0 hz1 hz2
  go_enter Tryz.func5, Tryz.ntmps5
  go_wp2_with fail
  refine (parts_c s hs _ hL.max).mono ?_
  rintro e w1 ⟨A, n, c, rfl, h, hb1⟩
  have HWL : Hid ((spl 59 s.data.toList).dropLast.length = n) := Lib.hid (by rw [← words_len]; exact h.len)
  have hnn : n ≤ 1048577 := by
    have h1 := spl_len 59 s.data.toList
    have h2 := HSl.out
    have h3 := HWL.out
    rw [List.length_dropLast] at h3
    omega
  have HWA := Lib.hid (fun k (hk : k < n) => words_at (b := 59) (s := s) (k := k) (by rw [words_len, HWL.out]; exact hk))
  have hs1 := hb1.size
  have own0 := OwnP.empty (B := w1.heap.size) w1 32 (Nat.le_refl _)
  have bel0 := bel_new w1 (.cells #[] 32)
  have HPI : Hid (pPgnI s.data.toList = match allOf pieceIP (spl 59 s.data.toList).dropLast with
    | none => ([], false)
    | some T => if (lastE s.data.toList = true ∧ isPgn T = true) ∧ pTxt T = s.data.toList then (T, true) else ([], false)) := Lib.hid (by
      unfold pPgnI lastE
      cases allOf pieceIP (spl 59 s.data.toList).dropLast with
      | none => rfl
      | some T => simp only [decide_eq_true_eq])
  generalize hok : lastE s.data.toList = ok at *
  generalize hWW : (spl 59 s.data.toList).dropLast = W at *
  have HWs := Lib.hid (fun k (hk : k < n) => show (W.getD k []).length ≤ 1048576 from by
    have := word_size (b := 59) (l := s.data.toList) (k := k) (by rw [hWW, HWL.out]; exact hk)
    rw [hWW] at this
    have := HSl.out
    omega)
  have HFail : Hid (∀ k, k < n → pieceIP (W.getD k []) = none → pPgnI s.data.toList = ([], false)) := Lib.hid (fun k hk h => by
    rw [HPI.out, allOf_fail h (mem_at (by rw [HWL.out]; exact hk))])
  clear hok hWW
  go_wp2_with fail
  go_loopw [6, 19] (fun v i wr => ∃ (k : Nat) (T : List Pnt), k ≤ n ∧ i = .int .i64 k ∧ Hid (allOf pieceIP (W.take k) = some T) ∧ OwnP wr w1.heap.size 32 v k T ∧ Below w1.heap.size w1 wr) (fun _ i _ => n - (intOf i).toNat)
  case atStart => exact ⟨0, [], Nat.zero_le _, rfl, Lib.hid rfl, own0, bel0⟩
  case round =>
    clear own0 bel0
    obtain ⟨k, T, hk, rfl, HT, hown, bel⟩ := hrel
    have hr := h.below bel
    by_cases hlt : k < n
    · obtain ⟨ad', e, _, hc⟩ := hr.at_ hlt
      cases e
      rw [HWA.out k hlt] at hc
      have hps := HWs.out k hlt
      have HF1 : Hid (pieceIP (W.getD k []) = none → pPgnI s.data.toList = ([], false)) := Lib.hid (HFail.out k hlt)
      have HT1 : Hid (∀ t, pieceIP (W.getD k []) = some t → allOf pieceIP (W.take (k + 1)) = some (T ++ [t])) := Lib.hid (fun t ht => by
        rw [take_at (by rw [HWL.out]; exact hlt)]
        exact allOf_snoc HT.out ht)
      have HPc : Hid (pieceIP (W.getD k []) = twoP (swl [44] (W.getD k []))) := Lib.hid rfl
      generalize W.getD k [] = p at *
      have CW := fun w h hB hL => splitWhole_c (txtB p) [44] ⟨wr.heap.size, 0, none⟩ 1 1 (wr.heap.size + 1) w h hB (by omega) (by omega) (by rw [txtB_size]; exact hps) hL
      rw [txtB_toList] at CW
      have hsp : RdS (wr.alloc (.cells #[.string ⟨#[44]⟩] 9)) (wr.heap.size + 1) (some ⟨wr.heap.size, 0, none⟩) 1 (sepsOf [44]) := RdS.lit wr (sepsOf [44]) 9 (by simp [sepsOf, maxLen])
      have hsz0 : wr.heap.size + 1 ≤ (wr.alloc (.cells #[.string ⟨#[44]⟩] 9)).heap.size := by rw [World.size_alloc]; exact Nat.le_refl _
      have bel2 := bel_alloc bel (.cells #[.string ⟨#[44]⟩] 9)
      have own2 := hown.new (.cells #[.string ⟨#[44]⟩] 9)
      have hT0 := hown.lt
      have hzr := bel.size
      clear hr
      go_wp2_with fail
      refine (CW _ hsp hsz0 (hL.go (hb1.trans (bel2.mono hs1)))).mono ?_
      rintro e w3 (⟨vs, hvs, A3, n3, c3, rfl, own3, hb3, _⟩ | ⟨hvs, A3, n3, c3, rfl, own3, hb3, _⟩)
      · have hvl := swl_len hvs
        match vs, hvl, hvs with
        | [x0, y0], _, hvs =>
        obtain rfl : n3 = 2 := own3.len.symm
        have HN := Lib.hid (HT1.out (x0, y0) (by rw [HPc.out, hvs]; rfl))
        have bel := bel_step bel2 hb3
        have own := own2.go hb3
        have hs3 := hb3.size
        obtain ⟨a3, rfl⟩ := own3.head (by omega)
        have hg3 := own3.lt a3 rfl
        have X0 : Cl w3 ⟨a3, 0, none⟩ (.int .i64 x0) := ⟨hg3.2, own3.atJ 0 (by omega)⟩
        have X1 : Cl w3 ⟨a3, 1, none⟩ (.int .i64 y0) := ⟨hg3.2, own3.atJ 1 (by omega)⟩
        have hne : u6.ownBlock ≠ some a3 := fun e => by
          have := (hT0 _ e).2
          omega
        clear own3 own2 bel2 hb3 hsp hsz0 CW hvs hvl hc hown
        go_wp2_with fail
        have ownF : OwnF w3 w1.heap.size 32 2 u6 k (flatP T) := own
        have hk3 : k + 1 ≤ 3000000000 := by omega
        go_region_held3 (fun w' => w'.cell? ⟨a3, 0, none⟩ = some (.int .i64 x0) ∧ w'.cell? ⟨a3, 1, none⟩ = some (.int .i64 y0)) (first | exact ⟨X0.drew.2, X1.drew.2⟩ | exact ⟨(X0.alloc _).drew.2, (X1.alloc _).drew.2⟩ | exact ⟨Y0.2, Y1.2⟩)
          (first
          | (refine step_appSrc (by rfl) (.tmp 31) (.tmp 39) 22 (by rfl) w1.heap.size 32 2 i0 _ Tryz.underlying22 HI.out HZ0.out HZ1.out HZ2.out (by omega) (by omega) rfl u6 k (flatP T) ?_ ?_ ?_ 1 [x0, y0] ?_ ?_ ?_ ?_ ?_; (exact rfl); (with_reducible exact OwnF.drewK (OwnF.new ownF _)); rotate_left; (exact rfl); (focus (exact SrcF.drewK (SrcF.new _ _ [x0, y0] _ rfl))); (exact hk3); (exact bel_size (B := w1.heap.size) (bel_alloc bel _).drew); intro v5 w5 own5 bel5 g5 at5; have Y0 := (X0.alloc _).drew.grown g5 hne; have Y1 := (X1.alloc _).drew.grown g5 hne; have bel := Below.trans (B := w1.heap.size) (a := w1) (bel_alloc bel _).drew bel5))
        all_goals
          have own5 : OwnP w5 w1.heap.size 32 v5 (k + 1) (T ++ [(x0, y0)]) := by unfold OwnP; rw [flatP_snoc]; exact own5
          clear ownF own X0 X1 Y0 Y1 g5 at5 bel5
          go_wp2_with fail
          go_roundw
          case rel => exact ⟨k + 1, T ++ [(x0, y0)], by omega, by go_num, HN, own5, bel⟩
          case measure => simp [intOf]; omega
      · have HN := Lib.hid (HF1.out (by rw [HPc.out, hvs]; rfl))
        have bel := hb1.trans ((bel_step bel2 hb3).mono hs1)
        go_wp2_with fail
        go_ret2
        rw [HN.out]
        exact retPB_mk (OwnP.nil _ _ _) bel (by omega)
    · obtain rfl : k = n := by omega
      have HAll : Hid (allOf pieceIP W = some T) := Lib.hid (by have := HT.out; rwa [List.take_of_length_le (by rw [HWL.out]; exact Nat.le_refl _)] at this)
      have HP : Hid (pPgnI s.data.toList = if (ok = true ∧ isPgn T = true) ∧ pTxt T = s.data.toList then (T, true) else ([], false)) := Lib.hid (by rw [HPI.out, HAll.out])
      obtain ⟨A5, c5, rfl⟩ := hown.shape
      have belw := hb1.trans (bel.mono hs1)
      cases ok
      · have HN : Hid (pPgnI s.data.toList = ([], false)) := Lib.hid (by rw [HP.out, if_neg (fun h => by cases h.1.1)])
        go_wp2_with fail
        go_ret2
        rw [HN.out]
        exact retPB_mk (OwnP.nil _ _ _) belw (by omega)
      · cases hpl : isPgn T
        · have HN : Hid (pPgnI s.data.toList = ([], false)) := Lib.hid (by rw [HP.out, if_neg (fun h => by rw [hpl] at h; cases h.1.2)])
          have HPl := Lib.hid hpl
          clear hpl
          go_wp2_with fail
          refine (isPolygon_c _ _ _ _ _ _ hown.rd (Nat.le_refl _)).mono ?_; rw [HPl.out]; rintro e w4 ⟨rfl, hb4⟩
          have belw := bel_step belw hb4
          go_wp2_with fail
          go_ret2
          rw [HN.out]
          exact retPB_mk (OwnP.nil _ _ _) belw (by omega)
        · have HPl := Lib.hid hpl
          have HD := Lib.hid (pText_data T)
          have hLw := hL.go belw
          have hk40 := (arePts_len (pgn_pts hpl)).2
          rw [hown.len] at hk40
          have CT := fun w h hB ht => polygonText_c A5 k c5 T wr.heap.size w h hB (arePts_bd (pgn_pts HPl.out)) (by omega) ht
          by_cases he : pTxt T = s.data.toList
          · have HN : Hid (pPgnI s.data.toList = (T, true)) := Lib.hid (by rw [HP.out, if_pos ⟨⟨rfl, hpl⟩, he⟩])
            have hbs := bs_same (X := pText T) (s := s) (by rw [HD.out, he])
            clear hpl he HD
            generalize pText T = X at *
            go_wp2_with fail
            refine (isPolygon_c _ _ _ _ _ _ hown.rd (Nat.le_refl _)).mono ?_; rw [HPl.out]; rintro e w4 ⟨rfl, hb4⟩
            have belw := bel_step belw hb4
            go_wp2_with fail
            refine (CT _ (hown.rd.below hb4) hb4.size (hLw.go hb4).tab).mono ?_; rintro e w5 ⟨rfl, hb5⟩
            have belw := bel_step belw hb5
            have hown := (hown.go hb4).go hb5
            go_wp2_with fail
            go_ret2
            rw [HN.out]
            exact retPB_mk (hown.more hs1) belw (by omega)
          · have HN : Hid (pPgnI s.data.toList = ([], false)) := Lib.hid (by rw [HP.out, if_neg (fun h => he h.2)])
            have hbs := bs_other (X := pText T) (s := s) (by rw [HD.out]; exact he)
            clear hpl he HD
            generalize pText T = X at *
            go_wp2_with fail
            refine (isPolygon_c _ _ _ _ _ _ hown.rd (Nat.le_refl _)).mono ?_; rw [HPl.out]; rintro e w4 ⟨rfl, hb4⟩
            have belw := bel_step belw hb4
            go_wp2_with fail
            refine (CT _ (hown.rd.below hb4) hb4.size (hLw.go hb4).tab).mono ?_; rintro e w5 ⟨rfl, hb5⟩
            have belw := bel_step belw hb5
            go_wp2_with fail
            go_ret2
            rw [HN.out]
            exact retPB_mk (OwnP.nil _ _ _) belw (by omega)
end Go.Proofs.YtfkglbmdpefigaaGreatDoor
