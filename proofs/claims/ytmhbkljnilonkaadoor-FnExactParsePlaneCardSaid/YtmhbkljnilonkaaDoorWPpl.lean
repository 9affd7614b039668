/- Plane polynomials read of a text: both packages' functions, and the walk of the law. -/
import Derived.Test.YtmhbkljnilonkaaDoorWPart
import Derived.Test.YtmhbkljnilonkaaDoorWPnu
import Derived.Test.YtmhbkljnilonkaaDoorWTtx
import Derived.Test.YtmhbkljnilonkaaDoorApp2
namespace Go.Proofs.YtmhbkljnilonkaaDoor
open Go.RowKit
theorem OwnF.drewK {w : World} {B k n : Nat} {E : TypeId} {v : Value} {zs : List Int} (h : OwnF w B E k v n zs) : OwnF w.drew B E k v n zs := h
theorem SrcF.drewK {w : World} {k m : Nat} {x : Value} {ys : List Int} (h : SrcF w k x m ys) : SrcF w.drew k x m ys := h
theorem Own.atJ {w : World} {B g n c : Nat} {E : TypeId} {zs : List Int} (h : Own w B E (.slice (some ⟨g, 0, none⟩) n c) n zs) (j : Nat) (hj : j < n) : w.cell? ⟨g, j, none⟩ = some (.int .i64 (zs.getD j 0)) := by
  rw [World.ownsRow.cellAt h j (by omega)]
  have := h.len
  simp [List.getD, List.getElem?_eq_getElem (show j < zs.length by omega)]
theorem tTxt_snoc (t : Trm) : ∀ l : List Trm, tTxt (l ++ [t]) = tTxt l ++ (tPiece t ++ [59])
  | [] => rfl
  | u :: r => by simp only [List.cons_append, tTxt, tTxt_snoc t r, List.append_assoc]
theorem tText_txt (l : List Trm) : ∀ k, k ≤ l.length → (tTextTo l k).data.toList = tTxt (l.take k)
  | 0, _ => rfl
  | k + 1, hk => by
    have ih := tText_txt l k (by omega)
    have e : l.take (k + 1) = l.take k ++ [l.getD k (0, 0, 0)] := by
      rw [List.take_succ_eq_append_getElem (by omega)]
      simp [List.getD, List.getElem?_eq_getElem (show k < l.length by omega)]
    rw [e, tTxt_snoc, ← ih, tTextTo]
    simp [ByteArray.data_append, itoT, txt, tPiece]
theorem tText_data (l : List Trm) : (tText l).data.toList = tTxt l := by rw [tText, tText_txt l l.length (Nat.le_refl _), List.take_length]
/-- One cell holds a value. -/
def Cl (w : World) (p : Addr) (v : Value) : Prop := p.block < w.heap.size ∧ w.cell? p = some v
theorem Cl.go {a b : World} {p : Addr} {v : Value} (h : Cl a p v) (hb : Below a.heap.size a b) : Cl b p v := ⟨Nat.lt_of_lt_of_le h.1 hb.size, (hb.cell h.1).trans h.2⟩
theorem Cl.alloc {a : World} {p : Addr} {v : Value} (h : Cl a p v) (o : Obj) : Cl (a.alloc o) p v := h.go (bel_new a o)
theorem Cl.drew {a : World} {p : Addr} {v : Value} (h : Cl a p v) : Cl a.drew p v := h
theorem Cl.grown {a b : World} {p : Addr} {v : Value} {row : Option Nat} (h : Cl a p v) (hg : a.grownBy b row) (hne : row ≠ some p.block) : Cl b p v :=
  ⟨Nat.lt_of_lt_of_le h.1 hg.size, (World.cell?_of_block (hg.block p.block h.1 (fun e => hne e.symm))).trans h.2⟩
theorem map_at {l : List Bs} {k : Nat} (h : k < l.length) : (l.map txtB).getD k ⟨#[]⟩ = txtB (l.getD k []) := by simp [List.getD, List.getElem?_eq_getElem h]
theorem words_at {b : UInt8} {s : ByteArray} {k : Nat} (h : k < (splB b s).dropLast.length) : (splB b s).dropLast.getD k ⟨#[]⟩ = txtB ((spl b s.data.toList).dropLast.getD k []) := by
  have e : (splB b s).dropLast = (spl b s.data.toList).dropLast.map txtB := by rw [splB, List.dropLast_eq_take, List.dropLast_eq_take, List.map_take, List.length_map]
  rw [e] at h ⊢
  rw [List.length_map] at h
  exact map_at h
theorem words_len (b : UInt8) (s : ByteArray) : (splB b s).dropLast.length = (spl b s.data.toList).dropLast.length := by rw [splB, List.length_dropLast, List.length_dropLast, List.length_map]
theorem word_size {b : UInt8} {l : Bs} {k : Nat} (h : k < (spl b l).dropLast.length) : ((spl b l).dropLast.getD k []).length ≤ l.length := by
  have hm : (spl b l).dropLast.getD k [] ∈ (spl b l).dropLast := by
    rw [List.getD_eq_getElem?_getD, List.getElem?_eq_getElem h]
    exact List.getElem_mem _
  exact spl_mem b l _ ((List.dropLast_sublist _).subset hm)
theorem take_at {l : List Bs} {k : Nat} (h : k < l.length) : l.take (k + 1) = l.take k ++ [l.getD k []] := by
  rw [List.take_succ_eq_append_getElem h]
  simp [List.getD, List.getElem?_eq_getElem h]
theorem mem_at {l : List Bs} {k : Nat} (h : k < l.length) : l.getD k [] ∈ l := by simp [List.getD, List.getElem?_eq_getElem h]
set_option maxRecDepth 8192 in
set_option maxHeartbeats 8000000 in
theorem implParsePlane_c (s : ByteArray) (hs : s.size ≤ 1048576) (w : World) (hL : LibOk w) :
    Calls Tryd.prog 5 #[.string s] w (RetTB 35 (pParseI s.data.toList).1 (pParseI s.data.toList).2 w) := by
  have HSl : Hid (s.data.toList.length ≤ 1048576) := Lib.hid (by rw [← Lib.size_eq]; exact hs)
  obtain ⟨i0, hi, hz0, hz1, hz2⟩ := info_parts info_trm
  have HI := Lib.hid hi
  have HZ0 := Lib.hid hz0
  have HZ1 := Lib.hid hz1
  have HZ2 := Lib.hid hz2
  clear hi hz0 hz1 hz2
  go_enter Tryd.func5, Tryd.ntmps5
  go_wp2_with fail
  refine (parts_c s hs _ hL.max).mono ?_
  rintro e w1 ⟨A, n, c, rfl, h, hb1⟩
  have HWL : Hid ((spl 59 s.data.toList).dropLast.length = n) := Lib.hid (by rw [← words_len]; exact h.len)
  have hnn : n ≤ 1048577 := by
    have h1 := spl_len 59 s.data.toList
    have h2 := HSl.out
    have h3 := HWL.out
    rw [List.length_dropLast] at h3
    omega
  have HWA := Lib.hid (fun k (hk : k < n) => words_at (b := 59) (s := s) (k := k) (by rw [words_len, HWL.out]; exact hk))
  have hs1 := hb1.size
  have own0 := OwnT.empty (B := w1.heap.size) w1 35 (Nat.le_refl _)
  have bel0 := bel_new w1 (.cells #[] 35)
  have HPI : Hid (pParseI s.data.toList = match allOf pieceI (spl 59 s.data.toList).dropLast with
    | none => ([], false)
    | some T => if (lastE s.data.toList = true ∧ isPlane T = true) ∧ tTxt T = s.data.toList then (T, true) else ([], false)) := Lib.hid (by
      unfold pParseI lastE
      cases allOf pieceI (spl 59 s.data.toList).dropLast with
      | none => rfl
      | some T => simp only [decide_eq_true_eq])
  generalize hok : lastE s.data.toList = ok at *
  generalize hWW : (spl 59 s.data.toList).dropLast = W at *
  have HWs := Lib.hid (fun k (hk : k < n) => show (W.getD k []).length ≤ 1048576 from by
    have := word_size (b := 59) (l := s.data.toList) (k := k) (by rw [hWW, HWL.out]; exact hk)
    rw [hWW] at this
    have := HSl.out
    omega)
  have HFail : Hid (∀ k, k < n → pieceI (W.getD k []) = none → pParseI s.data.toList = ([], false)) := Lib.hid (fun k hk h => by
    rw [HPI.out, allOf_fail h (mem_at (by rw [HWL.out]; exact hk))])
  clear hok hWW
  go_wp2_with fail
  go_loopw [6, 19] (fun v i wr => ∃ (k : Nat) (T : List Trm), k ≤ n ∧ i = .int .i64 k ∧ Hid (allOf pieceI (W.take k) = some T) ∧ OwnT wr w1.heap.size 35 v k T ∧ Below w1.heap.size w1 wr) (fun _ i _ => n - (intOf i).toNat)
  case atStart => exact ⟨0, [], Nat.zero_le _, rfl, Lib.hid rfl, own0, bel0⟩
  case round =>
    clear own0 bel0
    obtain ⟨k, T, hk, rfl, HT, hown, bel⟩ := hrel
    have hr := h.below bel
    by_cases hlt : k < n
    · obtain ⟨ad', e, _, hc⟩ := hr.at_ hlt
      cases e
      rw [HWA.out k hlt] at hc
      have hps := HWs.out k hlt
      have HF1 : Hid (pieceI (W.getD k []) = none → pParseI s.data.toList = ([], false)) := Lib.hid (HFail.out k hlt)
      have HT1 : Hid (∀ t, pieceI (W.getD k []) = some t → allOf pieceI (W.take (k + 1)) = some (T ++ [t])) := Lib.hid (fun t ht => by
        rw [take_at (by rw [HWL.out]; exact hlt)]
        exact allOf_snoc HT.out ht)
      have HPc : Hid (pieceI (W.getD k []) = threeT (swl [58, 44] (W.getD k []))) := Lib.hid rfl
      generalize W.getD k [] = p at *
      have CW := fun w h hB hL => splitWhole_c (txtB p) [58, 44] ⟨wr.heap.size, 0, none⟩ 2 2 (wr.heap.size + 1) w h hB (by omega) (by omega) (by rw [txtB_size]; exact hps) hL
      rw [txtB_toList] at CW
      have hsp : RdS (wr.alloc (.cells #[.string ⟨#[58]⟩, .string ⟨#[44]⟩] 9)) (wr.heap.size + 1) (some ⟨wr.heap.size, 0, none⟩) 2 (sepsOf [58, 44]) := RdS.lit wr (sepsOf [58, 44]) 9 (by simp [sepsOf, maxLen])
      have hsz0 : wr.heap.size + 1 ≤ (wr.alloc (.cells #[.string ⟨#[58]⟩, .string ⟨#[44]⟩] 9)).heap.size := by rw [World.size_alloc]; exact Nat.le_refl _
      have bel2 := bel_alloc bel (.cells #[.string ⟨#[58]⟩, .string ⟨#[44]⟩] 9)
      have own2 := hown.new (.cells #[.string ⟨#[58]⟩, .string ⟨#[44]⟩] 9)
      have hT0 := hown.lt
      have hzr := bel.size
      clear hr
      go_wp2_with fail
      refine (CW _ hsp hsz0 (hL.go (hb1.trans (bel2.mono hs1)))).mono ?_
      rintro e w3 (⟨vs, hvs, A3, n3, c3, rfl, own3, hb3, _⟩ | ⟨hvs, A3, n3, c3, rfl, own3, hb3, _⟩)
      · have hvl := swl_len hvs
        match vs, hvl, hvs with
        | [c0, x0, y0], _, hvs =>
        obtain rfl : n3 = 3 := own3.len.symm
        have HN := Lib.hid (HT1.out (x0, y0, c0) (by rw [HPc.out, hvs]; rfl))
        have bel := bel_step bel2 hb3
        have own := own2.go hb3
        have hs3 := hb3.size
        obtain ⟨a3, rfl⟩ := own3.head (by omega)
        have hg3 := own3.lt a3 rfl
        have X0 : Cl w3 ⟨a3, 0, none⟩ (.int .i64 c0) := ⟨hg3.2, own3.atJ 0 (by omega)⟩
        have X1 : Cl w3 ⟨a3, 1, none⟩ (.int .i64 x0) := ⟨hg3.2, own3.atJ 1 (by omega)⟩
        have X2 : Cl w3 ⟨a3, 2, none⟩ (.int .i64 y0) := ⟨hg3.2, own3.atJ 2 (by omega)⟩
        have hne : u6.ownBlock ≠ some a3 := fun e => by
          have := (hT0 _ e).2
          omega
        clear own3 own2 bel2 hb3 hsp hsz0 CW hvs hvl hc hown
        go_wp2_with fail
        have ownF : OwnF w3 w1.heap.size 35 3 u6 k (flatT T) := own
        have hk3 : k + 1 ≤ 3000000000 := by omega
        go_region_held3 (fun w' => w'.cell? ⟨a3, 0, none⟩ = some (.int .i64 c0) ∧ w'.cell? ⟨a3, 1, none⟩ = some (.int .i64 x0) ∧ w'.cell? ⟨a3, 2, none⟩ = some (.int .i64 y0)) (first | exact ⟨X0.drew.2, X1.drew.2, X2.drew.2⟩ | exact ⟨(X0.alloc _).drew.2, (X1.alloc _).drew.2, (X2.alloc _).drew.2⟩ | exact ⟨Y0.2, Y1.2, Y2.2⟩)
          (first
          | (refine step_appSrc (by rfl) (.tmp 31) (.tmp 42) 22 (by rfl) w1.heap.size 35 3 i0 _ Tryd.underlying22 HI.out HZ0.out HZ1.out HZ2.out (by omega) (by omega) rfl u6 k (flatT T) ?_ ?_ ?_ 1 [x0, y0, c0] ?_ ?_ ?_ ?_ ?_; (exact rfl); (with_reducible exact OwnF.drewK (OwnF.new ownF _)); rotate_left; (exact rfl); (focus (exact SrcF.drewK (SrcF.new _ _ [x0, y0, c0] _ rfl))); (exact hk3); (exact bel_size (B := w1.heap.size) (bel_alloc bel _).drew); intro v5 w5 own5 bel5 g5 at5; have Y0 := (X0.alloc _).drew.grown g5 hne; have Y1 := (X1.alloc _).drew.grown g5 hne; have Y2 := (X2.alloc _).drew.grown g5 hne; have bel := Below.trans (B := w1.heap.size) (a := w1) (bel_alloc bel _).drew bel5))
        all_goals
          have own5 : OwnT w5 w1.heap.size 35 v5 (k + 1) (T ++ [(x0, y0, c0)]) := by unfold OwnT; rw [flatT_snoc]; exact own5
          clear ownF own X0 X1 X2 Y0 Y1 Y2 g5 at5 bel5
          go_wp2_with fail
          go_roundw
          case rel => exact ⟨k + 1, T ++ [(x0, y0, c0)], by omega, by go_num, HN, own5, bel⟩
          case measure => simp [intOf]; omega
      · have HN := Lib.hid (HF1.out (by rw [HPc.out, hvs]; rfl))
        have bel := hb1.trans ((bel_step bel2 hb3).mono hs1)
        go_wp2_with fail
        go_ret2
        rw [HN.out]
        exact retTB_mk (OwnT.nil _ _ _) bel (by omega)
    · obtain rfl : k = n := by omega
      have HAll : Hid (allOf pieceI W = some T) := Lib.hid (by have := HT.out; rwa [List.take_of_length_le (by rw [HWL.out]; exact Nat.le_refl _)] at this)
      have HP : Hid (pParseI s.data.toList = if (ok = true ∧ isPlane T = true) ∧ tTxt T = s.data.toList then (T, true) else ([], false)) := Lib.hid (by rw [HPI.out, HAll.out])
      obtain ⟨A5, c5, rfl⟩ := hown.shape
      have belw := hb1.trans (bel.mono hs1)
      cases ok
      · have HN : Hid (pParseI s.data.toList = ([], false)) := Lib.hid (by rw [HP.out, if_neg (fun h => by cases h.1.1)])
        go_wp2_with fail
        go_ret2
        rw [HN.out]
        exact retTB_mk (OwnT.nil _ _ _) belw (by omega)
      · cases hpl : isPlane T
        · have HN : Hid (pParseI s.data.toList = ([], false)) := Lib.hid (by rw [HP.out, if_neg (fun h => by rw [hpl] at h; cases h.1.2)])
          have HPl := Lib.hid hpl
          clear hpl
          go_wp2_with fail
          refine (isPlane_c _ _ _ _ _ _ hown.rd (Nat.le_refl _)).mono ?_; rw [HPl.out]; rintro e w4 ⟨rfl, hb4⟩
          have belw := bel_step belw hb4
          go_wp2_with fail
          go_ret2
          rw [HN.out]
          exact retTB_mk (OwnT.nil _ _ _) belw (by omega)
        · have HPl := Lib.hid hpl
          have HD := Lib.hid (tText_data T)
          have hLw := hL.go belw
          have CT := fun w h hB ht => planeText_c A5 k c5 T wr.heap.size w h hB HPl.out ht
          by_cases he : tTxt T = s.data.toList
          · have HN : Hid (pParseI s.data.toList = (T, true)) := Lib.hid (by rw [HP.out, if_pos ⟨⟨rfl, hpl⟩, he⟩])
            have hbs := bs_same (X := tText T) (s := s) (by rw [HD.out, he])
            clear hpl he HD
            generalize tText T = X at *
            go_wp2_with fail
            refine (isPlane_c _ _ _ _ _ _ hown.rd (Nat.le_refl _)).mono ?_; rw [HPl.out]; rintro e w4 ⟨rfl, hb4⟩
            have belw := bel_step belw hb4
            go_wp2_with fail
            refine (CT _ (hown.rd.below hb4) hb4.size (hLw.go hb4).tab).mono ?_; rintro e w5 ⟨rfl, hb5⟩
            have belw := bel_step belw hb5
            have hown := (hown.go hb4).go hb5
            go_wp2_with fail
            go_ret2
            rw [HN.out]
            exact retTB_mk (hown.more hs1) belw (by omega)
          · have HN : Hid (pParseI s.data.toList = ([], false)) := Lib.hid (by rw [HP.out, if_neg (fun h => he h.2)])
            have hbs := bs_other (X := tText T) (s := s) (by rw [HD.out]; exact he)
            clear hpl he HD
            generalize tText T = X at *
            go_wp2_with fail
            refine (isPlane_c _ _ _ _ _ _ hown.rd (Nat.le_refl _)).mono ?_; rw [HPl.out]; rintro e w4 ⟨rfl, hb4⟩
            have belw := bel_step belw hb4
            go_wp2_with fail
            refine (CT _ (hown.rd.below hb4) hb4.size (hLw.go hb4).tab).mono ?_; rintro e w5 ⟨rfl, hb5⟩
            have belw := bel_step belw hb5
            go_wp2_with fail
            go_ret2
            rw [HN.out]
            exact retTB_mk (OwnT.nil _ _ _) belw (by omega)
theorem OwnS.atJ {w : World} {B g n c : Nat} {E : TypeId} {zs : List ByteArray} (h : OwnS w B E (.slice (some ⟨g, 0, none⟩) n c) n zs) (j : Nat) (hj : j < n) : w.cell? ⟨g, j, none⟩ = some (.string (zs.getD j ⟨#[]⟩)) := by
  rw [World.ownsRow.cellAt h j (by omega)]
  have := h.len
  simp [List.getD, List.getElem?_eq_getElem (show j < zs.length by omega)]
theorem two_of {l : List Bs} (h : l.length = 2) : ∃ a b, l = [a, b] := by
  match l, h with
  | [a, b], _ => exact ⟨a, b, rfl⟩
theorem pieceS_no1 {p : Bs} (h : (spl 58 p).length ≠ 2) : pieceS p = none := by
  unfold pieceS
  split
  · rename_i a b e
    rw [e] at h
    exact absurd rfl h
  · rfl
theorem pieceS_no2 {p a b : Bs} (e : spl 58 p = [a, b]) (h : (spl 44 b).length ≠ 2) : pieceS p = none := by
  unfold pieceS
  rw [e]
  dsimp only
  split
  · rename_i i j e2
    rw [e2] at h
    exact absurd rfl h
  · rfl
theorem pieceS_no3 {p a b i j : Bs} (e : spl 58 p = [a, b]) (e2 : spl 44 b = [i, j]) (h : canN a = none) : pieceS p = none := by
  unfold pieceS
  rw [e]
  dsimp only
  rw [e2]
  dsimp only
  rw [h]
theorem pieceS_yes {p a b i j : Bs} {c : Int} (e : spl 58 p = [a, b]) (e2 : spl 44 b = [i, j]) (h : canN a = some c) : pieceS p = some (rdU 6 i, rdU 6 j, c) := by
  unfold pieceS
  rw [e]
  dsimp only
  rw [e2]
  dsimp only
  rw [h]
set_option maxRecDepth 8192 in
set_option maxHeartbeats 8000000 in
theorem plParse_c (s : ByteArray) (hs : s.size ≤ 1048576) (w : World) :
    Calls Tryd.prog 9 #[.string s] w (RetTB 35 (pParseS s.data.toList).1 (pParseS s.data.toList).2 w) := by
  have HSl : Hid (s.data.toList.length ≤ 1048576) := Lib.hid (by rw [← Lib.size_eq]; exact hs)
  obtain ⟨i0, hi, hz0, hz1, hz2⟩ := info_parts info_trm
  have HI := Lib.hid hi
  have HZ0 := Lib.hid hz0
  have HZ1 := Lib.hid hz1
  have HZ2 := Lib.hid hz2
  clear hi hz0 hz1 hz2
  go_enter Tryd.func9, Tryd.ntmps9
  go_wp2_with fail
  refine (l1Split_c s 59 59 rfl hs _).mono ?_
  rintro e w1 ⟨A1, n1, c1, rfl, own1, hb1⟩
  have hl1 := own1.len
  rw [splB, List.length_map] at hl1
  have hp1 := spl_pos 59 s.data.toList
  have hq1 := own1.capAt
  obtain ⟨M, rfl⟩ : ∃ M, n1 = M + 1 := ⟨n1 - 1, by omega⟩
  obtain ⟨g1, rfl⟩ := own1.head (by omega)
  have hle1 := own1.le
  have hs1 := hb1.size
  have h : RdS w1 w1.heap.size (some ⟨g1, 0, none⟩) M ((splB 59 s).dropLast) := by
    rw [List.dropLast_eq_take, show (splB 59 s).length = M + 1 from own1.len]
    exact own1.rd.pre (by omega)
  by_cases h13 : 13 < M + 1
  · have HN : Hid (pParseS s.data.toList = ([], false)) := Lib.hid (by rw [pParseS, if_pos (by rw [hl1]; exact h13)])
    have h13' : (13 : Int) < (M : Int) + 1 := by omega
    go_wp2_with fail
    go_ret2
    rw [HN.out]
    exact retTB_mk (OwnT.nil _ _ _) hb1 (by omega)
  have HPI : Hid (pParseS s.data.toList = match allOf pieceS (spl 59 s.data.toList).dropLast with
    | none => ([], false)
    | some T => if isPlane T = true ∧ tTxt T = s.data.toList then (T, true) else ([], false)) := Lib.hid (by rw [pParseS, if_neg (by rw [hl1]; exact h13)]; rfl)
  have HWL : Hid ((spl 59 s.data.toList).dropLast.length = M) := Lib.hid (by rw [List.length_dropLast, hl1]; rfl)
  have HWA := Lib.hid (fun k (hk : k < M) => words_at (b := 59) (s := s) (k := k) (by rw [words_len, HWL.out]; exact hk))
  generalize hWW : (spl 59 s.data.toList).dropLast = W at *
  have HWs := Lib.hid (fun k (hk : k < M) => show (W.getD k []).length ≤ 1048576 from by
    have := word_size (b := 59) (l := s.data.toList) (k := k) (by rw [hWW, HWL.out]; exact hk)
    rw [hWW] at this
    have := HSl.out
    omega)
  have HFail : Hid (∀ k, k < M → pieceS (W.getD k []) = none → pParseS s.data.toList = ([], false)) := Lib.hid (fun k hk h => by
    rw [HPI.out, allOf_fail h (mem_at (by rw [HWL.out]; exact hk))])
  have h13' : ¬ (13 : Int) < (M : Int) + 1 := by omega
  have e1 : IntKind.i64.wrap (M : Int) = (M : Int) := IntWalk.i64_in _ (by omega)
  have e2 : (0 : Int) ≤ (M : Int) := by omega
  have e3 : (M : Int) ≤ (c1 : Int) := by omega
  have e4 : ¬ (c1 : Int) < (M : Int) := by omega
  have e5 : M ≤ c1 := by omega
  have hM12 : M ≤ 12 := by omega
  clear hWW own1 hl1 hp1 hle1 h13
  go_wp2_with fail
  go_loopw [5, 23] (fun v i wr => ∃ (k : Nat) (T : List Trm), k ≤ M ∧ i = .int .i64 k ∧ Hid (allOf pieceS (W.take k) = some T) ∧ OwnT wr w1.heap.size 35 v k T ∧ Below w1.heap.size w1 wr) (fun _ i _ => M - (intOf i).toNat)
  case atStart => exact ⟨0, [], Nat.zero_le _, rfl, Lib.hid rfl, OwnT.nil _ _ _, Below.refl _ _⟩
  case round =>
    obtain ⟨k, T, hk, rfl, HT, hown, bel⟩ := hrel
    have hr := h.below bel
    by_cases hlt : k < M
    · obtain ⟨ad', e, _, hc⟩ := hr.at_ hlt
      cases e
      rw [HWA.out k hlt, Addr.add_lit, Nat.zero_add] at hc
      have hps := HWs.out k hlt
      have HF1 : Hid (pieceS (W.getD k []) = none → pParseS s.data.toList = ([], false)) := Lib.hid (HFail.out k hlt)
      have HT1 : Hid (∀ t, pieceS (W.getD k []) = some t → allOf pieceS (W.take (k + 1)) = some (T ++ [t])) := Lib.hid (fun t ht => by
        rw [take_at (by rw [HWL.out]; exact hlt)]
        exact allOf_snoc HT.out ht)
      generalize W.getD k [] = p at *
      have CP := fun w => l1Split_c (txtB p) 58 58 rfl (by rw [txtB_size]; exact hps) w
      have hT0 := hown.lt
      have hzr := bel.size
      have hmem := spl_mem 58 p
      clear hr
      go_wp2_with fail
      refine (CP _).mono ?_
      rintro e w2 ⟨A2, n2, c2, rfl, own2, hb2⟩
      have hl2 := own2.len
      rw [splB, List.length_map, txtB_toList] at hl2
      have bel2 := bel.trans (hb2.mono hzr)
      have hownB := hown.go hb2
      have hz2 := hb2.size
      clear CP hc
      by_cases hn2 : n2 = 2
      rotate_left
      · have HN := Lib.hid (HF1.out (pieceS_no1 (by rw [hl2]; exact hn2)))
        have hne : ((n2 : Int) == 2) = false := by rw [beq_eq_false_iff_ne]; omega
        have belw := hb1.trans (bel2.mono hs1)
        go_wp2_with fail
        go_ret2
        rw [HN.out]
        exact retTB_mk (OwnT.nil _ _ _) belw (by omega)
      subst hn2
      obtain ⟨a, b, hab⟩ := two_of hl2
      have HAB := Lib.hid hab
      have hal : a.length ≤ 1048576 := Nat.le_trans (hmem a (by rw [hab]; simp)) hps
      have hbl : b.length ≤ 1048576 := Nat.le_trans (hmem b (by rw [hab]; simp)) hps
      obtain ⟨g2, rfl⟩ := own2.head (by omega)
      have hcA := own2.atJ 0 (by omega)
      have hcB := own2.atJ 1 (by omega)
      rw [splB, txtB_toList, hab] at hcA hcB
      have hcA : w2.cell? ⟨g2, 0, none⟩ = some (.string (txtB a)) := hcA
      have hcB : w2.cell? ⟨g2, 1, none⟩ = some (.string (txtB b)) := hcB
      have hg2 := (own2.lt g2 rfl).2
      have CB := fun w => l1Split_c (txtB b) 44 44 rfl (by rw [txtB_size]; exact hbl) w
      have hmem2 := spl_mem 44 b
      clear own2 hl2 hmem hab
      go_wp2_with fail
      refine (CB _).mono ?_
      rintro e w3 ⟨A3, n3, c3, rfl, own3, hb3⟩
      have hl3 := own3.len
      rw [splB, List.length_map, txtB_toList] at hl3
      have bel3 := bel2.trans (hb3.mono (Nat.le_trans hzr hz2))
      have hownC := hownB.go hb3
      have hz3 := hb3.size
      have hcA := (hb3.cell (p := ⟨g2, 0, none⟩) hg2).trans hcA
      have CA := fun w => nuParse_c (txtB a) (by rw [txtB_size]; exact hal) w
      rw [txtB_toList] at CA
      clear CB hcB
      by_cases hn3 : n3 = 2
      rotate_left
      · have HN := Lib.hid (HF1.out (pieceS_no2 HAB.out (by rw [hl3]; exact hn3)))
        have hne : ((n3 : Int) == 2) = false := by rw [beq_eq_false_iff_ne]; omega
        go_wp2_with fail
        refine (CA _).mono ?_; rintro e w4 ⟨rfl, hb4⟩
        have belw := hb1.trans ((bel3.trans (hb4.mono (Nat.le_trans hzr (Nat.le_trans hz2 hz3)))).mono hs1)
        go_wp2_with fail
        go_ret2
        rw [HN.out]
        exact retTB_mk (OwnT.nil _ _ _) belw (by omega)
      subst hn3
      obtain ⟨i, j, hij⟩ := two_of hl3
      have HIJ := Lib.hid hij
      have hil : i.length ≤ 1048576 := Nat.le_trans (hmem2 i (by rw [hij]; simp)) hbl
      have hjl : j.length ≤ 1048576 := Nat.le_trans (hmem2 j (by rw [hij]; simp)) hbl
      cases hcan : canN a with
      | none =>
        have HN := Lib.hid (HF1.out (pieceS_no3 HAB.out HIJ.out hcan))
        have hpn : pNum a = (0, false) := by rw [pNum, hcan]
        rw [hpn] at CA
        go_wp2_with fail
        refine (CA _).mono ?_; rintro e w4 ⟨rfl, hb4⟩
        have belw := hb1.trans ((bel3.trans (hb4.mono (Nat.le_trans hzr (Nat.le_trans hz2 hz3)))).mono hs1)
        go_wp2_with fail
        go_ret2
        rw [HN.out]
        exact retTB_mk (OwnT.nil _ _ _) belw (by omega)
      | some c0 =>
        have HN := Lib.hid (HT1.out _ (pieceS_yes HAB.out HIJ.out hcan))
        have hpn : pNum a = (c0, true) := by rw [pNum, hcan]
        rw [hpn] at CA
        obtain ⟨g3, rfl⟩ := own3.head (by omega)
        have d0 := own3.atJ 0 (by omega)
        have d1 := own3.atJ 1 (by omega)
        rw [splB, txtB_toList, hij] at d0 d1
        have hg3 := own3.lt g3 rfl
        have X0 : Cl w3 ⟨g3, 0, none⟩ (.string (txtB i)) := ⟨hg3.2, d0⟩
        have X1 : Cl w3 ⟨g3, 1, none⟩ (.string (txtB j)) := ⟨hg3.2, d1⟩
        have hne : u5.ownBlock ≠ some g3 := fun e => by
          have := (hT0 _ e).2
          omega
        have CI := fun w => l1Read_c (txtB i) (by rw [txtB_size]; exact hil) w
        have CJ := fun w => l1Read_c (txtB j) (by rw [txtB_size]; exact hjl) w
        rw [txtB_toList] at CI CJ
        clear own3 hl3 hij hcan hpn d0 d1 hmem2
        go_wp2_with fail
        refine (CA _).mono ?_; rintro e w4 ⟨rfl, hb4⟩
        have bel := bel3.trans (hb4.mono (Nat.le_trans hzr (Nat.le_trans hz2 hz3)))
        have own := hownC.go hb4
        have X0 := X0.go hb4
        have X1 := X1.go hb4
        have ownF : OwnF w4 w1.heap.size 35 3 u5 k (flatT T) := own
        have hk3 : k + 1 ≤ 3000000000 := by omega
        clear CA hcA hown hownB hownC bel2 bel3 hb4 hb3 hb2
        generalize rdU 6 i = x0 at *
        generalize rdU 6 j = y0 at *
        generalize txtB i = I at *
        generalize txtB j = J at *
        go_wp2_with fail
        go_region_held3 (fun w' => w'.cell? ⟨g3, 0, none⟩ = some (.string I) ∧ w'.cell? ⟨g3, 1, none⟩ = some (.string J)) (first | exact ⟨X0.drew.2, X1.drew.2⟩ | exact ⟨(X0.alloc _).drew.2, (X1.alloc _).drew.2⟩ | exact ⟨Y0.2, Y1.2⟩)
          (first
          | (go_at_call 17; (with_reducible refine Calls.mono (CI _) ?_); rintro e v1 ⟨rfl, rfl⟩)
          | (go_at_call 17; (with_reducible refine Calls.mono (CJ _) ?_); rintro e v1 ⟨rfl, rfl⟩)
          | (refine step_appSrc (by rfl) (.tmp 50) (.tmp 61) 22 (by rfl) w1.heap.size 35 3 i0 _ Tryd.underlying22 HI.out HZ0.out HZ1.out HZ2.out (by omega) (by omega) rfl u5 k (flatT T) ?_ ?_ ?_ 1 [x0, y0, c0] ?_ ?_ ?_ ?_ ?_; (exact rfl); (with_reducible exact OwnF.drewK (OwnF.new ownF _)); rotate_left; (exact rfl); (focus (exact SrcF.drewK (SrcF.new _ _ [x0, y0, c0] _ rfl))); (exact hk3); (exact bel_size (B := w1.heap.size) (bel_alloc bel _).drew); intro v5 w5 own5 bel5 g5 at5; have Y0 := (X0.alloc _).drew.grown g5 hne; have Y1 := (X1.alloc _).drew.grown g5 hne; have bel := Below.trans (B := w1.heap.size) (a := w1) (bel_alloc bel _).drew bel5))
        all_goals
          have own5 : OwnT w5 w1.heap.size 35 v5 (k + 1) (T ++ [(x0, y0, c0)]) := by unfold OwnT; rw [flatT_snoc]; exact own5
          clear ownF own X0 X1 Y0 Y1 g5 at5 bel5
          go_wp2_with fail
          go_roundw
          case rel => exact ⟨k + 1, T ++ [(x0, y0, c0)], by omega, by go_num, HN, own5, bel⟩
          case measure => simp [intOf]; omega
    · obtain rfl : k = M := by omega
      have HAll : Hid (allOf pieceS W = some T) := Lib.hid (by have := HT.out; rwa [List.take_of_length_le (by rw [HWL.out]; exact Nat.le_refl _)] at this)
      have HP : Hid (pParseS s.data.toList = if isPlane T = true ∧ tTxt T = s.data.toList then (T, true) else ([], false)) := Lib.hid (by rw [HPI.out, HAll.out])
      obtain ⟨A5, c5, rfl⟩ := hown.shape
      have belw := hb1.trans (bel.mono hs1)
      cases hpl : isPlane T
      · have HN : Hid (pParseS s.data.toList = ([], false)) := Lib.hid (by rw [HP.out, if_neg (fun h => by rw [hpl] at h; cases h.1)])
        have HPl := Lib.hid hpl
        clear hpl
        go_wp2_with fail
        refine (plGood_c _ _ _ _ _ _ hown.rd (Nat.le_refl _)).mono ?_; rw [HPl.out]; rintro e w4 ⟨rfl, hb4⟩
        have belw := bel_step belw hb4
        go_wp2_with fail
        go_ret2
        rw [HN.out]
        exact retTB_mk (OwnT.nil _ _ _) belw (by omega)
      · have HPl := Lib.hid hpl
        have HD := Lib.hid (tText_data T)
        have CT := fun w h hB => plText_c A5 k c5 T wr.heap.size w h hB HPl.out
        by_cases he : tTxt T = s.data.toList
        · have HN : Hid (pParseS s.data.toList = (T, true)) := Lib.hid (by rw [HP.out, if_pos ⟨hpl, he⟩])
          have hbs := bs_same (X := tText T) (s := s) (by rw [HD.out, he])
          clear hpl he HD
          generalize tText T = X at *
          go_wp2_with fail
          refine (plGood_c _ _ _ _ _ _ hown.rd (Nat.le_refl _)).mono ?_; rw [HPl.out]; rintro e w4 ⟨rfl, hb4⟩
          have belw := bel_step belw hb4
          go_wp2_with fail
          refine (CT _ (hown.rd.below hb4) hb4.size).mono ?_; rintro e w5 ⟨rfl, hb5⟩
          have belw := bel_step belw hb5
          have hown := (hown.go hb4).go hb5
          go_wp2_with fail
          go_ret2
          rw [HN.out]
          exact retTB_mk (hown.more hs1) belw (by omega)
        · have HN : Hid (pParseS s.data.toList = ([], false)) := Lib.hid (by rw [HP.out, if_neg (fun h => he h.2)])
          have hbs := bs_other (X := tText T) (s := s) (by rw [HD.out]; exact he)
          clear hpl he HD
          generalize tText T = X at *
          go_wp2_with fail
          refine (plGood_c _ _ _ _ _ _ hown.rd (Nat.le_refl _)).mono ?_; rw [HPl.out]; rintro e w4 ⟨rfl, hb4⟩
          have belw := bel_step belw hb4
          go_wp2_with fail
          refine (CT _ (hown.rd.below hb4) hb4.size).mono ?_; rintro e w5 ⟨rfl, hb5⟩
          have belw := bel_step belw hb5
          go_wp2_with fail
          go_ret2
          rw [HN.out]
          exact retTB_mk (OwnT.nil _ _ _) belw (by omega)
theorem specPP_c (s : ByteArray) (hs : s.size ≤ 1048576) (w : World) :
    Calls Tryd.prog 4 #[.string s] w (RetTB 35 (pParseS s.data.toList).1 (pParseS s.data.toList).2 w) := by
  go_enter Tryd.func4, Tryd.ntmps4
  go_wp2_with fail
  refine (plParse_c s hs _).mono ?_
  rintro e w1 ⟨A, n, c, rfl, own, hb, hn⟩
  go_wp2_with fail
  go_ret2
  exact ⟨A, n, c, rfl, own, hb, hn⟩
theorem implPP_c (s : ByteArray) (hs : s.size ≤ 1048576) (w : World) (hL : LibOk w) :
    Calls Tryd.prog 5 #[.string s] w (RetTB 35 (pParseS s.data.toList).1 (pParseS s.data.toList).2 w) := by
  rw [← parse_same]
  exact implParsePlane_c s hs w hL
set_option maxHeartbeats 1000000 in
theorem walk_FnExactParsePlane (s : ByteArray) (w : World) (_w0 : s.size ≤ maxLen) (hL : LibOk w) :
  Calls Tryd.prog 3 #[.string s] w fun e w' => e = .returned (.bool true) ∧ Below w.heap.size w w' := by
  by_cases hs : s.size ≤ 1048576
  rotate_left
  · go_enter Tryd.func3, Tryd.ntmps3
    go_wp2_with fail
    go_ret
    exact ⟨rfl, Below.refl _ _⟩
  go_enter Tryd.func3, Tryd.ntmps3
  have bel : Below w.heap.size w w := Below.refl _ _
  go_wp2_with fail
  refine (specPP_c s hs _).mono ?_
  rintro e u1 ⟨AWr, nWr, cWr, rfl, Wr, hb1, qWr⟩
  have bel := bel_step bel hb1
  have sz1 := hb1.size
  have Wr0 := Wr
  go_wp2_with fail
  refine (implPP_c s hs _ (hL.go bel)).mono ?_
  rintro e u2 ⟨AGr, nGr, cGr, rfl, Gr, hb2, qGr⟩
  have bel := bel_step bel hb2
  have sz2 := hb2.size
  have Wr := Wr.go hb2
  have Gr0 := Gr
  go_wp2_with fail
  refine (eqTermS_c _ _ _ _ _ _ _ _ _ _ Gr.rd Wr.rd (Nat.le_refl _) (Nat.le_refl _)).mono ?_
  rintro e u3 ⟨rfl, hb3⟩
  have bel := bel_step bel hb3
  have sz3 := hb3.size
  have Wr := Wr.go hb3
  have Gr := Gr.go hb3
  go_wp2_with fail
  refine (markTermS_c _ _ _ _ _ _ _ Gr (by omega) (by omega) (by omega)).mono ?_
  rintro e u4 ⟨rfl, Gr, hg4⟩
  have bel := bel.grown hg4 bel.size fun g hg => by have := (Gr0.lt g hg).1; omega
  have sz4 := hg4.size
  have Wr := Wr.kept hg4 (blk_ne Wr0.lt Gr0.lt (by omega))
  go_wp2_with fail
  refine (heldTermS_c _ _ _ _ _ _ Gr.rd (by omega) (by omega) (by omega)).mono ?_
  rintro e u5 ⟨rfl, hb5⟩
  have bel := bel_step bel hb5
  have sz5 := hb5.size
  have Wr := Wr.go hb5
  have Gr := Gr.go hb5
  go_wp2_with fail
  refine (implPP_c s hs _ (hL.go bel)).mono ?_
  rintro e u6 ⟨AHr, nHr, cHr, rfl, Hr, hb6, qHr⟩
  have bel := bel_step bel hb6
  have sz6 := hb6.size
  have Wr := Wr.go hb6
  have Gr := Gr.go hb6
  have Hr0 := Hr
  go_wp2_with fail
  refine (eqTermS_c _ _ _ _ _ _ _ _ _ _ Hr.rd Wr.rd (Nat.le_refl _) (Nat.le_refl _)).mono ?_
  rintro e u7 ⟨rfl, hb7⟩
  have bel := bel_step bel hb7
  have sz7 := hb7.size
  have Wr := Wr.go hb7
  have Gr := Gr.go hb7
  have Hr := Hr.go hb7
  go_wp2_with fail
  refine (heldTermS_c _ _ _ _ _ _ Gr.rd (by omega) (by omega) (by omega)).mono ?_
  rintro e u8 ⟨rfl, hb8⟩
  have bel := bel_step bel hb8
  have sz8 := hb8.size
  have Wr := Wr.go hb8
  have Gr := Gr.go hb8
  have Hr := Hr.go hb8
  go_wp2_with fail
  go_ret
  exact ⟨rfl, bel⟩
end Go.Proofs.YtmhbkljnilonkaaDoor
