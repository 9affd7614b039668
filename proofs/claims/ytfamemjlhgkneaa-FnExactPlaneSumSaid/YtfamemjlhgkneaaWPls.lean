/- The law on the sum of plane polynomials. -/
import Derived.Test.YtfamemjlhgkneaaWPrd
import Derived.Test.YtfamemjlhgkneaaConcat
namespace Go.Proofs.Ytfamemjlhgkneaa
open Go.RowKit
theorem pPls_no {l m : List Trm} (h : (isPlane l && isPlane m) = false) : pPlaneSum l m = ([], false) := by rw [pPlaneSum, h]; rfl
theorem pPls_yes {l m : List Trm} (h : isPlane l = true) (k : isPlane m = true) : pPlaneSum l m = toldPl (putAll l m) := by rw [pPlaneSum, h, k]; rfl
set_option maxRecDepth 8192 in
set_option maxHeartbeats 2000000 in
theorem specPlaneSum_c (A : Option Addr) (n c : Nat) (l : List Trm) (A2 : Option Addr) (n2 c2 : Nat) (m : List Trm) (w : World) (h : RdT w w.heap.size A n l) (_hn : n ≤ 1048576) (h2 : RdT w w.heap.size A2 n2 m) (_hn2 : n2 ≤ 1048576) :
    Calls Try.prog 45 #[.slice A n c, .slice A2 n2 c2] w (RetTB 54 (pPlaneSum l m).1 (pPlaneSum l m).2 w) := by
  cases hp : isPlane l
  · have H := Lib.hid (pPls_no (l := l) (m := m) (by rw [hp]; rfl))
    have HP := Lib.hid hp
    clear hp
    go_enter Try.func45, Try.ntmps45
    go_wp2_with fail
    refine (plGood_c _ _ _ _ _ _ h (Nat.le_refl _)).mono ?_; rw [HP.out]; rintro e w1 ⟨rfl, hb⟩
    go_wp2_with fail
    go_ret2
    rw [H.out]
    exact retTB_mk (OwnT.nil _ _ _) hb (by omega)
  cases hq : isPlane m
  · have H := Lib.hid (pPls_no (l := l) (m := m) (by rw [hp, hq]; rfl))
    have HP := Lib.hid hp
    have HQ := Lib.hid hq
    clear hp hq
    go_enter Try.func45, Try.ntmps45
    go_wp2_with fail
    refine (plGood_c _ _ _ _ _ _ h (Nat.le_refl _)).mono ?_; rw [HP.out]; rintro e w1 ⟨rfl, hb⟩
    have h2' := h2.below hb
    go_wp2_with fail
    refine (plGood_c _ _ _ _ _ _ h2' hb.size).mono ?_; rw [HQ.out]; rintro e w2 ⟨rfl, hb2⟩
    have hb3 := bel_step hb hb2
    clear hb hb2 h2'
    go_wp2_with fail
    go_ret2
    rw [H.out]
    exact retTB_mk (OwnT.nil _ _ _) hb3 (by omega)
  have hl := isPlane_len hp
  have hm := isPlane_len hq
  have H := Lib.hid (pPls_yes hp hq)
  have HN := Lib.hid (show l.length = n from h.len)
  have HN2 := Lib.hid (show m.length = n2 from h2.len)
  rw [HN.out] at hl
  rw [HN2.out] at hm
  have HP := Lib.hid hp
  have HQ := Lib.hid hq
  clear hp hq
  obtain ⟨i0, hi, hz0, hz1, hz2⟩ := info_parts info_trm
  have HI := Lib.hid hi
  have HZ0 := Lib.hid hz0
  have HZ1 := Lib.hid hz1
  have HZ2 := Lib.hid hz2
  clear hi hz0 hz1 hz2
  obtain ⟨b, o, rfl, hbB, _⟩ := h.at_ (show 0 < n by omega)
  go_enter Try.func45, Try.ntmps45
  go_wp2_with fail
  refine (plGood_c _ _ _ _ _ _ h (Nat.le_refl _)).mono ?_; rw [HP.out]; rintro e w1 ⟨rfl, hb⟩
  have h2' := h2.below hb
  go_wp2_with fail
  refine (plGood_c _ _ _ _ _ _ h2' hb.size).mono ?_; rw [HQ.out]; rintro e w2 ⟨rfl, hb2⟩
  have hb3 := bel_step hb hb2
  have own0 := OwnF.empty (B := w.heap.size) w2 54 3 hb3.size
  have bel0 := hb3.alloc hb3.size (.cells #[] 54)
  have h1 : RdT (w2.alloc (.cells #[] 54)) w.heap.size (some ⟨b, o, none⟩) n l := h.below bel0
  have HC := Lib.hid (RdF.cells h1 (show 0 < n by omega))
  have HF := Lib.hid (RdF.len h1)
  clear hb hb2 h2' hb3 h1
  go_wp2_with (at_builtin; refine wp_appSF rfl _ _ 25 rfl w.heap.size 54 3 i0 _ Try.underlying25 HI.out HZ0.out HZ1.out HZ2.out (by omega) (by omega) rfl _ 0 [] rfl own0 b o n c (flatT l) HF.out rfl HC.out (by omega) bel0.size ?_)
  intro v' w5 g1 g2 _
  have bel1 := bel0.trans g2
  have own1 : OwnT w5 w.heap.size 54 v' n l := g1
  clear g1 g2 own0 bel0
  go_wp2_with fail
  go_loopw [6, 22] (fun v i wr => ∃ k q : Nat, k ≤ n2 ∧ i = .int .i64 k ∧ q ≤ n + k ∧ OwnT wr w.heap.size 54 v q (putAll l (m.take k)) ∧ Below w.heap.size w wr) (fun _ i _ => n2 - (intOf i).toNat)
  case atStart => exact ⟨0, n, Nat.zero_le _, rfl, Nat.le_refl _, own1, bel1⟩
  case round =>
    clear own1 bel1
    obtain ⟨k, q, hk, rfl, hq, hown, hbel⟩ := hrel
    have hsz := hbel.size
    by_cases hlt : k < n2
    · obtain ⟨b', o', rfl, _, c0, c1, c2⟩ := (h2.below hbel).at_ hlt
      have HM : Hid (putAll l (m.take (k + 1)) = putT ((m.getD k (0, 0, 0)).1, (m.getD k (0, 0, 0)).2.1, (m.getD k (0, 0, 0)).2.2) (putAll l (m.take k))) := Lib.hid (by rw [takeT_succ (by rw [HN2.out]; exact hlt), putAll_snoc])
      have HQ2 := Lib.hid (putT_len ((m.getD k (0, 0, 0)).1, (m.getD k (0, 0, 0)).2.1, (m.getD k (0, 0, 0)).2.2) (putAll l (m.take k)))
      rw [hown.len] at HQ2
      generalize (m.getD k (0, 0, 0)).1 = x0 at *
      generalize (m.getD k (0, 0, 0)).2.1 = x1 at *
      generalize (m.getD k (0, 0, 0)).2.2 = x2 at *
      have bel := hbel.alloc hbel.size (.cells #[.int .i64 x0, .int .i64 x1, .int .i64 x2] 54)
      have own := hown.new (.cells #[.int .i64 x0, .int .i64 x1, .int .i64 x2] 54)
      obtain ⟨A1, c1', rfl⟩ := hown.shape
      clear hown hbel
      go_wp2_with fail
      refine (plPut_c _ _ _ _ _ _ _ _ _ own (by omega)).mono ?_
      rintro e w5 ⟨A5, n5, c5, rfl, own5, hb5, hn5⟩
      have hbel' := bel_step bel hb5
      rw [← HM.out] at own5 HQ2
      have hq5 := own5.len
      have hqq : n5 ≤ n + (k + 1) := by have := HQ2.out; omega
      have own6 := own5.more bel.size
      clear own bel hb5 own5 hq5
      go_wp2_with fail
      go_roundw
      case rel => exact ⟨k + 1, n5, by omega, by go_num, hqq, own6, hbel'⟩
      case measure => simp [intOf]; omega
    · have HE : Hid (m.take k = m) := Lib.hid (by rw [List.take_of_length_le]; rw [HN2.out]; omega)
      obtain ⟨A1, c1, rfl⟩ := hown.shape
      rw [HE.out] at hown
      have hrd := hown.rd
      cases hz : isPlane (putAll l m)
      · have HT := Lib.hid (toldPl_no hz)
        have HZ := Lib.hid hz
        clear hz
        go_wp2_with fail
        refine (plIf_c _ _ _ _ _ _ false HZ.out hrd (Nat.le_refl _)).mono ?_; rintro e w7 ⟨rfl, hb7⟩
        go_wp2_with fail
        go_ret2
        rw [H.out, HT.out]
        exact retTB_mk (OwnT.nil _ _ _) (bel_step hbel hb7) (by omega)
      · have HT := Lib.hid (toldPl_yes hz)
        have HZ := Lib.hid hz
        clear hz
        go_wp2_with fail
        refine (plIf_c _ _ _ _ _ _ true HZ.out hrd (Nat.le_refl _)).mono ?_; rintro e w7 ⟨rfl, hb7⟩
        go_wp2_with fail
        go_ret2
        rw [H.out, HT.out]
        exact retTB_mk (hown.go hb7) (bel_step hbel hb7) (by omega)
set_option maxRecDepth 8192 in
set_option maxHeartbeats 1000000 in
theorem implPlaneSum_c (A : Option Addr) (n c : Nat) (l : List Trm) (A2 : Option Addr) (n2 c2 : Nat) (m : List Trm) (w : World) (h : RdT w w.heap.size A n l) (_hn : n ≤ 1048576) (h2 : RdT w w.heap.size A2 n2 m) (_hn2 : n2 ≤ 1048576) :
    Calls Try.prog 46 #[.slice A n c, .slice A2 n2 c2] w (RetTB 54 (pPlaneSum l m).1 (pPlaneSum l m).2 w) := by
  cases hp : isPlane l
  · have H := Lib.hid (pPls_no (l := l) (m := m) (by rw [hp]; rfl))
    have HP := Lib.hid hp
    clear hp
    go_enter Try.func46, Try.ntmps46
    go_wp2_with fail
    refine (isPlane_c _ _ _ _ _ _ h (Nat.le_refl _)).mono ?_; rw [HP.out]; rintro e w1 ⟨rfl, hb⟩
    go_wp2_with fail
    go_ret2
    rw [H.out]
    exact retTB_mk (OwnT.nil _ _ _) hb (by omega)
  cases hq : isPlane m
  · have H := Lib.hid (pPls_no (l := l) (m := m) (by rw [hp, hq]; rfl))
    have HP := Lib.hid hp
    have HQ := Lib.hid hq
    clear hp hq
    go_enter Try.func46, Try.ntmps46
    go_wp2_with fail
    refine (isPlane_c _ _ _ _ _ _ h (Nat.le_refl _)).mono ?_; rw [HP.out]; rintro e w1 ⟨rfl, hb⟩
    have h2' := h2.below hb
    go_wp2_with fail
    refine (isPlane_c _ _ _ _ _ _ h2' hb.size).mono ?_; rw [HQ.out]; rintro e w2 ⟨rfl, hb2⟩
    have hb3 := bel_step hb hb2
    clear hb hb2 h2'
    go_wp2_with fail
    go_ret2
    rw [H.out]
    exact retTB_mk (OwnT.nil _ _ _) hb3 (by omega)
  have hl := isPlane_len hp
  have hm := isPlane_len hq
  have H := Lib.hid (pPls_yes hp hq)
  have HN := Lib.hid (show l.length = n from h.len)
  have HN2 := Lib.hid (show m.length = n2 from h2.len)
  rw [HN.out] at hl
  rw [HN2.out] at hm
  have HO : Hid (∀ t ∈ l ++ m, okT t) := Lib.hid fun t ht => by
    rcases List.mem_append.1 ht with ht | ht
    · exact plane_ok hp t ht
    · exact plane_ok hq t ht
  have HR : Hid (Rep l l) := Lib.hid (rep_self (sorted_plane hp))
  have HP := Lib.hid hp
  have HQ := Lib.hid hq
  clear hp hq
  obtain ⟨b, o, rfl, hbB, _⟩ := h.at_ (show 0 < n by omega)
  obtain ⟨b2, o2, rfl, hbB2, _⟩ := h2.at_ (show 0 < n2 by omega)
  go_enter Try.func46, Try.ntmps46
  go_wp2_with fail
  refine (isPlane_c _ _ _ _ _ _ h (Nat.le_refl _)).mono ?_; rw [HP.out]; rintro e w1 ⟨rfl, hb⟩
  have h2' := h2.below hb
  go_wp2_with fail
  refine (isPlane_c _ _ _ _ _ _ h2' hb.size).mono ?_; rw [HQ.out]; rintro e w2 ⟨rfl, hb2⟩
  have hb3 := bel_step hb hb2
  have P := Bx.new w2 [.slice (some ⟨b, o, none⟩) n c, .slice (some ⟨b2, o2, none⟩) n2 c2] 25
  have bel0 := hb3.alloc hb3.size (.cells #[.slice (some ⟨b, o, none⟩) n c, .slice (some ⟨b2, o2, none⟩) n2 c2] 25)
  have h1 := h.below bel0
  have h3 := h2.below bel0
  have hs0 := bel0.size
  clear hb hb2 h2' hb3
  go_wp2_with fail
  refine (concatT_c _ _ _ _ _ _ _ _ _ _ _ _ _ h1 h3 hs0 P (by omega) (by omega) (by omega) (by omega)).mono ?_
  rintro e w3 ⟨A3, n3, c3, rfl, own3, bel3, _⟩
  have bel4 := bel_step bel0 bel3
  have hrd := own3.rd
  have hn3 : n3 = n + n2 := by rw [← own3.len, List.length_append, HN.out, HN2.out]
  have hk1 : 0 < n3 := by omega
  have hk2 : n3 ≤ 1048576 := by omega
  clear own3 bel3 bel0 h1 h3 hs0 P hn3
  go_wp2_with fail
  refine (gathered_c A3 n3 c3 (l ++ m) w3.heap.size w3 hrd (Nat.le_refl _) HO.out hk1 hk2).mono ?_
  rintro e w5 ⟨M, hp, hs, A5, n5, c5, rfl, own5, hb5, hn5⟩
  have HG : Hid (compT M = putAll l m) := Lib.hid (gath_eq (m := l) hs hp HR.out)
  clear hp hs
  rw [HG.out] at own5
  have hb6 := bel_step bel4 hb5
  have own6 := own5.more bel4.size
  have hrd5 := own5.rd
  clear bel4 hb5 own5 hrd
  cases hz : isPlane (putAll l m)
  · have HT := Lib.hid (toldPl_no hz)
    have HZ := Lib.hid hz
    clear hz
    go_wp2_with fail
    refine (toldPlane_c _ _ _ _ _ _ false HZ.out hrd5 (Nat.le_refl _)).mono ?_; rintro e w7 ⟨rfl, hb7⟩
    go_wp2_with fail
    go_ret2
    rw [H.out, HT.out]
    exact retTB_mk (OwnT.nil _ _ _) (bel_step hb6 hb7) (by omega)
  · have HT := Lib.hid (toldPl_yes hz)
    have HZ := Lib.hid hz
    clear hz
    go_wp2_with fail
    refine (toldPlane_c _ _ _ _ _ _ true HZ.out hrd5 (Nat.le_refl _)).mono ?_; rintro e w7 ⟨rfl, hb7⟩
    go_wp2_with fail
    go_ret2
    rw [H.out, HT.out]
    exact retTB_mk (own6.go hb7) (bel_step hb6 hb7) hn5
theorem walk_FnExactPlaneSum (A0 : Option Addr) (n0 c0 : Nat) (z0 : List Trm) (A1 : Option Addr) (n1 c1 : Nat) (z1 : List Trm) (w : World) (r0 : RdT w w.heap.size A0 n0 z0) (r1 : RdT w w.heap.size A1 n1 z1) :
  Calls Try.prog 13 #[.slice A0 n0 c0, .slice A1 n1 c1] w fun e w' => e = .returned (.bool true) ∧ Below w.heap.size w w' := by
  have l0 := r0.le
  by_cases s0 : (n0 : Int) ≤ 1048576
  rotate_left
  · go_enter Try.func13, Try.ntmps13
    go_wp2_with fail
    refine (szTermS_no _ _ _ _ _ (by omega) (by omega) (by omega)).mono ?_; rintro e w' ⟨rfl, rfl⟩
    go_wp2_with fail
    go_ret
    exact ⟨rfl, Below.refl _ _⟩
  have l1 := r1.le
  by_cases s1 : (n1 : Int) ≤ 1048576 - (n0 : Int)
  rotate_left
  · go_enter Try.func13, Try.ntmps13
    go_wp2_with fail
    refine (szTermS_yes _ _ _ _ _ (by omega) (by omega)).mono ?_; rintro e w' ⟨rfl, rfl⟩
    go_wp2_with fail
    refine (szTermS_no _ _ _ _ _ (by omega) (by omega) (by omega)).mono ?_; rintro e w' ⟨rfl, rfl⟩
    go_wp2_with fail
    go_ret
    exact ⟨rfl, Below.refl _ _⟩
  go_enter Try.func13, Try.ntmps13
  have bel : Below w.heap.size w w := Below.refl _ _
  go_wp2_with fail
  refine (szTermS_yes _ _ _ _ _ (by omega) (by omega)).mono ?_; rintro e w' ⟨rfl, rfl⟩
  go_wp2_with fail
  refine (szTermS_yes _ _ _ _ _ (by omega) (by omega)).mono ?_; rintro e w' ⟨rfl, rfl⟩
  go_wp2_with fail
  refine (toTermS_c _ _ _ _ _ _ (r0.below bel) bel.size (by omega)).mono ?_
  rintro e u1 ⟨AT0, nT0, cT0, rfl, T0, hb1, qT0⟩
  have bel := bel_step bel hb1
  have sz1 := hb1.size
  have T00 := T0
  have eT0 : nT0 ≤ 1048576 := by have := T0.len; have := r0.len; omega
  go_wp2_with fail
  refine (toTermS_c _ _ _ _ _ _ (r1.below bel) bel.size (by omega)).mono ?_
  rintro e u2 ⟨AT1, nT1, cT1, rfl, T1, hb2, qT1⟩
  have bel := bel_step bel hb2
  have sz2 := hb2.size
  have T0 := T0.go hb2
  have T10 := T1
  have eT1 : nT1 ≤ 1048576 := by have := T1.len; have := r1.len; omega
  go_wp2_with fail
  refine (specPlaneSum_c _ _ _ _ _ _ _ _ _ T0.rd eT0 T1.rd eT1).mono ?_
  rintro e u3 ⟨AWr, nWr, cWr, rfl, Wr, hb3, qWr⟩
  have bel := bel_step bel hb3
  have sz3 := hb3.size
  have T0 := T0.go hb3
  have T1 := T1.go hb3
  have Wr0 := Wr
  go_wp2_with fail
  refine (toTermS_c _ _ _ _ _ _ (r0.below bel) bel.size (by omega)).mono ?_
  rintro e u4 ⟨AX0, nX0, cX0, rfl, X0, hb4, qX0⟩
  have bel := bel_step bel hb4
  have sz4 := hb4.size
  have Wr := Wr.go hb4
  have X00 := X0
  have eX0 : nX0 ≤ 1048576 := by have := X0.len; have := r0.len; omega
  go_wp2_with fail
  refine (toTermS_c _ _ _ _ _ _ (r1.below bel) bel.size (by omega)).mono ?_
  rintro e u5 ⟨AX1, nX1, cX1, rfl, X1, hb5, qX1⟩
  have bel := bel_step bel hb5
  have sz5 := hb5.size
  have Wr := Wr.go hb5
  have X0 := X0.go hb5
  have X10 := X1
  have eX1 : nX1 ≤ 1048576 := by have := X1.len; have := r1.len; omega
  go_wp2_with fail
  refine (implPlaneSum_c _ _ _ _ _ _ _ _ _ X0.rd eX0 X1.rd eX1).mono ?_
  rintro e u6 ⟨AGr, nGr, cGr, rfl, Gr, hb6, qGr⟩
  have bel := bel_step bel hb6
  have sz6 := hb6.size
  have Wr := Wr.go hb6
  have X0 := X0.go hb6
  have X1 := X1.go hb6
  have Gr0 := Gr
  go_wp2_with fail
  refine (eqTermS_c _ _ _ _ _ _ _ _ _ _ Gr.rd Wr.rd (Nat.le_refl _) (Nat.le_refl _)).mono ?_
  rintro e u7 ⟨rfl, hb7⟩
  have bel := bel_step bel hb7
  have sz7 := hb7.size
  have Wr := Wr.go hb7
  have X0 := X0.go hb7
  have X1 := X1.go hb7
  have Gr := Gr.go hb7
  go_wp2_with fail
  refine (toTermS_c _ _ _ _ _ _ (r0.below bel) bel.size (by omega)).mono ?_
  rintro e u8 ⟨AY0, nY0, cY0, rfl, Y0, hb8, qY0⟩
  have bel := bel_step bel hb8
  have sz8 := hb8.size
  have Wr := Wr.go hb8
  have X0 := X0.go hb8
  have X1 := X1.go hb8
  have Gr := Gr.go hb8
  have Y00 := Y0
  have eY0 : nY0 ≤ 1048576 := by have := Y0.len; have := r0.len; omega
  go_wp2_with fail
  refine (eqTermS_c _ _ _ _ _ _ _ _ _ _ X0.rd Y0.rd (Nat.le_refl _) (Nat.le_refl _)).mono ?_
  rintro e u9 ⟨rfl, hb9⟩
  have bel := bel_step bel hb9
  have sz9 := hb9.size
  have Wr := Wr.go hb9
  have X0 := X0.go hb9
  have X1 := X1.go hb9
  have Gr := Gr.go hb9
  have Y0 := Y0.go hb9
  go_wp2_with fail
  refine (toTermS_c _ _ _ _ _ _ (r1.below bel) bel.size (by omega)).mono ?_
  rintro e u10 ⟨AY1, nY1, cY1, rfl, Y1, hb10, qY1⟩
  have bel := bel_step bel hb10
  have sz10 := hb10.size
  have Wr := Wr.go hb10
  have X0 := X0.go hb10
  have X1 := X1.go hb10
  have Gr := Gr.go hb10
  have Y10 := Y1
  have eY1 : nY1 ≤ 1048576 := by have := Y1.len; have := r1.len; omega
  go_wp2_with fail
  refine (eqTermS_c _ _ _ _ _ _ _ _ _ _ X1.rd Y1.rd (Nat.le_refl _) (Nat.le_refl _)).mono ?_
  rintro e u11 ⟨rfl, hb11⟩
  have bel := bel_step bel hb11
  have sz11 := hb11.size
  have Wr := Wr.go hb11
  have X0 := X0.go hb11
  have X1 := X1.go hb11
  have Gr := Gr.go hb11
  have Y1 := Y1.go hb11
  go_wp2_with fail
  refine (markTermS_c _ _ _ _ _ _ _ X0 (by omega) (by omega) (by omega)).mono ?_
  rintro e u12 ⟨rfl, X0, hg12⟩
  have bel := bel.grown hg12 bel.size fun g hg => by have := (X00.lt g hg).1; omega
  have sz12 := hg12.size
  have Wr := Wr.kept hg12 (blk_ne Wr0.lt X00.lt (by omega))
  have X1 := X1.kept hg12 (blk_ne' X00.lt X10.lt (by omega))
  have Gr := Gr.kept hg12 (blk_ne' X00.lt Gr0.lt (by omega))
  go_wp2_with fail
  refine (markTermS_c _ _ _ _ _ _ _ X1 (by omega) (by omega) (by omega)).mono ?_
  rintro e u13 ⟨rfl, X1, hg13⟩
  have bel := bel.grown hg13 bel.size fun g hg => by have := (X10.lt g hg).1; omega
  have sz13 := hg13.size
  have Wr := Wr.kept hg13 (blk_ne Wr0.lt X10.lt (by omega))
  have X0 := X0.kept hg13 (blk_ne X00.lt X10.lt (by omega))
  have Gr := Gr.kept hg13 (blk_ne' X10.lt Gr0.lt (by omega))
  go_wp2_with fail
  refine (eqTermS_c _ _ _ _ _ _ _ _ _ _ Gr.rd Wr.rd (Nat.le_refl _) (Nat.le_refl _)).mono ?_
  rintro e u14 ⟨rfl, hb14⟩
  have bel := bel_step bel hb14
  have sz14 := hb14.size
  have Wr := Wr.go hb14
  have X0 := X0.go hb14
  have X1 := X1.go hb14
  have Gr := Gr.go hb14
  go_wp2_with fail
  refine (markTermS_c _ _ _ _ _ _ _ Gr (by omega) (by omega) (by omega)).mono ?_
  rintro e u15 ⟨rfl, Gr, hg15⟩
  have bel := bel.grown hg15 bel.size fun g hg => by have := (Gr0.lt g hg).1; omega
  have sz15 := hg15.size
  have Wr := Wr.kept hg15 (blk_ne Wr0.lt Gr0.lt (by omega))
  go_wp2_with fail
  refine (heldTermS_c _ _ _ _ _ _ Gr.rd (by omega) (by omega) (by omega)).mono ?_
  rintro e u16 ⟨rfl, hb16⟩
  have bel := bel_step bel hb16
  have sz16 := hb16.size
  have Wr := Wr.go hb16
  have Gr := Gr.go hb16
  go_wp2_with fail
  refine (toTermS_c _ _ _ _ _ _ (r0.below bel) bel.size (by omega)).mono ?_
  rintro e u17 ⟨AZ0, nZ0, cZ0, rfl, Z0, hb17, qZ0⟩
  have bel := bel_step bel hb17
  have sz17 := hb17.size
  have Wr := Wr.go hb17
  have Gr := Gr.go hb17
  have Z00 := Z0
  have eZ0 : nZ0 ≤ 1048576 := by have := Z0.len; have := r0.len; omega
  go_wp2_with fail
  refine (toTermS_c _ _ _ _ _ _ (r1.below bel) bel.size (by omega)).mono ?_
  rintro e u18 ⟨AZ1, nZ1, cZ1, rfl, Z1, hb18, qZ1⟩
  have bel := bel_step bel hb18
  have sz18 := hb18.size
  have Wr := Wr.go hb18
  have Gr := Gr.go hb18
  have Z0 := Z0.go hb18
  have Z10 := Z1
  have eZ1 : nZ1 ≤ 1048576 := by have := Z1.len; have := r1.len; omega
  go_wp2_with fail
  refine (implPlaneSum_c _ _ _ _ _ _ _ _ _ Z0.rd eZ0 Z1.rd eZ1).mono ?_
  rintro e u19 ⟨AHr, nHr, cHr, rfl, Hr, hb19, qHr⟩
  have bel := bel_step bel hb19
  have sz19 := hb19.size
  have Wr := Wr.go hb19
  have Gr := Gr.go hb19
  have Z0 := Z0.go hb19
  have Z1 := Z1.go hb19
  have Hr0 := Hr
  go_wp2_with fail
  refine (eqTermS_c _ _ _ _ _ _ _ _ _ _ Hr.rd Wr.rd (Nat.le_refl _) (Nat.le_refl _)).mono ?_
  rintro e u20 ⟨rfl, hb20⟩
  have bel := bel_step bel hb20
  have sz20 := hb20.size
  have Wr := Wr.go hb20
  have Gr := Gr.go hb20
  have Hr := Hr.go hb20
  go_wp2_with fail
  refine (heldTermS_c _ _ _ _ _ _ Gr.rd (by omega) (by omega) (by omega)).mono ?_
  rintro e u21 ⟨rfl, hb21⟩
  have bel := bel_step bel hb21
  have sz21 := hb21.size
  have Wr := Wr.go hb21
  have Gr := Gr.go hb21
  have Hr := Hr.go hb21
  go_wp2_with fail
  go_ret
  exact ⟨rfl, bel⟩
end Go.Proofs.Ytfamemjlhgkneaa
