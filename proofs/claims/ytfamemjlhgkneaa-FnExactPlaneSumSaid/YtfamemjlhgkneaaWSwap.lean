/- The law on the swapped plane polynomial. -/
import Derived.Test.YtfamemjlhgkneaaPureProd
namespace Go.Proofs.Ytfamemjlhgkneaa
open Go.RowKit
theorem pSwap_no {l : List Trm} (h : isPlane l = false) : pSwap l = ([], false) := by rw [pSwap, h]; rfl
theorem pSwap_yes {l : List Trm} (h : isPlane l = true) : pSwap l = (putAll [] (swpTo l l.length), true) := by rw [pSwap, h]; rfl
set_option maxRecDepth 8192 in
set_option maxHeartbeats 1000000 in
theorem implSwapPlane_c (A : Option Addr) (n c : Nat) (l : List Trm) (w : World) (h : RdT w w.heap.size A n l) (_hn : n ≤ 1048576) :
    Calls Try.prog 42 #[.slice A n c] w (RetTB 54 (pSwap l).1 (pSwap l).2 w) := by
  cases hp : isPlane l
  · have H := Lib.hid (pSwap_no hp)
    have HP := Lib.hid hp
    clear hp
    go_enter Try.func42, Try.ntmps42
    go_wp2_with (go_at_call 49; refine (isPlane_c _ _ _ _ _ _ h (Nat.le_refl _)).mono ?_; rw [HP.out]; rintro e w1 ⟨rfl, hb⟩)
    go_ret2
    rw [H.out]
    exact retTB_mk (OwnT.nil _ _ _) hb (by omega)
  have H := Lib.hid (pSwap_yes hp)
  have hl := isPlane_len hp
  have HN := Lib.hid (show l.length = n from h.len)
  rw [HN.out] at hl
  have HT := Lib.hid fun (k : Nat) (hk : k < n) => isPlane_trm hp (by rw [HN.out]; exact hk)
  have HK := Lib.hid (swpTo_ok hp l.length (Nat.le_refl _))
  have HP := Lib.hid hp
  clear hp
  obtain ⟨i0, hi, hz0, hz1, hz2⟩ := info_parts info_trm
  have HI := Lib.hid hi
  have HZ0 := Lib.hid hz0
  have HZ1 := Lib.hid hz1
  have HZ2 := Lib.hid hz2
  clear hi hz0 hz1 hz2
  go_enter Try.func42, Try.ntmps42
  go_wp2_with fail
  refine (isPlane_c _ _ _ _ _ _ h (Nat.le_refl _)).mono ?_; rw [HP.out]; rintro e w1 ⟨rfl, hb⟩
  have own0 := OwnT.empty (B := w.heap.size) w1 54 hb.size
  have bel0 := hb.alloc hb.size (.cells #[] 54)
  clear hb
  go_wp2_with fail
  go_loopw [4, 13] (fun v i wr => ∃ k : Nat, k ≤ n ∧ i = .int .i64 k ∧ OwnT wr w.heap.size 54 v k (swpTo l k) ∧ Below w.heap.size w wr) (fun _ i _ => n - (intOf i).toNat)
  case atStart => exact ⟨0, Nat.zero_le _, rfl, own0, bel0⟩
  case round =>
    clear own0 bel0
    obtain ⟨k, hk, rfl, hown, hbel⟩ := hrel
    have hsz := hbel.size
    by_cases hlt : k < n
    · obtain ⟨b, o, rfl, _, c0, c1, c2⟩ := (h.below hbel).at_ hlt
      have HM : Hid (swpTo l (k + 1) = swpTo l k ++ [((l.getD k (0, 0, 0)).2.1, (l.getD k (0, 0, 0)).1, (l.getD k (0, 0, 0)).2.2)]) := Lib.hid rfl
      generalize (l.getD k (0, 0, 0)).1 = x0 at *
      generalize (l.getD k (0, 0, 0)).2.1 = x1 at *
      generalize (l.getD k (0, 0, 0)).2.2 = x2 at *
      have bel := hbel.alloc hbel.size (.cells #[.int .i64 x0, .int .i64 x1, .int .i64 x2] 54)
      have own := hown.new (.cells #[.int .i64 x0, .int .i64 x1, .int .i64 x2] 54)
      have hz : w.heap.size ≤ (wr.alloc (.cells #[.int .i64 x0, .int .i64 x1, .int .i64 x2] 54)).heap.size := bel.size
      go_wp2_with (at_builtin; refine wp_appT rfl _ _ 25 rfl w.heap.size 54 i0 Try.underlying25 HI.out HZ0.out HZ1.out HZ2.out _ _ _ rfl own _ _ _ (by rw [World.size_alloc]; rfl) (by omega) hz ?_)
      intro v' w5 h1 hb5 _
      have hbel' := bel.trans hb5
      rw [← HM.out] at h1
      clear hown hbel hb5 own bel hz
      go_wp2_with fail
      go_roundw
      case rel => exact ⟨k + 1, by omega, by go_num, h1, hbel'⟩
      case measure => simp [intOf]; omega
    · have hk' : k = n := by omega
      have HE : Hid (swpTo l l.length = swpTo l k) := Lib.hid (by rw [HN.out, hk'])
      obtain ⟨A1, c1, rfl⟩ := hown.shape
      have hrd := hown.rd
      have hbd := HK.out
      rw [HE.out] at hbd
      have HBD := Lib.hid hbd
      clear hbd hown
      have k0 : 0 < k := by omega
      have k1 : k ≤ 1048576 := by omega
      clear hk'
      go_wp2_with fail
      refine (gathered_c A1 k c1 (swpTo l k) wr.heap.size wr hrd (Nat.le_refl _) HBD.out k0 k1).mono ?_
      rintro e w5 ⟨M, hp, hs, A5, n5, c5, rfl, own5, hb5, hn5⟩
      have HG : Hid (compT M = putAll [] (swpTo l k)) := Lib.hid (gath_eq (m := []) hs (by simpa using hp) rep_nil)
      clear hp hs
      go_wp2_with fail
      go_ret2
      rw [H.out, HE.out, ← HG.out]
      exact retTB_mk (own5.more hbel.size) (bel_step hbel hb5) hn5
set_option maxRecDepth 8192 in
set_option maxHeartbeats 1000000 in
theorem specSwapPlane_c (A : Option Addr) (n c : Nat) (l : List Trm) (w : World) (h : RdT w w.heap.size A n l) (_hn : n ≤ 1048576) :
    Calls Try.prog 41 #[.slice A n c] w (RetTB 54 (pSwap l).1 (pSwap l).2 w) := by
  cases hp : isPlane l
  · have H := Lib.hid (pSwap_no hp)
    have HP := Lib.hid hp
    clear hp
    go_enter Try.func41, Try.ntmps41
    go_wp2_with (go_at_call 47; refine (plGood_c _ _ _ _ _ _ h (Nat.le_refl _)).mono ?_; rw [HP.out]; rintro e w1 ⟨rfl, hb⟩)
    go_ret2
    rw [H.out]
    exact retTB_mk (OwnT.nil _ _ _) hb (by omega)
  have H := Lib.hid (pSwap_yes hp)
  have hl := isPlane_len hp
  have HN := Lib.hid (show l.length = n from h.len)
  rw [HN.out] at hl
  have HP := Lib.hid hp
  clear hp
  go_enter Try.func41, Try.ntmps41
  go_wp2_with fail
  refine (plGood_c _ _ _ _ _ _ h (Nat.le_refl _)).mono ?_; rw [HP.out]; rintro e w1 ⟨rfl, hb⟩
  go_wp2_with fail
  go_loopw [4, 12] (fun v i wr => ∃ k q : Nat, k ≤ n ∧ i = .int .i64 k ∧ q ≤ k ∧ OwnT wr w.heap.size 54 v q (putAll [] (swpTo l k)) ∧ Below w.heap.size w wr) (fun _ i _ => n - (intOf i).toNat)
  case atStart => exact ⟨0, 0, Nat.zero_le _, rfl, Nat.le_refl _, OwnT.nil _ _ _, hb⟩
  case round =>
    clear hb
    obtain ⟨k, q, hk, rfl, hq, hown, hbel⟩ := hrel
    have hsz := hbel.size
    by_cases hlt : k < n
    · obtain ⟨b, o, rfl, _, c0, c1, c2⟩ := (h.below hbel).at_ hlt
      have HM : Hid (putAll [] (swpTo l (k + 1)) = putT ((l.getD k (0, 0, 0)).2.1, (l.getD k (0, 0, 0)).1, (l.getD k (0, 0, 0)).2.2) (putAll [] (swpTo l k))) := Lib.hid (putAll_snoc _ _ _)
      have HQ := Lib.hid (putT_len ((l.getD k (0, 0, 0)).2.1, (l.getD k (0, 0, 0)).1, (l.getD k (0, 0, 0)).2.2) (putAll [] (swpTo l k)))
      rw [hown.len] at HQ
      generalize (l.getD k (0, 0, 0)).1 = x0 at *
      generalize (l.getD k (0, 0, 0)).2.1 = x1 at *
      generalize (l.getD k (0, 0, 0)).2.2 = x2 at *
      have bel := hbel.alloc hbel.size (.cells #[.int .i64 x0, .int .i64 x1, .int .i64 x2] 54)
      have own := hown.new (.cells #[.int .i64 x0, .int .i64 x1, .int .i64 x2] 54)
      obtain ⟨A1, c1', rfl⟩ := hown.shape
      clear hown hbel
      go_wp2_with fail
      refine (plPut_c _ _ _ _ _ _ _ _ _ own (by omega)).mono ?_
      rintro e w5 ⟨A5, n5, c5, rfl, own5, hb5, hn5⟩
      have hbel' := bel_step bel hb5
      rw [← HM.out] at own5 HQ
      have hq5 := own5.len
      have hqq : n5 ≤ k + 1 := by have := HQ.out; omega
      have own6 := own5.more bel.size
      clear own bel hb5 own5 hq5
      go_wp2_with fail
      go_roundw
      case rel => exact ⟨k + 1, n5, by omega, by go_num, hqq, own6, hbel'⟩
      case measure => simp [intOf]; omega
    · have HE : Hid (swpTo l l.length = swpTo l k) := Lib.hid (by rw [HN.out, show n = k from by omega])
      obtain ⟨A1, c1, rfl⟩ := hown.shape
      go_wp2_with fail
      go_ret2
      rw [H.out, HE.out]
      exact retTB_mk hown hbel (by omega)
theorem walk_FnExactSwapPlane (A0 : Option Addr) (n0 c0 : Nat) (z0 : List Trm) (w : World) (r0 : RdT w w.heap.size A0 n0 z0) :
  Calls Try.prog 11 #[.slice A0 n0 c0] w fun e w' => e = .returned (.bool true) ∧ Below w.heap.size w w' := by
  have l0 := r0.le
  by_cases s0 : (n0 : Int) ≤ 1048576
  rotate_left
  · go_enter Try.func11, Try.ntmps11
    go_wp2_with fail
    refine (szTermS_no _ _ _ _ _ (by omega) (by omega) (by omega)).mono ?_; rintro e w' ⟨rfl, rfl⟩
    go_wp2_with fail
    go_ret
    exact ⟨rfl, Below.refl _ _⟩
  go_enter Try.func11, Try.ntmps11
  have bel : Below w.heap.size w w := Below.refl _ _
  go_wp2_with fail
  refine (szTermS_yes _ _ _ _ _ (by omega) (by omega)).mono ?_; rintro e w' ⟨rfl, rfl⟩
  go_wp2_with fail
  refine (toTermS_c _ _ _ _ _ _ (r0.below bel) bel.size (by omega)).mono ?_
  rintro e u1 ⟨AT0, nT0, cT0, rfl, T0, hb1, qT0⟩
  have bel := bel_step bel hb1
  have sz1 := hb1.size
  have T00 := T0
  have eT0 : nT0 ≤ 1048576 := by have := T0.len; have := r0.len; omega
  go_wp2_with fail
  refine (specSwapPlane_c _ _ _ _ _ T0.rd eT0).mono ?_
  rintro e u2 ⟨AWr, nWr, cWr, rfl, Wr, hb2, qWr⟩
  have bel := bel_step bel hb2
  have sz2 := hb2.size
  have T0 := T0.go hb2
  have Wr0 := Wr
  go_wp2_with fail
  refine (toTermS_c _ _ _ _ _ _ (r0.below bel) bel.size (by omega)).mono ?_
  rintro e u3 ⟨AX0, nX0, cX0, rfl, X0, hb3, qX0⟩
  have bel := bel_step bel hb3
  have sz3 := hb3.size
  have Wr := Wr.go hb3
  have X00 := X0
  have eX0 : nX0 ≤ 1048576 := by have := X0.len; have := r0.len; omega
  go_wp2_with fail
  refine (implSwapPlane_c _ _ _ _ _ X0.rd eX0).mono ?_
  rintro e u4 ⟨AGr, nGr, cGr, rfl, Gr, hb4, qGr⟩
  have bel := bel_step bel hb4
  have sz4 := hb4.size
  have Wr := Wr.go hb4
  have X0 := X0.go hb4
  have Gr0 := Gr
  go_wp2_with fail
  refine (eqTermS_c _ _ _ _ _ _ _ _ _ _ Gr.rd Wr.rd (Nat.le_refl _) (Nat.le_refl _)).mono ?_
  rintro e u5 ⟨rfl, hb5⟩
  have bel := bel_step bel hb5
  have sz5 := hb5.size
  have Wr := Wr.go hb5
  have X0 := X0.go hb5
  have Gr := Gr.go hb5
  go_wp2_with fail
  refine (toTermS_c _ _ _ _ _ _ (r0.below bel) bel.size (by omega)).mono ?_
  rintro e u6 ⟨AY0, nY0, cY0, rfl, Y0, hb6, qY0⟩
  have bel := bel_step bel hb6
  have sz6 := hb6.size
  have Wr := Wr.go hb6
  have X0 := X0.go hb6
  have Gr := Gr.go hb6
  have Y00 := Y0
  have eY0 : nY0 ≤ 1048576 := by have := Y0.len; have := r0.len; omega
  go_wp2_with fail
  refine (eqTermS_c _ _ _ _ _ _ _ _ _ _ X0.rd Y0.rd (Nat.le_refl _) (Nat.le_refl _)).mono ?_
  rintro e u7 ⟨rfl, hb7⟩
  have bel := bel_step bel hb7
  have sz7 := hb7.size
  have Wr := Wr.go hb7
  have X0 := X0.go hb7
  have Gr := Gr.go hb7
  have Y0 := Y0.go hb7
  go_wp2_with fail
  refine (markTermS_c _ _ _ _ _ _ _ X0 (by omega) (by omega) (by omega)).mono ?_
  rintro e u8 ⟨rfl, X0, hg8⟩
  have bel := bel.grown hg8 bel.size fun g hg => by have := (X00.lt g hg).1; omega
  have sz8 := hg8.size
  have Wr := Wr.kept hg8 (blk_ne Wr0.lt X00.lt (by omega))
  have Gr := Gr.kept hg8 (blk_ne' X00.lt Gr0.lt (by omega))
  go_wp2_with fail
  refine (eqTermS_c _ _ _ _ _ _ _ _ _ _ Gr.rd Wr.rd (Nat.le_refl _) (Nat.le_refl _)).mono ?_
  rintro e u9 ⟨rfl, hb9⟩
  have bel := bel_step bel hb9
  have sz9 := hb9.size
  have Wr := Wr.go hb9
  have X0 := X0.go hb9
  have Gr := Gr.go hb9
  go_wp2_with fail
  refine (markTermS_c _ _ _ _ _ _ _ Gr (by omega) (by omega) (by omega)).mono ?_
  rintro e u10 ⟨rfl, Gr, hg10⟩
  have bel := bel.grown hg10 bel.size fun g hg => by have := (Gr0.lt g hg).1; omega
  have sz10 := hg10.size
  have Wr := Wr.kept hg10 (blk_ne Wr0.lt Gr0.lt (by omega))
  go_wp2_with fail
  refine (heldTermS_c _ _ _ _ _ _ Gr.rd (by omega) (by omega) (by omega)).mono ?_
  rintro e u11 ⟨rfl, hb11⟩
  have bel := bel_step bel hb11
  have sz11 := hb11.size
  have Wr := Wr.go hb11
  have Gr := Gr.go hb11
  go_wp2_with fail
  refine (toTermS_c _ _ _ _ _ _ (r0.below bel) bel.size (by omega)).mono ?_
  rintro e u12 ⟨AZ0, nZ0, cZ0, rfl, Z0, hb12, qZ0⟩
  have bel := bel_step bel hb12
  have sz12 := hb12.size
  have Wr := Wr.go hb12
  have Gr := Gr.go hb12
  have Z00 := Z0
  have eZ0 : nZ0 ≤ 1048576 := by have := Z0.len; have := r0.len; omega
  go_wp2_with fail
  refine (implSwapPlane_c _ _ _ _ _ Z0.rd eZ0).mono ?_
  rintro e u13 ⟨AHr, nHr, cHr, rfl, Hr, hb13, qHr⟩
  have bel := bel_step bel hb13
  have sz13 := hb13.size
  have Wr := Wr.go hb13
  have Gr := Gr.go hb13
  have Z0 := Z0.go hb13
  have Hr0 := Hr
  go_wp2_with fail
  refine (eqTermS_c _ _ _ _ _ _ _ _ _ _ Hr.rd Wr.rd (Nat.le_refl _) (Nat.le_refl _)).mono ?_
  rintro e u14 ⟨rfl, hb14⟩
  have bel := bel_step bel hb14
  have sz14 := hb14.size
  have Wr := Wr.go hb14
  have Gr := Gr.go hb14
  have Hr := Hr.go hb14
  go_wp2_with fail
  refine (heldTermS_c _ _ _ _ _ _ Gr.rd (by omega) (by omega) (by omega)).mono ?_
  rintro e u15 ⟨rfl, hb15⟩
  have bel := bel_step bel hb15
  have sz15 := hb15.size
  have Wr := Wr.go hb15
  have Gr := Gr.go hb15
  have Hr := Hr.go hb15
  go_wp2_with fail
  go_ret
  exact ⟨rfl, bel⟩
end Go.Proofs.Ytfamemjlhgkneaa
