/- The laws on the points, the moved terms and the rows of a plane polynomial: both packages' functions against plain ones, and the walk of each law. -/
import Derived.Test.YtfamemjlhgkneaaWPlane2
import Derived.Test.YtfamemjlhgkneaaPurePlane2
import Derived.Test.YtfamemjlhgkneaaMemP
namespace Go.Proofs.Ytfamemjlhgkneaa
open Go.RowKit
set_option maxRecDepth 8192 in
theorem plPoints_c (A : Option Addr) (n c : Nat) (l : List Trm) (B : Nat) (w : World) (h : RdT w B A n l) (hB : B ≤ w.heap.size) (hn : n ≤ 1048576) :
    Calls Try.prog 59 #[.slice A n c] w (RetP 67 (ptsTo l l.length) w) := by
  have HN := Lib.hid (show l.length = n from h.len)
  obtain ⟨i0, hi, hz0, hz1, hz2⟩ := info_parts info_pnt
  have HI := Lib.hid hi
  have HZ0 := Lib.hid hz0
  have HZ1 := Lib.hid hz1
  have HZ2 := Lib.hid hz2
  clear hi hz0 hz1 hz2
  go_enter Try.func59, Try.ntmps59
  go_wp2_with fail
  go_loopw [3, 8] (fun v i wr => ∃ k : Nat, k ≤ n ∧ i = .int .i64 k ∧ OwnP wr w.heap.size 67 v k (ptsTo l k) ∧ Below w.heap.size w wr) (fun _ i _ => n - (intOf i).toNat)
  case atStart => exact ⟨0, Nat.zero_le _, rfl, OwnP.nil _ _ _, Below.refl _ _⟩
  case round =>
    obtain ⟨k, hk, rfl, hown, hbel⟩ := hrel
    have hsz := hbel.size
    by_cases hlt : k < n
    · obtain ⟨b, o, rfl, _, c0, c1, c2⟩ := (h.below (hbel.mono hB)).at_ hlt
      have HP : Hid (ptsTo l (k + 1) = ptsTo l k ++ [((l.getD k (0, 0, 0)).1, (l.getD k (0, 0, 0)).2.1)]) := Lib.hid rfl
      generalize (l.getD k (0, 0, 0)).1 = x0 at *
      generalize (l.getD k (0, 0, 0)).2.1 = x1 at *
      generalize (l.getD k (0, 0, 0)).2.2 = x2 at *
      have bel := hbel.alloc hbel.size (.cells #[.int .i64 x0, .int .i64 x1, .int .i64 x2] 54)
      have own := hown.new (.cells #[.int .i64 x0, .int .i64 x1, .int .i64 x2] 54)
      have hz : w.heap.size ≤ (wr.alloc (.cells #[.int .i64 x0, .int .i64 x1, .int .i64 x2] 54)).heap.size := bel.size
      go_wp2_with (at_builtin; refine wp_appP rfl _ _ 33 rfl w.heap.size 67 i0 Try.underlying33 HI.out HZ0.out HZ1.out HZ2.out _ _ _ rfl own _ _ (by rw [World.size_alloc]; rfl) (by omega) hz ?_)
      intro v' w1 h1 hb1 _
      have hbel' := bel.trans hb1
      rw [← HP.out] at h1
      clear hown hbel hb1 own bel hz
      go_wp2_with fail
      go_roundw
      case rel => exact ⟨k + 1, by omega, by go_num, h1, hbel'⟩
      case measure => simp [intOf]; omega
    · have H : Hid (ptsTo l l.length = ptsTo l k) := Lib.hid (by rw [HN.out, show n = k from by omega])
      rw [← H.out] at hown
      go_wp2_with fail
      go_ret
      exact retP_mk hown hbel (by omega)
theorem specNewtonPoints_c (A : Option Addr) (n c : Nat) (l : List Trm) (w : World) (h : RdT w w.heap.size A n l) (_hn : n ≤ 1048576) :
    Calls Try.prog 23 #[.slice A n c] w (RetPB 67 (pNewtonPoints l).1 (pNewtonPoints l).2 w) := by
  cases hp : isPlane l
  · have HP := Lib.hid hp
    have H : Hid (pNewtonPoints l = ([], false)) := Lib.hid (by rw [pNewtonPoints, hp]; rfl)
    clear hp
    go_enter Try.func23, Try.ntmps23
    go_wp2_with (go_at_call 47; refine (plGood_c _ _ _ _ _ _ h (Nat.le_refl _)).mono ?_; rw [HP.out]; rintro e w' ⟨rfl, hb⟩)
    go_ret2
    rw [H.out]
    exact retPB_mk (OwnP.nil _ _ _) hb (by omega)
  · have H : Hid (pNewtonPoints l = (ptsTo l l.length, true)) := Lib.hid (by rw [pNewtonPoints, hp]; rfl)
    have HP := Lib.hid hp
    clear hp
    go_enter Try.func23, Try.ntmps23
    go_wp2_with fail
    refine (plGood_c _ _ _ _ _ _ h (Nat.le_refl _)).mono ?_; rw [HP.out]; rintro e w1 ⟨rfl, hb⟩
    go_wp2_with fail
    refine (plPoints_c _ _ _ _ _ _ (h.go hb (Nat.le_refl _)) hb.size _hn).mono ?_; rintro e w2 ⟨A1, n1, c1, rfl, own, hb2, hn1⟩
    go_wp2_with fail
    go_ret2
    rw [H.out]
    exact retPB_mk (own.more hb.size) (bel_step hb hb2) hn1
set_option maxRecDepth 8192 in
theorem pointsOf_c (A : Option Addr) (n c : Nat) (l : List Trm) (B : Nat) (w : World) (h : RdT w B A n l) (hB : B ≤ w.heap.size) (hn : n ≤ 1048576) :
    Calls Try.prog 60 #[.slice A n c] w (RetP 67 (ptsTo l l.length) w) := by
  have HN := Lib.hid (show l.length = n from h.len)
  obtain ⟨i0, hi, hz0, hz1, hz2⟩ := info_parts info_pnt
  have HI := Lib.hid hi
  have HZ0 := Lib.hid hz0
  have HZ1 := Lib.hid hz1
  have HZ2 := Lib.hid hz2
  clear hi hz0 hz1 hz2
  go_enter Try.func60, Try.ntmps60
  go_wp2_with fail
  go_loopw [3, 9] (fun v i wr => ∃ k : Nat, k ≤ n ∧ i = .int .i64 k ∧ OwnP wr w.heap.size 67 v k (ptsTo l k) ∧ Below w.heap.size w wr) (fun _ i _ => n - (intOf i).toNat)
  case atStart => exact ⟨0, Nat.zero_le _, rfl, OwnP.empty _ _ (Nat.le_refl _), bel_new _ _⟩
  case round =>
    obtain ⟨k, hk, rfl, hown, hbel⟩ := hrel
    have hsz := hbel.size
    by_cases hlt : k < n
    · obtain ⟨b, o, rfl, _, c0, c1, c2⟩ := (h.below (hbel.mono hB)).at_ hlt
      have HP : Hid (ptsTo l (k + 1) = ptsTo l k ++ [((l.getD k (0, 0, 0)).1, (l.getD k (0, 0, 0)).2.1)]) := Lib.hid rfl
      generalize (l.getD k (0, 0, 0)).1 = x0 at *
      generalize (l.getD k (0, 0, 0)).2.1 = x1 at *
      generalize (l.getD k (0, 0, 0)).2.2 = x2 at *
      have bel := hbel.alloc hbel.size (.cells #[.int .i64 x0, .int .i64 x1, .int .i64 x2] 54)
      have own := hown.new (.cells #[.int .i64 x0, .int .i64 x1, .int .i64 x2] 54)
      have hz : w.heap.size ≤ (wr.alloc (.cells #[.int .i64 x0, .int .i64 x1, .int .i64 x2] 54)).heap.size := bel.size
      go_wp2_with (at_builtin; refine wp_appP rfl _ _ 33 rfl w.heap.size 67 i0 Try.underlying33 HI.out HZ0.out HZ1.out HZ2.out _ _ _ rfl own _ _ (by rw [World.size_alloc]; rfl) (by omega) hz ?_)
      intro v' w1 h1 hb1 _
      have hbel' := bel.trans hb1
      rw [← HP.out] at h1
      clear hown hbel hb1 own bel hz
      go_wp2_with fail
      go_roundw
      case rel => exact ⟨k + 1, by omega, by go_num, h1, hbel'⟩
      case measure => simp [intOf]; omega
    · have H : Hid (ptsTo l l.length = ptsTo l k) := Lib.hid (by rw [HN.out, show n = k from by omega])
      rw [← H.out] at hown
      go_wp2_with fail
      go_ret
      exact retP_mk hown hbel (by omega)
theorem implNewtonPoints_c (A : Option Addr) (n c : Nat) (l : List Trm) (w : World) (h : RdT w w.heap.size A n l) (_hn : n ≤ 1048576) :
    Calls Try.prog 24 #[.slice A n c] w (RetPB 67 (pNewtonPoints l).1 (pNewtonPoints l).2 w) := by
  cases hp : isPlane l
  · have HP := Lib.hid hp
    have H : Hid (pNewtonPoints l = ([], false)) := Lib.hid (by rw [pNewtonPoints, hp]; rfl)
    clear hp
    go_enter Try.func24, Try.ntmps24
    go_wp2_with (go_at_call 49; refine (isPlane_c _ _ _ _ _ _ h (Nat.le_refl _)).mono ?_; rw [HP.out]; rintro e w' ⟨rfl, hb⟩)
    go_ret2
    rw [H.out]
    exact retPB_mk (OwnP.nil _ _ _) hb (by omega)
  · have H : Hid (pNewtonPoints l = (ptsTo l l.length, true)) := Lib.hid (by rw [pNewtonPoints, hp]; rfl)
    have HP := Lib.hid hp
    clear hp
    go_enter Try.func24, Try.ntmps24
    go_wp2_with fail
    refine (isPlane_c _ _ _ _ _ _ h (Nat.le_refl _)).mono ?_; rw [HP.out]; rintro e w1 ⟨rfl, hb⟩
    go_wp2_with fail
    refine (pointsOf_c _ _ _ _ _ _ (h.go hb (Nat.le_refl _)) hb.size _hn).mono ?_; rintro e w2 ⟨A1, n1, c1, rfl, own, hb2, hn1⟩
    go_wp2_with fail
    go_ret2
    rw [H.out]
    exact retPB_mk (own.more hb.size) (bel_step hb hb2) hn1
theorem walk_FnExactNewtonPoints (A0 : Option Addr) (n0 c0 : Nat) (z0 : List Trm) (w : World) (r0 : RdT w w.heap.size A0 n0 z0) :
  Calls Try.prog 6 #[.slice A0 n0 c0] w fun e w' => e = .returned (.bool true) ∧ Below w.heap.size w w' := by
  have l0 := r0.le
  by_cases s0 : (n0 : Int) ≤ 1048576
  rotate_left
  · go_enter Try.func6, Try.ntmps6
    go_wp2_with fail
    refine (szTermS_no _ _ _ _ _ (by omega) (by omega) (by omega)).mono ?_; rintro e w' ⟨rfl, rfl⟩
    go_wp2_with fail
    go_ret
    exact ⟨rfl, Below.refl _ _⟩
  go_enter Try.func6, Try.ntmps6
  have bel : Below w.heap.size w w := Below.refl _ _
  go_wp2_with fail
  refine (szTermS_yes _ _ _ _ _ (by omega) (by omega)).mono ?_; rintro e w' ⟨rfl, rfl⟩
  go_wp2_with fail
  refine (toTermS_c _ _ _ _ _ _ (r0.below bel) bel.size (by omega)).mono ?_
  rintro e u1 ⟨AT0, nT0, cT0, rfl, T0, hb1, qT0⟩
  have bel := bel_step bel hb1
  have sz1 := hb1.size
  have T00 := T0
  have eT0 : nT0 ≤ 1048576 := by have := T0.len; have := r0.len; omega
  go_wp2_with fail
  refine (specNewtonPoints_c _ _ _ _ _ T0.rd eT0).mono ?_
  rintro e u2 ⟨AWr, nWr, cWr, rfl, Wr, hb2, qWr⟩
  have bel := bel_step bel hb2
  have sz2 := hb2.size
  have T0 := T0.go hb2
  have Wr0 := Wr
  go_wp2_with fail
  refine (toTermS_c _ _ _ _ _ _ (r0.below bel) bel.size (by omega)).mono ?_
  rintro e u3 ⟨AX0, nX0, cX0, rfl, X0, hb3, qX0⟩
  have bel := bel_step bel hb3
  have sz3 := hb3.size
  have Wr := Wr.go hb3
  have X00 := X0
  have eX0 : nX0 ≤ 1048576 := by have := X0.len; have := r0.len; omega
  go_wp2_with fail
  refine (implNewtonPoints_c _ _ _ _ _ X0.rd eX0).mono ?_
  rintro e u4 ⟨AGr, nGr, cGr, rfl, Gr, hb4, qGr⟩
  have bel := bel_step bel hb4
  have sz4 := hb4.size
  have Wr := Wr.go hb4
  have X0 := X0.go hb4
  have Gr0 := Gr
  go_wp2_with fail
  refine (eqPointS_c _ _ _ _ _ _ _ _ _ _ Gr.rd Wr.rd (Nat.le_refl _) (Nat.le_refl _)).mono ?_
  rintro e u5 ⟨rfl, hb5⟩
  have bel := bel_step bel hb5
  have sz5 := hb5.size
  have Wr := Wr.go hb5
  have X0 := X0.go hb5
  have Gr := Gr.go hb5
  go_wp2_with fail
  refine (toTermS_c _ _ _ _ _ _ (r0.below bel) bel.size (by omega)).mono ?_
  rintro e u6 ⟨AY0, nY0, cY0, rfl, Y0, hb6, qY0⟩
  have bel := bel_step bel hb6
  have sz6 := hb6.size
  have Wr := Wr.go hb6
  have X0 := X0.go hb6
  have Gr := Gr.go hb6
  have Y00 := Y0
  have eY0 : nY0 ≤ 1048576 := by have := Y0.len; have := r0.len; omega
  go_wp2_with fail
  refine (eqTermS_c _ _ _ _ _ _ _ _ _ _ X0.rd Y0.rd (Nat.le_refl _) (Nat.le_refl _)).mono ?_
  rintro e u7 ⟨rfl, hb7⟩
  have bel := bel_step bel hb7
  have sz7 := hb7.size
  have Wr := Wr.go hb7
  have X0 := X0.go hb7
  have Gr := Gr.go hb7
  have Y0 := Y0.go hb7
  go_wp2_with fail
  refine (markTermS_c _ _ _ _ _ _ _ X0 (by omega) (by omega) (by omega)).mono ?_
  rintro e u8 ⟨rfl, X0, hg8⟩
  have bel := bel.grown hg8 bel.size fun g hg => by have := (X00.lt g hg).1; omega
  have sz8 := hg8.size
  have Wr := Wr.kept hg8 (blk_ne Wr0.lt X00.lt (by omega))
  have Gr := Gr.kept hg8 (blk_ne' X00.lt Gr0.lt (by omega))
  go_wp2_with fail
  refine (eqPointS_c _ _ _ _ _ _ _ _ _ _ Gr.rd Wr.rd (Nat.le_refl _) (Nat.le_refl _)).mono ?_
  rintro e u9 ⟨rfl, hb9⟩
  have bel := bel_step bel hb9
  have sz9 := hb9.size
  have Wr := Wr.go hb9
  have X0 := X0.go hb9
  have Gr := Gr.go hb9
  go_wp2_with fail
  refine (markPointS_c _ _ _ _ _ _ _ Gr (by omega) (by omega) (by omega)).mono ?_
  rintro e u10 ⟨rfl, Gr, hg10⟩
  have bel := bel.grown hg10 bel.size fun g hg => by have := (Gr0.lt g hg).1; omega
  have sz10 := hg10.size
  have Wr := Wr.kept hg10 (blk_ne Wr0.lt Gr0.lt (by omega))
  go_wp2_with fail
  refine (heldPointS_c _ _ _ _ _ _ Gr.rd (by omega) (by omega) (by omega)).mono ?_
  rintro e u11 ⟨rfl, hb11⟩
  have bel := bel_step bel hb11
  have sz11 := hb11.size
  have Wr := Wr.go hb11
  have Gr := Gr.go hb11
  go_wp2_with fail
  refine (toTermS_c _ _ _ _ _ _ (r0.below bel) bel.size (by omega)).mono ?_
  rintro e u12 ⟨AZ0, nZ0, cZ0, rfl, Z0, hb12, qZ0⟩
  have bel := bel_step bel hb12
  have sz12 := hb12.size
  have Wr := Wr.go hb12
  have Gr := Gr.go hb12
  have Z00 := Z0
  have eZ0 : nZ0 ≤ 1048576 := by have := Z0.len; have := r0.len; omega
  go_wp2_with fail
  refine (implNewtonPoints_c _ _ _ _ _ Z0.rd eZ0).mono ?_
  rintro e u13 ⟨AHr, nHr, cHr, rfl, Hr, hb13, qHr⟩
  have bel := bel_step bel hb13
  have sz13 := hb13.size
  have Wr := Wr.go hb13
  have Gr := Gr.go hb13
  have Z0 := Z0.go hb13
  have Hr0 := Hr
  go_wp2_with fail
  refine (eqPointS_c _ _ _ _ _ _ _ _ _ _ Hr.rd Wr.rd (Nat.le_refl _) (Nat.le_refl _)).mono ?_
  rintro e u14 ⟨rfl, hb14⟩
  have bel := bel_step bel hb14
  have sz14 := hb14.size
  have Wr := Wr.go hb14
  have Gr := Gr.go hb14
  have Hr := Hr.go hb14
  go_wp2_with fail
  refine (heldPointS_c _ _ _ _ _ _ Gr.rd (by omega) (by omega) (by omega)).mono ?_
  rintro e u15 ⟨rfl, hb15⟩
  have bel := bel_step bel hb15
  have sz15 := hb15.size
  have Wr := Wr.go hb15
  have Gr := Gr.go hb15
  have Hr := Hr.go hb15
  go_wp2_with fail
  go_ret
  exact ⟨rfl, bel⟩
end Go.Proofs.Ytfamemjlhgkneaa
