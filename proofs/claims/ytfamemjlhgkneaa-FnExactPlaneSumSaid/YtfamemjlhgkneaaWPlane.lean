/- The laws on plane polynomials that need no sorting: both packages' functions against plain ones, and the walk of each law. -/
import Derived.Test.YtfamemjlhgkneaaPlane2
import Derived.Test.YtfamemjlhgkneaaMemT
import Derived.Test.YtfamemjlhgkneaaMem
import Derived.Test.YtfamemjlhgkneaaFin
namespace Go.Proofs.Ytfamemjlhgkneaa
open Go.RowKit
theorem specIsPlane_c (A : Option Addr) (n c : Nat) (l : List Trm) (w : World) (h : RdT w w.heap.size A n l) (_hn : n ≤ 1048576) :
    Calls Try.prog 15 #[.slice A n c] w fun e w' => e = .returned (.bool (isPlane l)) ∧ Below w.heap.size w w' := by
  go_enter Try.func15, Try.ntmps15
  go_wp2_with fail
  refine (plGood_c _ _ _ _ _ _ h (Nat.le_refl _)).mono ?_; rintro e w' ⟨rfl, hb⟩
  go_wp2_with fail
  go_ret
  exact ⟨rfl, hb⟩
theorem implIsPlane_c (A : Option Addr) (n c : Nat) (l : List Trm) (w : World) (h : RdT w w.heap.size A n l) (_hn : n ≤ 1048576) :
    Calls Try.prog 17 #[.slice A n c] w fun e w' => e = .returned (.bool (isPlane l)) ∧ Below w.heap.size w w' := by
  go_enter Try.func17, Try.ntmps17
  go_wp2_with fail
  refine (isPlane_c _ _ _ _ _ _ h (Nat.le_refl _)).mono ?_; rintro e w' ⟨rfl, hb⟩
  go_wp2_with fail
  go_ret
  exact ⟨rfl, hb⟩
theorem walk_FnExactIsPlane (A0 : Option Addr) (n0 c0 : Nat) (z0 : List Trm) (w : World) (r0 : RdT w w.heap.size A0 n0 z0) :
  Calls Try.prog 3 #[.slice A0 n0 c0] w fun e w' => e = .returned (.bool true) ∧ Below w.heap.size w w' := by
  have l0 := r0.le
  by_cases s0 : (n0 : Int) ≤ 1048576
  rotate_left
  · go_enter Try.func3, Try.ntmps3
    go_wp2_with fail
    refine (szTermS_no _ _ _ _ _ (by omega) (by omega) (by omega)).mono ?_; rintro e w' ⟨rfl, rfl⟩
    go_wp2_with fail
    go_ret
    exact ⟨rfl, Below.refl _ _⟩
  go_enter Try.func3, Try.ntmps3
  have bel : Below w.heap.size w w := Below.refl _ _
  go_wp2_with fail
  refine (szTermS_yes _ _ _ _ _ (by omega) (by omega)).mono ?_; rintro e w' ⟨rfl, rfl⟩
  go_wp2_with fail
  refine (toTermS_c _ _ _ _ _ _ (r0.below bel) bel.size (by omega)).mono ?_
  rintro e u1 ⟨AT0, nT0, cT0, rfl, T0, hb1, qT0⟩
  have bel := bel_step bel hb1
  have sz1 := hb1.size
  have T00 := T0
  have eT0 : nT0 ≤ 1048576 := by have := T0.len; have := r0.len; omega
  go_wp2_with fail
  refine (specIsPlane_c _ _ _ _ _ T0.rd eT0).mono ?_
  rintro e u2 ⟨rfl, hb2⟩
  have bel := bel_step bel hb2
  have sz2 := hb2.size
  have T0 := T0.go hb2
  go_wp2_with fail
  refine (toTermS_c _ _ _ _ _ _ (r0.below bel) bel.size (by omega)).mono ?_
  rintro e u3 ⟨AX0, nX0, cX0, rfl, X0, hb3, qX0⟩
  have bel := bel_step bel hb3
  have sz3 := hb3.size
  have X00 := X0
  have eX0 : nX0 ≤ 1048576 := by have := X0.len; have := r0.len; omega
  go_wp2_with fail
  refine (implIsPlane_c _ _ _ _ _ X0.rd eX0).mono ?_
  rintro e u4 ⟨rfl, hb4⟩
  have bel := bel_step bel hb4
  have sz4 := hb4.size
  have X0 := X0.go hb4
  go_wp2_with fail
  refine (toTermS_c _ _ _ _ _ _ (r0.below bel) bel.size (by omega)).mono ?_
  rintro e u5 ⟨AY0, nY0, cY0, rfl, Y0, hb5, qY0⟩
  have bel := bel_step bel hb5
  have sz5 := hb5.size
  have X0 := X0.go hb5
  have Y00 := Y0
  have eY0 : nY0 ≤ 1048576 := by have := Y0.len; have := r0.len; omega
  go_wp2_with fail
  refine (eqTermS_c _ _ _ _ _ _ _ _ _ _ X0.rd Y0.rd (Nat.le_refl _) (Nat.le_refl _)).mono ?_
  rintro e u6 ⟨rfl, hb6⟩
  have bel := bel_step bel hb6
  have sz6 := hb6.size
  have X0 := X0.go hb6
  have Y0 := Y0.go hb6
  go_wp2_with fail
  go_ret
  exact ⟨rfl, bel⟩
theorem specTotalDegree_c (A : Option Addr) (n c : Nat) (l : List Trm) (w : World) (h : RdT w w.heap.size A n l) (_hn : n ≤ 1048576) :
    Calls Try.prog 19 #[.slice A n c] w fun e w' => e = .returned (.tuple #[.int .i64 (pTotal l).1, .bool (pTotal l).2]) ∧ Below w.heap.size w w' := by
  cases hp : isPlane l
  · have HP := Lib.hid hp
    have H : Hid (pTotal l = (0, false)) := Lib.hid (by rw [pTotal, hp]; rfl)
    clear hp
    go_enter Try.func19, Try.ntmps19
    go_wp2_with (go_at_call 47; refine (plGood_c _ _ _ _ _ _ h (Nat.le_refl _)).mono ?_; rw [HP.out]; rintro e w' ⟨rfl, hb⟩)
    go_ret2
    exact ⟨by rw [H.out]; rfl, hb⟩
  · have H : Hid (pTotal l = (degTo l l.length, true)) := Lib.hid (by rw [pTotal, hp]; rfl)
    have hl := isPlane_len hp
    have HN := Lib.hid (show l.length = n from h.len)
    rw [HN.out] at hl
    have HT := Lib.hid fun (k : Nat) (hk : k < n) => isPlane_trm hp (by rw [HN.out]; exact hk)
    have HP := Lib.hid hp
    clear hp
    go_enter Try.func19, Try.ntmps19
    go_wp2_with fail
    refine (plGood_c _ _ _ _ _ _ h (Nat.le_refl _)).mono ?_; rw [HP.out]; rintro e w0 ⟨rfl, hb⟩
    go_wp2_with fail
    go_loopw [4, 12] (fun m i wr => ∃ k : Nat, k ≤ n ∧ i = .int .i64 k ∧ m = .int .i64 (degTo l k) ∧ Below w.heap.size w wr) (fun _ i _ => n - (intOf i).toNat)
    case atStart => exact ⟨0, Nat.zero_le _, rfl, rfl, hb⟩
    case round =>
      obtain ⟨k, hk, rfl, rfl, hbel⟩ := hrel
      by_cases hlt : k < n
      · obtain ⟨b, o, rfl, _, c0, c1, c2⟩ := (h.below hbel).at_ hlt
        obtain ⟨⟨t0, t1⟩, ⟨t2, t3⟩, t4, t5⟩ := HT.out k hlt
        have HD : Hid (degTo l (k + 1) = max (degTo l k) ((l.getD k (0, 0, 0)).1 + (l.getD k (0, 0, 0)).2.1)) := Lib.hid rfl
        generalize (l.getD k (0, 0, 0)).1 = x0 at *
        generalize (l.getD k (0, 0, 0)).2.1 = x1 at *
        generalize (l.getD k (0, 0, 0)).2.2 = x2 at *
        generalize degTo l k = d at *
        have bel := hbel.alloc hbel.size (.cells #[.int .i64 x0, .int .i64 x1, .int .i64 x2] 54)
        go_wp2_with (go_at_call 51; refine (l1Most_c _ _ _).mono ?_; rintro e w' ⟨rfl, rfl⟩)
        all_goals
          go_roundw
          case rel => exact ⟨k + 1, by omega, by go_num, by rw [HD.out]; first | done | go_num, bel⟩
          case measure => simp [intOf]; omega
      · have HD : Hid (degTo l l.length = degTo l k) := Lib.hid (by rw [HN.out, show n = k from by omega])
        go_wp2_with fail
        go_ret2
        exact ⟨by rw [H.out, HD.out]; rfl, hbel⟩
theorem implTotalDegree_c (A : Option Addr) (n c : Nat) (l : List Trm) (w : World) (h : RdT w w.heap.size A n l) (_hn : n ≤ 1048576) :
    Calls Try.prog 20 #[.slice A n c] w fun e w' => e = .returned (.tuple #[.int .i64 (pTotal l).1, .bool (pTotal l).2]) ∧ Below w.heap.size w w' := by
  cases hp : isPlane l
  · have HP := Lib.hid hp
    have H : Hid (pTotal l = (0, false)) := Lib.hid (by rw [pTotal, hp]; rfl)
    clear hp
    go_enter Try.func20, Try.ntmps20
    go_wp2_with (go_at_call 49; refine (isPlane_c _ _ _ _ _ _ h (Nat.le_refl _)).mono ?_; rw [HP.out]; rintro e w' ⟨rfl, hb⟩)
    go_ret2
    exact ⟨by rw [H.out]; rfl, hb⟩
  · have H : Hid (pTotal l = (degTo l l.length, true)) := Lib.hid (by rw [pTotal, hp]; rfl)
    have hl := isPlane_len hp
    have HN := Lib.hid (show l.length = n from h.len)
    rw [HN.out] at hl
    have HT := Lib.hid fun (k : Nat) (hk : k < n) => isPlane_trm hp (by rw [HN.out]; exact hk)
    have HP := Lib.hid hp
    clear hp
    go_enter Try.func20, Try.ntmps20
    go_wp2_with fail
    refine (isPlane_c _ _ _ _ _ _ h (Nat.le_refl _)).mono ?_; rw [HP.out]; rintro e w0 ⟨rfl, hb⟩
    go_wp2_with fail
    go_loopw [4, 12] (fun m i wr => ∃ k : Nat, k ≤ n ∧ i = .int .i64 k ∧ m = .int .i64 (degTo l k) ∧ Below w.heap.size w wr) (fun _ i _ => n - (intOf i).toNat)
    case atStart => exact ⟨0, Nat.zero_le _, rfl, rfl, hb⟩
    case round =>
      obtain ⟨k, hk, rfl, rfl, hbel⟩ := hrel
      by_cases hlt : k < n
      · obtain ⟨b, o, rfl, _, c0, c1, c2⟩ := (h.below hbel).at_ hlt
        obtain ⟨⟨t0, t1⟩, ⟨t2, t3⟩, t4, t5⟩ := HT.out k hlt
        have HD : Hid (degTo l (k + 1) = max (degTo l k) ((l.getD k (0, 0, 0)).1 + (l.getD k (0, 0, 0)).2.1)) := Lib.hid rfl
        generalize (l.getD k (0, 0, 0)).1 = x0 at *
        generalize (l.getD k (0, 0, 0)).2.1 = x1 at *
        generalize (l.getD k (0, 0, 0)).2.2 = x2 at *
        generalize degTo l k = d at *
        have bel := hbel.alloc hbel.size (.cells #[.int .i64 x0, .int .i64 x1, .int .i64 x2] 54)
        go_wp2_with fail
        all_goals
          go_roundw
          case rel => exact ⟨k + 1, by omega, by go_num, by rw [HD.out]; first | done | go_num, bel⟩
          case measure => simp [intOf]; omega
      · have HD : Hid (degTo l l.length = degTo l k) := Lib.hid (by rw [HN.out, show n = k from by omega])
        go_wp2_with fail
        go_ret2
        exact ⟨by rw [H.out, HD.out]; rfl, hbel⟩
theorem walk_FnExactTotalDegree (A0 : Option Addr) (n0 c0 : Nat) (z0 : List Trm) (w : World) (r0 : RdT w w.heap.size A0 n0 z0) :
  Calls Try.prog 4 #[.slice A0 n0 c0] w fun e w' => e = .returned (.bool true) ∧ Below w.heap.size w w' := by
  have l0 := r0.le
  by_cases s0 : (n0 : Int) ≤ 1048576
  rotate_left
  · go_enter Try.func4, Try.ntmps4
    go_wp2_with fail
    refine (szTermS_no _ _ _ _ _ (by omega) (by omega) (by omega)).mono ?_; rintro e w' ⟨rfl, rfl⟩
    go_wp2_with fail
    go_ret
    exact ⟨rfl, Below.refl _ _⟩
  go_enter Try.func4, Try.ntmps4
  have bel : Below w.heap.size w w := Below.refl _ _
  go_wp2_with fail
  refine (szTermS_yes _ _ _ _ _ (by omega) (by omega)).mono ?_; rintro e w' ⟨rfl, rfl⟩
  go_wp2_with fail
  refine (toTermS_c _ _ _ _ _ _ (r0.below bel) bel.size (by omega)).mono ?_
  rintro e u1 ⟨AT0, nT0, cT0, rfl, T0, hb1, qT0⟩
  have bel := bel_step bel hb1
  have sz1 := hb1.size
  have T00 := T0
  have eT0 : nT0 ≤ 1048576 := by have := T0.len; have := r0.len; omega
  go_wp2_with fail
  refine (specTotalDegree_c _ _ _ _ _ T0.rd eT0).mono ?_
  rintro e u2 ⟨rfl, hb2⟩
  have bel := bel_step bel hb2
  have sz2 := hb2.size
  have T0 := T0.go hb2
  go_wp2_with fail
  refine (toTermS_c _ _ _ _ _ _ (r0.below bel) bel.size (by omega)).mono ?_
  rintro e u3 ⟨AX0, nX0, cX0, rfl, X0, hb3, qX0⟩
  have bel := bel_step bel hb3
  have sz3 := hb3.size
  have X00 := X0
  have eX0 : nX0 ≤ 1048576 := by have := X0.len; have := r0.len; omega
  go_wp2_with fail
  refine (implTotalDegree_c _ _ _ _ _ X0.rd eX0).mono ?_
  rintro e u4 ⟨rfl, hb4⟩
  have bel := bel_step bel hb4
  have sz4 := hb4.size
  have X0 := X0.go hb4
  go_wp2_with fail
  refine (toTermS_c _ _ _ _ _ _ (r0.below bel) bel.size (by omega)).mono ?_
  rintro e u5 ⟨AY0, nY0, cY0, rfl, Y0, hb5, qY0⟩
  have bel := bel_step bel hb5
  have sz5 := hb5.size
  have X0 := X0.go hb5
  have Y00 := Y0
  have eY0 : nY0 ≤ 1048576 := by have := Y0.len; have := r0.len; omega
  go_wp2_with fail
  refine (eqTermS_c _ _ _ _ _ _ _ _ _ _ X0.rd Y0.rd (Nat.le_refl _) (Nat.le_refl _)).mono ?_
  rintro e u6 ⟨rfl, hb6⟩
  have bel := bel_step bel hb6
  have sz6 := hb6.size
  have X0 := X0.go hb6
  have Y0 := Y0.go hb6
  go_wp2_with fail
  go_ret
  exact ⟨rfl, bel⟩
set_option maxRecDepth 8192 in
theorem plValues_c (A : Option Addr) (n c : Nat) (l : List Trm) (x y : Int) (B : Nat) (w : World) (h : RdT w B A n l) (hB : B ≤ w.heap.size) (hp : isPlane l = true) (hx : isFin x = true) (hy : isFin y = true) :
    Calls Try.prog 54 #[.slice A n c, .int .i64 x, .int .i64 y] w (RetOwn 3 (valsT l x y l.length) w) := by
  have hl := isPlane_len hp
  have HN := Lib.hid (show l.length = n from h.len)
  rw [HN.out] at hl
  have HT := Lib.hid fun (k : Nat) (hk : k < n) => isPlane_trm hp (by rw [HN.out]; exact hk)
  have HB := Lib.hid fun (k : Nat) (hk : k < n) => valT_bd (isPlane_trm hp (by rw [HN.out]; exact hk)) hx hy
  have bx := (isFin_iff x).1 hx
  have byy := (isFin_iff y).1 hy
  clear hp hx hy
  obtain ⟨i0, hi, hz0, hz1, hz2⟩ := info_parts info_int
  have HI := Lib.hid hi
  have HZ0 := Lib.hid hz0
  have HZ1 := Lib.hid hz1
  have HZ2 := Lib.hid hz2
  clear hi hz0 hz1 hz2
  go_enter Try.func54, Try.ntmps54
  go_wp2_with fail
  go_loopw [7, 12] (fun v i wr => ∃ k : Nat, k ≤ n ∧ i = .int .i64 k ∧ Own wr w.heap.size 3 v k (valsT l x y k) ∧ Below w.heap.size w wr) (fun _ i _ => n - (intOf i).toNat)
  case atStart => exact ⟨0, Nat.zero_le _, rfl, Own.nil _ _ _, Below.refl _ _⟩
  case round =>
    obtain ⟨k, hk, rfl, hown, hbel⟩ := hrel
    have hsz := hbel.size
    by_cases hlt : k < n
    · obtain ⟨b, o, rfl, _, c0, c1, c2⟩ := (h.below (hbel.mono hB)).at_ hlt
      obtain ⟨⟨t0, t1⟩, ⟨t2, t3⟩, t4, t5⟩ := HT.out k hlt
      have hb := HB.out k hlt
      have HP : Hid (valsT l x y (k + 1) = valsT l x y k ++ [valT (l.getD k (0, 0, 0)) x y]) := Lib.hid rfl
      rw [valT] at hb HP
      generalize (l.getD k (0, 0, 0)).1 = x0 at *
      generalize (l.getD k (0, 0, 0)).2.1 = x1 at *
      generalize (l.getD k (0, 0, 0)).2.2 = x2 at *
      have m0 := mul6 t0 t1 bx.1 bx.2
      have m1 := mul6 t2 (by omega) byy.1 byy.2
      have bel := hbel.alloc hbel.size (.cells #[.int .i64 x0, .int .i64 x1, .int .i64 x2] 54)
      have own := hown.new (.cells #[.int .i64 x0, .int .i64 x1, .int .i64 x2] 54)
      have hz : w.heap.size ≤ (wr.alloc (.cells #[.int .i64 x0, .int .i64 x1, .int .i64 x2] 54)).heap.size := bel.size
      go_wp2_with (at_builtin; refine wp_app1 rfl _ _ 41 rfl w.heap.size 3 i0 Try.underlying41 HI.out HZ0.out HZ1.out HZ2.out _ _ _ rfl own _ (by rw [World.size_alloc]; rfl) (by omega) hz ?_)
      intro v' w1 h1 hb1 _
      have hbel' := bel.trans hb1
      rw [← HP.out] at h1
      clear hown hbel hb1 own bel hz
      go_wp2_with fail
      go_roundw
      case rel => exact ⟨k + 1, by omega, by go_num, h1, hbel'⟩
      case measure => simp [intOf]; omega
    · have H : Hid (valsT l x y l.length = valsT l x y k) := Lib.hid (by rw [HN.out, show n = k from by omega])
      rw [← H.out] at hown
      go_wp2_with fail
      go_ret
      exact retOwn_mk hown hbel (by omega)
set_option maxRecDepth 8192 in
theorem planeValues_c (A : Option Addr) (n c : Nat) (l : List Trm) (x y : Int) (B : Nat) (w : World) (h : RdT w B A n l) (hB : B ≤ w.heap.size) (hp : isPlane l = true) (hx : isFin x = true) (hy : isFin y = true) :
    Calls Try.prog 58 #[.slice A n c, .int .i64 x, .int .i64 y] w (RetOwn 3 (valsT l x y l.length) w) := by
  have hl := isPlane_len hp
  have HN := Lib.hid (show l.length = n from h.len)
  rw [HN.out] at hl
  have HT := Lib.hid fun (k : Nat) (hk : k < n) => isPlane_trm hp (by rw [HN.out]; exact hk)
  have HB := Lib.hid fun (k : Nat) (hk : k < n) => valT_bd (isPlane_trm hp (by rw [HN.out]; exact hk)) hx hy
  have bx := (isFin_iff x).1 hx
  have byy := (isFin_iff y).1 hy
  clear hp hx hy
  obtain ⟨i0, hi, hz0, hz1, hz2⟩ := info_parts info_int
  have HI := Lib.hid hi
  have HZ0 := Lib.hid hz0
  have HZ1 := Lib.hid hz1
  have HZ2 := Lib.hid hz2
  clear hi hz0 hz1 hz2
  go_enter Try.func58, Try.ntmps58
  go_wp2_with fail
  go_loopw [7, 13] (fun v i wr => ∃ k : Nat, k ≤ n ∧ i = .int .i64 k ∧ Own wr w.heap.size 3 v k (valsT l x y k) ∧ Below w.heap.size w wr) (fun _ i _ => n - (intOf i).toNat)
  case atStart => exact ⟨0, Nat.zero_le _, rfl, Own.empty _ _ (Nat.le_refl _), bel_new _ _⟩
  case round =>
    obtain ⟨k, hk, rfl, hown, hbel⟩ := hrel
    have hsz := hbel.size
    by_cases hlt : k < n
    · obtain ⟨b, o, rfl, _, c0, c1, c2⟩ := (h.below (hbel.mono hB)).at_ hlt
      obtain ⟨⟨t0, t1⟩, ⟨t2, t3⟩, t4, t5⟩ := HT.out k hlt
      have hb := HB.out k hlt
      have HP : Hid (valsT l x y (k + 1) = valsT l x y k ++ [valT (l.getD k (0, 0, 0)) x y]) := Lib.hid rfl
      rw [valT] at hb HP
      generalize (l.getD k (0, 0, 0)).1 = x0 at *
      generalize (l.getD k (0, 0, 0)).2.1 = x1 at *
      generalize (l.getD k (0, 0, 0)).2.2 = x2 at *
      have m0 := mul6 t0 t1 bx.1 bx.2
      have m1 := mul6 t2 (by omega) byy.1 byy.2
      have bel := hbel.alloc hbel.size (.cells #[.int .i64 x0, .int .i64 x1, .int .i64 x2] 54)
      have own := hown.new (.cells #[.int .i64 x0, .int .i64 x1, .int .i64 x2] 54)
      have hz : w.heap.size ≤ (wr.alloc (.cells #[.int .i64 x0, .int .i64 x1, .int .i64 x2] 54)).heap.size := bel.size
      go_wp2_with (at_builtin; refine wp_app1 rfl _ _ 41 rfl w.heap.size 3 i0 Try.underlying41 HI.out HZ0.out HZ1.out HZ2.out _ _ _ rfl own _ (by rw [World.size_alloc]; rfl) (by omega) hz ?_)
      intro v' w1 h1 hb1 _
      have hbel' := bel.trans hb1
      rw [← HP.out] at h1
      clear hown hbel hb1 own bel hz
      go_wp2_with fail
      go_roundw
      case rel => exact ⟨k + 1, by omega, by go_num, h1, hbel'⟩
      case measure => simp [intOf]; omega
    · have H : Hid (valsT l x y l.length = valsT l x y k) := Lib.hid (by rw [HN.out, show n = k from by omega])
      rw [← H.out] at hown
      go_wp2_with fail
      go_ret
      exact retOwn_mk hown hbel (by omega)
end Go.Proofs.Ytfamemjlhgkneaa
