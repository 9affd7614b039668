/- The law on the rows of a plane polynomial: both packages' functions against a plain one, and the walk of the law. -/
import Derived.Test.YtfamemjlhgkneaaWPlane3
import Derived.Test.YtfamemjlhgkneaaApp
namespace Go.Proofs.Ytfamemjlhgkneaa
open Go.RowKit
def lenOf : Value → Nat
  | .slice _ n _ => n
  | _ => 0
set_option maxRecDepth 8192 in
set_option maxHeartbeats 1000000 in
theorem specRowOf_c (A : Option Addr) (n c : Nat) (l : List Trm) (j : Int) (w : World) (h : RdT w w.heap.size A n l) (_hn : n ≤ 1048576) :
    Calls Try.prog 32 #[.slice A n c, .int .i64 j] w (RetOwnB 3 (pRowOf l j).1 (pRowOf l j).2 w) := by
  cases hp : isPlane l
  · have HP := Lib.hid hp
    have H : Hid (pRowOf l j = ([], false)) := Lib.hid (by rw [pRowOf, hp]; rfl)
    clear hp
    go_enter Try.func32, Try.ntmps32
    go_wp2_with (go_at_call 47; refine (plGood_c _ _ _ _ _ _ h (Nat.le_refl _)).mono ?_; rw [HP.out]; rintro e w' ⟨rfl, hb⟩)
    go_ret2
    rw [H.out]
    exact retOwnB_mk (Own.nil _ _ _) hb (by omega)
  cases hx : (decide (0 ≤ j) && decide (j ≤ 6))
  · have HP := Lib.hid hp
    have HX := Lib.hid hx
    have H : Hid (pRowOf l j = ([], false)) := Lib.hid (by rw [pRowOf, hp, hx]; rfl)
    clear hp hx
    go_enter Try.func32, Try.ntmps32
    go_wp2_with (first
      | (go_at_call 47; refine (plGood_c _ _ _ _ _ _ h (Nat.le_refl _)).mono ?_; rw [HP.out]; rintro e w' ⟨rfl, hb⟩)
      | (go_at_call 66; refine (l1In_c _ _ _ _).mono ?_; rw [HX.out]; rintro e w' ⟨rfl, rfl⟩))
    go_ret2
    rw [H.out]
    exact retOwnB_mk (Own.nil _ _ _) hb (by omega)
  · have H : Hid (pRowOf l j = toldPol (rowTo l j l.length)) := Lib.hid (by rw [pRowOf, hp, hx]; rfl)
    have hl := isPlane_len hp
    have HN := Lib.hid (show l.length = n from h.len)
    rw [HN.out] at hl
    have HT := Lib.hid fun (k : Nat) (hk : k < n) => isPlane_trm hp (by rw [HN.out]; exact hk)
    have HR := Lib.hid fun (k : Nat) (hk : k ≤ n) => rowTo_inv (j := j) hp k (by rw [HN.out]; exact hk)
    have HPol := Lib.hid (row_pol (j := j) hp)
    have HP := Lib.hid hp
    have HX := Lib.hid hx
    clear hp hx
    obtain ⟨i0, hi, hz0, hz1, hz2⟩ := info_parts info_int
    have HI := Lib.hid hi
    have HZ0 := Lib.hid hz0
    have HZ1 := Lib.hid hz1
    have HZ2 := Lib.hid hz2
    clear hi hz0 hz1 hz2
    go_enter Try.func32, Try.ntmps32
    go_wp2_with fail
    refine (plGood_c _ _ _ _ _ _ h (Nat.le_refl _)).mono ?_; rw [HP.out]; rintro e w0 ⟨rfl, hb⟩
    go_wp2_with fail
    refine (l1In_c _ _ _ _).mono ?_; rw [HX.out]; rintro e w' ⟨rfl, rfl⟩
    go_wp2_with fail
    go_loopw [6, 19] (fun v i wr => ∃ k : Nat, k ≤ n ∧ i = .int .i64 k ∧ Own wr w.heap.size 3 v (rowTo l j k).length (rowTo l j k) ∧ Below w.heap.size w wr) (fun _ i _ => n - (intOf i).toNat)
    case atStart => exact ⟨0, Nat.zero_le _, rfl, Own.nil _ _ _, hb⟩
    case round =>
      clear hb
      obtain ⟨k, hk, rfl, hown, hbel⟩ := hrel
      have hsz := hbel.size
      obtain ⟨i1, i2, i3, i4⟩ := HR.out k hk
      by_cases hlt : k < n
      · obtain ⟨b, o, rfl, _, c0, c1, c2⟩ := (h.below hbel).at_ hlt
        obtain ⟨⟨t0, t1⟩, ⟨t2, t3⟩, t4, t5⟩ := HT.out k hlt
        have HRk : Hid (rowTo l j (k + 1) = if (l.getD k (0, 0, 0)).2.1 = j then padTo (rowTo l j k) (l.getD k (0, 0, 0)).1.toNat ++ [(l.getD k (0, 0, 0)).2.2] else rowTo l j k) := Lib.hid rfl
        have i5 := i4 k (Nat.le_refl _) (by rw [HN.out]; exact hlt)
        generalize rowTo l j k = xs at *
        generalize (l.getD k (0, 0, 0)).1 = x0 at *
        generalize (l.getD k (0, 0, 0)).2.1 = x1 at *
        generalize (l.getD k (0, 0, 0)).2.2 = x2 at *
        have bel := hbel.alloc hbel.size (.cells #[.int .i64 x0, .int .i64 x1, .int .i64 x2] 54)
        have own := hown.new (.cells #[.int .i64 x0, .int .i64 x1, .int .i64 x2] 54)
        have P := Bx.new wr [.int .i64 x0, .int .i64 x1, .int .i64 x2] 54
        have HNB := Lib.hid (ne_blk hown.lt (Nat.le_refl wr.heap.size))
        clear i1 i3 i4 hown hbel
        by_cases hj : x1 = j
        · have hjb : (x1 != j) = false := by simpa using hj
          have HS : Hid (rowTo l j (k + 1) = padTo xs x0.toNat ++ [x2]) := Lib.hid (by rw [HRk.out, if_pos hj])
          have i5 := i5 hj
          clear hj
          obtain ⟨m, rfl⟩ := Int.eq_ofNat_of_zero_le t0
          rw [Int.toNat_natCast] at HS
          go_wp2_with fail
          generalize wr.alloc (.cells #[.int .i64 (m : Int), .int .i64 x1, .int .i64 x2] 54) = wz at *
          obtain ⟨wo, rfl⟩ : ∃ wo : World, wo = wr := ⟨_, rfl⟩
          go_loopw [6] (fun v wx => ∃ ys : List Int, Hid (padTo ys m = padTo xs m) ∧ ys.length ≤ m ∧ Own wx w.heap.size 3 v ys.length ys ∧ Below w.heap.size w wx ∧ Bx wx wo.heap.size [.int .i64 (m : Int), .int .i64 x1, .int .i64 x2] ∧ Hid (v.ownBlock ≠ some wo.heap.size)) (fun v _ => m - lenOf v)
          case atStart => exact ⟨xs, Lib.hid rfl, by omega, own, bel, P, HNB⟩
          case round =>
            clear own bel P
            obtain ⟨ys, HY, hym, own, bel, P, HV⟩ := hrel
            obtain ⟨A1, c1', rfl⟩ := own.shape
            have hz := bel.size
            have p0 := P.at0
            have p2 := P.at2
            by_cases hlm : ys.length < m
            · have HY2 : Hid (padTo (ys ++ [1000000000]) m = padTo xs m) := Lib.hid (by rw [padTo_more hlm, HY.out])
              have hlen : (ys ++ [(1000000000 : Int)]).length = ys.length + 1 := by simp
              generalize hq : ys.length = q at *
              have HQ := Lib.hid hq
              clear hq
              go_wp2_with (at_builtin; refine wp_app1b rfl _ _ 41 rfl w.heap.size 3 i0 Try.underlying41 HI.out HZ0.out HZ1.out HZ2.out _ _ _ rfl own _ rfl (by omega) hz ?_)
              intro v' w1 h1 hb1 hg1 hat1
              have bel' := bel.trans hb1
              have P' : Bx w1 wo.heap.size [.int .i64 (m : Int), .int .i64 x1, .int .i64 x2] := P.grown hg1 HV.out
              have HV' := Lib.hid (hat1 _ P.1 HV.out)
              have h2 : Own w1 w.heap.size 3 v' (ys ++ [1000000000]).length (ys ++ [1000000000]) := by rw [hlen]; exact h1
              have HLn := Lib.hid hlen
              clear own bel hb1 P p0 p2 h1 hlen hg1 hat1 HV
              obtain ⟨A2, c2', rfl⟩ := h2.shape
              go_wp2_with fail
              go_roundw
              case rel => exact ⟨ys ++ [1000000000], HY2, by rw [HLn.out]; omega, h2, bel', P', HV'⟩
              case measure => have := HLn.out; have := HQ.out; simp [lenOf]; omega
            · have HE : Hid (ys = padTo xs m) := Lib.hid (by rw [← HY.out, padTo_done (by omega)])
              generalize hq : ys.length = q at *
              have HQ := Lib.hid hq
              clear hq
              go_wp2_with (at_builtin; refine wp_app1 rfl _ _ 41 rfl w.heap.size 3 i0 Try.underlying41 HI.out HZ0.out HZ1.out HZ2.out _ _ _ rfl own _ rfl (by omega) hz ?_)
              intro v' w1 h1 hb1 _
              have bel' := bel.trans hb1
              have h2 : Own w1 w.heap.size 3 v' (rowTo l j (k + 1)).length (rowTo l j (k + 1)) := by
                rw [HS.out, ← HE.out, List.length_append, HQ.out]
                exact h1
              clear own bel hb1 P p0 p2 h1
              go_wp2_with fail
              go_roundw
              case rel => exact ⟨k + 1, by omega, by go_num, h2, bel'⟩
              case measure => simp [intOf]; omega
        · have hjb : (x1 != j) = true := by simpa using hj
          have HS : Hid (rowTo l j (k + 1) = xs) := Lib.hid (by rw [HRk.out, if_neg hj])
          clear P hj i5
          rw [← HS.out] at own
          go_wp2_with fail
          go_roundw
          case rel => exact ⟨k + 1, by omega, by go_num, own, bel⟩
          case measure => simp [intOf]; omega
      · have HE : Hid (rowTo l j l.length = rowTo l j k) := Lib.hid (by rw [HN.out, show n = k from by omega])
        obtain ⟨A1, c1, rfl⟩ := hown.shape
        have HPk : Hid (isPol (rowTo l j k) = decide (0 < (rowTo l j k).length)) := Lib.hid (by rw [← HE.out, HPol.out])
        have HTk : Hid (pRowOf l j = toldPol (rowTo l j k)) := Lib.hid (by rw [H.out, HE.out])
        clear i1 i3 i4
        by_cases h0 : 0 < (rowTo l j k).length
        · have HT : Hid (toldPol (rowTo l j k) = (rowTo l j k, true)) := Lib.hid (by rw [toldPol, HPk.out, decide_eq_true h0]; rfl)
          generalize hq : (rowTo l j k).length = q at *
          have HQ := Lib.hid hq
          clear hq
          go_wp2_with fail
          go_ret2
          rw [HTk.out, HT.out]
          exact retOwnB_mk hown hbel (by omega)
        · have HT : Hid (toldPol (rowTo l j k) = ([], false)) := Lib.hid (by rw [toldPol, HPk.out, decide_eq_false h0]; rfl)
          generalize hq : (rowTo l j k).length = q at *
          have HQ := Lib.hid hq
          clear hq
          obtain rfl : q = 0 := by omega
          go_wp2_with fail
          go_ret2
          rw [HTk.out, HT.out]
          exact retOwnB_mk (Own.nil _ _ _) hbel (by omega)
set_option maxRecDepth 8192 in
set_option maxHeartbeats 1000000 in
theorem implRowOf_c (A : Option Addr) (n c : Nat) (l : List Trm) (j : Int) (w : World) (h : RdT w w.heap.size A n l) (_hn : n ≤ 1048576) :
    Calls Try.prog 33 #[.slice A n c, .int .i64 j] w (RetOwnB 3 (pRowOf l j).1 (pRowOf l j).2 w) := by
  cases hp : isPlane l
  · have HP := Lib.hid hp
    have H : Hid (pRowOf l j = ([], false)) := Lib.hid (by rw [pRowOf, hp]; rfl)
    clear hp
    go_enter Try.func33, Try.ntmps33
    go_wp2_with (go_at_call 49; refine (isPlane_c _ _ _ _ _ _ h (Nat.le_refl _)).mono ?_; rw [HP.out]; rintro e w' ⟨rfl, hb⟩)
    go_ret2
    rw [H.out]
    exact retOwnB_mk (Own.nil _ _ _) hb (by omega)
  cases hx : (decide (0 ≤ j) && decide (j ≤ 6))
  · have HP := Lib.hid hp
    have HX := Lib.hid hx
    have H : Hid (pRowOf l j = ([], false)) := Lib.hid (by rw [pRowOf, hp, hx]; rfl)
    clear hp hx
    go_enter Try.func33, Try.ntmps33
    go_wp2_with (first
      | (go_at_call 49; refine (isPlane_c _ _ _ _ _ _ h (Nat.le_refl _)).mono ?_; rw [HP.out]; rintro e w' ⟨rfl, hb⟩)
      | (go_at_call 67; refine (within_c _ _ _ _).mono ?_; rw [HX.out]; rintro e w' ⟨rfl, rfl⟩))
    go_ret2
    rw [H.out]
    exact retOwnB_mk (Own.nil _ _ _) hb (by omega)
  · have H : Hid (pRowOf l j = toldPol (rowTo l j l.length)) := Lib.hid (by rw [pRowOf, hp, hx]; rfl)
    have hl := isPlane_len hp
    have HN := Lib.hid (show l.length = n from h.len)
    rw [HN.out] at hl
    have HT := Lib.hid fun (k : Nat) (hk : k < n) => isPlane_trm hp (by rw [HN.out]; exact hk)
    have HR := Lib.hid fun (k : Nat) (hk : k ≤ n) => rowTo_inv (j := j) hp k (by rw [HN.out]; exact hk)
    have HPol := Lib.hid (row_pol (j := j) hp)
    have HP := Lib.hid hp
    have HX := Lib.hid hx
    clear hp hx
    obtain ⟨i0, hi, hz0, hz1, hz2⟩ := info_parts info_int
    have HI := Lib.hid hi
    have HZ0 := Lib.hid hz0
    have HZ1 := Lib.hid hz1
    have HZ2 := Lib.hid hz2
    clear hi hz0 hz1 hz2
    go_enter Try.func33, Try.ntmps33
    go_wp2_with fail
    refine (isPlane_c _ _ _ _ _ _ h (Nat.le_refl _)).mono ?_; rw [HP.out]; rintro e w0 ⟨rfl, hb⟩
    go_wp2_with fail
    refine (within_c _ _ _ _).mono ?_; rw [HX.out]; rintro e w' ⟨rfl, rfl⟩
    go_wp2_with fail
    go_loopw [6, 20] (fun v i wr => ∃ k : Nat, k ≤ n ∧ i = .int .i64 k ∧ Own wr w.heap.size 3 v (rowTo l j k).length (rowTo l j k) ∧ Below w.heap.size w wr) (fun _ i _ => n - (intOf i).toNat)
    case atStart => exact ⟨0, Nat.zero_le _, rfl, Own.empty _ _ hb.size, hb.alloc hb.size _⟩
    case round =>
      clear hb
      obtain ⟨k, hk, rfl, hown, hbel⟩ := hrel
      have hsz := hbel.size
      obtain ⟨i1, i2, i3, i4⟩ := HR.out k hk
      by_cases hlt : k < n
      · obtain ⟨b, o, rfl, _, c0, c1, c2⟩ := (h.below hbel).at_ hlt
        obtain ⟨⟨t0, t1⟩, ⟨t2, t3⟩, t4, t5⟩ := HT.out k hlt
        have HRk : Hid (rowTo l j (k + 1) = if (l.getD k (0, 0, 0)).2.1 = j then padTo (rowTo l j k) (l.getD k (0, 0, 0)).1.toNat ++ [(l.getD k (0, 0, 0)).2.2] else rowTo l j k) := Lib.hid rfl
        have i5 := i4 k (Nat.le_refl _) (by rw [HN.out]; exact hlt)
        generalize rowTo l j k = xs at *
        generalize (l.getD k (0, 0, 0)).1 = x0 at *
        generalize (l.getD k (0, 0, 0)).2.1 = x1 at *
        generalize (l.getD k (0, 0, 0)).2.2 = x2 at *
        have bel := hbel.alloc hbel.size (.cells #[.int .i64 x0, .int .i64 x1, .int .i64 x2] 54)
        have own := hown.new (.cells #[.int .i64 x0, .int .i64 x1, .int .i64 x2] 54)
        have P := Bx.new wr [.int .i64 x0, .int .i64 x1, .int .i64 x2] 54
        have HNB := Lib.hid (ne_blk hown.lt (Nat.le_refl wr.heap.size))
        clear i1 i3 i4 hown hbel
        by_cases hj : x1 = j
        · have hjb : (x1 != j) = false := by simpa using hj
          have HS : Hid (rowTo l j (k + 1) = padTo xs x0.toNat ++ [x2]) := Lib.hid (by rw [HRk.out, if_pos hj])
          have i5 := i5 hj
          clear hj
          obtain ⟨m, rfl⟩ := Int.eq_ofNat_of_zero_le t0
          rw [Int.toNat_natCast] at HS
          go_wp2_with fail
          generalize wr.alloc (.cells #[.int .i64 (m : Int), .int .i64 x1, .int .i64 x2] 54) = wz at *
          obtain ⟨wo, rfl⟩ : ∃ wo : World, wo = wr := ⟨_, rfl⟩
          go_loopw [6] (fun v wx => ∃ ys : List Int, Hid (padTo ys m = padTo xs m) ∧ ys.length ≤ m ∧ Own wx w.heap.size 3 v ys.length ys ∧ Below w.heap.size w wx ∧ Bx wx wo.heap.size [.int .i64 (m : Int), .int .i64 x1, .int .i64 x2] ∧ Hid (v.ownBlock ≠ some wo.heap.size)) (fun v _ => m - lenOf v)
          case atStart => exact ⟨xs, Lib.hid rfl, by omega, own, bel, P, HNB⟩
          case round =>
            clear own bel P
            obtain ⟨ys, HY, hym, own, bel, P, HV⟩ := hrel
            obtain ⟨A1, c1', rfl⟩ := own.shape
            have hz := bel.size
            have p0 := P.at0
            have p2 := P.at2
            by_cases hlm : ys.length < m
            · have HY2 : Hid (padTo (ys ++ [1000000000]) m = padTo xs m) := Lib.hid (by rw [padTo_more hlm, HY.out])
              have hlen : (ys ++ [(1000000000 : Int)]).length = ys.length + 1 := by simp
              generalize hq : ys.length = q at *
              have HQ := Lib.hid hq
              clear hq
              go_wp2_with (at_builtin; refine wp_app1b rfl _ _ 41 rfl w.heap.size 3 i0 Try.underlying41 HI.out HZ0.out HZ1.out HZ2.out _ _ _ rfl own _ rfl (by omega) hz ?_)
              intro v' w1 h1 hb1 hg1 hat1
              have bel' := bel.trans hb1
              have P' : Bx w1 wo.heap.size [.int .i64 (m : Int), .int .i64 x1, .int .i64 x2] := P.grown hg1 HV.out
              have HV' := Lib.hid (hat1 _ P.1 HV.out)
              have h2 : Own w1 w.heap.size 3 v' (ys ++ [1000000000]).length (ys ++ [1000000000]) := by rw [hlen]; exact h1
              have HLn := Lib.hid hlen
              clear own bel hb1 P p0 p2 h1 hlen hg1 hat1 HV
              obtain ⟨A2, c2', rfl⟩ := h2.shape
              go_wp2_with fail
              go_roundw
              case rel => exact ⟨ys ++ [1000000000], HY2, by rw [HLn.out]; omega, h2, bel', P', HV'⟩
              case measure => have := HLn.out; have := HQ.out; simp [lenOf]; omega
            · have HE : Hid (ys = padTo xs m) := Lib.hid (by rw [← HY.out, padTo_done (by omega)])
              generalize hq : ys.length = q at *
              have HQ := Lib.hid hq
              clear hq
              go_wp2_with (at_builtin; refine wp_app1 rfl _ _ 41 rfl w.heap.size 3 i0 Try.underlying41 HI.out HZ0.out HZ1.out HZ2.out _ _ _ rfl own _ rfl (by omega) hz ?_)
              intro v' w1 h1 hb1 _
              have bel' := bel.trans hb1
              have h2 : Own w1 w.heap.size 3 v' (rowTo l j (k + 1)).length (rowTo l j (k + 1)) := by
                rw [HS.out, ← HE.out, List.length_append, HQ.out]
                exact h1
              clear own bel hb1 P p0 p2 h1
              go_wp2_with fail
              go_roundw
              case rel => exact ⟨k + 1, by omega, by go_num, h2, bel'⟩
              case measure => simp [intOf]; omega
        · have hjb : (x1 != j) = true := by simpa using hj
          have HS : Hid (rowTo l j (k + 1) = xs) := Lib.hid (by rw [HRk.out, if_neg hj])
          clear P hj i5
          rw [← HS.out] at own
          go_wp2_with fail
          go_roundw
          case rel => exact ⟨k + 1, by omega, by go_num, own, bel⟩
          case measure => simp [intOf]; omega
      · have HE : Hid (rowTo l j l.length = rowTo l j k) := Lib.hid (by rw [HN.out, show n = k from by omega])
        obtain ⟨A1, c1, rfl⟩ := hown.shape
        have HTk : Hid (pRowOf l j = toldPol (rowTo l j k)) := Lib.hid (by rw [H.out, HE.out])
        clear i1 i3 i4
        cases hq : isPol (rowTo l j k)
        · have HQ := Lib.hid hq
          have HT : Hid (toldPol (rowTo l j k) = ([], false)) := Lib.hid (by rw [toldPol, hq]; rfl)
          clear hq
          go_wp2_with fail
          refine (toldPoly_c _ _ _ _ _ _ false HQ.out hown.rd).mono ?_; rintro e w' ⟨rfl, rfl⟩
          go_wp2_with fail
          go_ret2
          rw [HTk.out, HT.out]
          exact retOwnB_mk (Own.nil _ _ _) hbel (by omega)
        · have HQ := Lib.hid hq
          have HT : Hid (toldPol (rowTo l j k) = (rowTo l j k, true)) := Lib.hid (by rw [toldPol, hq]; rfl)
          clear hq
          go_wp2_with fail
          refine (toldPoly_c _ _ _ _ _ _ true HQ.out hown.rd).mono ?_; rintro e w' ⟨rfl, rfl⟩
          go_wp2_with fail
          go_ret2
          rw [HTk.out, HT.out]
          exact retOwnB_mk hown hbel (by omega)
theorem walk_FnExactRowOf (A0 : Option Addr) (n0 c0 : Nat) (z0 : List Trm) (a1 : Int) (w : World) (r0 : RdT w w.heap.size A0 n0 z0) (w1 : (Lit.int .i64 a1).wf = true) :
  Calls Try.prog 8 #[.slice A0 n0 c0, .int .i64 a1] w fun e w' => e = .returned (.bool true) ∧ Below w.heap.size w w' := by
  have _w := w1
  have l0 := r0.le
  by_cases s0 : (n0 : Int) ≤ 1048576
  rotate_left
  · go_enter Try.func8, Try.ntmps8
    go_wp2_with fail
    refine (szTermS_no _ _ _ _ _ (by omega) (by omega) (by omega)).mono ?_; rintro e w' ⟨rfl, rfl⟩
    go_wp2_with fail
    go_ret
    exact ⟨rfl, Below.refl _ _⟩
  go_enter Try.func8, Try.ntmps8
  have bel : Below w.heap.size w w := Below.refl _ _
  go_wp2_with fail
  refine (szTermS_yes _ _ _ _ _ (by omega) (by omega)).mono ?_; rintro e w' ⟨rfl, rfl⟩
  go_wp2_with fail
  refine (toTermS_c _ _ _ _ _ _ (r0.below bel) bel.size (by omega)).mono ?_
  rintro e u1 ⟨AT0, nT0, cT0, rfl, T0, hb1, qT0⟩
  have bel := bel_step bel hb1
  have sz1 := hb1.size
  have T00 := T0
  have eT0 : nT0 ≤ 1048576 := by have := T0.len; have := r0.len; omega
  go_wp2_with fail
  refine (specRowOf_c _ _ _ _ _ _ T0.rd eT0).mono ?_
  rintro e u2 ⟨AWr, nWr, cWr, rfl, Wr, hb2, qWr⟩
  have bel := bel_step bel hb2
  have sz2 := hb2.size
  have T0 := T0.go hb2
  have Wr0 := Wr
  go_wp2_with fail
  refine (toTermS_c _ _ _ _ _ _ (r0.below bel) bel.size (by omega)).mono ?_
  rintro e u3 ⟨AX0, nX0, cX0, rfl, X0, hb3, qX0⟩
  have bel := bel_step bel hb3
  have sz3 := hb3.size
  have Wr := Wr.go hb3
  have X00 := X0
  have eX0 : nX0 ≤ 1048576 := by have := X0.len; have := r0.len; omega
  go_wp2_with fail
  refine (implRowOf_c _ _ _ _ _ _ X0.rd eX0).mono ?_
  rintro e u4 ⟨AGr, nGr, cGr, rfl, Gr, hb4, qGr⟩
  have bel := bel_step bel hb4
  have sz4 := hb4.size
  have Wr := Wr.go hb4
  have X0 := X0.go hb4
  have Gr0 := Gr
  go_wp2_with fail
  refine (eqIntS_c _ _ _ _ _ _ _ _ _ _ Gr.rd Wr.rd).mono ?_
  rintro e u5 ⟨rfl, hb5⟩
  have bel := bel_step bel hb5
  have sz5 := hb5.size
  have Wr := Wr.go hb5
  have X0 := X0.go hb5
  have Gr := Gr.go hb5
  go_wp2_with fail
  refine (toTermS_c _ _ _ _ _ _ (r0.below bel) bel.size (by omega)).mono ?_
  rintro e u6 ⟨AY0, nY0, cY0, rfl, Y0, hb6, qY0⟩
  have bel := bel_step bel hb6
  have sz6 := hb6.size
  have Wr := Wr.go hb6
  have X0 := X0.go hb6
  have Gr := Gr.go hb6
  have Y00 := Y0
  have eY0 : nY0 ≤ 1048576 := by have := Y0.len; have := r0.len; omega
  go_wp2_with fail
  refine (eqTermS_c _ _ _ _ _ _ _ _ _ _ X0.rd Y0.rd (Nat.le_refl _) (Nat.le_refl _)).mono ?_
  rintro e u7 ⟨rfl, hb7⟩
  have bel := bel_step bel hb7
  have sz7 := hb7.size
  have Wr := Wr.go hb7
  have X0 := X0.go hb7
  have Gr := Gr.go hb7
  have Y0 := Y0.go hb7
  go_wp2_with fail
  refine (markTermS_c _ _ _ _ _ _ _ X0 (by omega) (by omega) (by omega)).mono ?_
  rintro e u8 ⟨rfl, X0, hg8⟩
  have bel := bel.grown hg8 bel.size fun g hg => by have := (X00.lt g hg).1; omega
  have sz8 := hg8.size
  have Wr := Wr.kept hg8 (blk_ne Wr0.lt X00.lt (by omega))
  have Gr := Gr.kept hg8 (blk_ne' X00.lt Gr0.lt (by omega))
  go_wp2_with fail
  refine (eqIntS_c _ _ _ _ _ _ _ _ _ _ Gr.rd Wr.rd).mono ?_
  rintro e u9 ⟨rfl, hb9⟩
  have bel := bel_step bel hb9
  have sz9 := hb9.size
  have Wr := Wr.go hb9
  have X0 := X0.go hb9
  have Gr := Gr.go hb9
  go_wp2_with fail
  refine (markIntS_c _ _ _ _ _ _ _ Gr (by omega) (by omega) (by omega)).mono ?_
  rintro e u10 ⟨rfl, Gr, hg10⟩
  have bel := bel.grown hg10 bel.size fun g hg => by have := (Gr0.lt g hg).1; omega
  have sz10 := hg10.size
  have Wr := Wr.kept hg10 (blk_ne Wr0.lt Gr0.lt (by omega))
  go_wp2_with fail
  refine (heldIntS_c _ _ _ _ _ _ Gr.rd (by omega) (by omega) (by omega)).mono ?_
  rintro e u11 ⟨rfl, hb11⟩
  have bel := bel_step bel hb11
  have sz11 := hb11.size
  have Wr := Wr.go hb11
  have Gr := Gr.go hb11
  go_wp2_with fail
  refine (toTermS_c _ _ _ _ _ _ (r0.below bel) bel.size (by omega)).mono ?_
  rintro e u12 ⟨AZ0, nZ0, cZ0, rfl, Z0, hb12, qZ0⟩
  have bel := bel_step bel hb12
  have sz12 := hb12.size
  have Wr := Wr.go hb12
  have Gr := Gr.go hb12
  have Z00 := Z0
  have eZ0 : nZ0 ≤ 1048576 := by have := Z0.len; have := r0.len; omega
  go_wp2_with fail
  refine (implRowOf_c _ _ _ _ _ _ Z0.rd eZ0).mono ?_
  rintro e u13 ⟨AHr, nHr, cHr, rfl, Hr, hb13, qHr⟩
  have bel := bel_step bel hb13
  have sz13 := hb13.size
  have Wr := Wr.go hb13
  have Gr := Gr.go hb13
  have Z0 := Z0.go hb13
  have Hr0 := Hr
  go_wp2_with fail
  refine (eqIntS_c _ _ _ _ _ _ _ _ _ _ Hr.rd Wr.rd).mono ?_
  rintro e u14 ⟨rfl, hb14⟩
  have bel := bel_step bel hb14
  have sz14 := hb14.size
  have Wr := Wr.go hb14
  have Gr := Gr.go hb14
  have Hr := Hr.go hb14
  go_wp2_with fail
  refine (heldIntS_c _ _ _ _ _ _ Gr.rd (by omega) (by omega) (by omega)).mono ?_
  rintro e u15 ⟨rfl, hb15⟩
  have bel := bel_step bel hb15
  have sz15 := hb15.size
  have Wr := Wr.go hb15
  have Gr := Gr.go hb15
  have Hr := Hr.go hb15
  go_wp2_with fail
  go_ret
  exact ⟨rfl, bel⟩
end Go.Proofs.Ytfamemjlhgkneaa
