/- The law on the moved plane polynomial: both packages' functions against a plain one, and the walk of the law. -/
import Derived.Test.YtfamemjlhgkneaaWPlane3
import Derived.Test.YtfamemjlhgkneaaApp
namespace Go.Proofs.Ytfamemjlhgkneaa
open Go.RowKit
theorem toldPlane_c (A : Option Addr) (n c : Nat) (l : List Trm) (B : Nat) (w : World) (x : Bool) (hx : isPlane l = x) (h : RdT w B A n l) (hB : B ≤ w.heap.size) :
    Calls Try.prog 65 #[.slice A n c] w fun e w' => e = .returned (.tuple #[if x then .slice A n c else .slice none 0 0, .bool x]) ∧ Below w.heap.size w w' := by
  have H := Lib.hid hx
  clear hx
  cases x
  all_goals
    go_enter Try.func65, Try.ntmps65
    go_wp2_with (go_at_call 49; refine (isPlane_c _ _ _ _ _ _ h hB).mono ?_; rw [H.out]; rintro e w' ⟨rfl, hb⟩)
    go_ret2
    exact ⟨rfl, hb⟩
theorem plIf_c (A : Option Addr) (n c : Nat) (l : List Trm) (B : Nat) (w : World) (x : Bool) (hx : isPlane l = x) (h : RdT w B A n l) (hB : B ≤ w.heap.size) :
    Calls Try.prog 63 #[.slice A n c] w fun e w' => e = .returned (.tuple #[if x then .slice A n c else .slice none 0 0, .bool x]) ∧ Below w.heap.size w w' := by
  have H := Lib.hid hx
  clear hx
  cases x
  all_goals
    go_enter Try.func63, Try.ntmps63
    go_wp2_with (go_at_call 47; refine (plGood_c _ _ _ _ _ _ h hB).mono ?_; rw [H.out]; rintro e w' ⟨rfl, hb⟩)
    go_ret2
    exact ⟨rfl, hb⟩
set_option maxRecDepth 8192 in
theorem cloneT_c (A : Option Addr) (n c : Nat) (l : List Trm) (B : Nat) (w : World) (h : RdT w B A n l) (hB : B ≤ w.heap.size) (hn : 0 < n) (hn2 : n ≤ 1048576) :
    Calls Try.prog 64 #[.slice A n c] w (RetT 54 l w) := by
  obtain ⟨b, o, rfl, hbB, _⟩ := h.at_ hn
  obtain ⟨i0, hi, hz0, hz1, hz2⟩ := info_parts info_trm
  have HI := Lib.hid hi
  have HZ0 := Lib.hid hz0
  have HZ1 := Lib.hid hz1
  have HZ2 := Lib.hid hz2
  clear hi hz0 hz1 hz2
  have own0 := OwnF.empty w 54 3 (Nat.le_refl w.heap.size)
  have bel0 := bel_new w (.cells #[] 54)
  have h1 : RdT (w.alloc (.cells #[] 54)) B (some ⟨b, o, none⟩) n l := h.below (bel0.mono hB)
  have HC := Lib.hid (RdF.cells h1 hn)
  have HF := Lib.hid (RdF.len h1)
  have hnil := fun (w : World) => Lib.run_eql_slice_nil (P := Try.prog) w 25 54 (some ⟨b, o, none⟩) n c 0 0 Try.underlying25
  go_enter Try.func64, Try.ntmps64
  go_wp2_with (at_builtin; refine wp_appSF rfl _ _ 25 rfl w.heap.size 54 3 i0 _ Try.underlying25 HI.out HZ0.out HZ1.out HZ2.out (by omega) (by omega) rfl _ 0 [] rfl own0 b o n c (flatT l) HF.out rfl HC.out (by omega) bel0.size ?_)
  intro v' w1 g1 g2 _
  have bel := bel0.trans g2
  have own : OwnT w1 w.heap.size 54 v' n l := g1
  clear g1 g2 own0 bel0
  go_wp2_with fail
  go_ret
  exact retT_mk own bel (by omega)
theorem valsT_at (l : List Trm) (x y : Int) : ∀ k j, j < k → (valsT l x y k).getD j 0 = valT (l.getD j (0, 0, 0)) x y
  | 0, j, h => absurd h (by omega)
  | k + 1, j, h => by
    rw [valsT]
    by_cases e : j = k
    · subst e
      rw [getD_app_r (by rw [valsT_len]; exact Nat.le_refl _), valsT_len, Nat.sub_self]
      rfl
    · rw [getD_app_l (by rw [valsT_len]; omega), valsT_at l x y k j (by omega)]
theorem pMove_no {l : List Trm} {x y : Int} (h : (isPlane l && (isFin x && isFin y)) = false) : pMove l x y = ([], false) := by rw [pMove, h]; rfl
theorem toldPl_yes {l : List Trm} (h : isPlane l = true) : toldPl l = (l, true) := by rw [toldPl, h]; rfl
theorem toldPl_no {l : List Trm} (h : isPlane l = false) : toldPl l = ([], false) := by rw [toldPl, h]; rfl
set_option maxRecDepth 8192 in
set_option maxHeartbeats 1000000 in
theorem implMovePlane_c (A : Option Addr) (n c : Nat) (l : List Trm) (x y : Int) (w : World) (h : RdT w w.heap.size A n l) (_hn : n ≤ 1048576) :
    Calls Try.prog 30 #[.slice A n c, .int .i64 x, .int .i64 y] w (RetTB 54 (pMove l x y).1 (pMove l x y).2 w) := by
  cases hp : isPlane l
  · have H := Lib.hid (pMove_no (l := l) (x := x) (y := y) (by rw [hp]; rfl))
    have HP := Lib.hid hp
    clear hp
    go_enter Try.func30, Try.ntmps30
    go_wp2_with (go_at_call 49; refine (isPlane_c _ _ _ _ _ _ h (Nat.le_refl _)).mono ?_; rw [HP.out]; rintro e w1 ⟨rfl, hb⟩)
    go_ret2
    rw [H.out]
    exact retTB_mk (OwnT.nil _ _ _) hb (by omega)
  cases hf : [x, y].all isFin
  · have hf' : (isFin x && isFin y) = false := by simpa using hf
    have H := Lib.hid (pMove_no (l := l) (x := x) (y := y) (by rw [hp, hf']; rfl))
    have HP := Lib.hid hp
    have HF := Lib.hid hf
    clear hp hf hf'
    go_enter Try.func30, Try.ntmps30
    go_wp2_with fail
    refine (isPlane_c _ _ _ _ _ _ h (Nat.le_refl _)).mono ?_; rw [HP.out]; rintro e w1 ⟨rfl, hb⟩
    have R := Rd.lit w1 [x, y] 3 (two_le _ _)
    have bel := hb.alloc hb.size (.cells #[.int .i64 x, .int .i64 y] 3)
    go_wp2_with (go_at_call 55; refine (areFinite_c _ _ _ _ _ _ R).mono ?_; rw [HF.out]; rintro e w' ⟨rfl, rfl⟩)
    go_ret2
    rw [H.out]
    exact retTB_mk (OwnT.nil _ _ _) bel (by omega)
  · obtain ⟨hx, hy⟩ : isFin x = true ∧ isFin y = true := by simpa using hf
    have H : Hid (pMove l x y = toldPl (movTo l x y l.length)) := Lib.hid (by rw [pMove, hp, hx, hy]; rfl)
    have hl := isPlane_len hp
    have HN := Lib.hid (show l.length = n from h.len)
    rw [HN.out] at hl
    have HP := Lib.hid hp
    have HF := Lib.hid hf
    have HX := Lib.hid hx
    have HY := Lib.hid hy
    clear hp hf hx hy
    go_enter Try.func30, Try.ntmps30
    go_wp2_with fail
    refine (isPlane_c _ _ _ _ _ _ h (Nat.le_refl _)).mono ?_; rw [HP.out]; rintro e w1 ⟨rfl, hb⟩
    have R := Rd.lit w1 [x, y] 3 (two_le _ _)
    have bel := hb.alloc hb.size (.cells #[.int .i64 x, .int .i64 y] 3)
    go_wp2_with fail
    refine (areFinite_c _ _ _ _ _ _ R).mono ?_; rw [HF.out]; rintro e w' ⟨rfl, rfl⟩
    go_wp2_with fail
    refine (cloneT_c _ _ _ _ _ _ (h.go bel (Nat.le_refl _)) bel.size (by omega) (by omega)).mono ?_; rintro e w2 ⟨A2, n2, c2, rfl, own2, hb2, hn2⟩
    have hsz2 := bel.size
    have hsz2' := hb2.size
    have bel2 := bel_step bel hb2
    obtain rfl : n = n2 := HN.out.symm.trans own2.len
    have own2 := own2.more hsz2
    clear R bel hb hb2
    go_wp2_with fail
    refine (planeValues_c _ _ _ _ _ _ _ _ (h.go bel2 (Nat.le_refl _)) bel2.size HP.out HX.out HY.out).mono ?_; rintro e w3 ⟨A3, n3, c3, rfl, own3, hb3, hn3⟩
    have hv : n3 = n := by have := own3.len; rw [valsT_len, HN.out] at this; exact this.symm
    subst hv
    have own2' := own2.go hb3
    have bel3 := bel_step bel2 hb3
    have HNE := Lib.hid (blk_ne' own2.lt own3.lt (Nat.le_refl _))
    obtain ⟨g, rfl⟩ := own2.head (by omega)
    have hsz3 := hb3.size
    have hn1 : 1 ≤ n3 := hl.1
    clear own2 hb3 bel2
    go_wp2_with fail
    go_loopw [28] (fun i wr => ∃ k : Nat, k ≤ n3 ∧ i = .int .i64 k ∧ OwnF wr w.heap.size 54 3 (.slice (some ⟨g, 0, none⟩) n3 c2) n3 (flatT (movTo l x y k ++ l.drop k)) ∧ w3.grownBy wr (some g)) (fun i _ => n3 - (intOf i).toNat)
    case atStart => exact ⟨0, Nat.zero_le _, rfl, own2', World.grownBy.refl _ _⟩
    case round =>
      clear own2'
      obtain ⟨k, hk, rfl, hown, hg⟩ := hrel
      have own4 := own3.kept hg HNE.out
      have hgb := hown.there.2
      by_cases hlt : k < n3
      · obtain ⟨ad, rfl, _, hc⟩ := own4.rd.at_ hlt
        have HV : Hid ((valsT l x y l.length).getD k 0 = valT (l.getD k (0, 0, 0)) x y) := Lib.hid (valsT_at _ _ _ _ _ (by rw [HN.out]; exact hlt))
        rw [HV.out] at hc
        have f2 := hown.frozenAt (k * 3 + 2)
        have g2 := hown.getAt (k * 3 + 2) (by omega)
        have o2 := ownF_eq (hown.set_ (k * 3 + 2) (valT (l.getD k (0, 0, 0)) x y)) (mov_step HN.out hlt)
        have k2 := grown_trans hg (hown.set_grown (k * 3 + 2) (valT (l.getD k (0, 0, 0)) x y))
        generalize valT (l.getD k (0, 0, 0)) x y = z at *
        clear hown own4 own3 hg
        go_wp2_with fail
        go_roundw
        case rel => exact ⟨k + 1, by omega, by go_num, o2, k2⟩
        case measure => simp [intOf]; omega
      · have HE : Hid (movTo l x y k ++ l.drop k = movTo l x y l.length) := Lib.hid (by rw [List.drop_of_length_le (by rw [HN.out]; omega), List.append_nil, HN.out, show k = n3 from by omega])
        rw [HE.out] at hown
        have hown : OwnT wr w.heap.size 54 (.slice (some ⟨g, 0, none⟩) n3 c2) n3 (movTo l x y l.length) := hown
        have bel4 := bel3.grown hg bel3.size fun q hq => by cases hq; exact hgb
        have hrd := hown.rd
        cases hq : isPlane (movTo l x y l.length)
        · have HT := Lib.hid (toldPl_no hq)
          have HQ := Lib.hid hq
          clear hq own4 own3
          go_wp2_with fail
          refine (toldPlane_c _ _ _ _ _ _ false HQ.out hrd (Nat.le_refl _)).mono ?_; rintro e w5 ⟨rfl, hb5⟩
          go_wp2_with fail
          go_ret2
          rw [H.out, HT.out]
          exact retTB_mk (OwnT.nil _ _ _) (bel_step bel4 hb5) (by omega)
        · have HT := Lib.hid (toldPl_yes hq)
          have HQ := Lib.hid hq
          clear hq own4 own3
          go_wp2_with fail
          refine (toldPlane_c _ _ _ _ _ _ true HQ.out hrd (Nat.le_refl _)).mono ?_; rintro e w5 ⟨rfl, hb5⟩
          go_wp2_with fail
          go_ret2
          rw [H.out, HT.out]
          exact retTB_mk (hown.go hb5) (bel_step bel4 hb5) (by omega)
set_option maxRecDepth 8192 in
set_option maxHeartbeats 1000000 in
theorem specMovePlane_c (A : Option Addr) (n c : Nat) (l : List Trm) (x y : Int) (w : World) (h : RdT w w.heap.size A n l) (_hn : n ≤ 1048576) :
    Calls Try.prog 29 #[.slice A n c, .int .i64 x, .int .i64 y] w (RetTB 54 (pMove l x y).1 (pMove l x y).2 w) := by
  cases hp : isPlane l
  · have H := Lib.hid (pMove_no (l := l) (x := x) (y := y) (by rw [hp]; rfl))
    have HP := Lib.hid hp
    clear hp
    go_enter Try.func29, Try.ntmps29
    go_wp2_with (go_at_call 47; refine (plGood_c _ _ _ _ _ _ h (Nat.le_refl _)).mono ?_; rw [HP.out]; rintro e w1 ⟨rfl, hb⟩)
    go_ret2
    rw [H.out]
    exact retTB_mk (OwnT.nil _ _ _) hb (by omega)
  cases hx : isFin x
  · have H := Lib.hid (pMove_no (l := l) (x := x) (y := y) (by rw [hp, hx]; rfl))
    have HP := Lib.hid hp
    have HX := Lib.hid hx
    clear hp hx
    go_enter Try.func29, Try.ntmps29
    go_wp2_with (first
      | (go_at_call 47; refine (plGood_c _ _ _ _ _ _ h (Nat.le_refl _)).mono ?_; rw [HP.out]; rintro e w1 ⟨rfl, hb⟩)
      | (go_at_call 62; refine (poFinite_c _ _).mono ?_; rw [HX.out]; rintro e w' ⟨rfl, rfl⟩))
    go_ret2
    rw [H.out]
    exact retTB_mk (OwnT.nil _ _ _) hb (by omega)
  cases hy : isFin y
  · have H := Lib.hid (pMove_no (l := l) (x := x) (y := y) (by rw [hp, hx, hy]; rfl))
    have HP := Lib.hid hp
    have HX := Lib.hid hx
    have HY := Lib.hid hy
    clear hp hx hy
    go_enter Try.func29, Try.ntmps29
    go_wp2_with fail
    refine (plGood_c _ _ _ _ _ _ h (Nat.le_refl _)).mono ?_; rw [HP.out]; rintro e w1 ⟨rfl, hb⟩
    go_wp2_with fail
    refine (poFinite_c _ _).mono ?_; rw [HX.out]; rintro e w' ⟨rfl, rfl⟩
    go_wp2_with fail
    refine (poFinite_c _ _).mono ?_; rw [HY.out]; rintro e w' ⟨rfl, rfl⟩
    go_wp2_with fail
    go_ret2
    rw [H.out]
    exact retTB_mk (OwnT.nil _ _ _) hb (by omega)
  have H : Hid (pMove l x y = toldPl (movTo l x y l.length)) := Lib.hid (by rw [pMove, hp, hx, hy]; rfl)
  have hl := isPlane_len hp
  have HN := Lib.hid (show l.length = n from h.len)
  rw [HN.out] at hl
  have HT := Lib.hid fun (k : Nat) (hk : k < n) => isPlane_trm hp (by rw [HN.out]; exact hk)
  have HB := Lib.hid fun (k : Nat) (hk : k < n) => valT_bd (isPlane_trm hp (by rw [HN.out]; exact hk)) hx hy
  have bx := (isFin_iff x).1 hx
  have byy := (isFin_iff y).1 hy
  have HP := Lib.hid hp
  have HX := Lib.hid hx
  have HY := Lib.hid hy
  clear hp hx hy
  obtain ⟨i0, hi, hz0, hz1, hz2⟩ := info_parts info_trm
  have HI := Lib.hid hi
  have HZ0 := Lib.hid hz0
  have HZ1 := Lib.hid hz1
  have HZ2 := Lib.hid hz2
  clear hi hz0 hz1 hz2
  go_enter Try.func29, Try.ntmps29
  go_wp2_with fail
  refine (plGood_c _ _ _ _ _ _ h (Nat.le_refl _)).mono ?_; rw [HP.out]; rintro e w1 ⟨rfl, hb⟩
  go_wp2_with fail
  refine (poFinite_c _ _).mono ?_; rw [HX.out]; rintro e w' ⟨rfl, rfl⟩
  go_wp2_with fail
  refine (poFinite_c _ _).mono ?_; rw [HY.out]; rintro e w' ⟨rfl, rfl⟩
  go_wp2_with fail
  go_loopw [8, 26] (fun v i wr => ∃ k : Nat, k ≤ n ∧ i = .int .i64 k ∧ OwnT wr w.heap.size 54 v k (movTo l x y k) ∧ Below w.heap.size w wr) (fun _ i _ => n - (intOf i).toNat)
  case atStart => exact ⟨0, Nat.zero_le _, rfl, OwnT.nil _ _ _, hb⟩
  case round =>
    clear hb
    obtain ⟨k, hk, rfl, hown, hbel⟩ := hrel
    have hsz := hbel.size
    by_cases hlt : k < n
    · obtain ⟨b, o, rfl, _, c0, c1, c2⟩ := (h.below hbel).at_ hlt
      obtain ⟨⟨t0, t1⟩, ⟨t2, t3⟩, t4, t5⟩ := HT.out k hlt
      have hbb := HB.out k hlt
      have HM : Hid (movTo l x y (k + 1) = movTo l x y k ++ [((l.getD k (0, 0, 0)).1, (l.getD k (0, 0, 0)).2.1, valT (l.getD k (0, 0, 0)) x y)]) := Lib.hid rfl
      rw [valT] at hbb HM
      generalize (l.getD k (0, 0, 0)).1 = x0 at *
      generalize (l.getD k (0, 0, 0)).2.1 = x1 at *
      generalize (l.getD k (0, 0, 0)).2.2 = x2 at *
      have m0 := mul6 t0 t1 bx.1 bx.2
      have m1 := mul6 t2 (by omega) byy.1 byy.2
      rw [Int.add_assoc] at HM
      have bel := hbel.alloc hbel.size (.cells #[.int .i64 x0, .int .i64 x1, .int .i64 (x2 + (x0 * x + x1 * y))] 54)
      have own := hown.new (.cells #[.int .i64 x0, .int .i64 x1, .int .i64 (x2 + (x0 * x + x1 * y))] 54)
      have hz : w.heap.size ≤ (wr.alloc (.cells #[.int .i64 x0, .int .i64 x1, .int .i64 (x2 + (x0 * x + x1 * y))] 54)).heap.size := bel.size
      go_wp2_with (at_builtin; refine wp_appT rfl _ _ 25 rfl w.heap.size 54 i0 Try.underlying25 HI.out HZ0.out HZ1.out HZ2.out _ _ _ rfl own _ _ _ (by rw [World.size_alloc]; rfl) (by omega) hz ?_)
      intro v' w5 h1 hb5 _
      have hbel' := bel.trans hb5
      rw [← HM.out] at h1
      clear hown hbel hb5 own bel hz
      go_wp2_with fail
      go_roundw
      case rel => exact ⟨k + 1, by omega, by go_num, h1, hbel'⟩
      case measure => simp [intOf]; omega
    · have HE : Hid (movTo l x y l.length = movTo l x y k) := Lib.hid (by rw [HN.out, show n = k from by omega])
      obtain ⟨A1, c1, rfl⟩ := hown.shape
      have hrd := hown.rd
      cases hq : isPlane (movTo l x y k)
      · have HT := Lib.hid (toldPl_no hq)
        have HQ := Lib.hid hq
        clear hq
        go_wp2_with fail
        refine (plIf_c _ _ _ _ _ _ false HQ.out hrd (Nat.le_refl _)).mono ?_; rintro e w5 ⟨rfl, hb5⟩
        go_wp2_with fail
        go_ret2
        rw [H.out, HE.out, HT.out]
        exact retTB_mk (OwnT.nil _ _ _) (bel_step hbel hb5) (by omega)
      · have HT := Lib.hid (toldPl_yes hq)
        have HQ := Lib.hid hq
        clear hq
        go_wp2_with fail
        refine (plIf_c _ _ _ _ _ _ true HQ.out hrd (Nat.le_refl _)).mono ?_; rintro e w5 ⟨rfl, hb5⟩
        go_wp2_with fail
        go_ret2
        rw [H.out, HE.out, HT.out]
        exact retTB_mk (hown.go hb5) (bel_step hbel hb5) (by omega)
theorem walk_FnExactMovePlane (A0 : Option Addr) (n0 c0 : Nat) (z0 : List Trm) (a1 : Int) (a2 : Int) (w : World) (r0 : RdT w w.heap.size A0 n0 z0) (w1 : (Lit.int .i64 a1).wf = true) (w2 : (Lit.int .i64 a2).wf = true) :
  Calls Try.prog 7 #[.slice A0 n0 c0, .int .i64 a1, .int .i64 a2] w fun e w' => e = .returned (.bool true) ∧ Below w.heap.size w w' := by
  have _w := w1
  have _w := w2
  have l0 := r0.le
  by_cases s0 : (n0 : Int) ≤ 1048576
  rotate_left
  · go_enter Try.func7, Try.ntmps7
    go_wp2_with fail
    refine (szTermS_no _ _ _ _ _ (by omega) (by omega) (by omega)).mono ?_; rintro e w' ⟨rfl, rfl⟩
    go_wp2_with fail
    go_ret
    exact ⟨rfl, Below.refl _ _⟩
  go_enter Try.func7, Try.ntmps7
  have bel : Below w.heap.size w w := Below.refl _ _
  go_wp2_with fail
  refine (szTermS_yes _ _ _ _ _ (by omega) (by omega)).mono ?_; rintro e w' ⟨rfl, rfl⟩
  go_wp2_with fail
  refine (toTermS_c _ _ _ _ _ _ (r0.below bel) bel.size (by omega)).mono ?_
  rintro e u1 ⟨AT0, nT0, cT0, rfl, T0, hb1, qT0⟩
  have bel := bel_step bel hb1
  have sz1 := hb1.size
  have T00 := T0
  have eT0 : nT0 ≤ 1048576 := by have := T0.len; have := r0.len; omega
  go_wp2_with fail
  refine (specMovePlane_c _ _ _ _ _ _ _ T0.rd eT0).mono ?_
  rintro e u2 ⟨AWr, nWr, cWr, rfl, Wr, hb2, qWr⟩
  have bel := bel_step bel hb2
  have sz2 := hb2.size
  have T0 := T0.go hb2
  have Wr0 := Wr
  go_wp2_with fail
  refine (toTermS_c _ _ _ _ _ _ (r0.below bel) bel.size (by omega)).mono ?_
  rintro e u3 ⟨AX0, nX0, cX0, rfl, X0, hb3, qX0⟩
  have bel := bel_step bel hb3
  have sz3 := hb3.size
  have Wr := Wr.go hb3
  have X00 := X0
  have eX0 : nX0 ≤ 1048576 := by have := X0.len; have := r0.len; omega
  go_wp2_with fail
  refine (implMovePlane_c _ _ _ _ _ _ _ X0.rd eX0).mono ?_
  rintro e u4 ⟨AGr, nGr, cGr, rfl, Gr, hb4, qGr⟩
  have bel := bel_step bel hb4
  have sz4 := hb4.size
  have Wr := Wr.go hb4
  have X0 := X0.go hb4
  have Gr0 := Gr
  go_wp2_with fail
  refine (eqTermS_c _ _ _ _ _ _ _ _ _ _ Gr.rd Wr.rd (Nat.le_refl _) (Nat.le_refl _)).mono ?_
  rintro e u5 ⟨rfl, hb5⟩
  have bel := bel_step bel hb5
  have sz5 := hb5.size
  have Wr := Wr.go hb5
  have X0 := X0.go hb5
  have Gr := Gr.go hb5
  go_wp2_with fail
  refine (toTermS_c _ _ _ _ _ _ (r0.below bel) bel.size (by omega)).mono ?_
  rintro e u6 ⟨AY0, nY0, cY0, rfl, Y0, hb6, qY0⟩
  have bel := bel_step bel hb6
  have sz6 := hb6.size
  have Wr := Wr.go hb6
  have X0 := X0.go hb6
  have Gr := Gr.go hb6
  have Y00 := Y0
  have eY0 : nY0 ≤ 1048576 := by have := Y0.len; have := r0.len; omega
  go_wp2_with fail
  refine (eqTermS_c _ _ _ _ _ _ _ _ _ _ X0.rd Y0.rd (Nat.le_refl _) (Nat.le_refl _)).mono ?_
  rintro e u7 ⟨rfl, hb7⟩
  have bel := bel_step bel hb7
  have sz7 := hb7.size
  have Wr := Wr.go hb7
  have X0 := X0.go hb7
  have Gr := Gr.go hb7
  have Y0 := Y0.go hb7
  go_wp2_with fail
  refine (markTermS_c _ _ _ _ _ _ _ X0 (by omega) (by omega) (by omega)).mono ?_
  rintro e u8 ⟨rfl, X0, hg8⟩
  have bel := bel.grown hg8 bel.size fun g hg => by have := (X00.lt g hg).1; omega
  have sz8 := hg8.size
  have Wr := Wr.kept hg8 (blk_ne Wr0.lt X00.lt (by omega))
  have Gr := Gr.kept hg8 (blk_ne' X00.lt Gr0.lt (by omega))
  go_wp2_with fail
  refine (eqTermS_c _ _ _ _ _ _ _ _ _ _ Gr.rd Wr.rd (Nat.le_refl _) (Nat.le_refl _)).mono ?_
  rintro e u9 ⟨rfl, hb9⟩
  have bel := bel_step bel hb9
  have sz9 := hb9.size
  have Wr := Wr.go hb9
  have X0 := X0.go hb9
  have Gr := Gr.go hb9
  go_wp2_with fail
  refine (markTermS_c _ _ _ _ _ _ _ Gr (by omega) (by omega) (by omega)).mono ?_
  rintro e u10 ⟨rfl, Gr, hg10⟩
  have bel := bel.grown hg10 bel.size fun g hg => by have := (Gr0.lt g hg).1; omega
  have sz10 := hg10.size
  have Wr := Wr.kept hg10 (blk_ne Wr0.lt Gr0.lt (by omega))
  go_wp2_with fail
  refine (heldTermS_c _ _ _ _ _ _ Gr.rd (by omega) (by omega) (by omega)).mono ?_
  rintro e u11 ⟨rfl, hb11⟩
  have bel := bel_step bel hb11
  have sz11 := hb11.size
  have Wr := Wr.go hb11
  have Gr := Gr.go hb11
  go_wp2_with fail
  refine (toTermS_c _ _ _ _ _ _ (r0.below bel) bel.size (by omega)).mono ?_
  rintro e u12 ⟨AZ0, nZ0, cZ0, rfl, Z0, hb12, qZ0⟩
  have bel := bel_step bel hb12
  have sz12 := hb12.size
  have Wr := Wr.go hb12
  have Gr := Gr.go hb12
  have Z00 := Z0
  have eZ0 : nZ0 ≤ 1048576 := by have := Z0.len; have := r0.len; omega
  go_wp2_with fail
  refine (implMovePlane_c _ _ _ _ _ _ _ Z0.rd eZ0).mono ?_
  rintro e u13 ⟨AHr, nHr, cHr, rfl, Hr, hb13, qHr⟩
  have bel := bel_step bel hb13
  have sz13 := hb13.size
  have Wr := Wr.go hb13
  have Gr := Gr.go hb13
  have Z0 := Z0.go hb13
  have Hr0 := Hr
  go_wp2_with fail
  refine (eqTermS_c _ _ _ _ _ _ _ _ _ _ Hr.rd Wr.rd (Nat.le_refl _) (Nat.le_refl _)).mono ?_
  rintro e u14 ⟨rfl, hb14⟩
  have bel := bel_step bel hb14
  have sz14 := hb14.size
  have Wr := Wr.go hb14
  have Gr := Gr.go hb14
  have Hr := Hr.go hb14
  go_wp2_with fail
  refine (heldTermS_c _ _ _ _ _ _ Gr.rd (by omega) (by omega) (by omega)).mono ?_
  rintro e u15 ⟨rfl, hb15⟩
  have bel := bel_step bel hb15
  have sz15 := hb15.size
  have Wr := Wr.go hb15
  have Gr := Gr.go hb15
  have Hr := Hr.go hb15
  go_wp2_with fail
  go_ret
  exact ⟨rfl, bel⟩
end Go.Proofs.Ytfamemjlhgkneaa
