/- The walks of the functions on lists of numbers (both packages), each against its plain function. -/
import Derived.Test.YtmpeniplngfndaaNum
namespace Go.Proofs.Ytmpeniplngfndaa
open Go.RowKit
theorem info_int : (Try.prog.info? 3).map (fun i => (i.zero, i.size, i.bytes)) = some (some (.int .i64 0), 1, 8) := by kernel_rfl

theorem isList_c (A : Option Addr) (n c : Nat) (zs : List Int) (B : Nat) (w : World) (h : Rd w B A n zs) :
    Calls Try.prog 56 #[.slice A n c] w fun e w' => e = .returned (.bool (isList zs)) ∧ w = w' := by
  have hm := h.le
  have hl := h.len
  by_cases hn : n ≤ 20
  · have H : Hid (isList zs = zs.all isNum) := Lib.hid (by rw [isList, hl]; simp [hn])
    clear hl
    go_enter Try.func56, Try.ntmps56
    go_wp2_with (go_at_call 47; refine (areNumbers_c _ _ _ _ _ _ h).mono ?_; rintro e w' ⟨rfl, rfl⟩)
    go_ret
    exact ⟨retB H.out.symm, rfl⟩
  · have H : Hid (isList zs = false) := Lib.hid (by rw [isList, hl]; simp [hn])
    clear hl
    go_enter Try.func56, Try.ntmps56
    go_wp2_with fail
    go_ret
    exact ⟨retB H.out.symm, rfl⟩
theorem nuList_c (A : Option Addr) (n c : Nat) (zs : List Int) (B : Nat) (w : World) (h : Rd w B A n zs) :
    Calls Try.prog 54 #[.slice A n c] w fun e w' => e = .returned (.bool (isList zs)) ∧ w = w' := by
  have hm := h.le
  have HL := Lib.hid h.len
  go_enter Try.func54, Try.ntmps54
  go_wp2
  go_loop [7] (fun i => ∃ k : Nat, k ≤ n ∧ i = .int .i64 k ∧ Hid ((zs.take k).all isNum = true)) (fun i => n - (intOf i).toNat)
  case atStart => exact ⟨0, Nat.zero_le _, rfl, hid_take0 _ _⟩
  case round =>
    obtain ⟨k, hk, rfl, hall⟩ := hrel
    by_cases hlt : k < n
    · obtain ⟨ad, rfl, _, hc⟩ := h.at_ hlt
      have hkz : k < zs.length := by rw [HL.out]; exact hlt
      cases hp : isNum (zs.getD k 0)
      · have H : Hid (isList zs = false) := Lib.hid (by rw [isList, (all_stop hkz hp).out, Bool.and_false])
        have HP := Lib.hid hp
        clear hp hkz
        generalize zs.getD k 0 = z at *
        go_wp2_with (go_at_call 42; refine (nuGood_c _ _).mono ?_; rw [HP.out]; rintro e w' ⟨rfl, rfl⟩)
        go_ret
        exact ⟨retB H.out.symm, rfl⟩
      · have H := all_next hall hkz hp
        have HP := Lib.hid hp
        clear hp hkz
        generalize zs.getD k 0 = z at *
        go_wp2_with (go_at_call 42; refine (nuGood_c _ _).mono ?_; rw [HP.out]; rintro e w' ⟨rfl, rfl⟩)
        go_round
        case rel => exact ⟨k + 1, by omega, by go_num, H⟩
        case measure => simp [intOf]; omega
    · have H : Hid (isList zs = decide (n ≤ 20)) := Lib.hid (by rw [isList, all_done hall (by rw [HL.out]; omega), HL.out, Bool.and_true])
      by_cases h20 : n ≤ 20
      all_goals
        go_wp2
        go_ret
        exact ⟨retB (by rw [H.out]; simp [h20] <;> omega), rfl⟩
theorem sumOf_c (A : Option Addr) (n c : Nat) (zs : List Int) (B : Nat) (w : World) (h : Rd w B A n zs) :
    Calls Try.prog 57 #[.slice A n c] w fun e w' => e = .returned (.int .i64 (least zs)) ∧ w = w' := by
  have hm := h.le
  have HL := Lib.hid h.len
  go_enter Try.func57, Try.ntmps57
  go_wp2
  go_loop [3, 8] (fun o i => ∃ k : Nat, k ≤ n ∧ i = .int .i64 k ∧ o = .int .i64 (leastTo zs k)) (fun _ i => n - (intOf i).toNat)
  case atStart => exact ⟨0, Nat.zero_le _, rfl, rfl⟩
  case round =>
    obtain ⟨k, hk, rfl, rfl⟩ := hrel
    by_cases hlt : k < n
    · obtain ⟨ad, rfl, _, hc⟩ := h.at_ hlt
      have H : Hid (leastTo zs (k + 1) = min (leastTo zs k) (zs.getD k 0)) := Lib.hid rfl
      generalize zs.getD k 0 = z at *
      go_wp2
      all_goals
        go_round
        case rel => exact ⟨k + 1, by omega, by go_num, by rw [H.out]; go_num⟩
        case measure => simp [intOf]; omega
    · have H : Hid (least zs = leastTo zs k) := Lib.hid (by rw [least, HL.out, show n = k from by omega])
      go_wp2
      go_ret
      exact ⟨retI H.out.symm, rfl⟩
theorem nuSum_c (A : Option Addr) (n c : Nat) (zs : List Int) (B : Nat) (w : World) (h : Rd w B A n zs) :
    Calls Try.prog 55 #[.slice A n c] w fun e w' => e = .returned (.int .i64 (least zs)) ∧ w = w' := by
  have hm := h.le
  have HL := Lib.hid h.len
  go_enter Try.func55, Try.ntmps55
  go_wp2
  go_loop [3, 8] (fun o i => ∃ k : Nat, k ≤ n ∧ i = .int .i64 k ∧ o = .int .i64 (leastTo zs k)) (fun _ i => n - (intOf i).toNat)
  case atStart => exact ⟨0, Nat.zero_le _, rfl, rfl⟩
  case round =>
    obtain ⟨k, hk, rfl, rfl⟩ := hrel
    by_cases hlt : k < n
    · obtain ⟨ad, rfl, _, hc⟩ := h.at_ hlt
      go_wp2_with (go_at_call 46; refine (l1Least_c _ _ _).mono ?_; rintro e w' ⟨rfl, rfl⟩)
      go_round
      case rel => exact ⟨k + 1, by omega, by go_num, rfl⟩
      case measure => simp [intOf]; omega
    · have H : Hid (least zs = leastTo zs k) := Lib.hid (by rw [least, HL.out, show n = k from by omega])
      go_wp2
      go_ret
      exact ⟨retI H.out.symm, rfl⟩
theorem placesOf_c (A : Option Addr) (n c : Nat) (zs : List Int) (m : Int) (B : Nat) (w : World) (h : Rd w B A n zs) (hB : B ≤ w.heap.size) (hsm : n ≤ 17592186040000) :
    Calls Try.prog 63 #[.slice A n c, .int .i64 m] w (RetOwn 3 (places zs m) w) := by
  have hm := h.le
  have HL := Lib.hid h.len
  obtain ⟨i0, hi, hz0, hz1, hz2⟩ := info_parts info_int
  have HI := Lib.hid hi
  have HZ0 := Lib.hid hz0
  have HZ1 := Lib.hid hz1
  have HZ2 := Lib.hid hz2
  clear hi hz0 hz1 hz2
  go_enter Try.func63, Try.ntmps63
  go_wp2
  go_loopw [5, 11] (fun v i wr => ∃ (k : Nat) (q : Nat), k ≤ n ∧ i = .int .i64 k ∧ q ≤ k ∧ Own wr w.heap.size 3 v q (placesTo zs m k) ∧ Below w.heap.size w wr) (fun _ i _ => n - (intOf i).toNat)
  case atStart => exact ⟨0, 0, Nat.zero_le _, rfl, Nat.le_refl _, Own.empty _ _ (Nat.le_refl _), bel_new _ _⟩
  case round =>
    obtain ⟨k, q, hk, rfl, hq, hown, hbel⟩ := hrel
    have hsz := hbel.size
    by_cases hlt : k < n
    · obtain ⟨ad, rfl, _, hc⟩ := (h.below (hbel.mono hB)).at_ hlt
      cases hp : (zs.getD k 0 == m)
      · have hown' := own_eq (zs' := placesTo zs m (k + 1)) hown (by rw [placesTo, if_neg (by simpa using hp)]; simp)
        generalize zs.getD k 0 = z at *
        clear hown
        go_wp2
        go_roundw
        case rel => exact ⟨k + 1, q, by omega, by go_num, by omega, hown', hbel⟩
        case measure => simp [intOf]; omega
      · have HP : Hid (placesTo zs m (k + 1) = placesTo zs m k ++ [(k : Int)]) := Lib.hid (by rw [placesTo, if_pos (by simpa using hp)])
        generalize zs.getD k 0 = z at *
        go_wp2_with (at_builtin; refine wp_app1 rfl _ _ 33 rfl w.heap.size 3 i0 Try.underlying33 HI.out HZ0.out HZ1.out HZ2.out _ _ _ rfl hown _ rfl (by omega) hsz ?_)
        intro v' w1 h1 hb1 _
        have hbel' := hbel.trans hb1
        rw [← HP.out] at h1
        clear hown hbel hb1
        go_wp2
        go_roundw
        case rel => exact ⟨k + 1, q + 1, by omega, by go_num, by omega, h1, hbel'⟩
        case measure => simp [intOf]; omega
    · have H : Hid (places zs m = placesTo zs m k) := Lib.hid (by rw [places, HL.out, show n = k from by omega])
      rw [← H.out] at hown
      go_wp2
      go_ret
      exact retOwn_mk hown hbel (by omega)
theorem nuPlaces_c (A : Option Addr) (n c : Nat) (zs : List Int) (B : Nat) (w : World) (h : Rd w B A n zs) (hB : B ≤ w.heap.size) (hsm : n ≤ 17592186040000) :
    Calls Try.prog 62 #[.slice A n c] w (RetOwn 3 (places zs (least zs)) w) := by
  have hm := h.le
  have HL := Lib.hid h.len
  obtain ⟨i0, hi, hz0, hz1, hz2⟩ := info_parts info_int
  have HI := Lib.hid hi
  have HZ0 := Lib.hid hz0
  have HZ1 := Lib.hid hz1
  have HZ2 := Lib.hid hz2
  clear hi hz0 hz1 hz2
  go_enter Try.func62, Try.ntmps62
  go_wp2_with (go_at_call 55; refine (nuSum_c _ _ _ _ _ _ h).mono ?_; rintro e w' ⟨rfl, rfl⟩)
  go_loopw [3, 11] (fun v i wr => ∃ (k : Nat) (q : Nat), k ≤ n ∧ i = .int .i64 k ∧ q ≤ k ∧ Own wr w.heap.size 3 v q (placesTo zs (least zs) k) ∧ Below w.heap.size w wr) (fun _ i _ => n - (intOf i).toNat)
  case atStart => exact ⟨0, 0, Nat.zero_le _, rfl, Nat.le_refl _, Own.nil _ _ _, Below.refl _ _⟩
  case round =>
    obtain ⟨k, q, hk, rfl, hq, hown, hbel⟩ := hrel
    have hsz := hbel.size
    by_cases hlt : k < n
    · obtain ⟨ad, rfl, _, hc⟩ := (h.below (hbel.mono hB)).at_ hlt
      cases hp : (zs.getD k 0 == least zs)
      · have hown' := own_eq (zs' := placesTo zs (least zs) (k + 1)) hown (by rw [placesTo, if_neg (by simpa using hp)]; simp)
        generalize zs.getD k 0 = z at *
        clear hown
        go_wp2
        go_roundw
        case rel => exact ⟨k + 1, q, by omega, by go_num, by omega, hown', hbel⟩
        case measure => simp [intOf]; omega
      · have HP : Hid (placesTo zs (least zs) (k + 1) = placesTo zs (least zs) k ++ [(k : Int)]) := Lib.hid (by rw [placesTo, if_pos (by simpa using hp)])
        generalize zs.getD k 0 = z at *
        go_wp2_with (at_builtin; refine wp_app1 rfl _ _ 33 rfl w.heap.size 3 i0 Try.underlying33 HI.out HZ0.out HZ1.out HZ2.out _ _ _ rfl hown _ rfl (by omega) hsz ?_)
        intro v' w1 h1 hb1 _
        have hbel' := hbel.trans hb1
        rw [← HP.out] at h1
        clear hown hbel hb1
        go_wp2
        go_roundw
        case rel => exact ⟨k + 1, q + 1, by omega, by go_num, by omega, h1, hbel'⟩
        case measure => simp [intOf]; omega
    · have H : Hid (places zs (least zs) = placesTo zs (least zs) k) := Lib.hid (by rw [places, HL.out, show n = k from by omega])
      rw [← H.out] at hown
      go_wp2
      go_ret
      exact retOwn_mk hown hbel (by omega)
theorem vanishes_c (A : Option Addr) (n c : Nat) (zs : List Int) (B : Nat) (w : World) (h : Rd w B A n zs) (hB : B ≤ w.heap.size) (hsm : n ≤ 17592186040000) :
    Calls Try.prog 59 #[.slice A n c] w fun e w' => e = .returned (.bool (pVan zs)) ∧ Below w.heap.size w w' := by
  have hm := h.le
  cases hp : (least zs == 1000000000)
  · have H : Hid (pVan zs = decide (1 < (places zs (least zs)).length)) := Lib.hid (by rw [pVan, hp, Bool.false_or])
    go_enter Try.func59, Try.ntmps59
    go_wp2_with (first
      | (go_at_call 57; refine (sumOf_c _ _ _ _ _ _ h).mono ?_; rintro e w' ⟨rfl, rfl⟩)
      | (go_at_call 63; refine (placesOf_c _ _ _ _ _ _ _ h hB hsm).mono ?_; rintro e w' ⟨A1, n1, c1, rfl, hown, hb, _⟩; have hn1 := Lib.hid hown.len; have hm1 := hown.le))
    go_ret
    exact ⟨retB (by rw [H.out, hn1.out]; simp <;> omega), hb⟩
  · have H : Hid (pVan zs = true) := Lib.hid (by rw [pVan, hp, Bool.true_or])
    go_enter Try.func59, Try.ntmps59
    go_wp2_with (first
      | (go_at_call 57; refine (sumOf_c _ _ _ _ _ _ h).mono ?_; rintro e w' ⟨rfl, rfl⟩))
    go_ret
    exact ⟨retB H.out.symm, Below.refl _ _⟩
theorem nuVanish_c (A : Option Addr) (n c : Nat) (zs : List Int) (B : Nat) (w : World) (h : Rd w B A n zs) (hB : B ≤ w.heap.size) (hsm : n ≤ 17592186040000) :
    Calls Try.prog 58 #[.slice A n c] w fun e w' => e = .returned (.bool (pVan zs)) ∧ Below w.heap.size w w' := by
  have hm := h.le
  cases hp : (least zs == 1000000000)
  · have H : Hid (pVan zs = decide (1 < (places zs (least zs)).length)) := Lib.hid (by rw [pVan, hp, Bool.false_or])
    go_enter Try.func58, Try.ntmps58
    go_wp2_with (first
      | (go_at_call 55; refine (nuSum_c _ _ _ _ _ _ h).mono ?_; rintro e w' ⟨rfl, rfl⟩)
      | (go_at_call 62; refine (nuPlaces_c _ _ _ _ _ _ h hB hsm).mono ?_; rintro e w' ⟨A1, n1, c1, rfl, hown, hb, _⟩; have hn1 := Lib.hid hown.len; have hm1 := hown.le))
    go_ret
    exact ⟨retB (by rw [H.out, hn1.out]; simp <;> omega), hb⟩
  · have H : Hid (pVan zs = true) := Lib.hid (by rw [pVan, hp, Bool.true_or])
    go_enter Try.func58, Try.ntmps58
    go_wp2_with (first
      | (go_at_call 55; refine (nuSum_c _ _ _ _ _ _ h).mono ?_; rintro e w' ⟨rfl, rfl⟩))
    go_ret
    exact ⟨retB H.out.symm, Below.refl _ _⟩
theorem nuDot_c (A A' : Option Addr) (n c c' : Nat) (xs ys : List Int) (B B' : Nat) (w : World) (h : Rd w B A n xs) (h' : Rd w B' A' n ys) (hx : xs.all isNum = true) (hy : ys.all isNum = true) :
    Calls Try.prog 60 #[.slice A n c, .slice A' n c'] w fun e w' => e = .returned (.int .i64 (dotTo xs ys xs.length)) ∧ w = w' := by
  have hm := h.le
  have HL := Lib.hid h.len
  have HL' := Lib.hid h'.len
  have HX := Lib.hid hx
  have HY := Lib.hid hy
  clear hx hy
  go_enter Try.func60, Try.ntmps60
  go_wp2
  go_loop [5, 10] (fun o i => ∃ k : Nat, k ≤ n ∧ i = .int .i64 k ∧ o = .int .i64 (dotTo xs ys k)) (fun _ i => n - (intOf i).toNat)
  case atStart => exact ⟨0, Nat.zero_le _, rfl, rfl⟩
  case round =>
    obtain ⟨k, hk, rfl, rfl⟩ := hrel
    by_cases hlt : k < n
    · obtain ⟨ad, rfl, _, hc⟩ := h.at_ hlt
      obtain ⟨ad', rfl, _, hc'⟩ := h'.at_ hlt
      have b1 := isNum_bd (List.all_eq_true.1 HX.out _ (getD_mem (show k < xs.length by rw [HL.out]; exact hlt)))
      have b2 := isNum_bd (List.all_eq_true.1 HY.out _ (getD_mem (show k < ys.length by rw [HL'.out]; exact hlt)))
      have H : Hid (dotTo xs ys (k + 1) = min (dotTo xs ys k) (prod (xs.getD k 0) (ys.getD k 0))) := Lib.hid rfl
      generalize xs.getD k 0 = x at *
      generalize ys.getD k 0 = y at *
      go_wp2_with (first
        | (go_at_call 68; refine (nuPlus_c _ _ _ (by omega) (by omega) (by omega) (by omega)).mono ?_; rintro e w' ⟨rfl, rfl⟩)
        | (go_at_call 46; refine (l1Least_c _ _ _).mono ?_; rintro e w' ⟨rfl, rfl⟩))
      go_round
      case rel => exact ⟨k + 1, by omega, by go_num, by rw [H.out]⟩
      case measure => simp [intOf]; omega
    · have H : Hid (dotTo xs ys xs.length = dotTo xs ys k) := Lib.hid (by rw [HL.out, show n = k from by omega])
      go_wp2
      go_ret
      exact ⟨retI H.out.symm, rfl⟩
theorem dot_c (A A' : Option Addr) (n c c' : Nat) (xs ys : List Int) (B B' : Nat) (w : World) (h : Rd w B A n xs) (h' : Rd w B' A' n ys) (hx : xs.all isNum = true) (hy : ys.all isNum = true) :
    Calls Try.prog 61 #[.slice A n c, .slice A' n c'] w fun e w' => e = .returned (.int .i64 (dotTo xs ys xs.length)) ∧ Below w.heap.size w w' := by
  have hm := h.le
  have HL := Lib.hid h.len
  have HL' := Lib.hid h'.len
  have HX := Lib.hid hx
  have HY := Lib.hid hy
  clear hx hy
  go_enter Try.func61, Try.ntmps61
  go_wp2
  go_loopw [5, 9] (fun o i wr => ∃ k q : Nat, k ≤ n ∧ i = .int .i64 k ∧ o = .int .i64 (dotTo xs ys k) ∧ wr = w.drewN q) (fun _ i _ => n - (intOf i).toNat)
  case atStart => exact ⟨0, 0, Nat.zero_le _, rfl, rfl, rfl⟩
  case round =>
    obtain ⟨k, q, hk, rfl, rfl, rfl⟩ := hrel
    by_cases hlt : k < n
    · obtain ⟨ad, rfl, _, hc⟩ := h.at_ hlt
      obtain ⟨ad', rfl, _, hc'⟩ := h'.at_ hlt
      have b1 := isNum_bd (List.all_eq_true.1 HX.out _ (getD_mem (show k < xs.length by rw [HL.out]; exact hlt)))
      have b2 := isNum_bd (List.all_eq_true.1 HY.out _ (getD_mem (show k < ys.length by rw [HL'.out]; exact hlt)))
      have H : Hid (dotTo xs ys (k + 1) = min (dotTo xs ys k) (prod (xs.getD k 0) (ys.getD k 0))) := Lib.hid rfl
      have h0 : (0 : Int) ≤ (k : Int) := by omega
      have h1 : (k : Int) < (n : Int) := by omega
      generalize xs.getD k 0 = x at *
      generalize ys.getD k 0 = y at *
      generalize dotTo xs ys k = d at *
      by_cases hd : prod x y < d
      all_goals
        go_wp2_with fail
        go_quiet ((go_at_call 51; exact quiet_l2 (product_c _ _ _ (by omega) (by omega) (by omega) (by omega))))
        go_wp2
        go_roundw
        case rel => exact ⟨k + 1, _, by omega, by go_num, by rw [H.out]; go_num, rfl⟩
        case measure => simp [intOf]; omega
    · have H : Hid (dotTo xs ys xs.length = dotTo xs ys k) := Lib.hid (by rw [HL.out, show n = k from by omega])
      go_wp2
      go_ret
      exact ⟨retI H.out.symm, below_drewN (Below.refl _ _) _⟩
theorem shifted_c (A : Option Addr) (n c : Nat) (zs : List Int) (d : Int) (B : Nat) (w : World) (h : Rd w B A n zs) (hB : B ≤ w.heap.size) (hsm : n ≤ 17592186040000) (hz : zs.all isNum = true) (hd : -1000000000 ≤ d) (hd' : d ≤ 1000000000) :
    Calls Try.prog 67 #[.slice A n c, .int .i64 d] w (RetOwn 3 (shifted zs d) w) := by
  have hm := h.le
  have HL := Lib.hid h.len
  have HX := Lib.hid hz
  clear hz
  obtain ⟨i0, hi, hz0, hz1, hz2⟩ := info_parts info_int
  have HI := Lib.hid hi
  have HZ0 := Lib.hid hz0
  have HZ1 := Lib.hid hz1
  have HZ2 := Lib.hid hz2
  clear hi hz0 hz1 hz2
  go_enter Try.func67, Try.ntmps67
  go_wp2_with (at_make; refine wp_mk0 rfl _ _ 33 rfl w.heap.size 3 i0 Try.underlying33 HI.out HZ0.out HZ1.out HZ2.out _ _ _ n rfl rfl rfl hsm (Nat.le_refl _) ?_)
  intro w0 own0 bel0
  go_wp2
  go_loopw [5, 13] (fun v i wr => ∃ k : Nat, k ≤ n ∧ i = .int .i64 k ∧ Own wr w.heap.size 3 v k (shifted (zs.take k) d) ∧ Below w.heap.size w wr) (fun _ i _ => n - (intOf i).toNat)
  case atStart => exact ⟨0, Nat.zero_le _, rfl, own0, bel0⟩
  case round =>
    obtain ⟨k, hk, rfl, hown, hbel⟩ := hrel
    have hsz := hbel.size
    by_cases hlt : k < n
    · obtain ⟨ad, rfl, _, hc⟩ := (h.below (hbel.mono hB)).at_ hlt
      have hkz : k < zs.length := by rw [HL.out]; exact hlt
      have b1 := isNum_bd (List.all_eq_true.1 HX.out _ (getD_mem hkz))
      have HP : Hid (shifted (zs.take (k + 1)) d = shifted (zs.take k) d ++ [prod (zs.getD k 0) d]) := Lib.hid (by rw [take_next hkz]; simp [shifted])
      clear hkz
      generalize zs.getD k 0 = z at *
      go_wp2_with (first
        | (go_at_call 51; refine (product_c _ _ _ (by omega) (by omega) (by omega) (by omega)).mono ?_; rintro e w' ⟨rfl, rfl⟩)
        | (at_builtin; refine wp_app1 rfl _ _ 33 rfl w.heap.size 3 i0 Try.underlying33 HI.out HZ0.out HZ1.out HZ2.out _ _ _ rfl hown _ rfl (by omega) hsz ?_))
      intro v' w1 h1 hb1 _
      have hbel' := hbel.trans hb1
      rw [← HP.out] at h1
      clear hown hbel hb1
      go_wp2
      go_roundw
      case rel => exact ⟨k + 1, by omega, by go_num, h1, hbel'⟩
      case measure => simp [intOf]; omega
    · have H : Hid (zs.take k = zs) := Lib.hid (List.take_of_length_le (by rw [HL.out]; omega))
      rw [H.out] at hown
      go_wp2
      go_ret
      exact retOwn_mk hown hbel (by omega)
theorem nuShift_c (A : Option Addr) (n c : Nat) (zs : List Int) (d : Int) (B : Nat) (w : World) (h : Rd w B A n zs) (hB : B ≤ w.heap.size) (hsm : n ≤ 17592186040000) (hz : zs.all isNum = true) (hd : -1000000000 ≤ d) (hd' : d ≤ 1000000000) :
    Calls Try.prog 64 #[.slice A n c, .int .i64 d] w (RetOwnB 3 (toldList (shifted zs d)).1 (toldList (shifted zs d)).2 w) := by
  have hm := h.le
  have HL := Lib.hid h.len
  have HX := Lib.hid hz
  clear hz
  obtain ⟨i0, hi, hz0, hz1, hz2⟩ := info_parts info_int
  have HI := Lib.hid hi
  have HZ0 := Lib.hid hz0
  have HZ1 := Lib.hid hz1
  have HZ2 := Lib.hid hz2
  clear hi hz0 hz1 hz2
  go_enter Try.func64, Try.ntmps64
  go_wp2
  go_loopw [6, 13] (fun v i wr => ∃ k : Nat, k ≤ n ∧ i = .int .i64 k ∧ Own wr w.heap.size 3 v k (shifted (zs.take k) d) ∧ Below w.heap.size w wr ∧ Hid ((shifted (zs.take k) d).all isNum = true)) (fun _ i _ => n - (intOf i).toNat)
  case atStart => exact ⟨0, Nat.zero_le _, rfl, Own.nil _ _ _, Below.refl _ _, Lib.hid rfl⟩
  case round =>
    obtain ⟨k, hk, rfl, hown, hbel, hall⟩ := hrel
    have hsz := hbel.size
    by_cases hlt : k < n
    · obtain ⟨ad, rfl, _, hc⟩ := (h.below (hbel.mono hB)).at_ hlt
      have hkz : k < zs.length := by rw [HL.out]; exact hlt
      have b1 := isNum_bd (List.all_eq_true.1 HX.out _ (getD_mem hkz))
      have HP : Hid (shifted (zs.take (k + 1)) d = shifted (zs.take k) d ++ [prod (zs.getD k 0) d]) := Lib.hid (by rw [take_next hkz]; simp [shifted])
      cases hp : isNum (prod (zs.getD k 0) d)
      · have H : Hid (toldList (shifted zs d) = ([], false)) := Lib.hid (by rw [toldList, shift_stop hkz hp]; rfl)
        have HQ := Lib.hid (told_no hp)
        clear hkz hp
        generalize zs.getD k 0 = z at *
        go_wp2_with (go_at_call 53; refine (nuMul_c _ _ _ (by omega) (by omega) (by omega) (by omega)).mono ?_; rw [HQ.out]; rintro e w' ⟨rfl, rfl⟩)
        go_ret2
        rw [H.out]
        exact retOwnB_mk (Own.nil _ _ _) hbel (by omega)
      · have HQ := Lib.hid (told_yes hp)
        have hall' : Hid ((shifted (zs.take (k + 1)) d).all isNum = true) := Lib.hid (by rw [HP.out, List.all_append, hall.out]; simp only [List.all_cons, List.all_nil, Bool.and_true, Bool.true_and]; exact hp)
        clear hkz hp hall
        generalize zs.getD k 0 = z at *
        go_wp2_with (first
          | (go_at_call 53; refine (nuMul_c _ _ _ (by omega) (by omega) (by omega) (by omega)).mono ?_; rw [HQ.out]; rintro e w' ⟨rfl, rfl⟩)
          | (at_builtin; refine wp_app1 rfl _ _ 33 rfl w.heap.size 3 i0 Try.underlying33 HI.out HZ0.out HZ1.out HZ2.out _ _ _ rfl hown _ rfl (by omega) hsz ?_))
        intro v' w1 h1 hb1 _
        have hbel' := hbel.trans hb1
        rw [← HP.out] at h1
        clear hown hbel hb1
        go_wp2
        go_roundw
        case rel => exact ⟨k + 1, by omega, by go_num, h1, hbel', hall'⟩
        case measure => simp [intOf]; omega
    · have H : Hid (zs.take k = zs) := Lib.hid (List.take_of_length_le (by rw [HL.out]; omega))
      have HT : Hid (toldList (shifted zs d) = (shifted zs d, true)) := Lib.hid (by rw [toldList, ← H.out, hall.out]; rfl)
      rw [H.out] at hown
      go_wp2
      go_ret2
      rw [HT.out]
      exact retOwnB_mk hown hbel (by omega)
theorem toldList_c (A : Option Addr) (n c : Nat) (zs : List Int) (B : Nat) (w : World) (x : Bool) (hx : zs.all isNum = x) (h : Rd w B A n zs) :
    Calls Try.prog 66 #[.slice A n c] w fun e w' => e = .returned (.tuple #[if x then .slice A n c else .slice none 0 0, .bool x]) ∧ w = w' := by
  have H := Lib.hid hx
  clear hx
  cases x
  all_goals
    go_enter Try.func66, Try.ntmps66
    go_wp2_with (go_at_call 47; refine (areNumbers_c _ _ _ _ _ _ h).mono ?_; rw [H.out]; rintro e w' ⟨rfl, rfl⟩)
    go_ret2
    exact ⟨rfl, rfl⟩
end Go.Proofs.Ytmpeniplngfndaa
