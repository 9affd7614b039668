/- The walks of the functions on lists of numbers (both packages), each against its plain function. -/
import Derived.Test.YtbmnighaphbbgaaNum
namespace Go.Proofs.Ytbmnighaphbbgaa
open Go.RowKit
theorem info_int : (Try.prog.info? 3).map (fun i => (i.zero, i.size, i.bytes)) = some (some (.int .i64 0), 1, 8) := by kernel_rfl

theorem isList_c (A : Option Addr) (n c : Nat) (zs : List Int) (B : Nat) (w : World) (h : Rd w B A n zs) :
    Calls Try.prog 69 #[.slice A n c] w fun e w' => e = .returned (.bool (isList zs)) ∧ w = w' := by
  have hm := h.le
  have hl := h.len
  by_cases hn : n ≤ 20
  · have H : Hid (isList zs = zs.all isNum) := Lib.hid (by rw [isList, hl]; simp [hn])
    clear hl
    go_enter Try.func69, Try.ntmps69
    go_wp2_with (go_at_call 80; refine (areNumbers_c _ _ _ _ _ _ h).mono ?_; rintro e w' ⟨rfl, rfl⟩)
    go_ret
    exact ⟨retB H.out.symm, rfl⟩
  · have H : Hid (isList zs = false) := Lib.hid (by rw [isList, hl]; simp [hn])
    clear hl
    go_enter Try.func69, Try.ntmps69
    go_wp2_with fail
    go_ret
    exact ⟨retB H.out.symm, rfl⟩
theorem nuList_c (A : Option Addr) (n c : Nat) (zs : List Int) (B : Nat) (w : World) (h : Rd w B A n zs) :
    Calls Try.prog 66 #[.slice A n c] w fun e w' => e = .returned (.bool (isList zs)) ∧ w = w' := by
  have hm := h.le
  have HL := Lib.hid h.len
  go_enter Try.func66, Try.ntmps66
  go_wp2
  go_loop [7] (fun i => ∃ k : Nat, k ≤ n ∧ i = .int .i64 k ∧ Hid ((zs.take k).all isNum = true)) (fun i => n - (intOf i).toNat)
  case atStart => exact ⟨0, Nat.zero_le _, rfl, hid_take0 _ _⟩
  case round =>
    obtain ⟨k, hk, rfl, hall⟩ := hrel
    by_cases hlt : k < n
    · obtain ⟨ad, rfl, _, hc⟩ := h.at_ hlt
      have hkz : k < zs.length := by rw [HL.out]; exact hlt
      cases hp : isNum (zs.getD k 0)
      · have H : Hid (isList zs = false) := Lib.hid (by rw [isList, (all_stop hkz hp).out, Bool.and_false])
        have HP := Lib.hid hp
        clear hp hkz
        generalize zs.getD k 0 = z at *
        go_wp2_with (go_at_call 77; refine (nuGood_c _ _).mono ?_; rw [HP.out]; rintro e w' ⟨rfl, rfl⟩)
        go_ret
        exact ⟨retB H.out.symm, rfl⟩
      · have H := all_next hall hkz hp
        have HP := Lib.hid hp
        clear hp hkz
        generalize zs.getD k 0 = z at *
        go_wp2_with (go_at_call 77; refine (nuGood_c _ _).mono ?_; rw [HP.out]; rintro e w' ⟨rfl, rfl⟩)
        go_round
        case rel => exact ⟨k + 1, by omega, by go_num, H⟩
        case measure => simp [intOf]; omega
    · have H : Hid (isList zs = decide (n ≤ 20)) := Lib.hid (by rw [isList, all_done hall (by rw [HL.out]; omega), HL.out, Bool.and_true])
      by_cases h20 : n ≤ 20
      all_goals
        go_wp2
        go_ret
        exact ⟨retB (by rw [H.out]; simp [h20] <;> omega), rfl⟩
theorem sumOf_c (A : Option Addr) (n c : Nat) (zs : List Int) (B : Nat) (w : World) (h : Rd w B A n zs) :
    Calls Try.prog 70 #[.slice A n c] w fun e w' => e = .returned (.int .i64 (least zs)) ∧ w = w' := by
  have hm := h.le
  have HL := Lib.hid h.len
  go_enter Try.func70, Try.ntmps70
  go_wp2
  go_loop [3, 8] (fun o i => ∃ k : Nat, k ≤ n ∧ i = .int .i64 k ∧ o = .int .i64 (leastTo zs k)) (fun _ i => n - (intOf i).toNat)
  case atStart => exact ⟨0, Nat.zero_le _, rfl, rfl⟩
  case round =>
    obtain ⟨k, hk, rfl, rfl⟩ := hrel
    by_cases hlt : k < n
    · obtain ⟨ad, rfl, _, hc⟩ := h.at_ hlt
      have H : Hid (leastTo zs (k + 1) = min (leastTo zs k) (zs.getD k 0)) := Lib.hid rfl
      generalize zs.getD k 0 = z at *
      go_wp2
      all_goals
        go_round
        case rel => exact ⟨k + 1, by omega, by go_num, by rw [H.out]; go_num⟩
        case measure => simp [intOf]; omega
    · have H : Hid (least zs = leastTo zs k) := Lib.hid (by rw [least, HL.out, show n = k from by omega])
      go_wp2
      go_ret
      exact ⟨retI H.out.symm, rfl⟩
theorem nuSum_c (A : Option Addr) (n c : Nat) (zs : List Int) (B : Nat) (w : World) (h : Rd w B A n zs) :
    Calls Try.prog 67 #[.slice A n c] w fun e w' => e = .returned (.int .i64 (least zs)) ∧ w = w' := by
  have hm := h.le
  have HL := Lib.hid h.len
  go_enter Try.func67, Try.ntmps67
  go_wp2
  go_loop [3, 8] (fun o i => ∃ k : Nat, k ≤ n ∧ i = .int .i64 k ∧ o = .int .i64 (leastTo zs k)) (fun _ i => n - (intOf i).toNat)
  case atStart => exact ⟨0, Nat.zero_le _, rfl, rfl⟩
  case round =>
    obtain ⟨k, hk, rfl, rfl⟩ := hrel
    by_cases hlt : k < n
    · obtain ⟨ad, rfl, _, hc⟩ := h.at_ hlt
      go_wp2_with (go_at_call 78; refine (l1Least_c _ _ _).mono ?_; rintro e w' ⟨rfl, rfl⟩)
      go_round
      case rel => exact ⟨k + 1, by omega, by go_num, rfl⟩
      case measure => simp [intOf]; omega
    · have H : Hid (least zs = leastTo zs k) := Lib.hid (by rw [least, HL.out, show n = k from by omega])
      go_wp2
      go_ret
      exact ⟨retI H.out.symm, rfl⟩
theorem shifted_c (A : Option Addr) (n c : Nat) (zs : List Int) (d : Int) (B : Nat) (w : World) (h : Rd w B A n zs) (hB : B ≤ w.heap.size) (hsm : n ≤ 17592186040000) (hz : zs.all isNum = true) (hd : -1000000000 ≤ d) (hd' : d ≤ 1000000000) :
    Calls Try.prog 72 #[.slice A n c, .int .i64 d] w (RetOwn 3 (shifted zs d) w) := by
  have hm := h.le
  have HL := Lib.hid h.len
  have HX := Lib.hid hz
  clear hz
  obtain ⟨i0, hi, hz0, hz1, hz2⟩ := info_parts info_int
  have HI := Lib.hid hi
  have HZ0 := Lib.hid hz0
  have HZ1 := Lib.hid hz1
  have HZ2 := Lib.hid hz2
  clear hi hz0 hz1 hz2
  go_enter Try.func72, Try.ntmps72
  go_wp2_with (at_make; refine wp_mk0 rfl _ _ 37 rfl w.heap.size 3 i0 Try.underlying37 HI.out HZ0.out HZ1.out HZ2.out _ _ _ n rfl rfl rfl hsm (Nat.le_refl _) ?_)
  intro w0 own0 bel0
  go_wp2
  go_loopw [5, 13] (fun v i wr => ∃ k : Nat, k ≤ n ∧ i = .int .i64 k ∧ Own wr w.heap.size 3 v k (shifted (zs.take k) d) ∧ Below w.heap.size w wr) (fun _ i _ => n - (intOf i).toNat)
  case atStart => exact ⟨0, Nat.zero_le _, rfl, own0, bel0⟩
  case round =>
    obtain ⟨k, hk, rfl, hown, hbel⟩ := hrel
    have hsz := hbel.size
    by_cases hlt : k < n
    · obtain ⟨ad, rfl, _, hc⟩ := (h.below (hbel.mono hB)).at_ hlt
      have hkz : k < zs.length := by rw [HL.out]; exact hlt
      have b1 := isNum_bd (List.all_eq_true.1 HX.out _ (getD_mem hkz))
      have HP : Hid (shifted (zs.take (k + 1)) d = shifted (zs.take k) d ++ [prod (zs.getD k 0) d]) := Lib.hid (by rw [take_next hkz]; simp [shifted])
      clear hkz
      generalize zs.getD k 0 = z at *
      go_wp2_with (first
        | (go_at_call 81; refine (product_c _ _ _ (by omega) (by omega) (by omega) (by omega)).mono ?_; rintro e w' ⟨rfl, rfl⟩)
        | (at_builtin; refine wp_app1 rfl _ _ 37 rfl w.heap.size 3 i0 Try.underlying37 HI.out HZ0.out HZ1.out HZ2.out _ _ _ rfl hown _ rfl (by omega) hsz ?_))
      intro v' w1 h1 hb1 _
      have hbel' := hbel.trans hb1
      rw [← HP.out] at h1
      clear hown hbel hb1
      go_wp2
      go_roundw
      case rel => exact ⟨k + 1, by omega, by go_num, h1, hbel'⟩
      case measure => simp [intOf]; omega
    · have H : Hid (zs.take k = zs) := Lib.hid (List.take_of_length_le (by rw [HL.out]; omega))
      rw [H.out] at hown
      go_wp2
      go_ret
      exact retOwn_mk hown hbel (by omega)
theorem nuShift_c (A : Option Addr) (n c : Nat) (zs : List Int) (d : Int) (B : Nat) (w : World) (h : Rd w B A n zs) (hB : B ≤ w.heap.size) (hsm : n ≤ 17592186040000) (hz : zs.all isNum = true) (hd : -1000000000 ≤ d) (hd' : d ≤ 1000000000) :
    Calls Try.prog 68 #[.slice A n c, .int .i64 d] w (RetOwnB 3 (toldList (shifted zs d)).1 (toldList (shifted zs d)).2 w) := by
  have hm := h.le
  have HL := Lib.hid h.len
  have HX := Lib.hid hz
  clear hz
  obtain ⟨i0, hi, hz0, hz1, hz2⟩ := info_parts info_int
  have HI := Lib.hid hi
  have HZ0 := Lib.hid hz0
  have HZ1 := Lib.hid hz1
  have HZ2 := Lib.hid hz2
  clear hi hz0 hz1 hz2
  go_enter Try.func68, Try.ntmps68
  go_wp2
  go_loopw [6, 13] (fun v i wr => ∃ k : Nat, k ≤ n ∧ i = .int .i64 k ∧ Own wr w.heap.size 3 v k (shifted (zs.take k) d) ∧ Below w.heap.size w wr ∧ Hid ((shifted (zs.take k) d).all isNum = true)) (fun _ i _ => n - (intOf i).toNat)
  case atStart => exact ⟨0, Nat.zero_le _, rfl, Own.nil _ _ _, Below.refl _ _, Lib.hid rfl⟩
  case round =>
    obtain ⟨k, hk, rfl, hown, hbel, hall⟩ := hrel
    have hsz := hbel.size
    by_cases hlt : k < n
    · obtain ⟨ad, rfl, _, hc⟩ := (h.below (hbel.mono hB)).at_ hlt
      have hkz : k < zs.length := by rw [HL.out]; exact hlt
      have b1 := isNum_bd (List.all_eq_true.1 HX.out _ (getD_mem hkz))
      have HP : Hid (shifted (zs.take (k + 1)) d = shifted (zs.take k) d ++ [prod (zs.getD k 0) d]) := Lib.hid (by rw [take_next hkz]; simp [shifted])
      cases hp : isNum (prod (zs.getD k 0) d)
      · have H : Hid (toldList (shifted zs d) = ([], false)) := Lib.hid (by rw [toldList, shift_stop hkz hp]; rfl)
        have HQ := Lib.hid (told_no hp)
        clear hkz hp
        generalize zs.getD k 0 = z at *
        go_wp2_with (go_at_call 79; refine (nuMul_c _ _ _ (by omega) (by omega) (by omega) (by omega)).mono ?_; rw [HQ.out]; rintro e w' ⟨rfl, rfl⟩)
        go_ret2
        rw [H.out]
        exact retOwnB_mk (Own.nil _ _ _) hbel (by omega)
      · have HQ := Lib.hid (told_yes hp)
        have hall' : Hid ((shifted (zs.take (k + 1)) d).all isNum = true) := Lib.hid (by rw [HP.out, List.all_append, hall.out]; simp only [List.all_cons, List.all_nil, Bool.and_true, Bool.true_and]; exact hp)
        clear hkz hp hall
        generalize zs.getD k 0 = z at *
        go_wp2_with (first
          | (go_at_call 79; refine (nuMul_c _ _ _ (by omega) (by omega) (by omega) (by omega)).mono ?_; rw [HQ.out]; rintro e w' ⟨rfl, rfl⟩)
          | (at_builtin; refine wp_app1 rfl _ _ 37 rfl w.heap.size 3 i0 Try.underlying37 HI.out HZ0.out HZ1.out HZ2.out _ _ _ rfl hown _ rfl (by omega) hsz ?_))
        intro v' w1 h1 hb1 _
        have hbel' := hbel.trans hb1
        rw [← HP.out] at h1
        clear hown hbel hb1
        go_wp2
        go_roundw
        case rel => exact ⟨k + 1, by omega, by go_num, h1, hbel', hall'⟩
        case measure => simp [intOf]; omega
    · have H : Hid (zs.take k = zs) := Lib.hid (List.take_of_length_le (by rw [HL.out]; omega))
      have HT : Hid (toldList (shifted zs d) = (shifted zs d, true)) := Lib.hid (by rw [toldList, ← H.out, hall.out]; rfl)
      rw [H.out] at hown
      go_wp2
      go_ret2
      rw [HT.out]
      exact retOwnB_mk hown hbel (by omega)
theorem toldList_c (A : Option Addr) (n c : Nat) (zs : List Int) (B : Nat) (w : World) (x : Bool) (hx : zs.all isNum = x) (h : Rd w B A n zs) :
    Calls Try.prog 71 #[.slice A n c] w fun e w' => e = .returned (.tuple #[if x then .slice A n c else .slice none 0 0, .bool x]) ∧ w = w' := by
  have H := Lib.hid hx
  clear hx
  cases x
  all_goals
    go_enter Try.func71, Try.ntmps71
    go_wp2_with (go_at_call 80; refine (areNumbers_c _ _ _ _ _ _ h).mono ?_; rw [H.out]; rintro e w' ⟨rfl, rfl⟩)
    go_ret2
    exact ⟨rfl, rfl⟩
end Go.Proofs.Ytbmnighaphbbgaa
