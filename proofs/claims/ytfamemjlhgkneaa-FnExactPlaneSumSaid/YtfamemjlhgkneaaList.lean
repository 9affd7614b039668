/- The walks of the functions on lists of numbers (both packages), each against its plain function. -/
import Derived.Test.YtfamemjlhgkneaaNum
namespace Go.Proofs.Ytfamemjlhgkneaa
open Go.RowKit
theorem info_int : (Try.prog.info? 3).map (fun i => (i.zero, i.size, i.bytes)) = some (some (.int .i64 0), 1, 8) := by kernel_rfl

theorem nuSum_c (A : Option Addr) (n c : Nat) (zs : List Int) (B : Nat) (w : World) (h : Rd w B A n zs) :
    Calls Try.prog 53 #[.slice A n c] w fun e w' => e = .returned (.int .i64 (least zs)) ∧ w = w' := by
  have hm := h.le
  have HL := Lib.hid h.len
  go_enter Try.func53, Try.ntmps53
  go_wp2
  go_loop [3, 8] (fun o i => ∃ k : Nat, k ≤ n ∧ i = .int .i64 k ∧ o = .int .i64 (leastTo zs k)) (fun _ i => n - (intOf i).toNat)
  case atStart => exact ⟨0, Nat.zero_le _, rfl, rfl⟩
  case round =>
    obtain ⟨k, hk, rfl, rfl⟩ := hrel
    by_cases hlt : k < n
    · obtain ⟨ad, rfl, _, hc⟩ := h.at_ hlt
      go_wp2_with (go_at_call 79; refine (l1Least_c _ _ _).mono ?_; rintro e w' ⟨rfl, rfl⟩)
      go_round
      case rel => exact ⟨k + 1, by omega, by go_num, rfl⟩
      case measure => simp [intOf]; omega
    · have H : Hid (least zs = leastTo zs k) := Lib.hid (by rw [least, HL.out, show n = k from by omega])
      go_wp2
      go_ret
      exact ⟨retI H.out.symm, rfl⟩
theorem placesOf_c (A : Option Addr) (n c : Nat) (zs : List Int) (m : Int) (B : Nat) (w : World) (h : Rd w B A n zs) (hB : B ≤ w.heap.size) (hsm : n ≤ 17592186040000) :
    Calls Try.prog 70 #[.slice A n c, .int .i64 m] w (RetOwn 3 (places zs m) w) := by
  have hm := h.le
  have HL := Lib.hid h.len
  obtain ⟨i0, hi, hz0, hz1, hz2⟩ := info_parts info_int
  have HI := Lib.hid hi
  have HZ0 := Lib.hid hz0
  have HZ1 := Lib.hid hz1
  have HZ2 := Lib.hid hz2
  clear hi hz0 hz1 hz2
  go_enter Try.func70, Try.ntmps70
  go_wp2
  go_loopw [5, 11] (fun v i wr => ∃ (k : Nat) (q : Nat), k ≤ n ∧ i = .int .i64 k ∧ q ≤ k ∧ Own wr w.heap.size 3 v q (placesTo zs m k) ∧ Below w.heap.size w wr) (fun _ i _ => n - (intOf i).toNat)
  case atStart => exact ⟨0, 0, Nat.zero_le _, rfl, Nat.le_refl _, Own.empty _ _ (Nat.le_refl _), bel_new _ _⟩
  case round =>
    obtain ⟨k, q, hk, rfl, hq, hown, hbel⟩ := hrel
    have hsz := hbel.size
    by_cases hlt : k < n
    · obtain ⟨ad, rfl, _, hc⟩ := (h.below (hbel.mono hB)).at_ hlt
      cases hp : (zs.getD k 0 == m)
      · have hown' := own_eq (zs' := placesTo zs m (k + 1)) hown (by rw [placesTo, if_neg (by simpa using hp)]; simp)
        generalize zs.getD k 0 = z at *
        clear hown
        go_wp2
        go_roundw
        case rel => exact ⟨k + 1, q, by omega, by go_num, by omega, hown', hbel⟩
        case measure => simp [intOf]; omega
      · have HP : Hid (placesTo zs m (k + 1) = placesTo zs m k ++ [(k : Int)]) := Lib.hid (by rw [placesTo, if_pos (by simpa using hp)])
        generalize zs.getD k 0 = z at *
        go_wp2_with (at_builtin; refine wp_app1 rfl _ _ 41 rfl w.heap.size 3 i0 Try.underlying41 HI.out HZ0.out HZ1.out HZ2.out _ _ _ rfl hown _ rfl (by omega) hsz ?_)
        intro v' w1 h1 hb1 _
        have hbel' := hbel.trans hb1
        rw [← HP.out] at h1
        clear hown hbel hb1
        go_wp2
        go_roundw
        case rel => exact ⟨k + 1, q + 1, by omega, by go_num, by omega, h1, hbel'⟩
        case measure => simp [intOf]; omega
    · have H : Hid (places zs m = placesTo zs m k) := Lib.hid (by rw [places, HL.out, show n = k from by omega])
      rw [← H.out] at hown
      go_wp2
      go_ret
      exact retOwn_mk hown hbel (by omega)
theorem nuPlaces_c (A : Option Addr) (n c : Nat) (zs : List Int) (B : Nat) (w : World) (h : Rd w B A n zs) (hB : B ≤ w.heap.size) (hsm : n ≤ 17592186040000) :
    Calls Try.prog 69 #[.slice A n c] w (RetOwn 3 (places zs (least zs)) w) := by
  have hm := h.le
  have HL := Lib.hid h.len
  obtain ⟨i0, hi, hz0, hz1, hz2⟩ := info_parts info_int
  have HI := Lib.hid hi
  have HZ0 := Lib.hid hz0
  have HZ1 := Lib.hid hz1
  have HZ2 := Lib.hid hz2
  clear hi hz0 hz1 hz2
  go_enter Try.func69, Try.ntmps69
  go_wp2_with (go_at_call 53; refine (nuSum_c _ _ _ _ _ _ h).mono ?_; rintro e w' ⟨rfl, rfl⟩)
  go_loopw [3, 11] (fun v i wr => ∃ (k : Nat) (q : Nat), k ≤ n ∧ i = .int .i64 k ∧ q ≤ k ∧ Own wr w.heap.size 3 v q (placesTo zs (least zs) k) ∧ Below w.heap.size w wr) (fun _ i _ => n - (intOf i).toNat)
  case atStart => exact ⟨0, 0, Nat.zero_le _, rfl, Nat.le_refl _, Own.nil _ _ _, Below.refl _ _⟩
  case round =>
    obtain ⟨k, q, hk, rfl, hq, hown, hbel⟩ := hrel
    have hsz := hbel.size
    by_cases hlt : k < n
    · obtain ⟨ad, rfl, _, hc⟩ := (h.below (hbel.mono hB)).at_ hlt
      cases hp : (zs.getD k 0 == least zs)
      · have hown' := own_eq (zs' := placesTo zs (least zs) (k + 1)) hown (by rw [placesTo, if_neg (by simpa using hp)]; simp)
        generalize zs.getD k 0 = z at *
        clear hown
        go_wp2
        go_roundw
        case rel => exact ⟨k + 1, q, by omega, by go_num, by omega, hown', hbel⟩
        case measure => simp [intOf]; omega
      · have HP : Hid (placesTo zs (least zs) (k + 1) = placesTo zs (least zs) k ++ [(k : Int)]) := Lib.hid (by rw [placesTo, if_pos (by simpa using hp)])
        generalize zs.getD k 0 = z at *
        go_wp2_with (at_builtin; refine wp_app1 rfl _ _ 41 rfl w.heap.size 3 i0 Try.underlying41 HI.out HZ0.out HZ1.out HZ2.out _ _ _ rfl hown _ rfl (by omega) hsz ?_)
        intro v' w1 h1 hb1 _
        have hbel' := hbel.trans hb1
        rw [← HP.out] at h1
        clear hown hbel hb1
        go_wp2
        go_roundw
        case rel => exact ⟨k + 1, q + 1, by omega, by go_num, by omega, h1, hbel'⟩
        case measure => simp [intOf]; omega
    · have H : Hid (places zs (least zs) = placesTo zs (least zs) k) := Lib.hid (by rw [places, HL.out, show n = k from by omega])
      rw [← H.out] at hown
      go_wp2
      go_ret
      exact retOwn_mk hown hbel (by omega)
end Go.Proofs.Ytfamemjlhgkneaa
