/- A coordinate read of a text, by the reference. -/
import Derived.Test.YtfkglbmdpefigaaGreatDoorWRd
import Derived.Test.YtfkglbmdpefigaaGreatDoorBsEq
import Derived.Test.YtfkglbmdpefigaaGreatDoorPurePy
namespace Go.Proofs.YtfkglbmdpefigaaGreatDoor
open Go.RowKit
theorem retIv {a b : Int} (h : a = b) : Ending.returned (.int .i64 a) = .returned (.int .i64 b) := by rw [h]
set_option maxHeartbeats 2000000 in
theorem pyRead_c (s : ByteArray) (hs : s.size ≤ 1048576) (w : World) : Calls Tryz.prog 10 #[.string s] w fun e w' => e = .returned (.int .i64 (pyVal s.data.toList)) ∧ w = w' := by
  have HSz := Lib.hid (Lib.size_eq s)
  have hR := fun w => l1Read_c s hs w
  have hR2 := fun w => l1Read_c (s.extract 1 s.size) (by
    have : (s.extract 1 s.size).size = s.size - 1 := by
      rw [Lib.size_eq, ext_tail, List.length_tail, ← HSz.out]
    omega) w
  rw [ext_tail] at hR2
  have b1 := rdU_ge 6 s.data.toList.tail
  have b2 := rdU_lt 6 s.data.toList.tail
  have hpow : (10 : Int) ^ 6 = 1000000 := rfl
  rw [hpow] at b2
  have hcase : ((1 < s.size ∧ s.data.toList.getD 0 0 = 45) ∧ (1 < s.data.toList.length ∧ s.data.toList.head? = some 45)) ∨ (¬ (1 : Int) < (s.size : Int)) ∧ ¬ (1 < s.data.toList.length ∧ s.data.toList.head? = some 45) ∨ ((1 : Int) < (s.size : Int) ∧ (((s.data.toList.getD 0 0).toNat : Int) == 45) = false) ∧ ¬ (1 < s.data.toList.length ∧ s.data.toList.head? = some 45) := by
    have hsz := HSz.out
    by_cases h1 : 1 < s.size
    · cases hl : s.data.toList with
      | nil =>
        have h3 : s.size = 0 := by rw [hsz, hl]; rfl
        omega
      | cons c r =>
        rw [hl] at hsz
        by_cases h2 : c = 45
        · left
          subst h2
          exact ⟨⟨h1, rfl⟩, by omega, rfl⟩
        · right; right
          refine ⟨⟨by omega, ?_⟩, ?_⟩
          · rw [beq_eq_false_iff_ne]
            intro e
            apply h2
            apply UInt8.toNat_inj.1
            have : (45 : UInt8).toNat = 45 := rfl
            simp at e
            omega
          · rintro ⟨_, e⟩
            apply h2
            simpa using e
    · right; left
      refine ⟨by omega, ?_⟩
      rintro ⟨e, _⟩
      omega
  have HV : Hid (pyVal s.data.toList = if (1 < s.data.toList.length ∧ s.data.toList.head? = some 45) ∧ 0 ≤ rdU 6 s.data.toList.tail then - rdU 6 s.data.toList.tail else if 0 ≤ rdU 6 s.data.toList then rdU 6 s.data.toList else 101) := Lib.hid rfl
  generalize pyVal s.data.toList = V at *
  rcases hcase with ⟨⟨hs1, h45⟩, hq⟩ | ⟨hs1, hq⟩ | ⟨⟨hs1, h45⟩, hq⟩
  · have hs0 : 0 < s.size := by omega
    have hi0 := at_data s 0 hs0
    have hj0 := at_idx s 0 hs0
    rw [h45] at hi0 hj0
    have hs2 : (1 : Int) < (s.size : Int) := by omega
    have g1 : IntKind.i64.wrap (- rdU 6 s.data.toList.tail) = - rdU 6 s.data.toList.tail := IntWalk.i64_in _ (by omega)
    clear h45 hpow
    by_cases hr : 0 ≤ rdU 6 s.data.toList.tail
    · have HW : Hid (V = - rdU 6 s.data.toList.tail) := Lib.hid (by rw [HV.out, if_pos ⟨hq, hr⟩])
      clear HV hq hR
      generalize rdU 6 s.data.toList.tail = R at *
      go_enter Tryz.func10, Tryz.ntmps10
      go_wp2_with fail
      refine (hR2 _).mono ?_; rintro e w1 ⟨rfl, rfl⟩
      go_wp2_with fail
      refine (hR2 _).mono ?_; rintro e w1 ⟨rfl, rfl⟩
      go_wp2_with fail
      go_ret
      exact ⟨retIv HW.out.symm, rfl⟩
    · have HW : Hid (V = if 0 ≤ rdU 6 s.data.toList then rdU 6 s.data.toList else 101) := Lib.hid (by rw [HV.out, if_neg (fun h => hr h.2)])
      clear HV hq g1
      generalize rdU 6 s.data.toList.tail = R at *
      generalize rdU 6 s.data.toList = R0 at *
      have hr2 : ¬ (R ≥ 0) := hr
      by_cases h0 : 0 ≤ R0
      · have HX : Hid (V = R0) := Lib.hid (by rw [HW.out, if_pos h0])
        go_enter Tryz.func10, Tryz.ntmps10
        go_wp2_with fail
        refine (hR2 _).mono ?_; rintro e w1 ⟨rfl, rfl⟩
        go_wp2_with fail
        refine (hR _).mono ?_; rintro e w1 ⟨rfl, rfl⟩
        go_wp2_with fail
        go_ret
        exact ⟨retIv HX.out.symm, rfl⟩
      · have HX : Hid (V = 101) := Lib.hid (by rw [HW.out, if_neg h0])
        go_enter Tryz.func10, Tryz.ntmps10
        go_wp2_with fail
        refine (hR2 _).mono ?_; rintro e w1 ⟨rfl, rfl⟩
        go_wp2_with fail
        refine (hR _).mono ?_; rintro e w1 ⟨rfl, rfl⟩
        go_wp2_with fail
        go_ret
        exact ⟨retIv HX.out.symm, rfl⟩
  · have HW : Hid (V = if 0 ≤ rdU 6 s.data.toList then rdU 6 s.data.toList else 101) := Lib.hid (by rw [HV.out, if_neg (fun h => hq h.1)])
    clear HV hq hR2 b1 b2 hpow
    generalize rdU 6 s.data.toList = R0 at *
    by_cases h0 : 0 ≤ R0
    · have HX : Hid (V = R0) := Lib.hid (by rw [HW.out, if_pos h0])
      go_enter Tryz.func10, Tryz.ntmps10
      go_wp2_with fail
      refine (hR _).mono ?_; rintro e w1 ⟨rfl, rfl⟩
      go_wp2_with fail
      go_ret
      exact ⟨retIv HX.out.symm, rfl⟩
    · have HX : Hid (V = 101) := Lib.hid (by rw [HW.out, if_neg h0])
      go_enter Tryz.func10, Tryz.ntmps10
      go_wp2_with fail
      refine (hR _).mono ?_; rintro e w1 ⟨rfl, rfl⟩
      go_wp2_with fail
      go_ret
      exact ⟨retIv HX.out.symm, rfl⟩
  · have HW : Hid (V = if 0 ≤ rdU 6 s.data.toList then rdU 6 s.data.toList else 101) := Lib.hid (by rw [HV.out, if_neg (fun h => hq h.1)])
    have hs0 : 0 < s.size := by omega
    have hi0 := at_data s 0 hs0
    have hj0 := at_idx s 0 hs0
    clear HV hq hR2 b1 b2 hpow
    generalize rdU 6 s.data.toList = R0 at *
    generalize s.data.toList.getD 0 0 = b0 at *
    by_cases h0 : 0 ≤ R0
    · have HX : Hid (V = R0) := Lib.hid (by rw [HW.out, if_pos h0])
      go_enter Tryz.func10, Tryz.ntmps10
      go_wp2_with fail
      refine (hR _).mono ?_; rintro e w1 ⟨rfl, rfl⟩
      go_wp2_with fail
      go_ret
      exact ⟨retIv HX.out.symm, rfl⟩
    · have HX : Hid (V = 101) := Lib.hid (by rw [HW.out, if_neg h0])
      go_enter Tryz.func10, Tryz.ntmps10
      go_wp2_with fail
      refine (hR _).mono ?_; rintro e w1 ⟨rfl, rfl⟩
      go_wp2_with fail
      go_ret
      exact ⟨retIv HX.out.symm, rfl⟩
end Go.Proofs.YtfkglbmdpefigaaGreatDoor
