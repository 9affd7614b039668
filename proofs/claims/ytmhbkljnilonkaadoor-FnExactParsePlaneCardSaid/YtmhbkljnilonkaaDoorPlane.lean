/- The walks of the functions on plane polynomials (both packages), each against its plain function. -/
import Derived.Test.YtmhbkljnilonkaaDoorPoly
import Derived.Test.YtmhbkljnilonkaaDoorPurePlane
import Derived.StillTailTactics
import Derived.Deep.RegionHeld3
namespace Go.Proofs.YtmhbkljnilonkaaDoor
open Go.RowKit
theorem compareTerms_c (a0 a1 a2 b0 b1 b2 : Int) (w : World) (h0 : -1000000 ≤ a0 ∧ a0 ≤ 1000000) (h1 : -1000000 ≤ a1 ∧ a1 ≤ 1000000) (h2 : -1000000 ≤ b0 ∧ b0 ≤ 1000000) (h3 : -1000000 ≤ b1 ∧ b1 ≤ 1000000) :
    Calls Tryd.prog 26 #[.agg #[.int .i64 a0, .int .i64 a1, .int .i64 a2], .agg #[.int .i64 b0, .int .i64 b1, .int .i64 b2]] w fun e w' => e = .returned (.int .i64 (cmpT (a0, a1, a2) (b0, b1, b2))) ∧ Below w.heap.size w w' := by
  by_cases h : a0 = b0
  · have H : Hid (cmpT (a0, a1, a2) (b0, b1, b2) = a1 - b1) := Lib.hid (by rw [cmpT, if_pos h])
    subst h
    go_enter Tryd.func26, Tryd.ntmps26
    go_wp2
    go_ret
    exact ⟨retI H.out.symm, bel_alloc (bel_new _ _) _⟩
  · have H : Hid (cmpT (a0, a1, a2) (b0, b1, b2) = a0 - b0) := Lib.hid (by rw [cmpT, if_neg h])
    go_enter Tryd.func26, Tryd.ntmps26
    go_wp2
    go_ret
    exact ⟨retI H.out.symm, bel_alloc (bel_new _ _) _⟩
theorem plBefore_c (a0 a1 a2 b0 b1 b2 : Int) (w : World) :
    Calls Tryd.prog 33 #[.agg #[.int .i64 a0, .int .i64 a1, .int .i64 a2], .agg #[.int .i64 b0, .int .i64 b1, .int .i64 b2]] w fun e w' => e = .returned (.bool (ltT (a0, a1, a2) (b0, b1, b2))) ∧ Below w.heap.size w w' := by
  have H : Hid (ltT (a0, a1, a2) (b0, b1, b2) = (decide (a0 < b0) || (decide (a0 = b0) && decide (a1 < b1)))) := Lib.hid rfl
  by_cases h0 : a0 < b0
  · go_enter Tryd.func33, Tryd.ntmps33
    go_wp2
    go_ret
    exact ⟨retB (by rw [H.out]; simp [h0]), bel_alloc (bel_new _ _) _⟩
  · by_cases h1 : a0 = b0
    · subst h1
      by_cases h2 : a1 < b1
      all_goals
        go_enter Tryd.func33, Tryd.ntmps33
        go_wp2
        go_ret
        exact ⟨retB (by rw [H.out]; simp [h2]), bel_alloc (bel_new _ _) _⟩
    · go_enter Tryd.func33, Tryd.ntmps33
      go_wp2
      go_ret
      exact ⟨retB (by rw [H.out]; simp [h0, h1]), bel_alloc (bel_new _ _) _⟩
theorem plTerm_c (a0 a1 a2 : Int) (w : World) :
    Calls Tryd.prog 32 #[.agg #[.int .i64 a0, .int .i64 a1, .int .i64 a2]] w fun e w' => e = .returned (.bool (isTrm (a0, a1, a2))) ∧ Below w.heap.size w w' := by
  have H : Hid (isTrm (a0, a1, a2) = ((decide (0 ≤ a0) && decide (a0 ≤ 6)) && (decide (0 ≤ a1) && decide (a1 ≤ 6 - a0)) && isFin a2)) := Lib.hid rfl
  cases h0 : (decide (0 ≤ a0) && decide (a0 ≤ 6))
  · have H0 := Lib.hid h0
    clear h0
    go_enter Tryd.func32, Tryd.ntmps32
    go_wp2_with fail
    refine (l1In_c _ _ _ _).mono ?_; rw [H0.out]; rintro e w' ⟨rfl, rfl⟩
    go_wp2_with fail
    go_ret
    exact ⟨retB (by rw [H.out, H0.out]; rfl), bel_new _ _⟩
  · have b0 : 0 ≤ a0 ∧ a0 ≤ 6 := by simpa using h0
    cases h1 : (decide (0 ≤ a1) && decide (a1 ≤ 6 - a0))
    all_goals
      have H0 := Lib.hid h0
      have H1 := Lib.hid h1
      clear h0 h1
      go_enter Tryd.func32, Tryd.ntmps32
      go_wp2_with fail
      refine (l1In_c _ _ _ _).mono ?_; rw [H0.out]; rintro e w' ⟨rfl, rfl⟩
      go_wp2_with fail
      refine (l1In_c _ _ _ _).mono ?_; rw [H1.out]; rintro e w' ⟨rfl, rfl⟩
      go_wp2_with (go_at_call 41; refine (poFinite_c _ _).mono ?_; rintro e w' ⟨rfl, rfl⟩)
      go_ret
      exact ⟨retB (by rw [H.out, H0.out, H1.out]; rfl), bel_new _ _⟩
set_option maxRecDepth 8192 in
set_option maxHeartbeats 1000000 in
theorem isPlane_c (A : Option Addr) (n c : Nat) (l : List Trm) (B : Nat) (w : World) (h : RdT w B A n l) (hB : B ≤ w.heap.size) :
    Calls Tryd.prog 12 #[.slice A n c] w fun e w' => e = .returned (.bool (isPlane l)) ∧ Below w.heap.size w w' := by
  have hm := h.le
  have HL := Lib.hid h.len
  cases hp : (decide (1 ≤ (n : Int)) && decide ((n : Int) ≤ 12))
  · have H : Hid (isPlane l = false) := Lib.hid (by rw [isPlane, HL.out, hp]; rfl)
    have HP := Lib.hid hp
    clear hp
    go_enter Tryd.func12, Tryd.ntmps12
    go_wp2_with (go_at_call 24; refine (within_c _ _ _ _).mono ?_; rw [HP.out]; rintro e w' ⟨rfl, rfl⟩)
    go_ret
    exact ⟨retB H.out.symm, Below.refl _ _⟩
  · have H : Hid (isPlane l = okTo l n) := Lib.hid (by rw [isPlane, HL.out, hp, Bool.true_and])
    have HP := Lib.hid hp
    clear hp
    go_enter Tryd.func12, Tryd.ntmps12
    go_wp2_with (go_at_call 24; refine (within_c _ _ _ _).mono ?_; rw [HP.out]; rintro e w' ⟨rfl, rfl⟩)
    go_loopw [11] (fun i wr => ∃ k : Nat, k ≤ n ∧ i = .int .i64 k ∧ Hid (okTo l k = true) ∧ Below w.heap.size w wr) (fun i _ => n - (intOf i).toNat)
    case atStart => exact ⟨0, Nat.zero_le _, rfl, Lib.hid rfl, Below.refl _ _⟩
    case round =>
      obtain ⟨k, hk, rfl, hok, hbel⟩ := hrel
      by_cases hlt : k < n
      · obtain ⟨b, o, rfl, _, c0, c1, c2⟩ := (h.below (hbel.mono hB)).at_ hlt
        have HA : Hid (okAt l k = (isTrm (l.getD k (0, 0, 0)) && (decide (k = 0) || ltT (l.getD (k - 1) (0, 0, 0)) (l.getD k (0, 0, 0))))) := Lib.hid rfl
        cases hT : isTrm (l.getD k (0, 0, 0))
        · have HF : Hid (okTo l n = false) := Lib.hid (okTo_fail (by rw [HA.out, hT]; rfl) hlt)
          have HT : ¬ _ := fun hh => absurd ((isTrm_iff _).2 hh) (by rw [hT]; simp)
          clear hT HA
          generalize (l.getD k (0, 0, 0)).1 = x0 at *
          generalize (l.getD k (0, 0, 0)).2.1 = x1 at *
          generalize (l.getD k (0, 0, 0)).2.2 = x2 at *
          have HT := Lib.hid HT
          by_cases t0 : x0 < 0
          · go_wp2_with fail
            go_ret
            exact ⟨retB (by rw [H.out, HF.out]), hbel.alloc hbel.size _⟩
          by_cases t1 : x1 < 0
          · go_wp2_with fail
            go_ret
            exact ⟨retB (by rw [H.out, HF.out]), hbel.alloc hbel.size _⟩
          by_cases t2 : 6 < x0
          · go_wp2_with fail
            go_ret
            exact ⟨retB (by rw [H.out, HF.out]), hbel.alloc hbel.size _⟩
          by_cases t3 : 6 < x1
          · go_wp2_with fail
            go_ret
            exact ⟨retB (by rw [H.out, HF.out]), hbel.alloc hbel.size _⟩
          by_cases t4 : 6 < x0 + x1
          · go_wp2_with fail
            go_ret
            exact ⟨retB (by rw [H.out, HF.out]), hbel.alloc hbel.size _⟩
          have HX : Hid (isFin x2 = false) := Lib.hid (by
            cases e : isFin x2
            · rfl
            · rw [isFin_iff] at e
              exact absurd (by omega) HT.out)
          go_wp2_with (go_at_call 25; refine (isFinite_c _ _).mono ?_; rw [HX.out]; rintro e w' ⟨rfl, rfl⟩)
          go_ret
          exact ⟨retB (by rw [H.out, HF.out]), hbel.alloc hbel.size _⟩
        · have hb := (isTrm_iff _).1 hT
          have HX : Hid (isFin (l.getD k (0, 0, 0)).2.2 = true) := Lib.hid ((isFin_iff _).2 (by omega))
          have HC := Lib.hid (cmpT_yes (a := l.getD (k - 1) (0, 0, 0)) (b := l.getD k (0, 0, 0)))
          have HC' := Lib.hid (cmpT_no (a := l.getD (k - 1) (0, 0, 0)) (b := l.getD k (0, 0, 0)))
          have HO : Hid (okTo l (k + 1) = okAt l k) := Lib.hid (by rw [okTo, hok.out, Bool.true_and])
          have hat : k = 0 ∨ 0 < k ∧ isTrm (l.getD (k - 1) (0, 0, 0)) = true := by
            by_cases k0 : k = 0
            · exact .inl k0
            · exact .inr ⟨by omega, okTo_trm hok.out (by omega)⟩
          rw [hT, Bool.true_and] at HA
          clear hT
          have HT : Hid (okAt l k = false → okTo l n = false) := Lib.hid fun hh => okTo_fail hh hlt
          generalize hx0 : (l.getD k (0, 0, 0)).1 = x0 at *
          generalize hx1 : (l.getD k (0, 0, 0)).2.1 = x1 at *
          generalize hx2 : (l.getD k (0, 0, 0)).2.2 = x2 at *
          have HE : Hid (l.getD k (0, 0, 0) = (x0, x1, x2)) := Lib.hid (by rw [← hx0, ← hx1, ← hx2])
          clear hx0 hx1 hx2
          obtain ⟨⟨b0, b1⟩, ⟨b2, b3⟩, b4, b5⟩ := hb
          rcases hat with rfl | ⟨kp, hT1⟩
          · have HO' : Hid (okTo l 1 = true) := Lib.hid (by rw [HO.out, HA.out]; rfl)
            simp only [Nat.zero_mul, Nat.add_zero] at c0 c1 c2
            go_wp2_with (go_at_call 25; refine (isFinite_c _ _).mono ?_; rw [HX.out]; rintro e w' ⟨rfl, rfl⟩)
            go_quiet (fail)
            go_wp2_with fail
            go_roundw
            case rel => exact ⟨1, by omega, by go_num, HO', below_drewN (hbel.alloc hbel.size _) _⟩
            case measure => simp [intOf]; omega
          · have hb' := (isTrm_iff _).1 hT1
            obtain ⟨b', o', q', _, d0, d1, d2⟩ := (h.below ((hbel.alloc hbel.size (.cells #[.int .i64 x0, .int .i64 x1, .int .i64 x2] 35)).mono hB)).at_ (k := k - 1) (by omega)
            cases q'
            have HP1 : Hid (decide (k = 0) = false) := Lib.hid (by simp; omega)
            clear hT1
            generalize hy0 : (l.getD (k - 1) (0, 0, 0)).1 = y0 at *
            generalize hy1 : (l.getD (k - 1) (0, 0, 0)).2.1 = y1 at *
            generalize hy2 : (l.getD (k - 1) (0, 0, 0)).2.2 = y2 at *
            have HE1 : Hid (l.getD (k - 1) (0, 0, 0) = (y0, y1, y2)) := Lib.hid (by rw [← hy0, ← hy1, ← hy2])
            clear hy0 hy1 hy2
            obtain ⟨⟨p0, p1⟩, ⟨p2, p3⟩, _, _⟩ := hb'
            have e1 : IntKind.i64.wrap ((k : Int) - 1) = (k : Int) - 1 := IntWalk.i64_in _ (by omega)
            have e2 : ((k : Int) - 1).toNat = k - 1 := by omega
            have e3 : (1 : Int) ≤ (k : Int) := by omega
            have e4 : (0 : Int) ≤ (k : Int) - 1 := by omega
            have e5 : (k : Int) - 1 < (n : Int) := by omega
            have e6 : (0 : Int) < (k : Int) := by omega
            have e7 : ¬ (k : Int) - 1 < 0 := by omega
            have e8 : ¬ (n : Int) ≤ (k : Int) - 1 := by omega
            have e9 : ¬ n ≤ k - 1 := by omega
            go_wp2_with (go_at_call 25; refine (isFinite_c _ _).mono ?_; rw [HX.out]; rintro e w' ⟨rfl, rfl⟩)
            have belz := hbel.alloc hbel.size (.cells #[.int .i64 x0, .int .i64 x1, .int .i64 x2] 35)
            have P := Bx.new wr [.int .i64 x0, .int .i64 x1, .int .i64 x2] 35
            clear hbel c0 c1 c2
            generalize wr.alloc (.cells #[.int .i64 x0, .int .i64 x1, .int .i64 x2] 35) = wz at *
            have z0 := P.at0
            have z1 := P.at1
            have z2 := P.at2
            cases hc : ltT (l.getD (k - 1) (0, 0, 0)) (l.getD k (0, 0, 0))
            · have hcm : ¬ cmpT (y0, y1, y2) (x0, x1, x2) < 0 := by have := HC'.out hc; rw [HE.out, HE1.out] at this; omega
              have hcm' : 0 ≤ cmpT (y0, y1, y2) (x0, x1, x2) := by omega
              have HF := Lib.hid (HT.out (by rw [HA.out, hc, HP1.out]; rfl))
              clear hc
              go_still_tail 9, (by kernel_rfl)
              go_wp2_with fail
              refine (compareTerms_c _ _ _ _ _ _ _ (by omega) (by omega) (by omega) (by omega)).mono ?_; rintro e u1 ⟨rfl, hb1⟩
              have bel := belz.drew.trans (hb1.mono belz.drew.size)
              go_wp2_with fail
              go_ret
              exact ⟨retB (by rw [H.out, HF.out]), bel⟩
            · have hcm : cmpT (y0, y1, y2) (x0, x1, x2) < 0 := by have := HC.out hc; rw [HE.out, HE1.out] at this; omega
              have hcm' : ¬ 0 ≤ cmpT (y0, y1, y2) (x0, x1, x2) := by omega
              have HF : Hid (okTo l (k + 1) = true) := Lib.hid (by rw [HO.out, HA.out, hc, HP1.out]; rfl)
              clear hc
              go_still_tail 9, (by kernel_rfl)
              go_wp2_with fail
              refine (compareTerms_c _ _ _ _ _ _ _ (by omega) (by omega) (by omega) (by omega)).mono ?_; rintro e u1 ⟨rfl, hb1⟩
              have bel := belz.drew.trans (hb1.mono belz.drew.size)
              go_wp2_with fail
              go_roundw
              case rel => exact ⟨k + 1, by omega, by go_num, HF, bel⟩
              case measure => simp [intOf]; omega
      · obtain rfl : k = n := by omega
        go_wp2_with fail
        go_ret
        exact ⟨retB (by rw [H.out, hok.out]), hbel⟩
end Go.Proofs.YtmhbkljnilonkaaDoor
