/- The law on powers of polynomials: both packages' functions against a plain one, and the walk of the law. -/
import Derived.Test.YthhgakojkcmoiaaWProd
namespace Go.Proofs.Ythhgakojkcmoiaa
open Go.RowKit
theorem Own.one {B : Nat} (w : World) (z : Int) (E : TypeId) (hB : B ≤ w.heap.size) : Own (w.alloc (.cells #[.int .i64 z] E)) B E (.slice (some ⟨w.heap.size, 0, none⟩) 1 1) 1 [z] :=
  World.ownsRow_lit (size := 1) (base := B) (e := E) w #[.int .i64 z] 1 hB (by simp [maxLen]) rfl
theorem ppowTo_fail {p : List Int} {k : Nat} (h : (ppowTo p (k + 1)).2 = false) : ∀ j, k < j → ppowTo p j = ([], false)
  | 0, hj => absurd hj (by omega)
  | j + 1, hj => by
    by_cases hkj : j = k
    · subst hkj
      rw [ppowTo] at h ⊢
      split
      · rename_i h2
        rw [if_pos h2] at h
        unfold toldPol at h ⊢
        split
        · rename_i h3
          rw [if_pos h3] at h
          exact absurd h (by simp)
        · rfl
      · rfl
    · rw [ppowTo, ppowTo_fail h j (by omega)]
      rfl
set_option maxHeartbeats 4000000 in
theorem implPolyPower_c (A : Option Addr) (n c : Nat) (p : List Int) (x : Int) (w : World) (h : Rd w w.heap.size A n p) (_hn : n ≤ 1048576) :
    Calls Try.prog 36 #[.slice A n c, .int .i64 x] w (RetOwnB 3 (pPolyPower p x).1 (pPolyPower p x).2 w) := by
  cases hp : isPol p <;> cases hx : (decide (0 ≤ x) && decide (x ≤ 12))
  case true.true =>
    obtain ⟨hx0, hx1⟩ : 0 ≤ x ∧ x ≤ 12 := by simpa using hx
    obtain ⟨K, rfl⟩ := Int.eq_ofNat_of_zero_le hx0
    have hK : K ≤ 12 := by omega
    have H : Hid (pPolyPower p K = ppowTo p K) := Lib.hid (by rw [pPolyPower, hp, hx]; rfl)
    have hl := isPol_len hp
    have HN := Lib.hid (show p.length = n from h.len)
    rw [HN.out] at hl
    have HA := Lib.hid (isPol_all hp)
    have HP := Lib.hid hp
    have HX := Lib.hid hx
    clear hp hx hx0 hx1
    have own0 := Own.one w 0 3 (Nat.le_refl w.heap.size)
    have bel0 := bel_new w (.cells #[.int .i64 0] 3)
    go_enter Try.func36, Try.ntmps36
    go_wp2_with fail
    refine (isPoly_c _ _ _ _ _ _ h).mono ?_; rw [HP.out]; rintro e w' ⟨rfl, rfl⟩
    go_wp2_with fail
    refine (within_c _ _ _ _).mono ?_; rw [HX.out]; rintro e w' ⟨rfl, rfl⟩
    go_wp2_with fail
    go_loopw [6, 19] (fun v i wr => ∃ k : Nat, k ≤ K ∧ ∃ j : Nat, i = .int .i64 k ∧ j ≤ 17592186040000 ∧ (ppowTo p k).2 = true ∧ Own wr w.heap.size 3 v j (ppowTo p k).1 ∧ Below w.heap.size w wr) (fun _ i _ => K - (intOf i).toNat)
    case atStart => exact ⟨0, Nat.zero_le _, 1, rfl, by omega, rfl, own0, bel0⟩
    case round =>
      obtain ⟨k, hk, j, rfl, hj, hok, hown, hbel⟩ := hrel
      obtain ⟨A1, c1, rfl⟩ := hown.shape
      have hsz := hbel.size
      have hr := (h.below hbel).more hsz
      have hcur := ppowTo_pol p k hok
      have hcl := isPol_len hcur
      have HCl := Lib.hid (show (ppowTo p k).1.length = j from hown.len)
      rw [HCl.out] at hcl
      have HC := Lib.hid hcur
      have HCA := Lib.hid (isPol_all hcur)
      clear hcur
      by_cases hlt : k < K
      · have HS : Hid (ppowTo p (k + 1) = toldPol (pprod (ppowTo p k).1 p)) := Lib.hid (by rw [ppowTo, if_pos hok])
        have hrd := hown.rd
        cases hb : (ppowTo p (k + 1)).2
        all_goals
          have HB := Lib.hid hb
          clear hb
          go_wp2_with fail
          refine (implPolyProduct_c _ _ _ _ _ _ _ _ _ hrd (by omega) hr (by omega)).mono ?_; rw [show pPolyProduct (ppowTo p k).1 p = ppowTo p (k + 1) from by rw [HS.out, pPolyProduct, HC.out, HP.out]; rfl]; rintro e w1 ⟨A2, j2, c2, rfl, own1, hb1, hj2⟩
          rw [HB.out]
          have hbel' := hbel.trans (hb1.mono hsz)
          have own2 := own1.more hsz
          clear hown hrd hr
          go_wp2_with fail
        · go_ret2
          rw [H.out, ppowTo_fail HB.out K hlt]
          exact retOwnB_mk (Own.nil _ _ _) hbel' (by omega)
        · go_roundw
          case rel => exact ⟨k + 1, by omega, j2, by go_num, hj2, HB.out, own2, hbel'⟩
          case measure => simp [intOf]; omega
      · obtain rfl : k = K := by omega
        go_wp2_with fail
        go_ret2
        rw [H.out, show ppowTo p k = ((ppowTo p k).1, true) from Prod.ext rfl hok]
        exact retOwnB_mk hown hbel (by omega)
  all_goals
    have H : Hid (pPolyPower p x = ([], false)) := Lib.hid (by rw [pPolyPower, hp, hx]; rfl)
    have HP := Lib.hid hp
    have HX := Lib.hid hx
    clear hp hx
    go_enter Try.func36, Try.ntmps36
    go_wp2_with fail
    refine (isPoly_c _ _ _ _ _ _ h).mono ?_; rw [HP.out]; rintro e w' ⟨rfl, rfl⟩
    go_wp2_with (go_at_call 69; refine (within_c _ _ _ _).mono ?_; rw [HX.out]; rintro e w' ⟨rfl, rfl⟩)
    go_ret2
    rw [H.out]
    exact retOwnB_mk (Own.nil _ _ _) (Below.refl _ _) (by omega)
set_option maxHeartbeats 4000000 in
theorem specPolyPower_c (A : Option Addr) (n c : Nat) (p : List Int) (x : Int) (w : World) (h : Rd w w.heap.size A n p) (_hn : n ≤ 1048576) :
    Calls Try.prog 35 #[.slice A n c, .int .i64 x] w (RetOwnB 3 (pPolyPower p x).1 (pPolyPower p x).2 w) := by
  cases hp : isPol p <;> cases hx : (decide (0 ≤ x) && decide (x ≤ 12))
  case true.true =>
    obtain ⟨hx0, hx1⟩ : 0 ≤ x ∧ x ≤ 12 := by simpa using hx
    obtain ⟨K, rfl⟩ := Int.eq_ofNat_of_zero_le hx0
    have hK : K ≤ 12 := by omega
    have H : Hid (pPolyPower p K = ppowTo p K) := Lib.hid (by rw [pPolyPower, hp, hx]; rfl)
    have hl := isPol_len hp
    have HN := Lib.hid (show p.length = n from h.len)
    rw [HN.out] at hl
    have HA := Lib.hid (isPol_all hp)
    have HP := Lib.hid hp
    have HX := Lib.hid hx
    clear hp hx hx0 hx1
    have own0 := Own.one w 0 3 (Nat.le_refl w.heap.size)
    have bel0 := bel_new w (.cells #[.int .i64 0] 3)
    go_enter Try.func35, Try.ntmps35
    go_wp2_with fail
    refine (poGood_c _ _ _ _ _ _ h).mono ?_; rw [HP.out]; rintro e w' ⟨rfl, rfl⟩
    go_wp2_with fail
    refine (l1In_c _ _ _ _).mono ?_; rw [HX.out]; rintro e w' ⟨rfl, rfl⟩
    go_wp2_with fail
    go_loopw [6, 1] (fun v i wr => ∃ k : Nat, k ≤ K ∧ ∃ j : Nat, i = .int .i64 ((K : Int) - (k : Int)) ∧ j ≤ 17592186040000 ∧ (ppowTo p k).2 = true ∧ Own wr w.heap.size 3 v j (ppowTo p k).1 ∧ Below w.heap.size w wr) (fun _ i _ => (intOf i).toNat)
    case atStart => exact ⟨0, Nat.zero_le _, 1, by simp, by omega, rfl, own0, bel0⟩
    case round =>
      obtain ⟨k, hk, j, rfl, hj, hok, hown, hbel⟩ := hrel
      obtain ⟨A1, c1, rfl⟩ := hown.shape
      have hsz := hbel.size
      have hr := (h.below hbel).more hsz
      have hcur := ppowTo_pol p k hok
      have hcl := isPol_len hcur
      have HCl := Lib.hid (show (ppowTo p k).1.length = j from hown.len)
      rw [HCl.out] at hcl
      have HC := Lib.hid hcur
      have HCA := Lib.hid (isPol_all hcur)
      clear hcur
      by_cases hlt : k < K
      · have HS : Hid (ppowTo p (k + 1) = toldPol (pprod (ppowTo p k).1 p)) := Lib.hid (by rw [ppowTo, if_pos hok])
        have ej : (0 : Int) < (K : Int) - (k : Int) := by omega
        have hrd := hown.rd
        cases hb : (ppowTo p (k + 1)).2
        all_goals
          have HB := Lib.hid hb
          clear hb
          go_wp2_with fail
          refine (poProduct_c _ _ _ _ _ _ _ _ _ _ hrd hr (Nat.le_refl _) HCA.out HA.out (by omega) (by omega) (by omega) (by omega)).mono ?_; rw [← HS.out]; rintro e w1 ⟨A2, j2, c2, rfl, own1, hb1, hj2⟩
          rw [HB.out]
          have hbel' := hbel.trans (hb1.mono hsz)
          have own2 := own1.more hsz
          clear hown hrd hr
          go_wp2_with fail
        · go_ret2
          rw [H.out, ppowTo_fail HB.out K hlt]
          exact retOwnB_mk (Own.nil _ _ _) hbel' (by omega)
        · go_roundw
          case rel => exact ⟨k + 1, by omega, j2, by go_num, hj2, HB.out, own2, hbel'⟩
          case measure => simp [intOf]; omega
      · obtain rfl : k = K := by omega
        have ej : ¬ (0 : Int) < (k : Int) - (k : Int) := by omega
        go_wp2_with fail
        go_ret2
        rw [H.out, show ppowTo p k = ((ppowTo p k).1, true) from Prod.ext rfl hok]
        exact retOwnB_mk hown hbel (by omega)
  all_goals
    have H : Hid (pPolyPower p x = ([], false)) := Lib.hid (by rw [pPolyPower, hp, hx]; rfl)
    have HP := Lib.hid hp
    have HX := Lib.hid hx
    clear hp hx
    go_enter Try.func35, Try.ntmps35
    go_wp2_with fail
    refine (poGood_c _ _ _ _ _ _ h).mono ?_; rw [HP.out]; rintro e w' ⟨rfl, rfl⟩
    go_wp2_with (go_at_call 68; refine (l1In_c _ _ _ _).mono ?_; rw [HX.out]; rintro e w' ⟨rfl, rfl⟩)
    go_ret2
    rw [H.out]
    exact retOwnB_mk (Own.nil _ _ _) (Below.refl _ _) (by omega)
theorem walk_FnExactPolyPower (A0 : Option Addr) (n0 c0 : Nat) (z0 : List Int) (a1 : Int) (w : World) (r0 : Rd w w.heap.size A0 n0 z0) (w1 : (Lit.int .i64 a1).wf = true) :
  Calls Try.prog 11 #[.slice A0 n0 c0, .int .i64 a1] w fun e w' => e = .returned (.bool true) ∧ Below w.heap.size w w' := by
  have _w := w1
  have l0 := r0.le
  by_cases s0 : n0 ≤ 1048576
  rotate_left
  · go_enter Try.func11, Try.ntmps11
    go_wp2_with fail
    go_ret
    exact ⟨rfl, Below.refl _ _⟩
  go_enter Try.func11, Try.ntmps11
  have bel : Below w.heap.size w w := Below.refl _ _
  go_wp2_with fail
  refine (toIntS_c _ _ _ _ _ _ (r0.below bel) bel.size (by omega)).mono ?_
  rintro e u1 ⟨AT0, nT0, cT0, rfl, T0, hb1, qT0⟩
  have bel := bel_step bel hb1
  have sz1 := hb1.size
  have T00 := T0
  have eT0 : nT0 ≤ 1048576 := by have := T0.len; have := r0.len; omega
  go_wp2_with fail
  refine (specPolyPower_c _ _ _ _ _ _ T0.rd eT0).mono ?_
  rintro e u2 ⟨AWr, nWr, cWr, rfl, Wr, hb2, qWr⟩
  have bel := bel_step bel hb2
  have sz2 := hb2.size
  have T0 := T0.go hb2
  have Wr0 := Wr
  go_wp2_with fail
  refine (toIntS_c _ _ _ _ _ _ (r0.below bel) bel.size (by omega)).mono ?_
  rintro e u3 ⟨AX0, nX0, cX0, rfl, X0, hb3, qX0⟩
  have bel := bel_step bel hb3
  have sz3 := hb3.size
  have Wr := Wr.go hb3
  have X00 := X0
  have eX0 : nX0 ≤ 1048576 := by have := X0.len; have := r0.len; omega
  go_wp2_with fail
  refine (implPolyPower_c _ _ _ _ _ _ X0.rd eX0).mono ?_
  rintro e u4 ⟨AGr, nGr, cGr, rfl, Gr, hb4, qGr⟩
  have bel := bel_step bel hb4
  have sz4 := hb4.size
  have Wr := Wr.go hb4
  have X0 := X0.go hb4
  have Gr0 := Gr
  go_wp2_with fail
  refine (eqIntS_c _ _ _ _ _ _ _ _ _ _ Gr.rd Wr.rd).mono ?_
  rintro e u5 ⟨rfl, hb5⟩
  have bel := bel_step bel hb5
  have sz5 := hb5.size
  have Wr := Wr.go hb5
  have X0 := X0.go hb5
  have Gr := Gr.go hb5
  go_wp2_with fail
  refine (toIntS_c _ _ _ _ _ _ (r0.below bel) bel.size (by omega)).mono ?_
  rintro e u6 ⟨AY0, nY0, cY0, rfl, Y0, hb6, qY0⟩
  have bel := bel_step bel hb6
  have sz6 := hb6.size
  have Wr := Wr.go hb6
  have X0 := X0.go hb6
  have Gr := Gr.go hb6
  have Y00 := Y0
  have eY0 : nY0 ≤ 1048576 := by have := Y0.len; have := r0.len; omega
  go_wp2_with fail
  refine (eqIntS_c _ _ _ _ _ _ _ _ _ _ X0.rd Y0.rd).mono ?_
  rintro e u7 ⟨rfl, hb7⟩
  have bel := bel_step bel hb7
  have sz7 := hb7.size
  have Wr := Wr.go hb7
  have X0 := X0.go hb7
  have Gr := Gr.go hb7
  have Y0 := Y0.go hb7
  go_wp2_with fail
  refine (markIntS_c _ _ _ _ _ _ _ X0 (by omega) (by omega) (by omega)).mono ?_
  rintro e u8 ⟨rfl, X0, hg8⟩
  have bel := bel.grown hg8 bel.size fun g hg => by have := (X00.lt g hg).1; omega
  have sz8 := hg8.size
  have Wr := Wr.kept hg8 (own_ne Wr0 X00 (by omega))
  have Gr := Gr.kept hg8 (own_ne' X00 Gr0 (by omega))
  go_wp2_with fail
  refine (eqIntS_c _ _ _ _ _ _ _ _ _ _ Gr.rd Wr.rd).mono ?_
  rintro e u9 ⟨rfl, hb9⟩
  have bel := bel_step bel hb9
  have sz9 := hb9.size
  have Wr := Wr.go hb9
  have X0 := X0.go hb9
  have Gr := Gr.go hb9
  go_wp2_with fail
  refine (markIntS_c _ _ _ _ _ _ _ Gr (by omega) (by omega) (by omega)).mono ?_
  rintro e u10 ⟨rfl, Gr, hg10⟩
  have bel := bel.grown hg10 bel.size fun g hg => by have := (Gr0.lt g hg).1; omega
  have sz10 := hg10.size
  have Wr := Wr.kept hg10 (own_ne Wr0 Gr0 (by omega))
  go_wp2_with fail
  refine (heldIntS_c _ _ _ _ _ _ Gr.rd (by omega) (by omega) (by omega)).mono ?_
  rintro e u11 ⟨rfl, hb11⟩
  have bel := bel_step bel hb11
  have sz11 := hb11.size
  have Wr := Wr.go hb11
  have Gr := Gr.go hb11
  go_wp2_with fail
  refine (toIntS_c _ _ _ _ _ _ (r0.below bel) bel.size (by omega)).mono ?_
  rintro e u12 ⟨AZ0, nZ0, cZ0, rfl, Z0, hb12, qZ0⟩
  have bel := bel_step bel hb12
  have sz12 := hb12.size
  have Wr := Wr.go hb12
  have Gr := Gr.go hb12
  have Z00 := Z0
  have eZ0 : nZ0 ≤ 1048576 := by have := Z0.len; have := r0.len; omega
  go_wp2_with fail
  refine (implPolyPower_c _ _ _ _ _ _ Z0.rd eZ0).mono ?_
  rintro e u13 ⟨AHr, nHr, cHr, rfl, Hr, hb13, qHr⟩
  have bel := bel_step bel hb13
  have sz13 := hb13.size
  have Wr := Wr.go hb13
  have Gr := Gr.go hb13
  have Z0 := Z0.go hb13
  have Hr0 := Hr
  go_wp2_with fail
  refine (eqIntS_c _ _ _ _ _ _ _ _ _ _ Hr.rd Wr.rd).mono ?_
  rintro e u14 ⟨rfl, hb14⟩
  have bel := bel_step bel hb14
  have sz14 := hb14.size
  have Wr := Wr.go hb14
  have Gr := Gr.go hb14
  have Hr := Hr.go hb14
  go_wp2_with fail
  refine (heldIntS_c _ _ _ _ _ _ Gr.rd (by omega) (by omega) (by omega)).mono ?_
  rintro e u15 ⟨rfl, hb15⟩
  have bel := bel_step bel hb15
  have sz15 := hb15.size
  have Wr := Wr.go hb15
  have Gr := Gr.go hb15
  have Hr := Hr.go hb15
  go_wp2_with fail
  go_ret
  exact ⟨rfl, bel⟩
end Go.Proofs.Ythhgakojkcmoiaa
