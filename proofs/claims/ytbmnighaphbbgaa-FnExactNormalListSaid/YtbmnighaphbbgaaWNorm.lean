/- The law on normal lists: both packages' functions, and the walk of the law. -/
import Derived.Test.YtbmnighaphbbgaaList
import Derived.Test.YtbmnighaphbbgaaMem
namespace Go.Proofs.Ytbmnighaphbbgaa
open Go.RowKit
/-- A call that hands back a slice in memory of its own, a number and a bool. -/
def RetOwnIB (E : TypeId) (ys : List Int) (m : Int) (ok : Bool) (w : World) (e : Ending) (w' : World) : Prop :=
  ∃ A n c, e = .returned (.tuple #[.slice A n c, .int .i64 m, .bool ok]) ∧ Own w' w.heap.size E (.slice A n c) n ys ∧ Below w.heap.size w w' ∧ n ≤ 17592186040000
theorem retOwnIB_mk {w w' : World} {E : TypeId} {v : Value} {n : Nat} {zs : List Int} {m : Int} {ok : Bool} (h : Own w' w.heap.size E v n zs) (hb : Below w.heap.size w w') (hn : n ≤ 17592186040000) : RetOwnIB E zs m ok w (.returned (.tuple #[v, .int .i64 m, .bool ok])) w' := by
  obtain ⟨A, c, rfl⟩ := h.shape
  exact ⟨A, n, c, rfl, h, hb, hn⟩
theorem specNormalList_c (A : Option Addr) (n c : Nat) (zs : List Int) (w : World) (h : Rd w w.heap.size A n zs) (hn : n ≤ 1048576) :
    Calls Try.prog 38 #[.slice A n c] w (RetOwnIB 3 (pNormalList zs).1 (pNormalList zs).2.1 (pNormalList zs).2.2 w) := by
  have hm := h.le
  cases hp : isList zs
  · have H : Hid (pNormalList zs = ([], 0, false)) := Lib.hid (by rw [pNormalList, hp]; rfl)
    have HP := Lib.hid hp
    clear hp
    go_enter Try.func38, Try.ntmps38
    go_wp2_with (go_at_call 66; refine (nuList_c _ _ _ _ _ _ h).mono ?_; rw [HP.out]; rintro e w' ⟨rfl, rfl⟩)
    go_ret3
    rw [H.out]
    exact retOwnIB_mk (Own.nil _ _ _) (Below.refl _ _) (by omega)
  · have ha := isList_all hp
    have bl := least_bd ha
    have HA := Lib.hid ha
    cases hi : (least zs == 1000000000)
    · have HP := Lib.hid hp
      cases hx : (shifted zs (-least zs)).all isNum
      · have H : Hid (pNormalList zs = ([], 0, false)) := Lib.hid (by rw [pNormalList, hp, hi, toldList, hx]; rfl)
        have HX := Lib.hid hx
        have HT : Hid (toldList (shifted zs (-least zs)) = ([], false)) := Lib.hid (by rw [toldList, hx]; rfl)
        clear hp hx ha
        go_enter Try.func38, Try.ntmps38
        go_wp2_with (first
          | (go_at_call 66; refine (nuList_c _ _ _ _ _ _ h).mono ?_; rw [HP.out]; rintro e w' ⟨rfl, rfl⟩)
          | (go_at_call 67; refine (nuSum_c _ _ _ _ _ _ h).mono ?_; rintro e w' ⟨rfl, rfl⟩)
          | (go_at_call 68; refine (nuShift_c _ _ _ _ _ _ _ h (Nat.le_refl _) (by omega) HA.out (by omega) (by omega)).mono ?_; rw [HT.out]; rintro e w1 ⟨A1, n1, c1, rfl, hown, hb, hn1⟩))
        go_ret3
        rw [H.out]
        exact retOwnIB_mk (Own.nil _ _ _) hb (by omega)
      · have H : Hid (pNormalList zs = (shifted zs (-least zs), least zs, true)) := Lib.hid (by rw [pNormalList, hp, hi, toldList, hx]; rfl)
        have HX := Lib.hid hx
        have HT : Hid (toldList (shifted zs (-least zs)) = (shifted zs (-least zs), true)) := Lib.hid (by rw [toldList, hx]; rfl)
        clear hp hx ha
        go_enter Try.func38, Try.ntmps38
        go_wp2_with (first
          | (go_at_call 66; refine (nuList_c _ _ _ _ _ _ h).mono ?_; rw [HP.out]; rintro e w' ⟨rfl, rfl⟩)
          | (go_at_call 67; refine (nuSum_c _ _ _ _ _ _ h).mono ?_; rintro e w' ⟨rfl, rfl⟩)
          | (go_at_call 68; refine (nuShift_c _ _ _ _ _ _ _ h (Nat.le_refl _) (by omega) HA.out (by omega) (by omega)).mono ?_; rw [HT.out]; rintro e w1 ⟨A1, n1, c1, rfl, hown, hb, hn1⟩))
        have h1 := h.go hb (Nat.le_refl _)
        refine (nuSum_c _ _ _ _ _ _ h1).mono ?_; rintro e w2 ⟨rfl, rfl⟩
        go_wp2_with fail
        go_ret3
        rw [H.out]
        exact retOwnIB_mk hown hb hn1
    · have H : Hid (pNormalList zs = ([], 0, false)) := Lib.hid (by rw [pNormalList, hp, hi]; rfl)
      have HP := Lib.hid hp
      clear hp ha
      go_enter Try.func38, Try.ntmps38
      go_wp2_with (first
        | (go_at_call 66; refine (nuList_c _ _ _ _ _ _ h).mono ?_; rw [HP.out]; rintro e w' ⟨rfl, rfl⟩)
        | (go_at_call 67; refine (nuSum_c _ _ _ _ _ _ h).mono ?_; rintro e w' ⟨rfl, rfl⟩))
      go_ret3
      rw [H.out]
      exact retOwnIB_mk (Own.nil _ _ _) (Below.refl _ _) (by omega)
theorem implNormalList_c (A : Option Addr) (n c : Nat) (zs : List Int) (w : World) (h : Rd w w.heap.size A n zs) (hn : n ≤ 1048576) :
    Calls Try.prog 39 #[.slice A n c] w (RetOwnIB 3 (pNormalList zs).1 (pNormalList zs).2.1 (pNormalList zs).2.2 w) := by
  have hm := h.le
  cases hp : isList zs
  · have H : Hid (pNormalList zs = ([], 0, false)) := Lib.hid (by rw [pNormalList, hp]; rfl)
    have HP := Lib.hid hp
    clear hp
    go_enter Try.func39, Try.ntmps39
    go_wp2_with (go_at_call 69; refine (isList_c _ _ _ _ _ _ h).mono ?_; rw [HP.out]; rintro e w' ⟨rfl, rfl⟩)
    go_ret3
    rw [H.out]
    exact retOwnIB_mk (Own.nil _ _ _) (Below.refl _ _) (by omega)
  · have ha := isList_all hp
    have bl := least_bd ha
    have HA := Lib.hid ha
    cases hi : (least zs == 1000000000)
    · have HP := Lib.hid hp
      cases hx : (shifted zs (-least zs)).all isNum
      · have H : Hid (pNormalList zs = ([], 0, false)) := Lib.hid (by rw [pNormalList, hp, hi, toldList, hx]; rfl)
        have HX := Lib.hid hx
        have HT : Hid (toldList (shifted zs (-least zs)) = ([], false)) := Lib.hid (by rw [toldList, hx]; rfl)
        clear hp hx ha
        go_enter Try.func39, Try.ntmps39
        go_wp2_with (first
          | (go_at_call 69; refine (isList_c _ _ _ _ _ _ h).mono ?_; rw [HP.out]; rintro e w' ⟨rfl, rfl⟩)
          | (go_at_call 70; refine (sumOf_c _ _ _ _ _ _ h).mono ?_; rintro e w' ⟨rfl, rfl⟩)
          | (go_at_call 72; refine (shifted_c _ _ _ _ _ _ _ h (Nat.le_refl _) (by omega) HA.out (by omega) (by omega)).mono ?_; rintro e w1 ⟨A1, n1, c1, rfl, hown, hb, hn1⟩)
          | (go_at_call 71; refine (toldList_c _ _ _ _ _ _ _ HX.out hown.rd).mono ?_; rintro e w' ⟨rfl, rfl⟩))
        go_ret3
        rw [H.out]
        exact retOwnIB_mk (Own.nil _ _ _) hb (by omega)
      · have H : Hid (pNormalList zs = (shifted zs (-least zs), least zs, true)) := Lib.hid (by rw [pNormalList, hp, hi, toldList, hx]; rfl)
        have HX := Lib.hid hx
        have HT : Hid (toldList (shifted zs (-least zs)) = (shifted zs (-least zs), true)) := Lib.hid (by rw [toldList, hx]; rfl)
        clear hp hx ha
        go_enter Try.func39, Try.ntmps39
        go_wp2_with (first
          | (go_at_call 69; refine (isList_c _ _ _ _ _ _ h).mono ?_; rw [HP.out]; rintro e w' ⟨rfl, rfl⟩)
          | (go_at_call 70; refine (sumOf_c _ _ _ _ _ _ h).mono ?_; rintro e w' ⟨rfl, rfl⟩)
          | (go_at_call 72; refine (shifted_c _ _ _ _ _ _ _ h (Nat.le_refl _) (by omega) HA.out (by omega) (by omega)).mono ?_; rintro e w1 ⟨A1, n1, c1, rfl, hown, hb, hn1⟩)
          | (go_at_call 71; refine (toldList_c _ _ _ _ _ _ _ HX.out hown.rd).mono ?_; rintro e w' ⟨rfl, rfl⟩))
        go_ret3
        rw [H.out]
        exact retOwnIB_mk hown hb hn1
    · have H : Hid (pNormalList zs = ([], 0, false)) := Lib.hid (by rw [pNormalList, hp, hi]; rfl)
      have HP := Lib.hid hp
      clear hp ha
      go_enter Try.func39, Try.ntmps39
      go_wp2_with (first
        | (go_at_call 69; refine (isList_c _ _ _ _ _ _ h).mono ?_; rw [HP.out]; rintro e w' ⟨rfl, rfl⟩)
        | (go_at_call 70; refine (sumOf_c _ _ _ _ _ _ h).mono ?_; rintro e w' ⟨rfl, rfl⟩))
      go_ret3
      rw [H.out]
      exact retOwnIB_mk (Own.nil _ _ _) (Below.refl _ _) (by omega)
theorem walk_FnExactNormalList (A0 : Option Addr) (n0 c0 : Nat) (z0 : List Int) (w : World) (r0 : Rd w w.heap.size A0 n0 z0) :
  Calls Try.prog 13 #[.slice A0 n0 c0] w fun e w' => e = .returned (.bool true) ∧ Below w.heap.size w w' := by
  have l0 := r0.le
  by_cases s0 : n0 ≤ 1048576
  rotate_left
  · go_enter Try.func13, Try.ntmps13
    go_wp2_with fail
    go_ret
    exact ⟨rfl, Below.refl _ _⟩
  go_enter Try.func13, Try.ntmps13
  have bel : Below w.heap.size w w := Below.refl _ _
  go_wp2_with fail
  refine (toIntS_c _ _ _ _ _ _ (r0.below bel) bel.size (by omega)).mono ?_
  rintro e u1 ⟨AT0, nT0, cT0, rfl, T0, hb1, qT0⟩
  have bel := bel_step bel hb1
  have sz1 := hb1.size
  have T00 := T0
  have eT0 : nT0 ≤ 1048576 := by have := T0.len; have := r0.len; omega
  go_wp2_with fail
  refine (specNormalList_c _ _ _ _ _ T0.rd eT0).mono ?_
  rintro e u2 ⟨AWr, nWr, cWr, rfl, Wr, hb2, qWr⟩
  have bel := bel_step bel hb2
  have sz2 := hb2.size
  have T0 := T0.go hb2
  have Wr0 := Wr
  go_wp2_with fail
  refine (toIntS_c _ _ _ _ _ _ (r0.below bel) bel.size (by omega)).mono ?_
  rintro e u3 ⟨AX0, nX0, cX0, rfl, X0, hb3, qX0⟩
  have bel := bel_step bel hb3
  have sz3 := hb3.size
  have Wr := Wr.go hb3
  have X00 := X0
  have eX0 : nX0 ≤ 1048576 := by have := X0.len; have := r0.len; omega
  go_wp2_with fail
  refine (implNormalList_c _ _ _ _ _ X0.rd eX0).mono ?_
  rintro e u4 ⟨AGr, nGr, cGr, rfl, Gr, hb4, qGr⟩
  have bel := bel_step bel hb4
  have sz4 := hb4.size
  have Wr := Wr.go hb4
  have X0 := X0.go hb4
  have Gr0 := Gr
  go_wp2_with fail
  refine (eqIntS_c _ _ _ _ _ _ _ _ _ _ Gr.rd Wr.rd).mono ?_
  rintro e u5 ⟨rfl, hb5⟩
  have bel := bel_step bel hb5
  have sz5 := hb5.size
  have Wr := Wr.go hb5
  have X0 := X0.go hb5
  have Gr := Gr.go hb5
  go_wp2_with fail
  refine (toIntS_c _ _ _ _ _ _ (r0.below bel) bel.size (by omega)).mono ?_
  rintro e u6 ⟨AY0, nY0, cY0, rfl, Y0, hb6, qY0⟩
  have bel := bel_step bel hb6
  have sz6 := hb6.size
  have Wr := Wr.go hb6
  have X0 := X0.go hb6
  have Gr := Gr.go hb6
  have Y00 := Y0
  have eY0 : nY0 ≤ 1048576 := by have := Y0.len; have := r0.len; omega
  go_wp2_with fail
  refine (eqIntS_c _ _ _ _ _ _ _ _ _ _ X0.rd Y0.rd).mono ?_
  rintro e u7 ⟨rfl, hb7⟩
  have bel := bel_step bel hb7
  have sz7 := hb7.size
  have Wr := Wr.go hb7
  have X0 := X0.go hb7
  have Gr := Gr.go hb7
  have Y0 := Y0.go hb7
  go_wp2_with fail
  refine (markIntS_c _ _ _ _ _ _ _ X0 (by omega) (by omega) (by omega)).mono ?_
  rintro e u8 ⟨rfl, X0, hg8⟩
  have bel := bel.grown hg8 bel.size fun g hg => by have := (X00.lt g hg).1; omega
  have sz8 := hg8.size
  have Wr := Wr.kept hg8 (own_ne Wr0 X00 (by omega))
  have Gr := Gr.kept hg8 (own_ne' X00 Gr0 (by omega))
  go_wp2_with fail
  refine (eqIntS_c _ _ _ _ _ _ _ _ _ _ Gr.rd Wr.rd).mono ?_
  rintro e u9 ⟨rfl, hb9⟩
  have bel := bel_step bel hb9
  have sz9 := hb9.size
  have Wr := Wr.go hb9
  have X0 := X0.go hb9
  have Gr := Gr.go hb9
  go_wp2_with fail
  refine (markIntS_c _ _ _ _ _ _ _ Gr (by omega) (by omega) (by omega)).mono ?_
  rintro e u10 ⟨rfl, Gr, hg10⟩
  have bel := bel.grown hg10 bel.size fun g hg => by have := (Gr0.lt g hg).1; omega
  have sz10 := hg10.size
  have Wr := Wr.kept hg10 (own_ne Wr0 Gr0 (by omega))
  go_wp2_with fail
  refine (heldIntS_c _ _ _ _ _ _ Gr.rd (by omega) (by omega) (by omega)).mono ?_
  rintro e u11 ⟨rfl, hb11⟩
  have bel := bel_step bel hb11
  have sz11 := hb11.size
  have Wr := Wr.go hb11
  have Gr := Gr.go hb11
  go_wp2_with fail
  refine (toIntS_c _ _ _ _ _ _ (r0.below bel) bel.size (by omega)).mono ?_
  rintro e u12 ⟨AZ0, nZ0, cZ0, rfl, Z0, hb12, qZ0⟩
  have bel := bel_step bel hb12
  have sz12 := hb12.size
  have Wr := Wr.go hb12
  have Gr := Gr.go hb12
  have Z00 := Z0
  have eZ0 : nZ0 ≤ 1048576 := by have := Z0.len; have := r0.len; omega
  go_wp2_with fail
  refine (implNormalList_c _ _ _ _ _ Z0.rd eZ0).mono ?_
  rintro e u13 ⟨AHr, nHr, cHr, rfl, Hr, hb13, qHr⟩
  have bel := bel_step bel hb13
  have sz13 := hb13.size
  have Wr := Wr.go hb13
  have Gr := Gr.go hb13
  have Z0 := Z0.go hb13
  have Hr0 := Hr
  go_wp2_with fail
  refine (eqIntS_c _ _ _ _ _ _ _ _ _ _ Hr.rd Wr.rd).mono ?_
  rintro e u14 ⟨rfl, hb14⟩
  have bel := bel_step bel hb14
  have sz14 := hb14.size
  have Wr := Wr.go hb14
  have Gr := Gr.go hb14
  have Hr := Hr.go hb14
  go_wp2_with fail
  refine (heldIntS_c _ _ _ _ _ _ Gr.rd (by omega) (by omega) (by omega)).mono ?_
  rintro e u15 ⟨rfl, hb15⟩
  have bel := bel_step bel hb15
  have sz15 := hb15.size
  have Wr := Wr.go hb15
  have Gr := Gr.go hb15
  have Hr := Hr.go hb15
  go_wp2_with fail
  go_ret
  exact ⟨rfl, bel⟩
end Go.Proofs.Ytbmnighaphbbgaa
