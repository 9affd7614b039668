/- Polynomials read of a text: both packages' functions, and the walk of the law. -/
import Derived.Test.YtkblommonimpfaaDoorWPol
import Derived.Test.YtkblommonimpfaaDoorPoly
import Derived.Test.YtkblommonimpfaaDoorMem
import Derived.Test.YtkblommonimpfaaDoorWSpl
namespace Go.Proofs.YtkblommonimpfaaDoor
open Go.RowKit
theorem mapB_at {l : List Bs} {k : Nat} (h : k < l.length) : (l.map txtB).getD k ⟨#[]⟩ = txtB (l.getD k []) := by simp [List.getD, List.getElem?_eq_getElem h]
theorem takeB_at {l : List Bs} {k : Nat} (h : k < l.length) : l.take (k + 1) = l.take k ++ [l.getD k []] := by
  rw [List.take_succ_eq_append_getElem h]
  simp [List.getD, List.getElem?_eq_getElem h]
theorem memB_at {l : List Bs} {k : Nat} (h : k < l.length) : l.getD k [] ∈ l := by simp [List.getD, List.getElem?_eq_getElem h]
def polS (l : Bs) : List Int × Bool := if 13 < (spl 44 l).length then ([], false) else match allOf canN (spl 44 l) with
  | none => ([], false)
  | some T => if isPol T then (T, true) else ([], false)
theorem isPol_13 {T : List Int} (h : isPol T = true) : T.length ≤ 13 := by
  unfold isPol at h
  simp at h
  omega
theorem polS_nums (l : Bs) : polS l = match numsI l with
  | (_, false) => ([], false)
  | (T, true) => if isPol T then (T, true) else ([], false) := by
  unfold polS numsI
  cases h : allOf canN (spl 44 l) with
  | none => split <;> rfl
  | some T =>
    dsimp only
    have hl := allOf_len h
    cases hp : isPol T
    · split <;> rfl
    · have := isPol_13 hp
      rw [if_neg (by omega)]
set_option maxHeartbeats 1000000 in
theorem implParsePoly_c (s : ByteArray) (hs : s.size ≤ 1048576) (w : World) (hL : LibOk w) :
    Calls Tryd.prog 5 #[.string s] w (RetOwnB 3 (polS s.data.toList).1 (polS s.data.toList).2 w) := by
  have CN := fun w hL => parseNumbers_c s hs w hL
  have HQ := Lib.hid (polS_nums s.data.toList)
  generalize polS s.data.toList = Q at *
  generalize numsI s.data.toList = R at *
  obtain ⟨T, ok⟩ := R
  cases ok
  · go_enter Tryd.func5, Tryd.ntmps5
    go_wp2_with fail
    refine (CN _ hL).mono ?_
    rintro e w1 ⟨A, n, c, rfl, own, hb, hn⟩
    go_wp2_with fail
    go_ret2
    rw [HQ.out]
    exact retOwnB_mk (Own.nil _ _ _) hb (by omega)
  · cases hp : isPol T
    · have HX : Hid (Q = ([], false)) := Lib.hid (by rw [HQ.out]; dsimp only; rw [hp]; rfl)
      have HP := Lib.hid hp
      clear hp
      go_enter Tryd.func5, Tryd.ntmps5
      go_wp2_with fail
      refine (CN _ hL).mono ?_
      rintro e w1 ⟨A, n, c, rfl, own, hb, hn⟩
      go_wp2_with fail
      refine (toldPoly_c A n c T _ _ false HP.out (Own.rd own)).mono ?_
      rintro e w2 ⟨rfl, rfl⟩
      go_wp2_with fail
      go_ret2
      rw [HX.out]
      exact retOwnB_mk (Own.nil _ _ _) hb (by omega)
    · have HX : Hid (Q = (T, true)) := Lib.hid (by rw [HQ.out]; dsimp only; rw [hp]; rfl)
      have HP := Lib.hid hp
      clear hp
      go_enter Tryd.func5, Tryd.ntmps5
      go_wp2_with fail
      refine (CN _ hL).mono ?_
      rintro e w1 ⟨A, n, c, rfl, own, hb, hn⟩
      go_wp2_with fail
      refine (toldPoly_c A n c T _ _ true HP.out (Own.rd own)).mono ?_
      rintro e w2 ⟨rfl, rfl⟩
      go_wp2_with fail
      go_ret2
      rw [HX.out]
      exact retOwnB_mk own hb hn
set_option maxRecDepth 8192 in
set_option maxHeartbeats 4000000 in
theorem specParsePoly_c (s : ByteArray) (hs : s.size ≤ 1048576) (w : World) :
    Calls Tryd.prog 4 #[.string s] w (RetOwnB 3 (polS s.data.toList).1 (polS s.data.toList).2 w) := by
  have HSl : Hid (s.data.toList.length ≤ 1048576) := Lib.hid (by rw [← Lib.size_eq]; exact hs)
  obtain ⟨i0, hi, hz0, hz1, hz2⟩ := info_parts infoIntP
  have HI := Lib.hid hi
  have HZ0 := Lib.hid hz0
  have HZ1 := Lib.hid hz1
  have HZ2 := Lib.hid hz2
  clear hi hz0 hz1 hz2
  go_enter Tryd.func4, Tryd.ntmps4
  go_wp2_with fail
  refine (l1Split_c s 44 44 rfl hs _).mono ?_
  rintro e w1 ⟨A1, n1, c1, rfl, own1, hb1⟩
  have hl1 := own1.len
  rw [splB, List.length_map] at hl1
  have hp1 := List.length_pos_iff.2 (spl_ne 44 s.data.toList)
  obtain ⟨g1, rfl⟩ := own1.head (by omega)
  have hs1 := hb1.size
  by_cases h13 : 13 < n1
  · have HN : Hid (polS s.data.toList = ([], false)) := Lib.hid (by rw [polS, if_pos (by rw [hl1]; exact h13)])
    have h13' : (13 : Int) < (n1 : Int) := by omega
    go_wp2_with fail
    go_ret2
    rw [HN.out]
    exact retOwnB_mk (Own.nil _ _ _) hb1 (by omega)
  have HPI : Hid (polS s.data.toList = match allOf canN (spl 44 s.data.toList) with
    | none => ([], false)
    | some T => if isPol T then (T, true) else ([], false)) := Lib.hid (by rw [polS, if_neg (by rw [hl1]; exact h13)])
  have h : RdS w1 w1.heap.size (some ⟨g1, 0, none⟩) n1 (splB 44 s) := own1.rd
  have HWL : Hid ((spl 44 s.data.toList).length = n1) := Lib.hid hl1
  have HWA : Hid (∀ k, k < n1 → (splB 44 s).getD k ⟨#[]⟩ = txtB ((spl 44 s.data.toList).getD k [])) := Lib.hid (fun k hk => mapB_at (by rw [HWL.out]; exact hk))
  have HWs : Hid (∀ k, k < n1 → ((spl 44 s.data.toList).getD k []).length ≤ 1048576) := Lib.hid (fun k hk => Nat.le_trans (spl_mem 44 _ _ (memB_at (by rw [HWL.out]; exact hk))) HSl.out)
  generalize spl 44 s.data.toList = W at *
  have HFail : Hid (∀ k, k < n1 → canN (W.getD k []) = none → polS s.data.toList = ([], false)) := Lib.hid (fun k hk h => by
    rw [HPI.out, allOf_fail h (memB_at (by rw [HWL.out]; exact hk))])
  generalize polS s.data.toList = Q at *
  have h13' : ¬ (13 : Int) < (n1 : Int) := by omega
  have hn13 : n1 ≤ 13 := by omega
  clear own1 hl1 hp1 h13
  go_wp2_with fail
  go_loopw [5, 17] (fun v i wr => ∃ (k : Nat) (T : List Int), k ≤ n1 ∧ i = .int .i64 k ∧ Hid (allOf canN (W.take k) = some T) ∧ Own wr w1.heap.size 3 v k T ∧ Below w1.heap.size w1 wr) (fun _ i _ => n1 - (intOf i).toNat)
  case atStart => exact ⟨0, [], Nat.zero_le _, rfl, Lib.hid rfl, Own.nil _ _ _, Below.refl _ _⟩
  case round =>
    obtain ⟨k, T, hk, rfl, HT, hown, bel⟩ := hrel
    have hr := h.below bel
    by_cases hlt : k < n1
    · obtain ⟨ad', e, _, hc⟩ := hr.at_ hlt
      cases e
      rw [HWA.out k hlt, Addr.add_lit, Nat.zero_add] at hc
      have hps := HWs.out k hlt
      have HF1 : Hid (canN (W.getD k []) = none → Q = ([], false)) := Lib.hid (HFail.out k hlt)
      have HT1 : Hid (∀ t, canN (W.getD k []) = some t → allOf canN (W.take (k + 1)) = some (T ++ [t])) := Lib.hid (fun t ht => by
        rw [takeB_at (by rw [HWL.out]; exact hlt)]
        exact allOf_snoc HT.out ht)
      generalize W.getD k [] = p at *
      have CP := fun w => nuParse_c (txtB p) (by rw [txtB_size]; exact hps) w
      rw [txtB_toList] at CP
      have hzr := bel.size
      clear hr
      cases hcan : canN p with
      | none =>
        have HN := Lib.hid (HF1.out hcan)
        have hpn : pNum p = (0, false) := by rw [pNum, hcan]
        rw [hpn] at CP
        clear hcan hpn
        go_wp2_with fail
        refine (CP _).mono ?_; rintro e w4 ⟨rfl, hb4⟩
        have belw := hb1.trans ((bel_step bel hb4).mono hs1)
        go_wp2_with fail
        go_ret2
        rw [HN.out]
        exact retOwnB_mk (Own.nil _ _ _) belw (by omega)
      | some c0 =>
        have HN := Lib.hid (HT1.out _ hcan)
        have hpn : pNum p = (c0, true) := by rw [pNum, hcan]
        rw [hpn] at CP
        clear hcan hpn
        go_wp2_with fail
        refine (CP _).mono ?_; rintro e w4 ⟨rfl, hb4⟩
        have bel := bel_step bel hb4
        have hown := hown.go hb4
        have hsz := bel.size
        clear hc CP hb4
        go_wp2_with (at_builtin; refine wp_app1 rfl _ _ 22 rfl w1.heap.size 3 i0 Tryd.underlying22 HI.out HZ0.out HZ1.out HZ2.out _ _ _ rfl hown _ rfl (by omega) hsz ?_)
        intro v' w5 own5 hb5 _
        have bel := bel.trans hb5
        clear hown hb5
        go_wp2_with fail
        go_roundw
        case rel => exact ⟨k + 1, T ++ [c0], by omega, by go_num, HN, own5, bel⟩
        case measure => simp [intOf]; omega
    · obtain rfl : k = n1 := by omega
      have HAll : Hid (allOf canN W = some T) := Lib.hid (by have := HT.out; rwa [List.take_of_length_le (by rw [HWL.out]; exact Nat.le_refl _)] at this)
      have HP : Hid (Q = if isPol T then (T, true) else ([], false)) := Lib.hid (by rw [HPI.out, HAll.out])
      obtain ⟨A5, c5, rfl⟩ := hown.shape
      have belw := hb1.trans (bel.mono hs1)
      cases hpl : isPol T
      · have HN : Hid (Q = ([], false)) := Lib.hid (by rw [HP.out, hpl]; rfl)
        have HPl := Lib.hid hpl
        clear hpl
        go_wp2_with fail
        refine (poGood_c _ _ _ _ _ _ hown.rd).mono ?_; rw [HPl.out]; rintro e w4 ⟨rfl, rfl⟩
        go_wp2_with fail
        go_ret2
        rw [HN.out]
        exact retOwnB_mk (Own.nil _ _ _) belw (by omega)
      · have HN : Hid (Q = (T, true)) := Lib.hid (by rw [HP.out, hpl]; rfl)
        have HPl := Lib.hid hpl
        clear hpl
        go_wp2_with fail
        refine (poGood_c _ _ _ _ _ _ hown.rd).mono ?_; rw [HPl.out]; rintro e w4 ⟨rfl, rfl⟩
        go_wp2_with fail
        go_ret2
        rw [HN.out]
        exact retOwnB_mk (hown.more hs1) belw (by omega)
set_option maxHeartbeats 1000000 in
theorem walk_FnExactParsePoly (s : ByteArray) (w : World) (_w0 : s.size ≤ maxLen) (hL : LibOk w) :
  Calls Tryd.prog 3 #[.string s] w fun e w' => e = .returned (.bool true) ∧ Below w.heap.size w w' := by
  by_cases hs : s.size ≤ 1048576
  rotate_left
  · go_enter Tryd.func3, Tryd.ntmps3
    go_wp2_with fail
    go_ret
    exact ⟨rfl, Below.refl _ _⟩
  go_enter Tryd.func3, Tryd.ntmps3
  have bel : Below w.heap.size w w := Below.refl _ _
  go_wp2_with fail
  refine (specParsePoly_c s hs _).mono ?_
  rintro e u1 ⟨AWr, nWr, cWr, rfl, Wr, hb1, qWr⟩
  have bel := bel_step bel hb1
  have sz1 := hb1.size
  have Wr0 := Wr
  go_wp2_with fail
  refine (implParsePoly_c s hs _ (hL.go bel)).mono ?_
  rintro e u2 ⟨AGr, nGr, cGr, rfl, Gr, hb2, qGr⟩
  have bel := bel_step bel hb2
  have sz2 := hb2.size
  have Wr := Wr.go hb2
  have Gr0 := Gr
  go_wp2_with fail
  refine (eqIntS_c _ _ _ _ _ _ _ _ _ _ Gr.rd Wr.rd).mono ?_
  rintro e u3 ⟨rfl, hb3⟩
  have bel := bel_step bel hb3
  have sz3 := hb3.size
  have Wr := Wr.go hb3
  have Gr := Gr.go hb3
  go_wp2_with fail
  refine (markIntS_c _ _ _ _ _ _ _ Gr (by omega) (by omega) (by omega)).mono ?_
  rintro e u4 ⟨rfl, Gr, hg4⟩
  have bel := bel.grown hg4 bel.size fun g hg => by have := (Gr0.lt g hg).1; omega
  have sz4 := hg4.size
  have Wr := Wr.kept hg4 (blk_ne Wr0.lt Gr0.lt (by omega))
  go_wp2_with fail
  refine (heldIntS_c _ _ _ _ _ _ Gr.rd (by omega) (by omega) (by omega)).mono ?_
  rintro e u5 ⟨rfl, hb5⟩
  have bel := bel_step bel hb5
  have sz5 := hb5.size
  have Wr := Wr.go hb5
  have Gr := Gr.go hb5
  go_wp2_with fail
  refine (implParsePoly_c s hs _ (hL.go bel)).mono ?_
  rintro e u6 ⟨AHr, nHr, cHr, rfl, Hr, hb6, qHr⟩
  have bel := bel_step bel hb6
  have sz6 := hb6.size
  have Wr := Wr.go hb6
  have Gr := Gr.go hb6
  have Hr0 := Hr
  go_wp2_with fail
  refine (eqIntS_c _ _ _ _ _ _ _ _ _ _ Hr.rd Wr.rd).mono ?_
  rintro e u7 ⟨rfl, hb7⟩
  have bel := bel_step bel hb7
  have sz7 := hb7.size
  have Wr := Wr.go hb7
  have Gr := Gr.go hb7
  have Hr := Hr.go hb7
  go_wp2_with fail
  refine (heldIntS_c _ _ _ _ _ _ Gr.rd (by omega) (by omega) (by omega)).mono ?_
  rintro e u8 ⟨rfl, hb8⟩
  have bel := bel_step bel hb8
  have sz8 := hb8.size
  have Wr := Wr.go hb8
  have Gr := Gr.go hb8
  have Hr := Hr.go hb8
  go_wp2_with fail
  go_ret
  exact ⟨rfl, bel⟩
end Go.Proofs.YtkblommonimpfaaDoor
