/- slices.Reverse at points. -/
import Derived.Test.YtfkglbmdpefigaaGreatDoorCompactP
import Derived.Test.YtfkglbmdpefigaaGreatDoorHalfW
import Derived.RegionTactic
import Derived.ChangeAlike
import Derived.BigRegion
namespace Go.Proofs.YtfkglbmdpefigaaGreatDoor
open Go.RowKit
theorem grown_drew {a b : World} {row : Option Nat} (h : a.grownBy b row) : a.grownBy b.drew row := ⟨h.os, h.tape, h.output, h.size, h.block⟩
/-- The first k and the last k have changed places. -/
def RevAt (l D : List Pnt) (k : Nat) : Prop := D.length = l.length ∧ ∀ t, t < l.length → D.getD t (0, 0) = if t < k ∨ l.length - k ≤ t then l.getD (l.length - 1 - t) (0, 0) else l.getD t (0, 0)
theorem getD_set (D : List Pnt) (i t : Nat) (v : Pnt) (hi : i < D.length) : (D.set i v).getD t (0, 0) = if t = i then v else D.getD t (0, 0) := by
  simp only [List.getD, List.getElem?_set]
  split
  · rename_i h; subst h; simp
  · rename_i h; rw [if_neg (Ne.symm h)]
theorem RevAt.step {l D : List Pnt} {k : Nat} (h : RevAt l D k) (hk : 2 * k + 1 < l.length) : RevAt l ((D.set k (D.getD (l.length - 1 - k) (0, 0))).set (l.length - 1 - k) (D.getD k (0, 0))) (k + 1) := by
  obtain ⟨h1, h2⟩ := h
  refine ⟨by simp [h1], fun t ht => ?_⟩
  rw [getD_set _ _ _ _ (by simp; omega), getD_set _ _ _ _ (by omega)]
  by_cases e1 : t = l.length - 1 - k
  · rw [if_pos e1, if_pos (by omega), h2 k (by omega), if_neg (by omega), show l.length - 1 - t = k from by omega]
  · rw [if_neg e1]
    by_cases e2 : t = k
    · rw [if_pos e2, if_pos (by omega), h2 _ (by omega), if_neg (by omega), show l.length - 1 - t = l.length - 1 - k from by omega]
    · rw [if_neg e2, h2 t ht]
      by_cases e3 : t < k ∨ l.length - k ≤ t
      · rw [if_pos e3, if_pos (by omega)]
      · rw [if_neg e3, if_neg (by omega)]
theorem RevAt.done {l D : List Pnt} {k : Nat} (h : RevAt l D k) (hk : ¬ 2 * k + 1 < l.length) : D = l.reverse := by
  obtain ⟨h1, h2⟩ := h
  apply List.ext_getElem
  · simp [h1]
  · intro t ht1 ht2
    have ht : t < l.length := by omega
    have := h2 t ht
    rw [List.getElem_reverse]
    have e1 : D.getD t (0, 0) = D[t] := by simp [List.getD, List.getElem?_eq_getElem ht1]
    have e2 : l.getD (l.length - 1 - t) (0, 0) = l[l.length - 1 - t] := by simp [List.getD, List.getElem?_eq_getElem (show l.length - 1 - t < l.length by omega)]
    rw [← e1, this, ← e2]
    split
    · rfl
    · rw [show l.length - 1 - t = t from by omega]
theorem RevAt.start (l : List Pnt) : RevAt l l 0 := ⟨rfl, fun t ht => by rw [if_neg (by omega)]⟩
set_option maxHeartbeats 4000000 in
set_option maxRecDepth 8192 in
theorem revP_c (g n c : Nat) (l : List Pnt) (B : Nat) (w : World) (h : OwnP w B 32 (.slice (some ⟨g, 0, none⟩) n c) n l) (hn : n ≤ 3000) :
    Calls Tryz.prog 49 #[.slice (some ⟨g, 0, none⟩) n c] w
      fun e w' => e = .returned (.tuple #[]) ∧ OwnP w' B 32 (.slice (some ⟨g, 0, none⟩) n c) n l.reverse ∧ w.grownBy w' (some g) := by
  have HL := Lib.hid h.len
  go_enter Tryz.func49, Tryz.ntmps49
  go_wp2_with fail
  go_loopw [2, 3] (fun i j wr => ∃ (k : Nat) (D : List Pnt), 2 * k ≤ n ∧ i = .int .i64 k ∧ j = .int .i64 ((n : Int) - 1 - k) ∧ Hid (RevAt l D k) ∧ OwnP wr B 32 (.slice (some ⟨g, 0, none⟩) n c) n D ∧ w.grownBy wr (some g)) (fun i _ _ => n - (intOf i).toNat)
  case atStart => exact ⟨0, l, by omega, rfl, by go_num, Lib.hid (RevAt.start l), h, World.grownBy.refl _ _⟩
  case round =>
    clear h
    obtain ⟨k, D, hk, rfl, rfl, hR, hown, hgr⟩ := hrel
    by_cases hlt : 2 * k + 1 < n
    · have HS : Hid (RevAt l ((D.set k (D.getD (n - 1 - k) (0, 0))).set (n - 1 - k) (D.getD k (0, 0))) (k + 1)) := Lib.hid (by have := hR.out.step (by rw [HL.out]; exact hlt); rwa [HL.out] at this)
      have HD : Hid (D.length = n) := Lib.hid hown.len
      obtain ⟨c0, c1⟩ := hown.get2 (show k < n by omega)
      obtain ⟨d0, d1⟩ := hown.get2 (show n - 1 - k < n by omega)
      generalize hx0 : (D.getD k (0, 0)).1 = x0 at *
      generalize hx1 : (D.getD k (0, 0)).2 = x1 at *
      generalize hy0 : (D.getD (n - 1 - k) (0, 0)).1 = y0 at *
      generalize hy1 : (D.getD (n - 1 - k) (0, 0)).2 = y1 at *
      have HX : Hid (D.getD k (0, 0) = (x0, x1)) := Lib.hid (by rw [← hx0, ← hx1])
      have HY : Hid (D.getD (n - 1 - k) (0, 0) = (y0, y1)) := Lib.hid (by rw [← hy0, ← hy1])
      clear hx0 hx1 hy0 hy1
      rw [HX.out, HY.out] at HS
      obtain ⟨J, hJ⟩ : ∃ J : Nat, J = n - 1 - k := ⟨_, rfl⟩
      have HJ := Lib.hid hJ
      rw [← hJ] at d0 d1 HS
      have e0 : (n : Int) - 1 - k = (J : Int) := by omega
      rw [e0]
      have e1 : (k : Int) < (J : Int) := by omega
      have e2 : (J : Int) < (n : Int) := by omega
      have e3 : (k : Int) < (n : Int) := by omega
      have e4 : J < n := by omega
      have e5 : k < n := by omega
      clear e0 hJ
      obtain ⟨oA, gA⟩ := OwnF.setMany [y0, y1] (flatP D) (k * 2) wr hown
      rw [laid2 D k (y0, y1) (by rw [HD.out]; exact e5)] at oA
      obtain ⟨oB, gB⟩ := OwnF.setMany [x0, x1] (flatP (D.set k (y0, y1))) (J * 2) _ oA
      rw [laid2 _ J (x0, x1) (by rw [List.length_set, HD.out]; exact e4)] at oB
      have gN := grown_drew (grown_trans (grown_trans hgr gA) gB)
      have OB := Lib.hid (OwnP.drew1 oB)
      have GN := Lib.hid gN
      have z0 := OwnF.frozenAt hown (k * 2)
      have z1 := OwnF.frozenAt hown (k * 2 + 1)
      have z2 := OwnF.frozenAt hown (J * 2)
      have z3 := OwnF.frozenAt hown (J * 2 + 1)
      have f0 : ¬ J = k := by omega
      have f1 : ¬ J * 2 = k * 2 + 1 := by omega
      have f2 : ¬ J * 2 + 1 = k * 2 := by omega
      have f3 : ¬ k = J := by omega
      have f4 : ¬ k * 2 + 1 = J * 2 := by omega
      have f5 : ¬ k * 2 = J * 2 + 1 := by omega
      clear gA oA gB oB hown hgr gN
      go_wp2_with fail
      go_region
      all_goals
        go_wp2_with fail
        go_roundw
        case rel => exact ⟨k + 1, _, by omega, by go_num, by have := HJ.out; go_num, HS, OB.out, GN.out⟩
        case measure => simp [intOf]; omega
    · have HE : Hid (D = l.reverse) := Lib.hid (hR.out.done (by rw [HL.out]; exact hlt))
      have e1 : ¬ (k : Int) < (n : Int) - 1 - k := by omega
      go_wp2_with fail
      refine bodyPost_end (results_none rfl _ _ _) rfl ?_
      exact ⟨rfl, by rw [← HE.out]; exact hown, hgr⟩
end Go.Proofs.YtfkglbmdpefigaaGreatDoor
