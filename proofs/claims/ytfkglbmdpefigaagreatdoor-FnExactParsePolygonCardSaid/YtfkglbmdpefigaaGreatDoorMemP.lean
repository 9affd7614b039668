/- The walks of the laws' own helpers on slices of points: a copy, a comparison of two that are equal, marks written and read again. -/
import Derived.Test.YtfkglbmdpefigaaGreatDoorRows
import Derived.Test.YtfkglbmdpefigaaGreatDoorPnt
import Derived.Test.YtfkglbmdpefigaaGreatDoorMarks
import Derived.StillTailTactics
namespace Go.Proofs.YtfkglbmdpefigaaGreatDoor
open Go.RowKit
theorem info_pnt : (Tryz.prog.info? 32).map (fun i => (i.zero, i.size, i.bytes)) = some (some (.agg #[.int .i64 0, .int .i64 0]), 2, 16) := by kernel_rfl
theorem set2_app {p : List Int} {m : Nat} {a b : Int} {i : Nat} (hp : p.length = i) : ((p ++ List.replicate (m + 2) 0).set i a).set (i + 1) b = p ++ [a, b] ++ List.replicate m 0 := by
  rw [List.set_append_right _ _ (by omega), List.set_append_right _ _ (by omega), hp, Nat.sub_self, Nat.add_sub_cancel_left, List.append_assoc]
  rfl
theorem take_nextP {l : List Pnt} {k : Nat} (hk : k < l.length) : l.take (k + 1) = l.take k ++ [l.getD k (0, 0)] := by
  rw [List.take_succ_eq_append_getElem hk]
  simp [List.getD, List.getElem?_eq_getElem hk]
theorem copyP_step {l : List Pnt} {n k : Nat} (hl : l.length = n) (hk : k < n) : ((flatP (l.take k) ++ List.replicate ((n - k) * 2) 0).set (k * 2) (l.getD k (0, 0)).1).set (k * 2 + 1) (l.getD k (0, 0)).2 = flatP (l.take (k + 1)) ++ List.replicate ((n - (k + 1)) * 2) 0 := by
  rw [show (n - k) * 2 = (n - (k + 1)) * 2 + 2 from by omega, set2_app (by rw [flatP_len, List.length_take]; omega), take_nextP (by omega), flatP_snoc]
theorem eqPoint_c (x y : Int) (w : World) : Calls Tryz.prog 17 #[.agg #[.int .i64 x, .int .i64 y], .agg #[.int .i64 x, .int .i64 y]] w fun e w' => e = .returned (.bool true) ∧ Below w.heap.size w w' := by
  go_enter Tryz.func17, Tryz.ntmps17
  go_wp2
  go_ret
  exact ⟨rfl, bel_alloc (bel_new _ _) _⟩
set_option maxRecDepth 8192 in
theorem eqPointS_c (A A' : Option Addr) (n n' c c' : Nat) (l : List Pnt) (B B' : Nat) (w : World) (h : RdP w B A n l) (h' : RdP w B' A' n' l) (hB : B ≤ w.heap.size) (hB' : B' ≤ w.heap.size) :
    Calls Tryz.prog 6 #[.slice A n c, .slice A' n' c'] w fun e w' => e = .returned (.bool true) ∧ Below w.heap.size w w' := by
  have hm := h.le
  obtain rfl : n = n' := h.len.symm.trans h'.len
  go_enter Tryz.func6, Tryz.ntmps6
  go_wp2
  go_loopw [5] (fun i wr => ∃ k : Nat, k ≤ n ∧ i = .int .i64 k ∧ Below w.heap.size w wr) (fun i _ => n - (intOf i).toNat)
  case atStart => exact ⟨0, Nat.zero_le _, rfl, Below.refl _ _⟩
  case round =>
    obtain ⟨k, hk, rfl, hbel⟩ := hrel
    by_cases hlt : k < n
    · obtain ⟨b, o, rfl, _, c0, c1⟩ := (h.below (hbel.mono hB)).at_ hlt
      obtain ⟨b', o', rfl, _, c0', c1'⟩ := (h'.below (hbel.mono hB')).at_ hlt
      have h0 : (0 : Int) ≤ (k : Int) := by omega
      have h1 : (k : Int) < (n : Int) := by omega
      generalize (l.getD k (0, 0)).1 = x0 at *
      generalize (l.getD k (0, 0)).2 = x1 at *
      go_wp2_with fail
      go_still_tail 8, (by kernel_rfl)
      go_wp2_with fail
      refine (eqPoint_c _ _ _).mono ?_; rintro e u1 ⟨rfl, hb1⟩
      have hbel := bel_step hbel.drew hb1
      go_wp2_with fail
      go_roundw
      case rel => exact ⟨k + 1, by omega, by go_num, hbel⟩
      case measure => simp [intOf]; omega
    · go_wp2
      go_ret
      exact ⟨rfl, hbel⟩
set_option maxRecDepth 8192 in
theorem markPointS_c (A : Option Addr) (n c : Nat) (l : List Pnt) (k : Int) (B : Nat) (w : World) (h : OwnP w B 32 (.slice A n c) n l) (hk : 0 ≤ k) (hk' : k ≤ 4611686018427387904) (hsm : n ≤ 3000000000) :
    Calls Tryz.prog 7 #[.slice A n c, .int .i64 k] w (MarkedF 32 2 B A n c k w) := by
  have HL : Hid ((flatP l).length = n * 2) := Lib.hid (OwnF.len h)
  go_enter Tryz.func7, Tryz.ntmps7
  go_wp2
  go_loopw [1, 5] (fun m i wr => ∃ j : Nat, j ≤ n ∧ i = .int .i64 j ∧ m = .int .i64 (k + ((j * 2 : Nat) : Int)) ∧ OwnF wr B 32 2 (.slice A n c) n (marksI k (j * 2) ++ (flatP l).drop (j * 2)) ∧ w.grownBy wr (Value.slice A n c).ownBlock) (fun _ i _ => n - (intOf i).toNat)
  case atStart => exact ⟨0, Nat.zero_le _, rfl, by go_num, by rw [Nat.zero_mul]; exact h, World.grownBy.refl _ _⟩
  case round =>
    obtain ⟨j, hj, rfl, rfl, hown, hg⟩ := hrel
    by_cases hlt : j < n
    · obtain ⟨g, rfl⟩ := hown.head (by omega)
      have f0 := hown.frozenAt (j * 2)
      have f1 := hown.frozenAt (j * 2 + 1)
      have g0 := hown.getAt (j * 2) (by omega)
      have g1 := hown.getAt (j * 2 + 1) (by omega)
      have o1 := ownF_eq (hown.set_ (j * 2) (k + ((j * 2 : Nat) : Int))) (marksI_step k HL.out (by omega))
      have k1 := grown_trans hg (hown.set_grown (j * 2) (k + ((j * 2 : Nat) : Int)))
      have o2 := ownF_eq (o1.set_ (j * 2 + 1) (k + ((j * 2 + 1 : Nat) : Int))) (marksI_step k HL.out (by omega))
      have k2 := grown_trans k1 (o1.set_grown (j * 2 + 1) (k + ((j * 2 + 1 : Nat) : Int)))
      rw [show j * 2 + 1 + 1 = (j + 1) * 2 from by omega] at o2
      rw [show k + ((j * 2 + 1 : Nat) : Int) = k + ((j * 2 : Nat) : Int) + 1 from by omega] at o2 k2
      clear hown hg o1 k1
      go_wp2_with fail
      go_roundw
      case rel => exact ⟨j + 1, by omega, by go_num, by go_num, o2, k2⟩
      case measure => simp [intOf]; omega
    · obtain rfl : j = n := by omega
      have H : Hid ((flatP l).drop (j * 2) = []) := Lib.hid (List.drop_of_length_le (by rw [HL.out]; exact Nat.le_refl _))
      rw [H.out, List.append_nil] at hown
      go_wp2
      go_ret
      exact ⟨rfl, hown, hg⟩
set_option maxRecDepth 8192 in
theorem heldPointS_c (A : Option Addr) (n c : Nat) (k : Int) (B : Nat) (w : World) (h : RdF w B 2 A n (marksI k (n * 2))) (hk : 0 ≤ k) (hk' : k ≤ 4611686018427387904) (hsm : n ≤ 3000000000) :
    Calls Tryz.prog 8 #[.slice A n c, .int .i64 k] w fun e w' => e = .returned (.int .i64 (k + ((n * 2 : Nat) : Int))) ∧ Below w.heap.size w w' := by
  go_enter Tryz.func8, Tryz.ntmps8
  go_wp2
  go_loop [1, 5] (fun m i => ∃ j : Nat, j ≤ n ∧ i = .int .i64 j ∧ m = .int .i64 (k + ((j * 2 : Nat) : Int))) (fun _ i => n - (intOf i).toNat)
  case atStart => exact ⟨0, Nat.zero_le _, rfl, by go_num⟩
  case round =>
    obtain ⟨j, hj, rfl, rfl⟩ := hrel
    by_cases hlt : j < n
    · obtain ⟨b, o, rfl, _, hc⟩ := h.at_ (by omega)
      have c0 := hc (j * 2) (by omega)
      have c1 := hc (j * 2 + 1) (by omega)
      rw [marksI_at (by omega)] at c0 c1
      rw [← Nat.add_assoc] at c1
      rw [show k + ((j * 2 + 1 : Nat) : Int) = k + ((j * 2 : Nat) : Int) + 1 from by omega] at c1
      clear hc
      go_wp2
      go_round
      case rel => exact ⟨j + 1, by omega, by go_num, by go_num⟩
      case measure => simp [intOf]; omega
    · obtain rfl : j = n := by omega
      go_wp2
      go_ret
      exact ⟨rfl, Below.refl _ _⟩
end Go.Proofs.YtfkglbmdpefigaaGreatDoor
