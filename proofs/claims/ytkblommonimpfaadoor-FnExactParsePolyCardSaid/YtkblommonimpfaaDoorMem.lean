/- The walks of the laws' own helpers on slices of integers: a copy, a comparison of two that are equal, marks written and read again. -/
import Derived.Test.YtkblommonimpfaaDoorRows
import Derived.Test.YtkblommonimpfaaDoorBase
namespace Go.Proofs.YtkblommonimpfaaDoor
open Go.RowKit
theorem info_intm : (Tryd.prog.info? 3).map (fun i => (i.zero, i.size, i.bytes)) = some (some (.int .i64 0), 1, 8) := by kernel_rfl

theorem copy_step {zs : List Int} {n k : Nat} (hl : zs.length = n) (hk : k < n) : (zs.take k ++ List.replicate (n - k) 0).set k (zs.getD k 0) = zs.take (k + 1) ++ List.replicate (n - (k + 1)) 0 := by
  have hkz : k < zs.length := by omega
  have h1 : (zs.take k).length = k := by rw [List.length_take]; omega
  rw [List.set_append_right _ _ (by omega), h1, Nat.sub_self, show n - k = (n - (k + 1)) + 1 from by omega, List.replicate_succ, List.set_cons_zero, take_next hkz, List.append_assoc]
  rfl

theorem eqIntS_c (A A' : Option Addr) (n n' c c' : Nat) (zs : List Int) (B B' : Nat) (w : World) (h : Rd w B A n zs) (h' : Rd w B' A' n' zs) :
    Calls Tryd.prog 6 #[.slice A n c, .slice A' n' c'] w fun e w' => e = .returned (.bool true) ∧ Below w.heap.size w w' := by
  have hm := h.le
  obtain rfl : n = n' := h.len.symm.trans h'.len
  go_enter Tryd.func6, Tryd.ntmps6
  go_wp2
  go_loopw [5] (fun i wr => ∃ k q : Nat, k ≤ n ∧ i = .int .i64 k ∧ wr = w.drewN q) (fun i _ => n - (intOf i).toNat)
  case atStart => exact ⟨0, 0, Nat.zero_le _, rfl, rfl⟩
  case round =>
    obtain ⟨k, q, hk, rfl, rfl⟩ := hrel
    by_cases hlt : k < n
    · obtain ⟨ad, rfl, _, hc⟩ := h.at_ hlt
      obtain ⟨ad', rfl, _, hc'⟩ := h'.at_ hlt
      have h0 : (0 : Int) ≤ (k : Int) := by omega
      have h1 : (k : Int) < (n : Int) := by omega
      generalize zs.getD k 0 = z at *
      go_wp2_with fail
      go_quiet (fail)
      go_wp2
      go_roundw
      case rel => exact ⟨k + 1, _, by omega, by go_num, rfl⟩
      case measure => simp [intOf]; omega
    · go_wp2
      go_ret
      exact ⟨rfl, below_drewN (Below.refl _ _) _⟩
/-- The marks k, k + 1, .. -/
def marks (k : Int) (n : Nat) : List Int := (List.range n).map fun i : Nat => k + (i : Int)
theorem marks_len (k : Int) (n : Nat) : (marks k n).length = n := by simp [marks]
theorem marks_at {k : Int} {n j : Nat} (h : j < n) : (marks k n).getD j 0 = k + j := by simp [marks, List.getD, h]
theorem marks_step (k : Int) {zs : List Int} {n j : Nat} (hl : zs.length = n) (hj : j < n) : (marks k j ++ zs.drop j).set j (k + j) = marks k (j + 1) ++ zs.drop (j + 1) := by
  have h1 : (marks k j).length = j := marks_len k j
  have h2 : zs.drop j = zs.getD j 0 :: zs.drop (j + 1) := by
    rw [List.drop_eq_getElem_cons (by omega)]
    simp [List.getD, List.getElem?_eq_getElem (show j < zs.length by omega)]
  rw [List.set_append_right _ _ (by omega), h1, Nat.sub_self, h2, List.set_cons_zero]
  have h3 : marks k (j + 1) = marks k j ++ [k + (j : Int)] := by simp [marks, List.range_succ]
  rw [h3, List.append_assoc]
  rfl
/-- 'mark': the row's cells become k, k + 1, ..; nothing else turns. -/
def Marked (E : TypeId) (B : Nat) (A : Option Addr) (n c : Nat) (k : Int) (w : World) (e : Ending) (w' : World) : Prop :=
  e = .returned (.int .i64 (k + (n : Int))) ∧ Own w' B E (.slice A n c) n (marks k n) ∧ w.grownBy w' (Value.slice A n c).ownBlock
theorem markIntS_c (A : Option Addr) (n c : Nat) (zs : List Int) (k : Int) (B : Nat) (w : World) (h : Own w B 3 (.slice A n c) n zs) (hk : 0 ≤ k) (hk' : k ≤ 4611686018427387904) (hsm : n ≤ 17592186040000) :
    Calls Tryd.prog 7 #[.slice A n c, .int .i64 k] w (Marked 3 B A n c k w) := by
  have HL := Lib.hid h.len
  go_enter Tryd.func7, Tryd.ntmps7
  go_wp2
  go_loopw [1, 5] (fun m i wr => ∃ j : Nat, j ≤ n ∧ i = .int .i64 j ∧ m = .int .i64 (k + (j : Int)) ∧ Own wr B 3 (.slice A n c) n (marks k j ++ zs.drop j) ∧ w.grownBy wr (Value.slice A n c).ownBlock) (fun _ i _ => n - (intOf i).toNat)
  case atStart => exact ⟨0, Nat.zero_le _, rfl, by go_num, by simpa [marks] using h, World.grownBy.refl _ _⟩
  case round =>
    obtain ⟨j, hj, rfl, rfl, hown, hg⟩ := hrel
    by_cases hlt : j < n
    · obtain ⟨g, rfl⟩ := hown.head (by omega)
      have hfz := hown.frozenAt j
      obtain ⟨u, hu⟩ := hown.cellAt j hlt
      have h1 := own_eq (hown.set_ j (k + (j : Int))) (marks_step k HL.out hlt)
      have hg1 := grown_trans hg (hown.set_grown j (k + (j : Int)))
      clear hown hg
      go_wp2
      go_roundw
      case rel => exact ⟨j + 1, by omega, by go_num, by go_num, h1, hg1⟩
      case measure => simp [intOf]; omega
    · obtain rfl : j = n := by omega
      have H : Hid (zs.drop j = []) := Lib.hid (List.drop_of_length_le (by rw [HL.out]; exact Nat.le_refl _))
      rw [H.out, List.append_nil] at hown
      go_wp2
      go_ret
      exact ⟨rfl, hown, hg⟩
theorem heldIntS_c (A : Option Addr) (n c : Nat) (k : Int) (B : Nat) (w : World) (h : Rd w B A n (marks k n)) (hk : 0 ≤ k) (hk' : k ≤ 4611686018427387904) (hsm : n ≤ 17592186040000) :
    Calls Tryd.prog 8 #[.slice A n c, .int .i64 k] w fun e w' => e = .returned (.int .i64 (k + (n : Int))) ∧ Below w.heap.size w w' := by
  go_enter Tryd.func8, Tryd.ntmps8
  go_wp2
  go_loop [1, 5] (fun m i => ∃ j : Nat, j ≤ n ∧ i = .int .i64 j ∧ m = .int .i64 (k + (j : Int))) (fun _ i => n - (intOf i).toNat)
  case atStart => exact ⟨0, Nat.zero_le _, rfl, by go_num⟩
  case round =>
    obtain ⟨j, hj, rfl, rfl⟩ := hrel
    by_cases hlt : j < n
    · obtain ⟨ad, rfl, _, hc⟩ := h.at_ hlt
      rw [marks_at hlt] at hc
      go_wp2
      go_round
      case rel => exact ⟨j + 1, by omega, by go_num, by go_num⟩
      case measure => simp [intOf]; omega
    · obtain rfl : j = n := by omega
      go_wp2
      go_ret
      exact ⟨rfl, Below.refl _ _⟩
end Go.Proofs.YtkblommonimpfaaDoor
