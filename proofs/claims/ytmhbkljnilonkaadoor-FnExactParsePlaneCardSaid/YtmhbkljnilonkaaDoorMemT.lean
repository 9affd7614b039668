/- The walks of the laws' own helpers on slices of terms: a copy, a comparison of two that are equal, marks written and read again. -/
import Derived.Test.YtmhbkljnilonkaaDoorRows
import Derived.Test.YtmhbkljnilonkaaDoorTrm
import Derived.Test.YtmhbkljnilonkaaDoorMarks
import Derived.StillTailTactics
namespace Go.Proofs.YtmhbkljnilonkaaDoor
open Go.RowKit
theorem info_trm : (Tryd.prog.info? 35).map (fun i => (i.zero, i.size, i.bytes)) = some (some (.agg #[.int .i64 0, .int .i64 0, .int .i64 0]), 3, 24) := by kernel_rfl
theorem eqTerm_c (x y z : Int) (w : World) : Calls Tryd.prog 14 #[.agg #[.int .i64 x, .int .i64 y, .int .i64 z], .agg #[.int .i64 x, .int .i64 y, .int .i64 z]] w fun e w' => e = .returned (.bool true) ∧ Below w.heap.size w w' := by
  go_enter Tryd.func14, Tryd.ntmps14
  go_wp2
  go_ret
  exact ⟨rfl, bel_alloc (bel_new _ _) _⟩
set_option maxRecDepth 8192 in
theorem eqTermS_c (A A' : Option Addr) (n n' c c' : Nat) (l : List Trm) (B B' : Nat) (w : World) (h : RdT w B A n l) (h' : RdT w B' A' n' l) (hB : B ≤ w.heap.size) (hB' : B' ≤ w.heap.size) :
    Calls Tryd.prog 6 #[.slice A n c, .slice A' n' c'] w fun e w' => e = .returned (.bool true) ∧ Below w.heap.size w w' := by
  have hm := h.le
  obtain rfl : n = n' := h.len.symm.trans h'.len
  go_enter Tryd.func6, Tryd.ntmps6
  go_wp2
  go_loopw [5] (fun i wr => ∃ k : Nat, k ≤ n ∧ i = .int .i64 k ∧ Below w.heap.size w wr) (fun i _ => n - (intOf i).toNat)
  case atStart => exact ⟨0, Nat.zero_le _, rfl, Below.refl _ _⟩
  case round =>
    obtain ⟨k, hk, rfl, hbel⟩ := hrel
    by_cases hlt : k < n
    · obtain ⟨b, o, rfl, _, c0, c1, c2⟩ := (h.below (hbel.mono hB)).at_ hlt
      obtain ⟨b', o', rfl, _, c0', c1', c2'⟩ := (h'.below (hbel.mono hB')).at_ hlt
      have h0 : (0 : Int) ≤ (k : Int) := by omega
      have h1 : (k : Int) < (n : Int) := by omega
      generalize (l.getD k (0, 0, 0)).1 = x0 at *
      generalize (l.getD k (0, 0, 0)).2.1 = x1 at *
      generalize (l.getD k (0, 0, 0)).2.2 = x2 at *
      go_wp2_with fail
      go_still_tail 8, (by kernel_rfl)
      go_wp2_with fail
      refine (eqTerm_c _ _ _ _).mono ?_; rintro e u1 ⟨rfl, hb1⟩
      have hbel := bel_step hbel.drew hb1
      go_wp2_with fail
      go_roundw
      case rel => exact ⟨k + 1, by omega, by go_num, hbel⟩
      case measure => simp [intOf]; omega
    · go_wp2
      go_ret
      exact ⟨rfl, hbel⟩
set_option maxRecDepth 8192 in
theorem markTermS_c (A : Option Addr) (n c : Nat) (l : List Trm) (k : Int) (B : Nat) (w : World) (h : OwnT w B 35 (.slice A n c) n l) (hk : 0 ≤ k) (hk' : k ≤ 4611686018427387904) (hsm : n ≤ 3000000000) :
    Calls Tryd.prog 7 #[.slice A n c, .int .i64 k] w (MarkedF 35 3 B A n c k w) := by
  have HL : Hid ((flatT l).length = n * 3) := Lib.hid (OwnF.len h)
  go_enter Tryd.func7, Tryd.ntmps7
  go_wp2
  go_loopw [1, 5] (fun m i wr => ∃ j : Nat, j ≤ n ∧ i = .int .i64 j ∧ m = .int .i64 (k + ((j * 3 : Nat) : Int)) ∧ OwnF wr B 35 3 (.slice A n c) n (marksI k (j * 3) ++ (flatT l).drop (j * 3)) ∧ w.grownBy wr (Value.slice A n c).ownBlock) (fun _ i _ => n - (intOf i).toNat)
  case atStart => exact ⟨0, Nat.zero_le _, rfl, by go_num, by rw [Nat.zero_mul]; exact h, World.grownBy.refl _ _⟩
  case round =>
    obtain ⟨j, hj, rfl, rfl, hown, hg⟩ := hrel
    by_cases hlt : j < n
    · obtain ⟨g, rfl⟩ := hown.head (by omega)
      have f0 := hown.frozenAt (j * 3)
      have f1 := hown.frozenAt (j * 3 + 1)
      have f2 := hown.frozenAt (j * 3 + 2)
      have g0 := hown.getAt (j * 3) (by omega)
      have g1 := hown.getAt (j * 3 + 1) (by omega)
      have g2 := hown.getAt (j * 3 + 2) (by omega)
      have o1 := ownF_eq (hown.set_ (j * 3) (k + ((j * 3 : Nat) : Int))) (marksI_step k HL.out (by omega))
      have k1 := grown_trans hg (hown.set_grown (j * 3) (k + ((j * 3 : Nat) : Int)))
      have o2 := ownF_eq (o1.set_ (j * 3 + 1) (k + ((j * 3 + 1 : Nat) : Int))) (marksI_step k HL.out (by omega))
      have k2 := grown_trans k1 (o1.set_grown (j * 3 + 1) (k + ((j * 3 + 1 : Nat) : Int)))
      have o3 := ownF_eq (o2.set_ (j * 3 + 2) (k + ((j * 3 + 2 : Nat) : Int))) (marksI_step k HL.out (by omega))
      have k3 := grown_trans k2 (o2.set_grown (j * 3 + 2) (k + ((j * 3 + 2 : Nat) : Int)))
      rw [show j * 3 + 2 + 1 = (j + 1) * 3 from by omega] at o3
      rw [show k + ((j * 3 + 1 : Nat) : Int) = k + ((j * 3 : Nat) : Int) + 1 from by omega, show k + ((j * 3 + 2 : Nat) : Int) = k + ((j * 3 : Nat) : Int) + 1 + 1 from by omega] at o3 k3
      clear hown hg o1 k1 o2 k2
      go_wp2_with fail
      go_roundw
      case rel => exact ⟨j + 1, by omega, by go_num, by go_num, o3, k3⟩
      case measure => simp [intOf]; omega
    · obtain rfl : j = n := by omega
      have H : Hid ((flatT l).drop (j * 3) = []) := Lib.hid (List.drop_of_length_le (by rw [HL.out]; exact Nat.le_refl _))
      rw [H.out, List.append_nil] at hown
      go_wp2
      go_ret
      exact ⟨rfl, hown, hg⟩
set_option maxRecDepth 8192 in
theorem heldTermS_c (A : Option Addr) (n c : Nat) (k : Int) (B : Nat) (w : World) (h : RdF w B 3 A n (marksI k (n * 3))) (hk : 0 ≤ k) (hk' : k ≤ 4611686018427387904) (hsm : n ≤ 3000000000) :
    Calls Tryd.prog 8 #[.slice A n c, .int .i64 k] w fun e w' => e = .returned (.int .i64 (k + ((n * 3 : Nat) : Int))) ∧ Below w.heap.size w w' := by
  go_enter Tryd.func8, Tryd.ntmps8
  go_wp2
  go_loop [1, 5] (fun m i => ∃ j : Nat, j ≤ n ∧ i = .int .i64 j ∧ m = .int .i64 (k + ((j * 3 : Nat) : Int))) (fun _ i => n - (intOf i).toNat)
  case atStart => exact ⟨0, Nat.zero_le _, rfl, by go_num⟩
  case round =>
    obtain ⟨j, hj, rfl, rfl⟩ := hrel
    by_cases hlt : j < n
    · obtain ⟨b, o, rfl, _, hc⟩ := h.at_ (by omega)
      have c0 := hc (j * 3) (by omega)
      have c1 := hc (j * 3 + 1) (by omega)
      have c2 := hc (j * 3 + 2) (by omega)
      rw [marksI_at (by omega)] at c0 c1 c2
      rw [← Nat.add_assoc] at c1 c2
      rw [show k + ((j * 3 + 1 : Nat) : Int) = k + ((j * 3 : Nat) : Int) + 1 from by omega] at c1
      rw [show k + ((j * 3 + 2 : Nat) : Int) = k + ((j * 3 : Nat) : Int) + 1 + 1 from by omega] at c2
      clear hc
      go_wp2
      go_round
      case rel => exact ⟨j + 1, by omega, by go_num, by go_num⟩
      case measure => simp [intOf]; omega
    · obtain rfl : j = n := by omega
      go_wp2
      go_ret
      exact ⟨rfl, Below.refl _ _⟩
end Go.Proofs.YtmhbkljnilonkaaDoor
