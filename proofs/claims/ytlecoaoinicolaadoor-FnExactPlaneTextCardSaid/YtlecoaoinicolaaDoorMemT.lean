/- The walks of the laws' own helpers on slices of terms: a copy, a comparison of two that are equal, marks written and read again. -/
import Derived.Test.YtlecoaoinicolaaDoorRows
import Derived.Test.YtlecoaoinicolaaDoorTrm
import Derived.Test.YtlecoaoinicolaaDoorMarks
import Derived.StillTailTactics
namespace Go.Proofs.YtlecoaoinicolaaDoor
open Go.RowKit
theorem info_trm : (Tryd.prog.info? 33).map (fun i => (i.zero, i.size, i.bytes)) = some (some (.agg #[.int .i64 0, .int .i64 0, .int .i64 0]), 3, 24) := by kernel_rfl
theorem set3_app {p : List Int} {m : Nat} {a b c : Int} {i : Nat} (hp : p.length = i) : (((p ++ List.replicate (m + 3) 0).set i a).set (i + 1) b).set (i + 2) c = p ++ [a, b, c] ++ List.replicate m 0 := by
  rw [List.set_append_right _ _ (by omega), List.set_append_right _ _ (by omega), List.set_append_right _ _ (by omega), hp, Nat.sub_self, Nat.add_sub_cancel_left, Nat.add_sub_cancel_left, List.append_assoc]
  rfl
theorem take_nextT {l : List Trm} {k : Nat} (hk : k < l.length) : l.take (k + 1) = l.take k ++ [l.getD k (0, 0, 0)] := by
  rw [List.take_succ_eq_append_getElem hk]
  simp [List.getD, List.getElem?_eq_getElem hk]
theorem copyT_step {l : List Trm} {n k : Nat} (hl : l.length = n) (hk : k < n) : (((flatT (l.take k) ++ List.replicate ((n - k) * 3) 0).set (k * 3) (l.getD k (0, 0, 0)).1).set (k * 3 + 1) (l.getD k (0, 0, 0)).2.1).set (k * 3 + 2) (l.getD k (0, 0, 0)).2.2 = flatT (l.take (k + 1)) ++ List.replicate ((n - (k + 1)) * 3) 0 := by
  rw [show (n - k) * 3 = (n - (k + 1)) * 3 + 3 from by omega, set3_app (by rw [flatT_len, List.length_take]; omega), take_nextT (by omega), flatT_snoc]
theorem toTerm_c (x y z : Int) (w : World) : Calls Tryd.prog 11 #[.agg #[.int .i64 x, .int .i64 y, .int .i64 z]] w fun e w' => e = .returned (.agg #[.int .i64 x, .int .i64 y, .int .i64 z]) ∧ Below w.heap.size w w' := by
  go_enter Tryd.func11, Tryd.ntmps11
  go_wp2
  exact bodyPost_ret (v := .agg #[.int .i64 x, .int .i64 y, .int .i64 z]) (by simp [results, Tryd.results11, go_sem]) rfl ⟨rfl, bel_alloc (bel_alloc (bel_new _ _) _) _⟩
theorem eqTerm_c (x y z : Int) (w : World) : Calls Tryd.prog 14 #[.agg #[.int .i64 x, .int .i64 y, .int .i64 z], .agg #[.int .i64 x, .int .i64 y, .int .i64 z]] w fun e w' => e = .returned (.bool true) ∧ Below w.heap.size w w' := by
  go_enter Tryd.func14, Tryd.ntmps14
  go_wp2
  go_ret
  exact ⟨rfl, bel_alloc (bel_new _ _) _⟩
set_option maxRecDepth 8192 in
theorem toTermS_c (A : Option Addr) (n c : Nat) (l : List Trm) (B : Nat) (w : World) (h : RdT w B A n l) (hB : B ≤ w.heap.size) (hsm : n ≤ 3000000000) :
    Calls Tryd.prog 6 #[.slice A n c] w (RetT 33 l w) := by
  have hm := h.le
  have HL := Lib.hid h.len
  obtain ⟨i0, hi, hz0, hz1, hz2⟩ := info_parts info_trm
  have HI := Lib.hid hi
  have HZ0 := Lib.hid hz0
  have HZ1 := Lib.hid hz1
  have HZ2 := Lib.hid hz2
  clear hi hz0 hz1 hz2
  go_enter Tryd.func6, Tryd.ntmps6
  go_wp2_with (at_make; refine wp_mkF rfl _ _ 26 rfl w.heap.size 33 3 i0 _ Tryd.underlying26 HI.out HZ0.out HZ1.out HZ2.out (by omega) (by omega) rfl _ _ _ _ n rfl rfl rfl rfl hsm (Nat.le_refl _) ?_)
  intro w0 own0 bel0
  go_wp2
  go_loopw [4] (fun i wr => ∃ k : Nat, k ≤ n ∧ i = .int .i64 k ∧ OwnF wr w.heap.size 33 3 (.slice (some ⟨w.heap.size, 0, none⟩) n n) n (flatT (l.take k) ++ List.replicate ((n - k) * 3) 0) ∧ Below w.heap.size w wr) (fun i _ => n - (intOf i).toNat)
  case atStart => exact ⟨0, Nat.zero_le _, rfl, by simpa [flatT] using own0, bel0⟩
  case round =>
    obtain ⟨k, hk, rfl, hown, hbel⟩ := hrel
    by_cases hlt : k < n
    · obtain ⟨b, o, rfl, hbB, c0, c1, c2⟩ := (h.below (hbel.mono hB)).at_ hlt
      have HS := Lib.hid (copyT_step HL.out hlt)
      generalize (l.getD k (0, 0, 0)).1 = x0 at *
      generalize (l.getD k (0, 0, 0)).2.1 = x1 at *
      generalize (l.getD k (0, 0, 0)).2.2 = x2 at *
      go_wp2_with fail
      refine (toTerm_c _ _ _ _).mono ?_; rintro e u1 ⟨rfl, hb1⟩
      have hbel := hbel.trans (hb1.mono hbel.size)
      have hown := hown.go hb1
      have f0 := hown.frozenAt (k * 3)
      have f1 := hown.frozenAt (k * 3 + 1)
      have f2 := hown.frozenAt (k * 3 + 2)
      have g0 := hown.getAt (k * 3) (by omega)
      have g1 := hown.getAt (k * 3 + 1) (by omega)
      have g2 := hown.getAt (k * 3 + 2) (by omega)
      have h1 := ownF_eq (((hown.set_ (k * 3) x0).set_ (k * 3 + 1) x1).set_ (k * 3 + 2) x2) HS.out
      have hb1 := ((hbel.setCell (p := ⟨w.heap.size, k * 3, none⟩) (Nat.le_refl _) (.int .i64 x0)).setCell (p := ⟨w.heap.size, k * 3 + 1, none⟩) (Nat.le_refl _) (.int .i64 x1)).setCell (p := ⟨w.heap.size, k * 3 + 2, none⟩) (Nat.le_refl _) (.int .i64 x2)
      clear hown hbel
      go_wp2_with fail
      go_roundw
      case rel => exact ⟨k + 1, by omega, by go_num, h1, hb1⟩
      case measure => simp [intOf]; omega
    · have H : Hid (flatT (l.take k) ++ List.replicate ((n - k) * 3) 0 = flatT l) := Lib.hid (by rw [List.take_of_length_le (by rw [HL.out]; omega), show n - k = 0 from by omega]; simp)
      rw [H.out] at hown
      go_wp2
      go_ret
      exact retT_mk hown hbel hsm
set_option maxRecDepth 8192 in
theorem eqTermS_c (A A' : Option Addr) (n n' c c' : Nat) (l : List Trm) (B B' : Nat) (w : World) (h : RdT w B A n l) (h' : RdT w B' A' n' l) (hB : B ≤ w.heap.size) (hB' : B' ≤ w.heap.size) :
    Calls Tryd.prog 8 #[.slice A n c, .slice A' n' c'] w fun e w' => e = .returned (.bool true) ∧ Below w.heap.size w w' := by
  have hm := h.le
  obtain rfl : n = n' := h.len.symm.trans h'.len
  go_enter Tryd.func8, Tryd.ntmps8
  go_wp2
  go_loopw [5] (fun i wr => ∃ k : Nat, k ≤ n ∧ i = .int .i64 k ∧ Below w.heap.size w wr) (fun i _ => n - (intOf i).toNat)
  case atStart => exact ⟨0, Nat.zero_le _, rfl, Below.refl _ _⟩
  case round =>
    obtain ⟨k, hk, rfl, hbel⟩ := hrel
    by_cases hlt : k < n
    · obtain ⟨b, o, rfl, _, c0, c1, c2⟩ := (h.below (hbel.mono hB)).at_ hlt
      obtain ⟨b', o', rfl, _, c0', c1', c2'⟩ := (h'.below (hbel.mono hB')).at_ hlt
      have h0 : (0 : Int) ≤ (k : Int) := by omega
      have h1 : (k : Int) < (n : Int) := by omega
      generalize (l.getD k (0, 0, 0)).1 = x0 at *
      generalize (l.getD k (0, 0, 0)).2.1 = x1 at *
      generalize (l.getD k (0, 0, 0)).2.2 = x2 at *
      go_wp2_with fail
      go_still_tail 8, (by kernel_rfl)
      go_wp2_with fail
      refine (eqTerm_c _ _ _ _).mono ?_; rintro e u1 ⟨rfl, hb1⟩
      have hbel := bel_step hbel.drew hb1
      go_wp2_with fail
      go_roundw
      case rel => exact ⟨k + 1, by omega, by go_num, hbel⟩
      case measure => simp [intOf]; omega
    · go_wp2
      go_ret
      exact ⟨rfl, hbel⟩
theorem szTermS_yes (A : Option Addr) (n c : Nat) (k : Int) (w : World) (hk' : k ≤ 1048576) (h : (n : Int) ≤ k) :
    Calls Tryd.prog 4 #[.slice A n c, .int .i64 k] w fun e w' => e = .returned (.int .i64 (k - (n : Int))) ∧ w = w' := by
  go_enter Tryd.func4, Tryd.ntmps4
  go_wp2
  go_ret
  exact ⟨rfl, rfl⟩
theorem szTermS_no (A : Option Addr) (n c : Nat) (k : Int) (w : World) (hk : 0 ≤ k) (hn : n ≤ 9223372036854775807) (h : ¬ (n : Int) ≤ k) :
    Calls Tryd.prog 4 #[.slice A n c, .int .i64 k] w fun e w' => e = .returned (.int .i64 (-1)) ∧ w = w' := by
  go_enter Tryd.func4, Tryd.ntmps4
  go_wp2
  go_ret
  exact ⟨rfl, rfl⟩
end Go.Proofs.YtlecoaoinicolaaDoor
