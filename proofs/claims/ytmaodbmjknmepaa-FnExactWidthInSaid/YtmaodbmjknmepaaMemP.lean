/- The walks of the laws' own helpers on slices of points: a copy, a comparison of two that are equal, marks written and read again. -/
import Derived.Test.YtmaodbmjknmepaaRows
import Derived.Test.YtmaodbmjknmepaaPnt
import Derived.Test.YtmaodbmjknmepaaMarks
import Derived.StillTailTactics
namespace Go.Proofs.Ytmaodbmjknmepaa
open Go.RowKit
theorem info_pnt : (Try.prog.info? 36).map (fun i => (i.zero, i.size, i.bytes)) = some (some (.agg #[.int .i64 0, .int .i64 0]), 2, 16) := by kernel_rfl
theorem set2_app {p : List Int} {m : Nat} {a b : Int} {i : Nat} (hp : p.length = i) : ((p ++ List.replicate (m + 2) 0).set i a).set (i + 1) b = p ++ [a, b] ++ List.replicate m 0 := by
  rw [List.set_append_right _ _ (by omega), List.set_append_right _ _ (by omega), hp, Nat.sub_self, Nat.add_sub_cancel_left, List.append_assoc]
  rfl
theorem take_nextP {l : List Pnt} {k : Nat} (hk : k < l.length) : l.take (k + 1) = l.take k ++ [l.getD k (0, 0)] := by
  rw [List.take_succ_eq_append_getElem hk]
  simp [List.getD, List.getElem?_eq_getElem hk]
theorem copyP_step {l : List Pnt} {n k : Nat} (hl : l.length = n) (hk : k < n) : ((flatP (l.take k) ++ List.replicate ((n - k) * 2) 0).set (k * 2) (l.getD k (0, 0)).1).set (k * 2 + 1) (l.getD k (0, 0)).2 = flatP (l.take (k + 1)) ++ List.replicate ((n - (k + 1)) * 2) 0 := by
  rw [show (n - k) * 2 = (n - (k + 1)) * 2 + 2 from by omega, set2_app (by rw [flatP_len, List.length_take]; omega), take_nextP (by omega), flatP_snoc]
theorem eqPoint_c (x y : Int) (w : World) : Calls Try.prog 23 #[.agg #[.int .i64 x, .int .i64 y], .agg #[.int .i64 x, .int .i64 y]] w fun e w' => e = .returned (.bool true) ∧ Below w.heap.size w w' := by
  go_enter Try.func23, Try.ntmps23
  go_wp2
  go_ret
  exact ⟨rfl, bel_alloc (bel_new _ _) _⟩
theorem toPoint_c (x y : Int) (w : World) : Calls Try.prog 17 #[.agg #[.int .i64 x, .int .i64 y]] w fun e w' => e = .returned (.agg #[.int .i64 x, .int .i64 y]) ∧ Below w.heap.size w w' := by
  go_enter Try.func17, Try.ntmps17
  go_wp2
  exact bodyPost_ret (v := .agg #[.int .i64 x, .int .i64 y]) (by simp [results, Try.results17, go_sem]) rfl ⟨rfl, bel_alloc (bel_alloc (bel_new _ _) _) _⟩
set_option maxRecDepth 8192 in
theorem toPointS_c (A : Option Addr) (n c : Nat) (l : List Pnt) (B : Nat) (w : World) (h : RdP w B A n l) (hB : B ≤ w.heap.size) (hsm : n ≤ 3000000000) :
    Calls Try.prog 9 #[.slice A n c] w (RetP 36 l w) := by
  have hm := h.le
  have HL := Lib.hid h.len
  obtain ⟨i0, hi, hz0, hz1, hz2⟩ := info_parts info_pnt
  have HI := Lib.hid hi
  have HZ0 := Lib.hid hz0
  have HZ1 := Lib.hid hz1
  have HZ2 := Lib.hid hz2
  clear hi hz0 hz1 hz2
  go_enter Try.func9, Try.ntmps9
  go_wp2_with (at_make; refine wp_mkF rfl _ _ 25 rfl w.heap.size 36 2 i0 _ Try.underlying25 HI.out HZ0.out HZ1.out HZ2.out (by omega) (by omega) rfl _ _ _ _ n rfl rfl rfl rfl hsm (Nat.le_refl _) ?_)
  intro w0 own0 bel0
  go_wp2
  go_loopw [4] (fun i wr => ∃ k : Nat, k ≤ n ∧ i = .int .i64 k ∧ OwnF wr w.heap.size 36 2 (.slice (some ⟨w.heap.size, 0, none⟩) n n) n (flatP (l.take k) ++ List.replicate ((n - k) * 2) 0) ∧ Below w.heap.size w wr) (fun i _ => n - (intOf i).toNat)
  case atStart => exact ⟨0, Nat.zero_le _, rfl, by simpa [flatP] using own0, bel0⟩
  case round =>
    obtain ⟨k, hk, rfl, hown, hbel⟩ := hrel
    by_cases hlt : k < n
    · obtain ⟨b, o, rfl, hbB, c0, c1⟩ := (h.below (hbel.mono hB)).at_ hlt
      have HS := Lib.hid (copyP_step HL.out hlt)
      generalize (l.getD k (0, 0)).1 = x0 at *
      generalize (l.getD k (0, 0)).2 = x1 at *
      go_wp2_with fail
      refine (toPoint_c _ _ _).mono ?_; rintro e u1 ⟨rfl, hb1⟩
      have hbel := hbel.trans (hb1.mono hbel.size)
      have hown := hown.go hb1
      have f0 := hown.frozenAt (k * 2)
      have f1 := hown.frozenAt (k * 2 + 1)
      have g0 := hown.getAt (k * 2) (by omega)
      have g1 := hown.getAt (k * 2 + 1) (by omega)
      have h1 := ownF_eq ((hown.set_ (k * 2) x0).set_ (k * 2 + 1) x1) HS.out
      have hb1 := (hbel.setCell (p := ⟨w.heap.size, k * 2, none⟩) (Nat.le_refl _) (.int .i64 x0)).setCell (p := ⟨w.heap.size, k * 2 + 1, none⟩) (Nat.le_refl _) (.int .i64 x1)
      clear hown hbel
      go_wp2_with fail
      go_roundw
      case rel => exact ⟨k + 1, by omega, by go_num, h1, hb1⟩
      case measure => simp [intOf]; omega
    · have H : Hid (flatP (l.take k) ++ List.replicate ((n - k) * 2) 0 = flatP l) := Lib.hid (by rw [List.take_of_length_le (by rw [HL.out]; omega), show n - k = 0 from by omega]; simp)
      rw [H.out] at hown
      go_wp2
      go_ret
      exact retP_mk hown hbel hsm
set_option maxRecDepth 8192 in
theorem eqPointS_c (A A' : Option Addr) (n n' c c' : Nat) (l : List Pnt) (B B' : Nat) (w : World) (h : RdP w B A n l) (h' : RdP w B' A' n' l) (hB : B ≤ w.heap.size) (hB' : B' ≤ w.heap.size) :
    Calls Try.prog 11 #[.slice A n c, .slice A' n' c'] w fun e w' => e = .returned (.bool true) ∧ Below w.heap.size w w' := by
  have hm := h.le
  obtain rfl : n = n' := h.len.symm.trans h'.len
  go_enter Try.func11, Try.ntmps11
  go_wp2
  go_loopw [5] (fun i wr => ∃ k : Nat, k ≤ n ∧ i = .int .i64 k ∧ Below w.heap.size w wr) (fun i _ => n - (intOf i).toNat)
  case atStart => exact ⟨0, Nat.zero_le _, rfl, Below.refl _ _⟩
  case round =>
    obtain ⟨k, hk, rfl, hbel⟩ := hrel
    by_cases hlt : k < n
    · obtain ⟨b, o, rfl, _, c0, c1⟩ := (h.below (hbel.mono hB)).at_ hlt
      obtain ⟨b', o', rfl, _, c0', c1'⟩ := (h'.below (hbel.mono hB')).at_ hlt
      have h0 : (0 : Int) ≤ (k : Int) := by omega
      have h1 : (k : Int) < (n : Int) := by omega
      generalize (l.getD k (0, 0)).1 = x0 at *
      generalize (l.getD k (0, 0)).2 = x1 at *
      go_wp2_with fail
      go_still_tail 8, (by kernel_rfl)
      go_wp2_with fail
      refine (eqPoint_c _ _ _).mono ?_; rintro e u1 ⟨rfl, hb1⟩
      have hbel := bel_step hbel.drew hb1
      go_wp2_with fail
      go_roundw
      case rel => exact ⟨k + 1, by omega, by go_num, hbel⟩
      case measure => simp [intOf]; omega
    · go_wp2
      go_ret
      exact ⟨rfl, hbel⟩
set_option maxRecDepth 8192 in
theorem markPointS_c (A : Option Addr) (n c : Nat) (l : List Pnt) (k : Int) (B : Nat) (w : World) (h : OwnP w B 36 (.slice A n c) n l) (hk : 0 ≤ k) (hk' : k ≤ 4611686018427387904) (hsm : n ≤ 3000000000) :
    Calls Try.prog 14 #[.slice A n c, .int .i64 k] w (MarkedF 36 2 B A n c k w) := by
  have HL : Hid ((flatP l).length = n * 2) := Lib.hid (OwnF.len h)
  go_enter Try.func14, Try.ntmps14
  go_wp2
  go_loopw [1, 5] (fun m i wr => ∃ j : Nat, j ≤ n ∧ i = .int .i64 j ∧ m = .int .i64 (k + ((j * 2 : Nat) : Int)) ∧ OwnF wr B 36 2 (.slice A n c) n (marksI k (j * 2) ++ (flatP l).drop (j * 2)) ∧ w.grownBy wr (Value.slice A n c).ownBlock) (fun _ i _ => n - (intOf i).toNat)
  case atStart => exact ⟨0, Nat.zero_le _, rfl, by go_num, by rw [Nat.zero_mul]; exact h, World.grownBy.refl _ _⟩
  case round =>
    obtain ⟨j, hj, rfl, rfl, hown, hg⟩ := hrel
    by_cases hlt : j < n
    · obtain ⟨g, rfl⟩ := hown.head (by omega)
      have f0 := hown.frozenAt (j * 2)
      have f1 := hown.frozenAt (j * 2 + 1)
      have g0 := hown.getAt (j * 2) (by omega)
      have g1 := hown.getAt (j * 2 + 1) (by omega)
      have o1 := ownF_eq (hown.set_ (j * 2) (k + ((j * 2 : Nat) : Int))) (marksI_step k HL.out (by omega))
      have k1 := grown_trans hg (hown.set_grown (j * 2) (k + ((j * 2 : Nat) : Int)))
      have o2 := ownF_eq (o1.set_ (j * 2 + 1) (k + ((j * 2 + 1 : Nat) : Int))) (marksI_step k HL.out (by omega))
      have k2 := grown_trans k1 (o1.set_grown (j * 2 + 1) (k + ((j * 2 + 1 : Nat) : Int)))
      rw [show j * 2 + 1 + 1 = (j + 1) * 2 from by omega] at o2
      rw [show k + ((j * 2 + 1 : Nat) : Int) = k + ((j * 2 : Nat) : Int) + 1 from by omega] at o2 k2
      clear hown hg o1 k1
      go_wp2_with fail
      go_roundw
      case rel => exact ⟨j + 1, by omega, by go_num, by go_num, o2, k2⟩
      case measure => simp [intOf]; omega
    · obtain rfl : j = n := by omega
      have H : Hid ((flatP l).drop (j * 2) = []) := Lib.hid (List.drop_of_length_le (by rw [HL.out]; exact Nat.le_refl _))
      rw [H.out, List.append_nil] at hown
      go_wp2
      go_ret
      exact ⟨rfl, hown, hg⟩
set_option maxRecDepth 8192 in
theorem heldPointS_c (A : Option Addr) (n c : Nat) (k : Int) (B : Nat) (w : World) (h : RdF w B 2 A n (marksI k (n * 2))) (hk : 0 ≤ k) (hk' : k ≤ 4611686018427387904) (hsm : n ≤ 3000000000) :
    Calls Try.prog 15 #[.slice A n c, .int .i64 k] w fun e w' => e = .returned (.int .i64 (k + ((n * 2 : Nat) : Int))) ∧ Below w.heap.size w w' := by
  go_enter Try.func15, Try.ntmps15
  go_wp2
  go_loop [1, 5] (fun m i => ∃ j : Nat, j ≤ n ∧ i = .int .i64 j ∧ m = .int .i64 (k + ((j * 2 : Nat) : Int))) (fun _ i => n - (intOf i).toNat)
  case atStart => exact ⟨0, Nat.zero_le _, rfl, by go_num⟩
  case round =>
    obtain ⟨j, hj, rfl, rfl⟩ := hrel
    by_cases hlt : j < n
    · obtain ⟨b, o, rfl, _, hc⟩ := h.at_ (by omega)
      have c0 := hc (j * 2) (by omega)
      have c1 := hc (j * 2 + 1) (by omega)
      rw [marksI_at (by omega)] at c0 c1
      rw [← Nat.add_assoc] at c1
      rw [show k + ((j * 2 + 1 : Nat) : Int) = k + ((j * 2 : Nat) : Int) + 1 from by omega] at c1
      clear hc
      go_wp2
      go_round
      case rel => exact ⟨j + 1, by omega, by go_num, by go_num⟩
      case measure => simp [intOf]; omega
    · obtain rfl : j = n := by omega
      go_wp2
      go_ret
      exact ⟨rfl, Below.refl _ _⟩
theorem szPointS_yes (A : Option Addr) (n c : Nat) (k : Int) (w : World) (hk' : k ≤ 1048576) (h : (n : Int) ≤ k) :
    Calls Try.prog 7 #[.slice A n c, .int .i64 k] w fun e w' => e = .returned (.int .i64 (k - (n : Int))) ∧ w = w' := by
  go_enter Try.func7, Try.ntmps7
  go_wp2
  go_ret
  exact ⟨rfl, rfl⟩
theorem szPointS_no (A : Option Addr) (n c : Nat) (k : Int) (w : World) (hk : 0 ≤ k) (hn : n ≤ 9223372036854775807) (h : ¬ (n : Int) ≤ k) :
    Calls Try.prog 7 #[.slice A n c, .int .i64 k] w fun e w' => e = .returned (.int .i64 (-1)) ∧ w = w' := by
  go_enter Try.func7, Try.ntmps7
  go_wp2
  go_ret
  exact ⟨rfl, rfl⟩
end Go.Proofs.Ytmaodbmjknmepaa
