/- The reference's readers of a numeral; a string's bytes. -/
import Derived.Test.YtkblommonimpfaaDoorPureDec
import Derived.Test.YtkblommonimpfaaDoorNum
namespace Go.Proofs.YtkblommonimpfaaDoor
open Go.RowKit
/-- A string's byte, as the walk reads it. -/
theorem idx_str {P : Program} {t : TypeId} (h : P.underlying t = some .string) (s : ByteArray) (k : Nat) (hk : k < s.size) (w : World) :
    (Instr.index t (.string s) (.int .i64 (k : Int))).run P w = .ok (.int .u8 ((s.data.toList.getD k 0).toNat : Int)) w := by
  rw [run_index_string w t s .i64 k h, dif_pos (by omega)]
  congr 3
  have hk2 : k < s.data.toList.length := by rw [← Lib.size_eq]; exact hk
  simp only [List.getD, List.getElem?_eq_getElem hk2, Option.getD_some]
  rfl
theorem idx_str0 {P : Program} {t : TypeId} (h : P.underlying t = some .string) (s : ByteArray) (hk : 0 < s.size) (w : World) :
    (Instr.index t (.string s) (.int .i64 0)).run P w = .ok (.int .u8 ((s.data.toList.getD 0 0).toNat : Int)) w := idx_str h s 0 hk w
theorem byte_lt (b : UInt8) : (b.toNat : Int) < 256 := by
  have := b.toNat_lt
  omega
theorem decFrom_step {l : Bs} {k N : Nat} (h : Lib.decFrom 0 (l.take k) = some N) (hk : k < l.length) (hd : 48 ≤ (l.getD k 0).toNat ∧ (l.getD k 0).toNat ≤ 57) : Lib.decFrom 0 (l.take (k + 1)) = some (N * 10 + ((l.getD k 0).toNat - 48)) := by
  refine Lib.decFrom_take l k 0 N (l.getD k 0) _ h ?_ ?_
  · simp [List.getD, List.getElem?_eq_getElem hk]
  · unfold Lib.digitVal
    rw [if_pos hd]
theorem decFrom_stop {l : Bs} {k N : Nat} (h : Lib.decFrom 0 (l.take k) = some N) (hk : k < l.length) (hd : ¬ (48 ≤ (l.getD k 0).toNat ∧ (l.getD k 0).toNat ≤ 57)) : Lib.decFrom 0 l = none := by
  have e : l = l.take k ++ l.getD k 0 :: l.drop (k + 1) := by
    have h1 : l.getD k 0 :: l.drop (k + 1) = l.drop k := by
      rw [List.drop_eq_getElem_cons hk]
      simp [List.getD, List.getElem?_eq_getElem hk]
    rw [h1, List.take_append_drop]
  rw [e, decFrom_app, h]
  simp only [Option.bind_some, Lib.decFrom, Lib.digitVal]
  rw [if_neg hd]
/-- A string's byte, as the walk spells it. -/
theorem at_data (s : ByteArray) (k : Nat) (hk : k < s.size) : s.data[k]'hk = s.data.toList.getD k 0 := by
  have hk2 : k < s.data.toList.length := by rw [← Lib.size_eq]; exact hk
  simp only [List.getD, List.getElem?_eq_getElem hk2, Option.getD_some, Array.getElem_toList]
theorem at_idx (s : ByteArray) (k : Nat) (hk : k < s.size) : s[k] = s.data.toList.getD k 0 := at_data s k hk
set_option maxHeartbeats 1000000 in
set_option maxRecDepth 8192 in
theorem nuRead_c (s : ByteArray) (hs : s.size ≤ 1048576) (w : World) : Calls Tryd.prog 14 #[.string s] w fun e w' => e = .returned (.int .i64 (rdU 10 s.data.toList)) ∧ w = w' := by
  have HSz := Lib.hid (Lib.size_eq s)
  by_cases hr : 1 ≤ s.size ∧ s.size ≤ 10
  rotate_left
  · have HQ : Hid (rdU 10 s.data.toList = -1) := Lib.hid (by rw [rdU, if_neg (by rw [← HSz.out]; rintro ⟨h, _⟩; exact hr h)])
    have HB : Hid ((decide ((1 : Int) ≤ (s.size : Int)) && decide ((s.size : Int) ≤ 10)) = false) := Lib.hid (by
      rw [← Bool.not_eq_true, Bool.and_eq_true, decide_eq_true_eq, decide_eq_true_eq]
      omega)
    go_enter Tryd.func14, Tryd.ntmps14
    go_wp2_with fail
    refine (l1In_c _ _ _ _).mono ?_; rw [HB.out]; rintro e w' ⟨rfl, rfl⟩
    go_wp2_with fail
    go_ret
    exact ⟨retI HQ.out.symm, rfl⟩
  have HB : Hid ((decide ((1 : Int) ≤ (s.size : Int)) && decide ((s.size : Int) ≤ 10)) = true) := Lib.hid (by
    rw [Bool.and_eq_true, decide_eq_true_eq, decide_eq_true_eq]
    omega)
  have hs0 : 0 < s.size := by omega
  have hi0 := at_data s 0 hs0
  have hj0 := at_idx s 0 hs0
  by_cases hz : s.data.toList.getD 0 0 = 48 ∧ 1 < s.size
  · have HQ : Hid (rdU 10 s.data.toList = -1) := Lib.hid (by
      rw [rdU, if_neg]
      rw [← HSz.out]
      rintro ⟨_, h⟩
      apply h
      refine ⟨?_, hz.2⟩
      cases hl : s.data.toList with
      | nil =>
        have h1 : s.size = 0 := by rw [HSz.out, hl]; rfl
        omega
      | cons c r =>
        have h2 := hz.1
        rw [hl] at h2
        simp at h2
        rw [h2]; rfl)
    rw [hz.1] at hi0 hj0
    have h1 : (1 : Int) < (s.size : Int) := by omega
    clear hz
    go_enter Tryd.func14, Tryd.ntmps14
    go_wp2_with fail
    refine (l1In_c _ _ _ _).mono ?_; rw [HB.out]; rintro e w' ⟨rfl, rfl⟩
    go_wp2_with fail
    go_ret
    exact ⟨retI HQ.out.symm, rfl⟩
  have HV : Hid (rdU 10 s.data.toList = optI (Lib.decFrom 0 s.data.toList)) := Lib.hid (by
      have hh : (1 ≤ s.data.toList.length ∧ s.data.toList.length ≤ 10) ∧ ¬ (s.data.toList.head? = some 48 ∧ 1 < s.data.toList.length) := by
        rw [← HSz.out]
        refine ⟨hr, ?_⟩
        rintro ⟨h3, h4⟩
        apply hz
        refine ⟨?_, h4⟩
        cases hl : s.data.toList with
        | nil => rw [hl] at h3; simp at h3
        | cons c r =>
          rw [hl] at h3
          simp at h3
          simpa using h3
      rw [rdU, if_pos hh])
  have hbz : ((s.data.toList.getD 0 0).toNat : Int) = 48 → ¬ (1 : Int) < (s.size : Int) := by
    intro e h1
    apply hz
    refine ⟨?_, by omega⟩
    apply UInt8.toNat_inj.1
    have : (48 : UInt8).toNat = 48 := rfl
    omega
  clear hz
  have hcase : (((s.data.toList.getD 0 0).toNat : Int) == 48) = false ∨ ((s.data.toList.getD 0 0).toNat : Int) = 48 ∧ ¬ (1 : Int) < (s.size : Int) := by
    by_cases h : ((s.data.toList.getD 0 0).toNat : Int) = 48
    · exact .inr ⟨h, hbz h⟩
    · exact .inl (by simpa using h)
  clear hbz
  generalize s.data.toList.getD 0 0 = b0 at hi0 hj0 hcase
  rcases hcase with hc | ⟨hc, hc1⟩
  rotate_left
  · go_enter Tryd.func14, Tryd.ntmps14
    go_wp2_with fail
    refine (l1In_c _ _ _ _).mono ?_; rw [HB.out]; rintro e w' ⟨rfl, rfl⟩
    go_wp2_with fail
    clear hi0 hj0 hc
    go_loop [3, 4] (fun v i => ∃ k N : Nat, k ≤ s.size ∧ i = .int .i64 k ∧ v = .int .i64 N ∧ Hid (Lib.decFrom 0 (s.data.toList.take k) = some N)) (fun _ i => s.size - (intOf i).toNat)
    case atStart => exact ⟨0, 0, Nat.zero_le _, rfl, rfl, Lib.hid rfl⟩
    case round =>
      obtain ⟨k, N, hk, rfl, rfl, HD⟩ := hrel
      by_cases hlt : k < s.size
      · have hik := at_data s k hlt
        have hjk := at_idx s k hlt
        have hkl : k < s.data.toList.length := by rw [← HSz.out]; exact hlt
        have hNb : N < 10000000000 := by
          have h1 := Lib.decFrom_lt _ _ _ HD.out
          have h2 : (s.data.toList.take k).length ≤ 10 := by rw [List.length_take]; omega
          have h3 : 10 ^ (s.data.toList.take k).length ≤ 10 ^ 10 := Nat.pow_le_pow_right (by decide) h2
          have h4 : (10 : Nat) ^ 10 = 10000000000 := by decide
          omega
        have hb := byte_lt (s.data.toList.getD k 0)
        by_cases hd : 48 ≤ (s.data.toList.getD k 0).toNat ∧ (s.data.toList.getD k 0).toNat ≤ 57
        · have HN := Lib.hid (decFrom_step HD.out hkl hd)
          generalize s.data.toList.getD k 0 = b at *
          have g1 : ¬ (b.toNat : Int) < 48 := by omega
          have g2 : ¬ (57 : Int) < (b.toNat : Int) := by omega
          have g3 : IntKind.u8.wrap ((b.toNat : Int) - 48) = (b.toNat : Int) - 48 := wraps_u8 _ (by omega) (by have : (2 : Int) ^ 8 = 256 := rfl; omega)
          have g4 : IntKind.i64.wrap ((b.toNat : Int) - 48) = (b.toNat : Int) - 48 := IntWalk.i64_in _ (by omega)
          have g5 : IntKind.i64.wrap (10 * (N : Int)) = 10 * (N : Int) := IntWalk.i64_in _ (by omega)
          have g6 : IntKind.i64.wrap (10 * (N : Int) + ((b.toNat : Int) - 48)) = 10 * (N : Int) + ((b.toNat : Int) - 48) := IntWalk.i64_in _ (by omega)
          go_wp2_with fail
          go_round
          case rel => exact ⟨k + 1, N * 10 + (b.toNat - 48), by omega, by go_num, by first | (congr 1; omega) | go_num, HN⟩
          case measure => simp [intOf]; omega
        · have HN := Lib.hid (decFrom_stop HD.out hkl hd)
          have HQ : Hid (rdU 10 s.data.toList = -1) := Lib.hid (by rw [HV.out, HN.out]; rfl)
          generalize s.data.toList.getD k 0 = b at *
          by_cases g1 : (b.toNat : Int) < 48
          · go_wp2_with fail
            go_ret
            exact ⟨retI HQ.out.symm, rfl⟩
          · have g2 : (57 : Int) < (b.toNat : Int) := by omega
            go_wp2_with fail
            go_ret
            exact ⟨retI HQ.out.symm, rfl⟩
      · have HQ : Hid (rdU 10 s.data.toList = N) := Lib.hid (by
          have h1 := HD.out
          rw [List.take_of_length_le (by rw [← HSz.out]; omega)] at h1
          rw [HV.out, h1]; rfl)
        go_wp2_with fail
        go_ret
        exact ⟨retI HQ.out.symm, rfl⟩
  · go_enter Tryd.func14, Tryd.ntmps14
    go_wp2_with fail
    refine (l1In_c _ _ _ _).mono ?_; rw [HB.out]; rintro e w' ⟨rfl, rfl⟩
    go_wp2_with fail
    clear hi0 hj0 hc
    go_loop [3, 4] (fun v i => ∃ k N : Nat, k ≤ s.size ∧ i = .int .i64 k ∧ v = .int .i64 N ∧ Hid (Lib.decFrom 0 (s.data.toList.take k) = some N)) (fun _ i => s.size - (intOf i).toNat)
    case atStart => exact ⟨0, 0, Nat.zero_le _, rfl, rfl, Lib.hid rfl⟩
    case round =>
      obtain ⟨k, N, hk, rfl, rfl, HD⟩ := hrel
      by_cases hlt : k < s.size
      · have hik := at_data s k hlt
        have hjk := at_idx s k hlt
        have hkl : k < s.data.toList.length := by rw [← HSz.out]; exact hlt
        have hNb : N < 10000000000 := by
          have h1 := Lib.decFrom_lt _ _ _ HD.out
          have h2 : (s.data.toList.take k).length ≤ 10 := by rw [List.length_take]; omega
          have h3 : 10 ^ (s.data.toList.take k).length ≤ 10 ^ 10 := Nat.pow_le_pow_right (by decide) h2
          have h4 : (10 : Nat) ^ 10 = 10000000000 := by decide
          omega
        have hb := byte_lt (s.data.toList.getD k 0)
        by_cases hd : 48 ≤ (s.data.toList.getD k 0).toNat ∧ (s.data.toList.getD k 0).toNat ≤ 57
        · have HN := Lib.hid (decFrom_step HD.out hkl hd)
          generalize s.data.toList.getD k 0 = b at *
          have g1 : ¬ (b.toNat : Int) < 48 := by omega
          have g2 : ¬ (57 : Int) < (b.toNat : Int) := by omega
          have g3 : IntKind.u8.wrap ((b.toNat : Int) - 48) = (b.toNat : Int) - 48 := wraps_u8 _ (by omega) (by have : (2 : Int) ^ 8 = 256 := rfl; omega)
          have g4 : IntKind.i64.wrap ((b.toNat : Int) - 48) = (b.toNat : Int) - 48 := IntWalk.i64_in _ (by omega)
          have g5 : IntKind.i64.wrap (10 * (N : Int)) = 10 * (N : Int) := IntWalk.i64_in _ (by omega)
          have g6 : IntKind.i64.wrap (10 * (N : Int) + ((b.toNat : Int) - 48)) = 10 * (N : Int) + ((b.toNat : Int) - 48) := IntWalk.i64_in _ (by omega)
          go_wp2_with fail
          go_round
          case rel => exact ⟨k + 1, N * 10 + (b.toNat - 48), by omega, by go_num, by first | (congr 1; omega) | go_num, HN⟩
          case measure => simp [intOf]; omega
        · have HN := Lib.hid (decFrom_stop HD.out hkl hd)
          have HQ : Hid (rdU 10 s.data.toList = -1) := Lib.hid (by rw [HV.out, HN.out]; rfl)
          generalize s.data.toList.getD k 0 = b at *
          by_cases g1 : (b.toNat : Int) < 48
          · go_wp2_with fail
            go_ret
            exact ⟨retI HQ.out.symm, rfl⟩
          · have g2 : (57 : Int) < (b.toNat : Int) := by omega
            go_wp2_with fail
            go_ret
            exact ⟨retI HQ.out.symm, rfl⟩
      · have HQ : Hid (rdU 10 s.data.toList = N) := Lib.hid (by
          have h1 := HD.out
          rw [List.take_of_length_le (by rw [← HSz.out]; omega)] at h1
          rw [HV.out, h1]; rfl)
        go_wp2_with fail
        go_ret
        exact ⟨retI HQ.out.symm, rfl⟩
end Go.Proofs.YtkblommonimpfaaDoor
