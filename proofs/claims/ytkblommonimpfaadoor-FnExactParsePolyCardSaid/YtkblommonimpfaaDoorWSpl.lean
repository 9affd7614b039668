/- Texts cut at a byte: the reference's split. -/
import Derived.Test.YtkblommonimpfaaDoorPureDec
import Derived.Test.YtkblommonimpfaaDoorStrs
import Derived.Test.YtkblommonimpfaaDoorWRd
namespace Go.Proofs.YtkblommonimpfaaDoor
open Go.RowKit
def txtB (l : Bs) : ByteArray := ⟨l.toArray⟩
def splB (b : UInt8) (s : ByteArray) : List ByteArray := (spl b s.data.toList).map txtB
theorem txtB_data (s : ByteArray) : txtB s.data.toList = s := by
  apply ByteArray.ext
  apply Array.ext'
  rfl
theorem ext_piece (s : ByteArray) (f i : Nat) : s.extract f i = txtB ((s.data.toList.take i).drop f) := by
  rw [← txtB_data (s.extract f i), Lib.extract_data, List.drop_take]
theorem ext_rest (s : ByteArray) (f : Nat) : s.extract f s.size = txtB (s.data.toList.drop f) := by
  rw [← txtB_data (s.extract f s.size), Lib.extract_to_end]
theorem infoStr : (Tryd.prog.info? 9).map (fun i => (i.zero, i.size, i.bytes)) = some (some (.string ByteArray.empty), 1, 16) := by kernel_rfl
set_option maxHeartbeats 1000000 in
set_option maxRecDepth 8192 in
theorem l1Split_c (s : ByteArray) (b : UInt8) (m : Int) (hm : (b.toNat : Int) = m) (hs : s.size ≤ 1048576) (w : World) : Calls Tryd.prog 9 #[.string s, .int .u8 m] w (RetOwnS 9 (splB b s) w) := by
  have HSz := Lib.hid (Lib.size_eq s)
  have HM := Lib.hid hm
  clear hm
  obtain ⟨i0, hi, hz0, hz1, hz2⟩ := info_parts infoStr
  have HIn := Lib.hid hi
  have HZ0 := Lib.hid hz0
  have HZ1 := Lib.hid hz1
  have HZ2 := Lib.hid hz2
  clear hi hz0 hz1 hz2
  go_enter Tryd.func9, Tryd.ntmps9
  go_wp2_with fail
  go_loopw [5, 6, 7] (fun v f i wr => ∃ k F M : Nat, k ≤ s.size ∧ i = .int .i64 k ∧ f = .int .i64 F ∧ Hid ((splTo b s.data.toList k).2 = F) ∧ OwnS wr w.heap.size 9 v M ((splTo b s.data.toList k).1.map txtB) ∧ Below w.heap.size w wr) (fun _ _ i _ => s.size - (intOf i).toNat)
  case atStart => exact ⟨0, 0, 0, Nat.zero_le _, rfl, rfl, Lib.hid rfl, OwnS.nil _ _ _, Below.refl _ _⟩
  case round =>
    obtain ⟨k, F, M, hk, rfl, rfl, HF, hown, hbel⟩ := hrel
    have hle := splTo_le b s.data.toList k
    rw [HF.out] at hle
    have hml := hown.len
    rw [List.length_map] at hml
    have hsz := hbel.size
    by_cases hlt : k < s.size
    · have hik := at_data s k hlt
      have hjk := at_idx s k hlt
      by_cases hb : s.data.toList.getD k 0 = b
      · have HS : Hid (splTo b s.data.toList (k + 1) = ((splTo b s.data.toList k).1 ++ [(s.data.toList.take k).drop F], k + 1)) := Lib.hid (by rw [splTo, if_pos hb, HF.out])
        have HP : Hid ((splTo b s.data.toList (k + 1)).1.map txtB = (splTo b s.data.toList k).1.map txtB ++ [s.extract F k]) := Lib.hid (by rw [HS.out, List.map_append, ext_piece]; rfl)
        have HF' : Hid ((splTo b s.data.toList (k + 1)).2 = k + 1) := Lib.hid (by rw [HS.out])
        rw [hb] at hik hjk
        have hbm := HM.out
        have hM : M ≤ 1048576 := by omega
        have f1 : F ≤ k := hle.1
        have p1 : (0 : Int) ≤ (F : Int) := by omega
        have p2 : (F : Int) ≤ (k : Int) := by omega
        have p3 : (k : Int) ≤ (s.size : Int) := by omega
        clear hml hle hb
        generalize (splTo b s.data.toList k).1.map txtB = L at *
        go_wp2_with (at_builtin; refine wp_appStr rfl _ _ 28 rfl w.heap.size 9 i0 Tryd.underlying28 HIn.out HZ0.out HZ1.out HZ2.out _ _ _ rfl hown _ rfl (by omega) hsz ?_)
        intro v' w2 h1 hb2
        rw [← HP.out] at h1
        have bel := hbel.trans hb2
        clear hown hb2 hbel hik hjk hbm
        go_wp2_with fail
        go_roundw
        case rel => exact ⟨k + 1, k + 1, M + 1, by omega, by go_num, by go_num, HF', h1, bel⟩
        case measure => simp [intOf]; omega
      · have HS : Hid (splTo b s.data.toList (k + 1) = splTo b s.data.toList k) := Lib.hid (by rw [splTo, if_neg hb])
        have hne : (((s.data.toList.getD k 0).toNat : Int) == m) = false := by
          rw [beq_eq_false_iff_ne]
          intro e
          rw [← HM.out] at e
          exact hb (UInt8.toNat_inj.1 (by omega))
        rw [← HS.out] at hown HF
        clear hml hle hb
        generalize s.data.toList.getD k 0 = c0 at *
        go_wp2_with fail
        go_roundw
        case rel => exact ⟨k + 1, F, M, by omega, by go_num, rfl, HF, hown, hbel⟩
        case measure => simp [intOf]; omega
    · obtain rfl : k = s.size := by omega
      have HE : Hid (splB b s = (splTo b s.data.toList s.size).1.map txtB ++ [s.extract F s.size]) := Lib.hid (by
        rw [splB, splTo_end, ← HSz.out, HF.out, List.map_append, ext_rest]; rfl)
      have hM : M ≤ 1048576 := by omega
      have f1 : F ≤ s.size := hle.1
      clear hml hle hlt hk
      generalize (splTo b s.data.toList s.size).1.map txtB = L at *
      go_wp2_with (at_builtin; refine wp_appStr rfl _ _ 28 rfl w.heap.size 9 i0 Tryd.underlying28 HIn.out HZ0.out HZ1.out HZ2.out _ _ _ rfl hown _ rfl (by omega) hsz ?_)
      intro v' w2 h1 hb2
      rw [← HE.out] at h1
      have bel := hbel.trans hb2
      clear hown hb2 hbel
      go_wp2_with fail
      go_ret
      exact retOwnS_mk h1 bel
end Go.Proofs.YtkblommonimpfaaDoor
