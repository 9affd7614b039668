/- The program's parts of a text that end with semicolons. -/
import Derived.Test.YtfkglbmdpefigaaGreatDoorWCut
import Derived.Deep.RegionHeld3
namespace Go.Proofs.YtfkglbmdpefigaaGreatDoor
open Go.RowKit
def lastE (l : Bs) : Bool := decide ((spl 59 l).getLast? = some [])
theorem spl_pos (b : UInt8) (l : Bs) : 1 ≤ (spl b l).length := by
  cases h : spl b l with
  | nil => exact absurd h (spl_ne b l)
  | cons _ _ => simp
theorem spl_last {l : Bs} {p : Bs} (h : (spl 59 l).getD ((spl 59 l).length - 1) [] = p) : lastE l = decide (p = []) := by
  have hp := spl_pos 59 l
  unfold lastE
  rw [List.getLast?_eq_getElem?, List.getElem?_eq_getElem (by omega)]
  rw [List.getD, List.getElem?_eq_getElem (by omega)] at h
  simp only [Option.getD_some] at h
  rw [h]
  simp
set_option maxHeartbeats 1000000 in
theorem parts_c (s : ByteArray) (hs : s.size ≤ 1048576) (w : World) (hM : MaxOk w) :
    Calls Tryz.prog 13 #[.string s] w fun e w' => ∃ A n c, e = .returned (.tuple #[.slice (some A) n c, .bool (lastE s.data.toList)]) ∧ RdS w' w'.heap.size (some A) n ((splB 59 s).dropLast) ∧ Below w.heap.size w w' := by
  go_enter Tryz.func13, Tryz.ntmps13
  go_wp2_with fail
  refine (split_c s 59 hs _ hM).mono ?_
  rintro e w1 ⟨A, M, c, rfl, h, hc, hb1⟩
  have hl := h.len
  rw [splB, List.length_map] at hl
  have hp := spl_pos 59 s.data.toList
  obtain ⟨ad', e, _, cl⟩ := h.at_ (show M - 1 < M by omega)
  injection e with e
  subst e
  have hgl : (splB 59 s).getD (M - 1) ⟨#[]⟩ = txtB ((spl 59 s.data.toList).getD (M - 1) []) := by
    rw [splB, List.getD, List.getElem?_map, List.getD, List.getElem?_eq_getElem (show M - 1 < (spl 59 s.data.toList).length by omega)]
    rfl
  rw [hgl] at cl
  have HLst := Lib.hid (spl_last (l := s.data.toList) (p := (spl 59 s.data.toList).getD (M - 1) []) (by rw [hl]))
  have hrd : RdS w1 w1.heap.size (some A) (M - 1) ((splB 59 s).dropLast) := by
    rw [List.dropLast_eq_take, show (splB 59 s).length = M from h.len]
    exact h.pre (by omega)
  have hbl : ((txtB ((spl 59 s.data.toList).getD (M - 1) [])).toList == []) = lastE s.data.toList := by
    rw [HLst.out, Lib.toList_data, txtB_toList]
    cases (spl 59 s.data.toList).getD (M - 1) [] <;> rfl
  generalize txtB ((spl 59 s.data.toList).getD (M - 1) []) = X at *
  have hm := h.le
  have hM1 : 1 ≤ M := by omega
  have HRD := Lib.hid hrd
  clear h hl hp hgl hrd HLst
  have e1 : IntKind.i64.wrap ((M : Int) - 1) = (M : Int) - 1 := IntWalk.i64_in _ (by omega)
  have e2 : ((M : Int) - 1).toNat = M - 1 := by omega
  have e4 : (0 : Int) ≤ (M : Int) - 1 := by omega
  have e6 : (M : Int) - 1 < (M : Int) := by omega
  have k1 : (1 : Int) ≤ (M : Int) := by omega
  have k2 : ¬ (M : Int) - 1 < 0 := by omega
  have k4 : ¬ (M : Int) ≤ (M : Int) - 1 := by omega
  have k6 : 0 < M := by omega
  have q3 : (M : Int) - 1 ≤ (c : Int) := by omega
  have q4 : M - 1 ≤ c := by omega
  have q5 : 0 ≤ M - 1 := by omega
  have q6 : ¬ (c : Int) < (M : Int) - 1 := by omega
  go_wp2_with fail
  go_quiet (fail)
  go_wp2_with fail
  go_ret2
  exact ⟨A, M - 1, c, by first | rfl | (rw [hbl]), HRD.out.drewN _, bel_dn2 hb1 _⟩
end Go.Proofs.YtfkglbmdpefigaaGreatDoor
