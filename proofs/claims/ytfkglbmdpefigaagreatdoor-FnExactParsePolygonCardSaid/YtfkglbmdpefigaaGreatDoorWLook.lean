/- Slices of points compared; points looked at; a clone. -/
import Derived.Test.YtfkglbmdpefigaaGreatDoorCompactP
import Derived.Test.YtfkglbmdpefigaaGreatDoorHalfW
import Derived.Test.YtfkglbmdpefigaaGreatDoorMemP
namespace Go.Proofs.YtfkglbmdpefigaaGreatDoor
open Go.RowKit
set_option maxHeartbeats 2000000 in
set_option maxRecDepth 8192 in
theorem pySame_c (A A' : Option Addr) (n n' c c' : Nat) (l m : List Pnt) (B B' : Nat) (w : World) (h : RdP w B A n l) (h' : RdP w B' A' n' m) (hB : B ≤ w.heap.size) (hB' : B' ≤ w.heap.size) (hn : n ≤ 3000) :
    Calls Tryz.prog 20 #[.slice A n c, .slice A' n' c'] w fun e w' => e = .returned (.bool (decide (l = m))) ∧ Below w.heap.size w w' := by
  have HL := Lib.hid h.len
  have HL' := Lib.hid h'.len
  have hm' := h'.le
  by_cases hne : n = n'
  · subst hne
    go_enter Tryz.func20, Tryz.ntmps20
    go_wp2_with fail
    go_loopw [13] (fun i wr => ∃ k : Nat, k ≤ n ∧ i = .int .i64 k ∧ Hid (l.take k = m.take k) ∧ Below w.heap.size w wr) (fun i _ => n - (intOf i).toNat)
    case atStart => exact ⟨0, Nat.zero_le _, rfl, Lib.hid rfl, Below.refl _ _⟩
    case round =>
      obtain ⟨k, hk, rfl, hE, hbel⟩ := hrel
      by_cases hlt : k < n
      · obtain ⟨b, o, rfl, _, c0, c1⟩ := (h.below (hbel.mono hB)).at_ hlt
        obtain ⟨b', o', rfl, _, d0, d1⟩ := (h'.below (hbel.mono hB')).at_ hlt
        have e0 : (0 : Int) ≤ (k : Int) := by omega
        have e1 : (k : Int) < (n : Int) := by omega
        generalize hx0 : (l.getD k (0, 0)).1 = x0 at *
        generalize hx1 : (l.getD k (0, 0)).2 = x1 at *
        generalize hy0 : (m.getD k (0, 0)).1 = y0 at *
        generalize hy1 : (m.getD k (0, 0)).2 = y1 at *
        have HX : Hid (l.getD k (0, 0) = (x0, x1)) := Lib.hid (by rw [← hx0, ← hx1])
        have HY : Hid (m.getD k (0, 0) = (y0, y1)) := Lib.hid (by rw [← hy0, ← hy1])
        clear hx0 hx1 hy0 hy1
        by_cases hs : (x0, x1) = (y0, y1)
        · have HK : Hid (l.take (k + 1) = m.take (k + 1)) := Lib.hid (by rw [takeP_succ (by rw [HL.out]; exact hlt), takeP_succ (by rw [HL'.out]; exact hlt), hE.out, HX.out, HY.out, hs])
          obtain ⟨rfl, rfl⟩ := Prod.mk.inj hs
          clear hs
          go_wp2_with fail
          go_quiet (fail)
          go_wp2_with fail
          go_roundw
          case rel => exact ⟨k + 1, by omega, by go_num, HK, bel_drewN hbel _⟩
          case measure => simp [intOf]; omega
        · have HN : Hid (decide (l = m) = false) := Lib.hid (decide_eq_false fun e => hs (by rw [← HX.out, ← HY.out, e]))
          have ne := pne hs
          clear hs
          rcases ne with ⟨n1, n2⟩ | ⟨rfl, n2⟩
          all_goals
            go_wp2_with fail
            go_quiet (fail)
            go_wp2_with fail
            go_ret
            exact ⟨retB HN.out.symm, bel_drewN hbel _⟩
      · have HT : Hid (decide (l = m) = true) := Lib.hid (decide_eq_true (by
          have := hE.out
          rwa [show k = n from by omega, List.take_of_length_le (by rw [HL.out]; exact Nat.le_refl _), List.take_of_length_le (by rw [HL'.out]; exact Nat.le_refl _)] at this))
        go_wp2_with fail
        go_ret
        exact ⟨retB HT.out.symm, hbel⟩
  · have HN : Hid (decide (l = m) = false) := Lib.hid (decide_eq_false fun e => hne (by rw [← HL.out, ← HL'.out, e]))
    go_enter Tryz.func20, Tryz.ntmps20
    go_wp2_with fail
    go_ret
    exact ⟨retB HN.out.symm, Below.refl _ _⟩
set_option maxHeartbeats 2000000 in
set_option maxRecDepth 8192 in
theorem equalP_c (A A' : Option Addr) (n n' c c' : Nat) (l m : List Pnt) (B B' : Nat) (w : World) (h : RdP w B A n l) (h' : RdP w B' A' n' m) (hB : B ≤ w.heap.size) (hB' : B' ≤ w.heap.size) (hn : n ≤ 3000) :
    Calls Tryz.prog 28 #[.slice A n c, .slice A' n' c'] w fun e w' => e = .returned (.bool (decide (l = m))) ∧ Below w.heap.size w w' := by
  have HL := Lib.hid h.len
  have HL' := Lib.hid h'.len
  have hm' := h'.le
  by_cases hne : n = n'
  · subst hne
    go_enter Tryz.func28, Tryz.ntmps28
    go_wp2_with fail
    go_loopw [13] (fun i wr => ∃ k : Nat, k ≤ n ∧ i = .int .i64 k ∧ Hid (l.take k = m.take k) ∧ Below w.heap.size w wr) (fun i _ => n - (intOf i).toNat)
    case atStart => exact ⟨0, Nat.zero_le _, rfl, Lib.hid rfl, Below.refl _ _⟩
    case round =>
      obtain ⟨k, hk, rfl, hE, hbel⟩ := hrel
      by_cases hlt : k < n
      · obtain ⟨b, o, rfl, _, c0, c1⟩ := (h.below (hbel.mono hB)).at_ hlt
        obtain ⟨b', o', rfl, _, d0, d1⟩ := (h'.below (hbel.mono hB')).at_ hlt
        have e0 : (0 : Int) ≤ (k : Int) := by omega
        have e1 : (k : Int) < (n : Int) := by omega
        generalize hx0 : (l.getD k (0, 0)).1 = x0 at *
        generalize hx1 : (l.getD k (0, 0)).2 = x1 at *
        generalize hy0 : (m.getD k (0, 0)).1 = y0 at *
        generalize hy1 : (m.getD k (0, 0)).2 = y1 at *
        have HX : Hid (l.getD k (0, 0) = (x0, x1)) := Lib.hid (by rw [← hx0, ← hx1])
        have HY : Hid (m.getD k (0, 0) = (y0, y1)) := Lib.hid (by rw [← hy0, ← hy1])
        clear hx0 hx1 hy0 hy1
        by_cases hs : (x0, x1) = (y0, y1)
        · have HK : Hid (l.take (k + 1) = m.take (k + 1)) := Lib.hid (by rw [takeP_succ (by rw [HL.out]; exact hlt), takeP_succ (by rw [HL'.out]; exact hlt), hE.out, HX.out, HY.out, hs])
          obtain ⟨rfl, rfl⟩ := Prod.mk.inj hs
          clear hs
          go_wp2_with fail
          go_quiet (fail)
          go_wp2_with fail
          go_roundw
          case rel => exact ⟨k + 1, by omega, by go_num, HK, bel_drewN hbel _⟩
          case measure => simp [intOf]; omega
        · have HN : Hid (decide (l = m) = false) := Lib.hid (decide_eq_false fun e => hs (by rw [← HX.out, ← HY.out, e]))
          have ne := pne hs
          clear hs
          rcases ne with ⟨n1, n2⟩ | ⟨rfl, n2⟩
          all_goals
            go_wp2_with fail
            go_quiet (fail)
            go_wp2_with fail
            go_ret
            exact ⟨retB HN.out.symm, bel_drewN hbel _⟩
      · have HT : Hid (decide (l = m) = true) := Lib.hid (decide_eq_true (by
          have := hE.out
          rwa [show k = n from by omega, List.take_of_length_le (by rw [HL.out]; exact Nat.le_refl _), List.take_of_length_le (by rw [HL'.out]; exact Nat.le_refl _)] at this))
        go_wp2_with fail
        go_ret
        exact ⟨retB HT.out.symm, hbel⟩
  · have HN : Hid (decide (l = m) = false) := Lib.hid (decide_eq_false fun e => hne (by rw [← HL.out, ← HL'.out, e]))
    go_enter Tryz.func28, Tryz.ntmps28
    go_wp2_with fail
    go_ret
    exact ⟨retB HN.out.symm, Below.refl _ _⟩
def okTo (l : List Pnt) (k : Nat) : Bool := (l.take k).all okPt
theorem okTo_next {l : List Pnt} {k : Nat} (hk : k < l.length) : okTo l (k + 1) = (okTo l k && okPt (l.getD k (0, 0))) := by unfold okTo; rw [takeP_succ hk]; simp
theorem okTo_fail {l : List Pnt} {k : Nat} (hk : k < l.length) (h : okPt (l.getD k (0, 0)) = false) : l.all okPt = false := by
  rw [List.all_eq_false]
  exact ⟨_, getP_mem hk, by rw [h]; simp⟩
theorem okTo_all (l : List Pnt) : okTo l l.length = l.all okPt := by rw [okTo, List.take_length]
set_option maxHeartbeats 1000000 in
theorem pyPoints_c (A : Option Addr) (n c : Nat) (l : List Pnt) (B : Nat) (w : World) (h : RdP w B A n l) (hB : B ≤ w.heap.size) :
    Calls Tryz.prog 19 #[.slice A n c] w fun e w' => e = .returned (.bool (arePts l)) ∧ Below w.heap.size w w' := by
  have hm := h.le
  have HL := Lib.hid h.len
  go_enter Tryz.func19, Tryz.ntmps19
  go_wp2_with fail
  go_loopw [7] (fun i wr => ∃ k : Nat, k ≤ n ∧ i = .int .i64 k ∧ Hid (okTo l k = true) ∧ Below w.heap.size w wr) (fun i _ => n - (intOf i).toNat)
  case atStart => exact ⟨0, Nat.zero_le _, rfl, Lib.hid rfl, Below.refl _ _⟩
  case round =>
    obtain ⟨k, hk, rfl, hE, hbel⟩ := hrel
    by_cases hlt : k < n
    · obtain ⟨b, o, rfl, _, c0, c1⟩ := (h.below (hbel.mono hB)).at_ hlt
      generalize hx0 : (l.getD k (0, 0)).1 = x0 at *
      generalize hx1 : (l.getD k (0, 0)).2 = x1 at *
      have HX : Hid (l.getD k (0, 0) = (x0, x1)) := Lib.hid (by rw [← hx0, ← hx1])
      clear hx0 hx1
      cases hp : isPt x0 x1
      · have HF : Hid (arePts l = false) := Lib.hid (by rw [arePts, okTo_fail (by rw [HL.out]; exact hlt) (by rw [HX.out]; exact hp), Bool.and_false])
        have HP := Lib.hid hp
        clear hp
        go_wp2_with fail
        refine (pyOne_c _ _ _).mono ?_; rw [HP.out]; rintro e u1 ⟨rfl, hb1⟩
        go_wp2_with fail
        go_ret
        exact ⟨retB HF.out.symm, (bel_alloc hbel _).trans (hb1.mono (bel_alloc hbel _).size)⟩
      · have HK : Hid (okTo l (k + 1) = true) := Lib.hid (by rw [okTo_next (by rw [HL.out]; exact hlt), hE.out, HX.out, ← isPt_ok, hp]; rfl)
        have HP := Lib.hid hp
        clear hp
        go_wp2_with fail
        refine (pyOne_c _ _ _).mono ?_; rw [HP.out]; rintro e u1 ⟨rfl, hb1⟩
        have hb := (bel_alloc hbel _).trans (hb1.mono (bel_alloc hbel _).size)
        go_wp2_with fail
        go_roundw
        case rel => exact ⟨k + 1, by omega, by go_num, HK, hb⟩
        case measure => simp [intOf]; omega
    · have HT : Hid (l.all okPt = true) := Lib.hid (by rw [← okTo_all, HL.out, show n = k from by omega]; exact hE.out)
      have HR : Hid (arePts l = (decide (1 ≤ (n : Int)) && decide ((n : Int) ≤ 40))) := Lib.hid (by
        rw [arePts, HT.out, Bool.and_true, HL.out, Bool.eq_iff_iff]
        simp only [Bool.and_eq_true, decide_eq_true_eq]
        omega)
      go_wp2_with (go_at_call 31; refine (l1In_c _ _ _ _).mono ?_; rintro e w' ⟨rfl, rfl⟩)
      go_ret
      exact ⟨retB HR.out.symm, hbel⟩
set_option maxHeartbeats 1000000 in
theorem indexP_c (A : Option Addr) (n c : Nat) (l : List Pnt) (B : Nat) (w : World) (h : RdP w B A n l) (hB : B ≤ w.heap.size) :
    Calls Tryz.prog 62 #[.slice A n c, .func (.func 42) #[] #[]] w fun e w' => (∃ z : Int, e = .returned (.int .i64 z) ∧ decide (0 ≤ z) = !l.all okPt) ∧ Below w.heap.size w w' := by
  have hm := h.le
  have HL := Lib.hid h.len
  go_enter Tryz.func62, Tryz.ntmps62
  go_wp2_with fail
  go_loopw [8] (fun i wr => ∃ k : Nat, k ≤ n ∧ i = .int .i64 k ∧ Hid (okTo l k = true) ∧ Below w.heap.size w wr) (fun i _ => n - (intOf i).toNat)
  case atStart => exact ⟨0, Nat.zero_le _, rfl, Lib.hid rfl, Below.refl _ _⟩
  case round =>
    obtain ⟨k, hk, rfl, hE, hbel⟩ := hrel
    by_cases hlt : k < n
    · obtain ⟨b, o, rfl, _, c0, c1⟩ := (h.below (hbel.mono hB)).at_ hlt
      have e0 : (0 : Int) ≤ (k : Int) := by omega
      have e1 : (k : Int) < (n : Int) := by omega
      generalize hx0 : (l.getD k (0, 0)).1 = x0 at *
      generalize hx1 : (l.getD k (0, 0)).2 = x1 at *
      have HX : Hid (l.getD k (0, 0) = (x0, x1)) := Lib.hid (by rw [← hx0, ← hx1])
      clear hx0 hx1
      cases hp : okPt (x0, x1)
      · have HF : Hid (decide (0 ≤ (k : Int)) = !l.all okPt) := Lib.hid (by rw [okTo_fail (by rw [HL.out]; exact hlt) (by rw [HX.out]; exact hp), decide_eq_true e0]; rfl)
        have HP := Lib.hid hp
        clear hp
        go_wp2_with fail
        refine (notPoint_c _ _ _).mono ?_; rw [HP.out]; rintro e u1 ⟨rfl, hb1⟩
        go_wp2_with fail
        go_ret
        exact ⟨⟨_, rfl, HF.out⟩, bel_step hbel hb1⟩
      · have HK : Hid (okTo l (k + 1) = true) := Lib.hid (by rw [okTo_next (by rw [HL.out]; exact hlt), hE.out, HX.out, hp]; rfl)
        have HP := Lib.hid hp
        clear hp
        go_wp2_with fail
        refine (notPoint_c _ _ _).mono ?_; rw [HP.out]; rintro e u1 ⟨rfl, hb1⟩
        have hb := bel_step hbel hb1
        go_wp2_with fail
        go_roundw
        case rel => exact ⟨k + 1, by omega, by go_num, HK, hb⟩
        case measure => simp [intOf]; omega
    · have HT : Hid (l.all okPt = true) := Lib.hid (by rw [← okTo_all, HL.out, show n = k from by omega]; exact hE.out)
      go_wp2_with fail
      go_ret
      exact ⟨⟨_, rfl, by rw [HT.out]; rfl⟩, hbel⟩
theorem containsP_c (A : Option Addr) (n c : Nat) (l : List Pnt) (B : Nat) (w : World) (h : RdP w B A n l) (hB : B ≤ w.heap.size) :
    Calls Tryz.prog 41 #[.slice A n c, .func (.func 42) #[] #[]] w fun e w' => e = .returned (.bool (!l.all okPt)) ∧ Below w.heap.size w w' := by
  go_enter Tryz.func41, Tryz.ntmps41
  go_wp2_with fail
  refine (indexP_c _ _ _ _ _ _ h hB).mono ?_; rintro e u1 ⟨⟨z, rfl, hz⟩, hb1⟩
  have HZ := Lib.hid hz
  clear hz
  go_wp2_with fail
  go_ret
  exact ⟨retB HZ.out, hb1⟩
theorem arePoints_c (A : Option Addr) (n c : Nat) (l : List Pnt) (B : Nat) (w : World) (h : RdP w B A n l) (hB : B ≤ w.heap.size) :
    Calls Tryz.prog 27 #[.slice A n c] w fun e w' => e = .returned (.bool (arePts l)) ∧ Below w.heap.size w w' := by
  have hm := h.le
  have HL := Lib.hid h.len
  have HR : Hid (arePts l = ((decide (1 ≤ (n : Int)) && decide ((n : Int) ≤ 40)) && l.all okPt)) := Lib.hid (by
    rw [arePts, HL.out]
    congr 1
    rw [Bool.eq_iff_iff]
    simp only [Bool.and_eq_true, decide_eq_true_eq]
    omega)
  cases hp : (decide (1 ≤ (n : Int)) && decide ((n : Int) ≤ 40))
  · have HP := Lib.hid hp
    clear hp
    go_enter Tryz.func27, Tryz.ntmps27
    go_wp2_with (go_at_call 40; refine (within_c _ _ _ _).mono ?_; rw [HP.out]; rintro e w' ⟨rfl, rfl⟩)
    go_ret
    exact ⟨retB (by rw [HR.out, HP.out]; rfl), Below.refl _ _⟩
  · have HP := Lib.hid hp
    clear hp
    go_enter Tryz.func27, Tryz.ntmps27
    go_wp2_with fail
    refine (within_c _ _ _ _).mono ?_; rw [HP.out]; rintro e w' ⟨rfl, rfl⟩
    go_wp2_with fail
    refine (containsP_c _ _ _ _ _ _ h hB).mono ?_; rintro e u1 ⟨rfl, hb1⟩
    go_wp2_with fail
    go_ret
    exact ⟨retB (by rw [HR.out, HP.out, Bool.true_and]), hb1⟩
set_option maxRecDepth 8192 in
theorem cloneP_c (A : Option Addr) (n c : Nat) (l : List Pnt) (B : Nat) (w : World) (h : RdP w B A n l) (hB : B ≤ w.heap.size) (hn : 0 < n) (hn2 : n ≤ 1048576) :
    Calls Tryz.prog 44 #[.slice A n c] w (RetP 32 l w) := by
  obtain ⟨b, o, rfl, hbB, _⟩ := h.at_ hn
  obtain ⟨i0, hi, hz0, hz1, hz2⟩ := info_parts info_pnt
  have HI := Lib.hid hi
  have HZ0 := Lib.hid hz0
  have HZ1 := Lib.hid hz1
  have HZ2 := Lib.hid hz2
  clear hi hz0 hz1 hz2
  have own0 := OwnF.empty w 32 2 (Nat.le_refl w.heap.size)
  have bel0 := bel_new w (.cells #[] 32)
  have h1 : RdP (w.alloc (.cells #[] 32)) B (some ⟨b, o, none⟩) n l := h.below (bel0.mono hB)
  have HC := Lib.hid (RdF.cells h1 hn)
  have HF := Lib.hid (RdF.len h1)
  have hnil := fun (w : World) => Lib.run_eql_slice_nil (P := Tryz.prog) w 22 32 (some ⟨b, o, none⟩) n c 0 0 Tryz.underlying22
  go_enter Tryz.func44, Tryz.ntmps44
  go_wp2_with (at_builtin; refine wp_appSF rfl _ _ 22 rfl w.heap.size 32 2 i0 _ Tryz.underlying22 HI.out HZ0.out HZ1.out HZ2.out (by omega) (by omega) rfl _ 0 [] rfl own0 b o n c (flatP l) HF.out rfl HC.out (by omega) bel0.size ?_)
  intro v' w1 g1 g2 _
  have bel := bel0.trans g2
  have own : OwnP w1 w.heap.size 32 v' n l := g1
  clear g1 g2 own0 bel0
  go_wp2_with fail
  go_ret
  exact retP_mk own bel (by omega)
end Go.Proofs.YtfkglbmdpefigaaGreatDoor
