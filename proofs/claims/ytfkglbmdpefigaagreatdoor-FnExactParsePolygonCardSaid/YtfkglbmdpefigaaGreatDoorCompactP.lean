/- slices.Compact at points. -/
import Derived.Test.YtfkglbmdpefigaaGreatDoorWPnt
import Derived.Deep.MidRow
import Derived.Lib.SliceRun
import Derived.Deep.QuietTactic
import Derived.BigQuiet
namespace Go.Proofs.YtfkglbmdpefigaaGreatDoor
open Go.RowKit
theorem slice_fromP {P : Program} {t e : TypeId} {k : Nat} (ht : P.underlying t = some (.slice e)) (he : P.elem t = e) (hz : ∀ w, (Go.sizeOf e).run P w = .ok k w) (g n c m : Nat) (hm : m < n) (hc : n ≤ c) :
    ∀ w, (Instr.slice t (.slice (some ⟨g, 0, none⟩) n c) (some (.int .i64 (m : Int))) none none).run P w = .ok (.slice (some ⟨g, m * k, none⟩) (n - m) (c - m)) w := fun w => by
  rw [run_slice_l w t _ n c (by rw [he]; exact ht) .i64 m (by omega) (by omega), he, hz]
  simp [sliced, Result.andThen, show ¬ c = m by omega, Addr.add_lit]
theorem slice_toP {P : Program} {t e : TypeId} {k : Nat} (ht : P.underlying t = some (.slice e)) (he : P.elem t = e) (hz : ∀ w, (Go.sizeOf e).run P w = .ok k w) (g n c m : Nat) (hm : m ≤ n) (hc : n ≤ c) :
    ∀ w, (Instr.slice t (.slice (some ⟨g, 0, none⟩) n c) none (some (.int .i64 (m : Int))) none).run P w = .ok (.slice (some ⟨g, 0, none⟩) m c) w := fun w => by
  rw [run_slice_h w t _ n c (by rw [he]; exact ht) .i64 m (by omega) (by omega), he, hz]
  simp [sliced, Result.andThen]
  intro h
  simp [Addr.add]
theorem OwnP.get2 {w : World} {B n c g : Nat} {E : TypeId} {l : List Pnt} (h : OwnP w B E (.slice (some ⟨g, 0, none⟩) n c) n l) {j : Nat} (hj : j < n) :
    w.cell? ⟨g, j * 2, none⟩ = some (.int .i64 (l.getD j (0, 0)).1) ∧ w.cell? ⟨g, j * 2 + 1, none⟩ = some (.int .i64 (l.getD j (0, 0)).2) := by
  have hl := h.len
  obtain ⟨h0, h1⟩ := flatP_at l j (by omega)
  rw [← h0, ← h1]
  exact ⟨OwnF.getAt h _ (by omega), OwnF.getAt h _ (by omega)⟩
theorem OwnP.capAt {w : World} {B n c : Nat} {A : Option Addr} {E : TypeId} {l : List Pnt} (h : OwnP w B E (.slice A n c) n l) : n ≤ c ∧ c ≤ maxLen ∧ (A = none → n = 0 ∧ c = 0) := by
  rcases h.2 with ⟨hv, h0⟩ | ⟨g', cap', cur, hv, _, hg, hnc, hcm, _⟩
  · cases hv
    exact ⟨Nat.le_refl _, Nat.zero_le _, fun _ => ⟨rfl, rfl⟩⟩
  · cases hv
    exact ⟨hnc, hcm, fun h => by cases h⟩
theorem pne {x0 x1 y0 y1 : Int} (h : ¬ (x0, x1) = (y0, y1)) : (¬ x0 = y0 ∧ (x0 == y0) = false) ∨ (x0 = y0 ∧ (x1 == y1) = false) := by
  by_cases h0 : x0 = y0
  · exact .inr ⟨h0, beq_eq_false_iff_ne.2 fun h1 => h (by rw [h0, h1])⟩
  · exact .inl ⟨h0, beq_eq_false_iff_ne.2 h0⟩
theorem cell_drewN (w : World) (n : Nat) (p : Addr) : (w.drewN n).cell? p = w.cell? p := rfl
theorem grown_drewN {a b : World} {row : Option Nat} (h : a.grownBy b row) (n : Nat) : a.grownBy (b.drewN n) row := ⟨h.os, h.tape, h.output, h.size, h.block⟩
set_option maxHeartbeats 4000000 in
set_option maxRecDepth 8192 in
theorem compactP_c (g n c : Nat) (l : List Pnt) (B : Nat) (w : World) (h : OwnP w B 32 (.slice (some ⟨g, 0, none⟩) n c) n l) (hn : n ≤ 3000000000) :
    Calls Tryz.prog 47 #[.slice (some ⟨g, 0, none⟩) n c] w
      fun e w' => ∃ m, e = .returned (.slice (some ⟨g, 0, none⟩) m c) ∧ m ≤ n ∧ OwnP w' B 32 (.slice (some ⟨g, 0, none⟩) m c) m (compP l) ∧ w.grownBy w' (some g) := by
  have hl := h.len
  have hc : n ≤ c := h.capAt.1
  have HL := Lib.hid hl
  have H : Hid (compP l = upsP l n) := Lib.hid (by rw [← hl]; rfl)
  have hcc : c ≤ 9223372036854775807 := by have := h.capAt.2.1; unfold maxLen at this; omega
  clear hl
  by_cases h2 : n < 2
  · have H1 : Hid (compP l = l) := Lib.hid (by
      have := HL.out
      match l, this with
      | [], _ => rfl
      | [a], _ => rfl
      | a :: b :: r, e => simp at e; omega)
    go_enter Tryz.func47, Tryz.ntmps47
    go_wp2
    go_ret
    exact ⟨n, rfl, Nat.le_refl _, by rw [H1.out]; exact h, World.grownBy.refl _ _⟩
  · go_enter Tryz.func47, Tryz.ntmps47
    go_wp2
    go_loopw [3] (fun i wr => ∃ k : Nat, 1 ≤ k ∧ k ≤ n ∧ i = .int .i64 k ∧ Hid (upsP l k = l.take k) ∧ OwnP wr B 32 (.slice (some ⟨g, 0, none⟩) n c) n l ∧ w.grownBy wr (some g)) (fun i _ => n - (intOf i).toNat)
    case atStart => exact ⟨1, by omega, by omega, rfl, Lib.hid (by
      have := HL.out
      match l, this with
      | [], e => simp at e; omega
      | a :: r, _ => simp [upsP, keepP]), h, World.grownBy.refl _ _⟩
    case round =>
      obtain ⟨k, hk1, hk, rfl, hall, hown, hgr⟩ := hrel
      by_cases hlt : k < n
      · obtain ⟨c0, c1⟩ := hown.get2 hlt
        obtain ⟨d0, d1⟩ := hown.get2 (show k - 1 < n by omega)
        generalize hx0 : (l.getD k (0, 0)).1 = x0 at *
        generalize hx1 : (l.getD k (0, 0)).2 = x1 at *
        generalize hy0 : (l.getD (k - 1) (0, 0)).1 = y0 at *
        generalize hy1 : (l.getD (k - 1) (0, 0)).2 = y1 at *
        have HX : Hid (l.getD k (0, 0) = (x0, x1)) := Lib.hid (by rw [← hx0, ← hx1])
        have HY : Hid (l.getD (k - 1) (0, 0) = (y0, y1)) := Lib.hid (by rw [← hy0, ← hy1])
        clear hx0 hx1 hy0 hy1
        have e1 : IntKind.i64.wrap ((k : Int) - 1) = (k : Int) - 1 := IntWalk.i64_in _ (by omega)
        have e2 : ((k : Int) - 1).toNat = k - 1 := by omega
        have e3 : (1 : Int) ≤ (k : Int) := by omega
        have e4 : (0 : Int) ≤ (k : Int) - 1 := by omega
        have e5 : (k : Int) - 1 < (n : Int) := by omega
        have e9 : ¬ n ≤ k - 1 := by omega
        by_cases hs : (x0, x1) = (y0, y1)
        · skip
          have HK : Hid (¬ keepP l k) := Lib.hid (by
            rintro (h0 | h0)
            · omega
            · exact h0 (by rw [HX.out, HY.out]; exact hs.symm))
          have hs2 := slice_fromP (P := Tryz.prog) Tryz.underlying22 (by kernel_rfl) Tryz.sizeOf32 g n c k hlt hc
          have HI := Lib.hid (CompAtP.start (by rw [HL.out]; exact hlt) hall.out HK.out)
          obtain ⟨q0, q1⟩ := Prod.mk.inj hs
          clear hs
          go_wp2_with fail
          go_quiet (fail)
          go_wp2_with fail
          go_loopw [3, 5] (fun i j wy => ∃ (kk k2 : Nat) (D : List Pnt), 1 ≤ k2 ∧ k + k2 ≤ n ∧ i = .int .i64 kk ∧ j = .int .i64 k2 ∧ Hid (CompAtP l D (k + k2) kk) ∧ OwnP wy B 32 (.slice (some ⟨g, 0, none⟩) n c) n D ∧ w.grownBy wy (some g)) (fun _ j _ => n - (intOf j).toNat)
          case atStart => exact ⟨k, 1, l, by omega, by omega, rfl, rfl, HI, hown.drewN _, grown_drewN hgr _⟩
          case round =>
            clear hown hgr c0 c1 d0 d1
            obtain ⟨kk, k2, D, hk2, hle, rfl, rfl, hI, hown, hgr⟩ := hrel
            have hkk := hI.out.lt
            by_cases hlt2 : k + k2 < n
            · obtain ⟨c0, c1⟩ := hown.get2 hlt2
              obtain ⟨d0, d1⟩ := hown.get2 (show k + k2 - 1 < n by omega)
              rw [hI.out.high (k + k2) (by omega), show (k + k2) * 2 = k * 2 + k2 * 2 from by omega] at c0 c1
              rw [hI.out.high (k + k2 - 1) (by omega), show (k + k2 - 1) * 2 = k * 2 + (k2 - 1) * 2 from by omega] at d0 d1
              generalize hx0 : (l.getD (k + k2) (0, 0)).1 = u0 at *
              generalize hx1 : (l.getD (k + k2) (0, 0)).2 = u1 at *
              generalize hy0 : (l.getD (k + k2 - 1) (0, 0)).1 = v0 at *
              generalize hy1 : (l.getD (k + k2 - 1) (0, 0)).2 = v1 at *
              have HU : Hid (l.getD (k + k2) (0, 0) = (u0, u1)) := Lib.hid (by rw [← hx0, ← hx1])
              have HV : Hid (l.getD (k + k2 - 1) (0, 0) = (v0, v1)) := Lib.hid (by rw [← hy0, ← hy1])
              clear hx0 hx1 hy0 hy1
              have f1 : IntKind.i64.wrap ((k2 : Int) - 1) = (k2 : Int) - 1 := IntWalk.i64_in _ (by omega)
              have f2 : ((k2 : Int) - 1).toNat = k2 - 1 := by omega
              have f3 : (1 : Int) ≤ (k2 : Int) := by omega
              have f4 : (0 : Int) ≤ (k2 : Int) - 1 := by omega
              have f5 : (k2 : Int) - 1 < ((n - k : Nat) : Int) := by omega
              have f6 : (k2 : Int) < ((n - k : Nat) : Int) := by omega
              have f9 : ¬ n - k ≤ k2 - 1 := by omega
              have f8 : ¬ n - k ≤ k2 := by omega
              by_cases hs : (u0, u1) = (v0, v1)
              · skip
                have HK2 : Hid (CompAtP l D (k + (k2 + 1)) kk) := Lib.hid (hI.out.skip (by rw [HL.out]; exact hlt2) (by
                  rintro (h0 | h0)
                  · omega
                  · exact h0 (by rw [HU.out, HV.out]; exact hs.symm)))
                obtain ⟨q0, q1⟩ := Prod.mk.inj hs
                clear hs hs2
                go_wp2_with fail
                go_quiet (fail)
                go_wp2_with fail
                go_roundw
                case rel => exact ⟨kk, k2 + 1, D, by omega, by omega, rfl, by go_num, HK2, hown.drewN _, grown_drewN hgr _⟩
                case measure => simp [intOf]; omega
              · skip
                have HK2 : Hid (CompAtP l (D.set kk (u0, u1)) (k + (k2 + 1)) (kk + 1)) := Lib.hid (by
                  have := hI.out.keep (by rw [HL.out]; exact hlt2) (.inr fun h0 => hs (by rw [HU.out, HV.out] at h0; exact h0.symm))
                  rwa [HU.out] at this)
                have ne := pne hs
                clear hs hs2
                rcases ne with ⟨n1, n2⟩ | ⟨rfl, n2⟩
                all_goals
                  go_wp2_with fail
                  go_quiet (fail)
                  replace hown := hown.drewN nq
                  replace hgr := grown_drewN hgr nq
                  replace c0 := (cell_drewN wr nq _).trans c0
                  replace c1 := (cell_drewN wr nq _).trans c1
                  clear d0 d1
                  generalize wr.drewN nq = wq at *
                  obtain ⟨hown', hgr'⟩ := OwnF.setMany [u0, u1] (flatP D) (kk * 2) wq hown
                  rw [laid2 D kk (u0, u1) (by rw [hI.out.len, HL.out]; omega)] at hown'
                  have hgr' := grown_trans hgr hgr'
                  have o1 := OwnF.set_ hown (kk * 2) u0
                  have s0 := OwnF.getAt hown (kk * 2) (by omega)
                  have s1 := OwnF.getAt o1 (kk * 2 + 1) (by omega)
                  have z0 := OwnF.frozenAt hown (kk * 2)
                  have z1 := OwnF.frozenAt o1 (kk * 2 + 1)
                  clear o1
                  generalize (flatP D).getD (kk * 2) 0 = r0 at s0
                  generalize ((flatP D).set (kk * 2) u0).getD (kk * 2 + 1) 0 = r1 at s1
                  clear hgr hown
                  go_wp2_with fail
                  go_roundw
                  case rel => exact ⟨kk + 1, k2 + 1, D.set kk (u0, u1), by omega, by omega, by go_num, by go_num, HK2, hown', hgr'⟩
                  case measure => simp [intOf]; omega
            · have hend : k + k2 = n := by omega
              have HT : Hid ((flatP D).take (kk * 2) = flatP (compP l)) := Lib.hid (by rw [flatP_take, hI.out.done, hend, H.out])
              obtain ⟨wc, hcl, hoc, hgc⟩ := run_clear_own (P := Tryz.prog) Tryz.underlying22 Tryz.zeroValue32 rfl (by omega) hown (show kk < n by omega)
              rw [HT.out] at hoc
              have hgc := grown_trans hgr hgc
              have hs3 := slice_fromP (P := Tryz.prog) Tryz.underlying22 (by kernel_rfl) Tryz.sizeOf32 g n c kk (by omega) hc
              have hs4 := slice_toP (P := Tryz.prog) Tryz.underlying22 (by kernel_rfl) Tryz.sizeOf32 g n c kk (by omega) hc
              have f6 : ¬ (k2 : Int) < ((n - k : Nat) : Int) := by omega
              have f8 : n - k ≤ k2 := by omega
              clear hown hgr hs2
              go_wp2_with fail
              go_ret
              exact ⟨kk, rfl, by omega, hoc, hgc⟩
        · skip
          have HK : Hid (upsP l (k + 1) = l.take (k + 1)) := Lib.hid (by
            rw [upsP_keep, hall.out, takeP_succ (by rw [HL.out]; exact hlt)]
            exact .inr fun h0 => hs (by rw [HX.out, HY.out] at h0; exact h0.symm))
          have ne := pne hs
          clear hs
          rcases ne with ⟨n1, n2⟩ | ⟨rfl, n2⟩
          all_goals
            go_wp2_with fail
            go_quiet (fail)
            go_wp2_with fail
            go_roundw
            case rel => exact ⟨k + 1, by omega, by omega, by go_num, HK, hown.drewN _, grown_drewN hgr _⟩
            case measure => simp [intOf]; omega
      · obtain rfl : k = n := by omega
        have HE : Hid (compP l = l) := Lib.hid (by rw [H.out, hall.out, ← HL.out, List.take_length])
        go_wp2_with fail
        go_ret
        exact ⟨k, rfl, Nat.le_refl _, by rw [HE.out]; exact hown, hgr⟩
end Go.Proofs.YtfkglbmdpefigaaGreatDoor
