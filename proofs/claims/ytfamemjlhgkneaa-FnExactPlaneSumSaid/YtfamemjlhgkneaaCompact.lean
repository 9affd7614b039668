/- slices.CompactFunc at terms, and the program's gathering of terms. -/
import Derived.Test.YtfamemjlhgkneaaPureComp
import Derived.Test.YtfamemjlhgkneaaSortT
import Derived.Deep.MidRow
import Derived.StillTailTactics
namespace Go.Proofs.Ytfamemjlhgkneaa
open Go.RowKit
theorem slice_from {P : Program} {t e : TypeId} {k : Nat} (ht : P.underlying t = some (.slice e)) (he : P.elem t = e) (hz : ∀ w, (Go.sizeOf e).run P w = .ok k w) (g n c m : Nat) (hm : m < n) (hc : n ≤ c) :
    ∀ w, (Instr.slice t (.slice (some ⟨g, 0, none⟩) n c) (some (.int .i64 (m : Int))) none none).run P w = .ok (.slice (some ⟨g, m * k, none⟩) (n - m) (c - m)) w := fun w => by
  rw [run_slice_l w t _ n c (by rw [he]; exact ht) .i64 m (by omega) (by omega), he, hz]
  simp [sliced, Result.andThen, show ¬ c = m by omega, Addr.add_lit]
theorem slice_to {P : Program} {t e : TypeId} {k : Nat} (ht : P.underlying t = some (.slice e)) (he : P.elem t = e) (hz : ∀ w, (Go.sizeOf e).run P w = .ok k w) (g n c m : Nat) (hm : m ≤ n) (hc : n ≤ c) :
    ∀ w, (Instr.slice t (.slice (some ⟨g, 0, none⟩) n c) none (some (.int .i64 (m : Int))) none).run P w = .ok (.slice (some ⟨g, 0, none⟩) m c) w := fun w => by
  rw [run_slice_h w t _ n c (by rw [he]; exact ht) .i64 m (by omega) (by omega), he, hz]
  simp [sliced, Result.andThen]
  intro h
  simp [Addr.add]
theorem grown_alloc {a b : World} {row : Option Nat} (h : a.grownBy b row) (o : Obj) : a.grownBy (b.alloc o) row :=
  ⟨h.os, h.tape, h.output, by have := h.size; rw [World.size_alloc]; omega, fun k hk hn => (Below.heap_alloc b o k (Nat.lt_of_lt_of_le hk h.size)).trans (h.block k hk hn)⟩
theorem grown_drew {a b : World} {row : Option Nat} (h : a.grownBy b row) : a.grownBy b.drew row := ⟨h.os, h.tape, h.output, h.size, h.block⟩
theorem grown_row {a b : World} {row : Option Nat} (h : a.grownBy b none) : a.grownBy b row := ⟨h.os, h.tape, h.output, h.size, fun k hk _ => h.block k hk (by simp)⟩
theorem gath2_c (a0 a1 a2 b0 b1 b2 : Int) (w : World) (h0 : -1000000 ≤ a0 ∧ a0 ≤ 1000000) (h1 : -1000000 ≤ a1 ∧ a1 ≤ 1000000) (h2 : -1000000 ≤ b0 ∧ b0 ≤ 1000000) (h3 : -1000000 ≤ b1 ∧ b1 ≤ 1000000) :
    Calls Try.prog 85 #[.agg #[.int .i64 a0, .int .i64 a1, .int .i64 a2], .agg #[.int .i64 b0, .int .i64 b1, .int .i64 b2]] w fun e w' => e = .returned (.bool (decide (same (a0, a1, a2) (b0, b1, b2)))) ∧ w.grownBy w' none := by
  have H : Hid ((cmpT (a0, a1, a2) (b0, b1, b2) == 0) = decide (same (a0, a1, a2) (b0, b1, b2))) := Lib.hid (by rw [Bool.eq_iff_iff, decide_eq_true_eq, beq_iff_eq]; exact same_cmp _ _)
  go_enter Try.func85, Try.ntmps85
  go_wp2_with fail
  refine (compareTerms_x _ _ _ _ _ _ _ h0 h1 h2 h3).mono ?_; rintro e w' ⟨rfl, rfl⟩
  go_wp2_with fail
  go_ret
  exact ⟨retB H.out, grown_alloc (grown_alloc (grown_alloc (grown_alloc (World.grownBy.refl w none) _) _) _) _⟩
theorem OwnT.get3 {w : World} {B n c g : Nat} {E : TypeId} {l : List Trm} (h : OwnT w B E (.slice (some ⟨g, 0, none⟩) n c) n l) {j : Nat} (hj : j < n) :
    w.cell? ⟨g, j * 3, none⟩ = some (.int .i64 (l.getD j (0, 0, 0)).1) ∧ w.cell? ⟨g, j * 3 + 1, none⟩ = some (.int .i64 (l.getD j (0, 0, 0)).2.1) ∧ w.cell? ⟨g, j * 3 + 2, none⟩ = some (.int .i64 (l.getD j (0, 0, 0)).2.2) := by
  have hl := h.len
  obtain ⟨h0, h1, h2⟩ := flatT_at l j (by omega)
  rw [← h0, ← h1, ← h2]
  exact ⟨OwnF.getAt h _ (by omega), OwnF.getAt h _ (by omega), OwnF.getAt h _ (by omega)⟩
theorem okT_at {l : List Trm} (hb : ∀ t ∈ l, okT t) {j : Nat} (hj : j < l.length) : okT (l.getD j (0, 0, 0)) := by
  refine hb _ ?_
  simp [List.getD, List.getElem?_eq_getElem hj]
set_option maxHeartbeats 4000000 in
set_option maxRecDepth 8192 in
theorem compact_c (g n c : Nat) (l : List Trm) (B : Nat) (w : World) (h : OwnT w B 54 (.slice (some ⟨g, 0, none⟩) n c) n l) (hb : ∀ t ∈ l, okT t) (hn : n ≤ 3000000000) :
    Calls Try.prog 84 #[.slice (some ⟨g, 0, none⟩) n c, .func (.func 85) #[] #[]] w
      fun e w' => ∃ m, e = .returned (.slice (some ⟨g, 0, none⟩) m c) ∧ m ≤ n ∧ OwnT w' B 54 (.slice (some ⟨g, 0, none⟩) m c) m (compT l) ∧ w.grownBy w' (some g) := by
  have hl := h.len
  have hc : n ≤ c := h.capAt.1
  have HL := Lib.hid hl
  have HB := Lib.hid hb
  have H : Hid (compT l = upsT l n) := Lib.hid (by rw [← hl, upsT_eq])
  have hcc : c ≤ 9223372036854775807 := by have := h.capAt.2.1; unfold maxLen at this; omega
  clear hl hb
  by_cases h2 : n < 2
  · have H1 : Hid (compT l = l) := Lib.hid (by
      have := HL.out
      match l, this with
      | [], _ => rfl
      | [a], _ => rfl
      | a :: b :: r, e => simp at e; omega)
    go_enter Try.func84, Try.ntmps84
    go_wp2
    go_ret
    exact ⟨n, rfl, Nat.le_refl _, by rw [H1.out]; exact h, World.grownBy.refl _ _⟩
  · go_enter Try.func84, Try.ntmps84
    go_wp2
    go_loopw [5] (fun i wr => ∃ k : Nat, 1 ≤ k ∧ k ≤ n ∧ i = .int .i64 k ∧ Hid (upsT l k = l.take k) ∧ OwnT wr B 54 (.slice (some ⟨g, 0, none⟩) n c) n l ∧ w.grownBy wr (some g)) (fun i _ => n - (intOf i).toNat)
    case atStart => exact ⟨1, by omega, by omega, rfl, Lib.hid (by
      have := HL.out
      match l, this with
      | [], e => simp at e; omega
      | a :: r, _ => simp [upsT, keepT]), h, World.grownBy.refl _ _⟩
    case round =>
      obtain ⟨k, hk1, hk, rfl, hall, hown, hgr⟩ := hrel
      by_cases hlt : k < n
      · obtain ⟨c0, c1, c2⟩ := hown.get3 hlt
        obtain ⟨d0, d1, d2⟩ := hown.get3 (show k - 1 < n by omega)
        obtain ⟨⟨a0, a0'⟩, ⟨a1, a1'⟩, _⟩ := okT_at HB.out (show k < l.length by rw [HL.out]; exact hlt)
        obtain ⟨⟨b0, b0'⟩, ⟨b1, b1'⟩, _⟩ := okT_at HB.out (show k - 1 < l.length by rw [HL.out]; omega)
        generalize hx0 : (l.getD k (0, 0, 0)).1 = x0 at *
        generalize hx1 : (l.getD k (0, 0, 0)).2.1 = x1 at *
        generalize hx2 : (l.getD k (0, 0, 0)).2.2 = x2 at *
        generalize hy0 : (l.getD (k - 1) (0, 0, 0)).1 = y0 at *
        generalize hy1 : (l.getD (k - 1) (0, 0, 0)).2.1 = y1 at *
        generalize hy2 : (l.getD (k - 1) (0, 0, 0)).2.2 = y2 at *
        have HX : Hid (l.getD k (0, 0, 0) = (x0, x1, x2)) := Lib.hid (by rw [← hx0, ← hx1, ← hx2])
        have HY : Hid (l.getD (k - 1) (0, 0, 0) = (y0, y1, y2)) := Lib.hid (by rw [← hy0, ← hy1, ← hy2])
        clear hx0 hx1 hx2 hy0 hy1 hy2
        have e1 : IntKind.i64.wrap ((k : Int) - 1) = (k : Int) - 1 := IntWalk.i64_in _ (by omega)
        have e2 : ((k : Int) - 1).toNat = k - 1 := by omega
        have e3 : (1 : Int) ≤ (k : Int) := by omega
        have e4 : (0 : Int) ≤ (k : Int) - 1 := by omega
        have e5 : (k : Int) - 1 < (n : Int) := by omega
        have e9 : ¬ n ≤ k - 1 := by omega
        by_cases hs : same (x0, x1, x2) (y0, y1, y2)
        · have HS : Hid (decide (same (x0, x1, x2) (y0, y1, y2)) = true) := Lib.hid (by simpa using hs)
          have HK : Hid (¬ keepT l k) := Lib.hid (by
            rintro (h0 | h0)
            · omega
            · exact h0 (by rw [HX.out, HY.out]; exact same_symm hs))
          have hs2 := slice_from (P := Try.prog) Try.underlying25 (by kernel_rfl) Try.sizeOf54 g n c k hlt hc
          have HO := Lib.hid hown
          have HG := Lib.hid hgr
          clear hs hown hgr
          go_wp2_with fail
          go_still_tail 10, (by kernel_rfl)
          go_wp2_with fail
          refine (gath2_c x0 x1 x2 y0 y1 y2 _ (by omega) (by omega) (by omega) (by omega)).mono ?_; rw [HS.out]; rintro e wz ⟨rfl, hz⟩
          have hz' : wr.grownBy wz (some g) := grown_row ⟨hz.os, hz.tape, hz.output, hz.size, hz.block⟩
          have hown := OwnT.kept HO.out ⟨hz.os, hz.tape, hz.output, hz.size, hz.block⟩ (row := none) (.inr (by simp [Value.ownBlock]))
          have hgr := grown_trans HG.out hz'
          clear hz hz' c0 c1 c2 d0 d1 d2
          go_wp2_with fail
          go_loopw [5, 7] (fun i j wy => ∃ (kk k2 : Nat) (D : List Trm), 1 ≤ k2 ∧ k + k2 ≤ n ∧ i = .int .i64 kk ∧ j = .int .i64 k2 ∧ Hid (CompAt l D (k + k2) kk) ∧ OwnT wy B 54 (.slice (some ⟨g, 0, none⟩) n c) n D ∧ w.grownBy wy (some g)) (fun _ j _ => n - (intOf j).toNat)
          case atStart => exact ⟨k, 1, l, by omega, by omega, rfl, rfl, Lib.hid (CompAt.start (by rw [HL.out]; exact hlt) hall.out HK.out), hown, hgr⟩
          case round =>
            obtain ⟨kk, k2, D, hk2, hle, rfl, rfl, hI, hown, hgr⟩ := hrel
            have hkk := hI.out.lt
            by_cases hlt2 : k + k2 < n
            · obtain ⟨c0, c1, c2⟩ := hown.get3 hlt2
              obtain ⟨d0, d1, d2⟩ := hown.get3 (show k + k2 - 1 < n by omega)
              rw [hI.out.high (k + k2) (by omega), show (k + k2) * 3 = k * 3 + k2 * 3 from by omega] at c0 c1 c2
              rw [hI.out.high (k + k2 - 1) (by omega), show (k + k2 - 1) * 3 = k * 3 + (k2 - 1) * 3 from by omega] at d0 d1 d2
              obtain ⟨⟨p0, p0'⟩, ⟨p1, p1'⟩, _⟩ := okT_at HB.out (show k + k2 < l.length by rw [HL.out]; exact hlt2)
              obtain ⟨⟨q0, q0'⟩, ⟨q1, q1'⟩, _⟩ := okT_at HB.out (show k + k2 - 1 < l.length by rw [HL.out]; omega)
              generalize hx0 : (l.getD (k + k2) (0, 0, 0)).1 = u0 at *
              generalize hx1 : (l.getD (k + k2) (0, 0, 0)).2.1 = u1 at *
              generalize hx2 : (l.getD (k + k2) (0, 0, 0)).2.2 = u2 at *
              generalize hy0 : (l.getD (k + k2 - 1) (0, 0, 0)).1 = v0 at *
              generalize hy1 : (l.getD (k + k2 - 1) (0, 0, 0)).2.1 = v1 at *
              generalize hy2 : (l.getD (k + k2 - 1) (0, 0, 0)).2.2 = v2 at *
              have HU : Hid (l.getD (k + k2) (0, 0, 0) = (u0, u1, u2)) := Lib.hid (by rw [← hx0, ← hx1, ← hx2])
              have HV : Hid (l.getD (k + k2 - 1) (0, 0, 0) = (v0, v1, v2)) := Lib.hid (by rw [← hy0, ← hy1, ← hy2])
              clear hx0 hx1 hx2 hy0 hy1 hy2
              have f1 : IntKind.i64.wrap ((k2 : Int) - 1) = (k2 : Int) - 1 := IntWalk.i64_in _ (by omega)
              have f2 : ((k2 : Int) - 1).toNat = k2 - 1 := by omega
              have f3 : (1 : Int) ≤ (k2 : Int) := by omega
              have f4 : (0 : Int) ≤ (k2 : Int) - 1 := by omega
              have f5 : (k2 : Int) - 1 < ((n - k : Nat) : Int) := by omega
              have f6 : (k2 : Int) < ((n - k : Nat) : Int) := by omega
              have f9 : ¬ n - k ≤ k2 - 1 := by omega
              have f8 : ¬ n - k ≤ k2 := by omega
              have HO2 := Lib.hid hown
              have HG2 := Lib.hid hgr
              by_cases hs : same (u0, u1, u2) (v0, v1, v2)
              · have HS2 : Hid (decide (same (u0, u1, u2) (v0, v1, v2)) = true) := Lib.hid (by simpa using hs)
                have HK2 : Hid (CompAt l D (k + (k2 + 1)) kk) := Lib.hid (hI.out.skip (by rw [HL.out]; exact hlt2) (by
                  rintro (h0 | h0)
                  · omega
                  · exact h0 (by rw [HU.out, HV.out]; exact same_symm hs)))
                clear hs hown hgr hs2
                go_wp2_with fail
                go_still_tail 10, (by kernel_rfl)
                go_wp2_with fail
                refine (gath2_c u0 u1 u2 v0 v1 v2 _ (by omega) (by omega) (by omega) (by omega)).mono ?_; rw [HS2.out]; rintro e wz ⟨rfl, hz⟩
                have hz' : wr.grownBy wz (some g) := grown_row ⟨hz.os, hz.tape, hz.output, hz.size, hz.block⟩
                have hown := OwnT.kept HO2.out ⟨hz.os, hz.tape, hz.output, hz.size, hz.block⟩ (row := none) (.inr (by simp [Value.ownBlock]))
                have hgr := grown_trans HG2.out hz'
                clear hz hz' c0 c1 c2 d0 d1 d2
                go_wp2_with fail
                go_roundw
                case rel => exact ⟨kk, k2 + 1, D, by omega, by omega, rfl, by go_num, HK2, hown, hgr⟩
                case measure => simp [intOf]; omega
              · have HS2 : Hid (decide (same (u0, u1, u2) (v0, v1, v2)) = false) := Lib.hid (by simpa using hs)
                have HK2 : Hid (CompAt l (D.set kk (u0, u1, u2)) (k + (k2 + 1)) (kk + 1)) := Lib.hid (by
                  have := hI.out.keep (by rw [HL.out]; exact hlt2) (.inr fun h0 => hs (by rw [HU.out, HV.out] at h0; exact same_symm h0))
                  rwa [HU.out] at this)
                clear hs hown hgr hs2
                have C0 := Lib.hid c0
                have C1 := Lib.hid c1
                have C2 := Lib.hid c2
                go_wp2_with fail
                go_still_tail 10, (by kernel_rfl)
                go_wp2_with fail
                refine (gath2_c u0 u1 u2 v0 v1 v2 _ (by omega) (by omega) (by omega) (by omega)).mono ?_; rw [HS2.out]; rintro e wz ⟨rfl, hz⟩
                have hz' : wr.grownBy wz (some g) := grown_row ⟨hz.os, hz.tape, hz.output, hz.size, hz.block⟩
                have hown := OwnT.kept HO2.out ⟨hz.os, hz.tape, hz.output, hz.size, hz.block⟩ (row := none) (.inr (by simp [Value.ownBlock]))
                have hgr := grown_trans HG2.out hz'
                have hz0 : wr.grownBy wz none := ⟨hz.os, hz.tape, hz.output, hz.size, hz.block⟩
                clear c0 c1 c2 d0 d1 d2
                have c0 := hz0.cell C0.out (by simp)
                have c1 := hz0.cell C1.out (by simp)
                have c2 := hz0.cell C2.out (by simp)
                obtain ⟨hown', hgr'⟩ := OwnF.setMany [u0, u1, u2] (flatT D) (kk * 3) wz hown
                rw [laid3 D kk (u0, u1, u2) (by rw [hI.out.len, HL.out]; omega)] at hown'
                have hgr' := grown_trans hgr hgr'
                have o1 := OwnF.set_ hown (kk * 3) u0
                have o2 := OwnF.set_ o1 (kk * 3 + 1) u1
                have s0 := OwnF.getAt hown (kk * 3) (by omega)
                have s1 := OwnF.getAt o1 (kk * 3 + 1) (by omega)
                have s2 := OwnF.getAt o2 (kk * 3 + 2) (by omega)
                have z0 := OwnF.frozenAt hown (kk * 3)
                have z1 := OwnF.frozenAt o1 (kk * 3 + 1)
                have z2 := OwnF.frozenAt o2 (kk * 3 + 2)
                clear o1 o2
                generalize (flatT D).getD (kk * 3) 0 = r0 at s0
                generalize ((flatT D).set (kk * 3) u0).getD (kk * 3 + 1) 0 = r1 at s1
                generalize (((flatT D).set (kk * 3) u0).set (kk * 3 + 1) u1).getD (kk * 3 + 2) 0 = r2 at s2
                clear hz hz' hz0 hgr hown
                go_wp2_with fail
                go_roundw
                case rel => exact ⟨kk + 1, k2 + 1, D.set kk (u0, u1, u2), by omega, by omega, by go_num, by go_num, HK2, hown', hgr'⟩
                case measure => simp [intOf]; omega
            · have hend : k + k2 = n := by omega
              have HT : Hid ((flatT D).take (kk * 3) = flatT (compT l)) := Lib.hid (by rw [flatT_take, hI.out.done, hend, H.out])
              obtain ⟨wc, hcl, hoc, hgc⟩ := run_clear_own (P := Try.prog) Try.underlying25 Try.zeroValue54 rfl (by omega) hown (show kk < n by omega)
              rw [HT.out] at hoc
              have hgc := grown_trans hgr hgc
              have hs3 := slice_from (P := Try.prog) Try.underlying25 (by kernel_rfl) Try.sizeOf54 g n c kk (by omega) hc
              have hs4 := slice_to (P := Try.prog) Try.underlying25 (by kernel_rfl) Try.sizeOf54 g n c kk (by omega) hc
              have f6 : ¬ (k2 : Int) < ((n - k : Nat) : Int) := by omega
              have f8 : n - k ≤ k2 := by omega
              clear hown hgr hs2
              go_wp2_with fail
              go_ret
              exact ⟨kk, rfl, by omega, hoc, hgc⟩
        · have HS : Hid (decide (same (x0, x1, x2) (y0, y1, y2)) = false) := Lib.hid (by simpa using hs)
          have HK : Hid (upsT l (k + 1) = l.take (k + 1)) := Lib.hid (by
            rw [upsT_keep, hall.out, takeT_succ (by rw [HL.out]; exact hlt)]
            exact .inr fun h0 => hs (by rw [HX.out, HY.out] at h0; exact same_symm h0))
          have HO := Lib.hid hown
          have HG := Lib.hid hgr
          clear hs hown hgr
          go_wp2_with fail
          go_still_tail 10, (by kernel_rfl)
          go_wp2_with fail
          refine (gath2_c x0 x1 x2 y0 y1 y2 _ (by omega) (by omega) (by omega) (by omega)).mono ?_; rw [HS.out]; rintro e wz ⟨rfl, hz⟩
          have hz' : wr.grownBy wz (some g) := grown_row ⟨hz.os, hz.tape, hz.output, hz.size, hz.block⟩
          have hown := OwnT.kept HO.out ⟨hz.os, hz.tape, hz.output, hz.size, hz.block⟩ (row := none) (.inr (by simp [Value.ownBlock]))
          have hgr := grown_trans HG.out hz'
          clear hz hz' c0 c1 c2 d0 d1 d2
          go_wp2_with fail
          go_roundw
          case rel => exact ⟨k + 1, by omega, by omega, by go_num, HK, hown, hgr⟩
          case measure => simp [intOf]; omega
      · obtain rfl : k = n := by omega
        have HE : Hid (compT l = l) := Lib.hid (by rw [H.out, hall.out, ← HL.out, List.take_length])
        go_wp2_with fail
        go_ret
        exact ⟨k, rfl, Nat.le_refl _, by rw [HE.out]; exact hown, hgr⟩
end Go.Proofs.Ytfamemjlhgkneaa
