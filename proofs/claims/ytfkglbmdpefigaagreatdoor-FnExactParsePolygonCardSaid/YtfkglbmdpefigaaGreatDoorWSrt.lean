/- The reference's sorting of points: each is put at its place, one that is there is passed by. -/
import Derived.Test.YtfkglbmdpefigaaGreatDoorPutP
import Derived.Test.YtfkglbmdpefigaaGreatDoorWPnt
import Derived.Test.YtfkglbmdpefigaaGreatDoorCompactP
import Derived.Test.YtfkglbmdpefigaaGreatDoorMemP
import Derived.Deep.RegionHeld3
import Derived.Deep.RegionLaw
namespace Go.Proofs.YtfkglbmdpefigaaGreatDoor
open Go.RowKit
set_option maxRecDepth 8192 in
set_option maxHeartbeats 16000000 in
theorem pySorted_c (A : Option Addr) (n c : Nat) (l : List Pnt) (B : Nat) (w : World) (h : RdP w B A n l) (hB : B ≤ w.heap.size) (hn : n ≤ 3000) :
    Calls Tryz.prog 33 #[.slice A n c] w (RetP 32 (sortP l) w) := by
  have HLen := Lib.hid h.len
  obtain ⟨i0, hi, hz0, hz1, hz2⟩ := info_parts info_pnt
  have HI := Lib.hid hi
  have HZ0 := Lib.hid hz0
  have HZ1 := Lib.hid hz1
  have HZ2 := Lib.hid hz2
  clear hi hz0 hz1 hz2
  go_enter Tryz.func33, Tryz.ntmps33
  go_wp2_with fail
  go_loopw [3, 9] (fun v i wr => ∃ j : Nat, j ≤ n ∧ i = .int .i64 j ∧ ∃ m : Nat, OwnP wr w.heap.size 32 v m (insAll [] (l.take j)) ∧ Below w.heap.size w wr) (fun _ i _ => n - (intOf i).toNat)
  case atStart => exact ⟨0, Nat.zero_le _, rfl, 0, OwnP.nil _ _ _, Below.refl _ _⟩
  case round =>
    obtain ⟨j, hj, rfl, m, hown, hbel⟩ := hrel
    have hsz := hbel.size
    have hlen := hown.len
    have hle := insAll_len l j
    by_cases hlt : j < n
    · have hjL : j < l.length := by rw [HLen.out]; exact hlt
      have HC := Lib.hid (insAll_take hjL)
      obtain ⟨b, o, rfl, hbB, c0, c1⟩ := (h.below (hbel.mono hB)).at_ hlt
      generalize hx : (l.getD j (0, 0)).1 = x at *
      generalize hy : (l.getD j (0, 0)).2 = y at *
      have HX : Hid (l.getD j (0, 0) = (x, y)) := Lib.hid (by rw [← hx, ← hy])
      clear hx hy
      rw [HX.out] at HC
      generalize insAll [] (l.take j) = L at *
      generalize wr = wb at *
      have HL := Lib.hid hlen
      have P0 := Bx.new wb [.int .i64 x, .int .i64 y] 32
      have bel0 := bel_new wb (.cells #[.int .i64 x, .int .i64 y] 32)
      obtain ⟨K, hKm, hall, hKK⟩ := placeP (x, y) L
      rw [HL.out] at hKm
      have HALL := Lib.hid hall
      have HKK := Lib.hid hKK
      obtain ⟨A1, cc, rfl⟩ := hown.shape
      have hr := hown.rd
      have HOW := Lib.hid hown
      obtain ⟨hnc, hcm, hA0⟩ := hown.capAt
      unfold maxLen at hcm
      have HA0 := Lib.hid hA0
      have HZN := Lib.hid hown.nilOr
      clear hA0 hall hKK hlen
      have hmn : m ≤ 3000 := by have := HL.out; omega
      clear hle
      go_wp2_with fail
      clear c0 c1
      go_loopw [6] (fun i wr => ∃ k : Nat, k ≤ K ∧ i = .int .i64 k ∧ Below wb.heap.size wb wr ∧ Bx wr wb.heap.size [.int .i64 x, .int .i64 y]) (fun i _ => K - (intOf i).toNat)
      case atStart => exact ⟨0, Nat.zero_le _, rfl, bel0, P0⟩
      case round =>
        clear bel0 P0
        obtain ⟨k, hk, rfl, belO, PO⟩ := hrel
        have bel := belO.drew
        have P := PO.drew
        by_cases hlt2 : k < K
        · have hkn : k < m := by omega
          obtain ⟨g, q, rfl, hbw, c0, c1⟩ := (hr.below bel).at_ hkn
          have HC2 : Hid (decide (ltP ((L.getD k (0, 0)).1, (L.getD k (0, 0)).2) (x, y)) = true) := Lib.hid (decide_eq_true (HALL.out k hlt2))
          generalize hy0 : (L.getD k (0, 0)).1 = y0 at *
          generalize hy1 : (L.getD k (0, 0)).2 = y1 at *
          have HY : Hid (L.getD k (0, 0) = (y0, y1)) := Lib.hid (by rw [← hy0, ← hy1])
          clear hy0 hy1
          have e0 : (0 : Int) ≤ (k : Int) := by omega
          have e1 : (k : Int) < (m : Int) := by omega
          have e2 : ¬ cc = k := by omega
          have e6 : (k : Int) ≤ (cc : Int) := by omega
          have e3 : (k : Int) ≤ (m : Int) := by omega
          have e4 : (0 : Int) < (m : Int) - (k : Int) := by omega
          have e5 : 0 < m - k := by omega
          have hbz : g < wr.drew.heap.size := Nat.lt_of_lt_of_le hbw bel.size
          go_wp2_with fail
          go_region_held3 (fun w' => w'.cell? ⟨wb.heap.size, 0, none⟩ = some (.int .i64 x) ∧ w'.cell? ⟨wb.heap.size, 1, none⟩ = some (.int .i64 y) ∧ w'.cell? ⟨g, q + k * 2, none⟩ = some (.int .i64 y0) ∧ w'.cell? ⟨g, q + k * 2 + 1, none⟩ = some (.int .i64 y1)) (first | exact ⟨P.at0, P.at1, c0, c1⟩) (first
            | (go_at_call 51; refine (pyBefore_c _ _ _ _ _).mono ?_; rw [HC2.out]; rintro e u2 ⟨rfl, hb2⟩; have P := P.go hb2; have c0 := (hb2.cell (p := ⟨g, q + k * 2, none⟩) hbz).trans c0; have c1 := (hb2.cell (p := ⟨g, q + k * 2 + 1, none⟩) hbz).trans c1; have bel := bel.trans (hb2.mono bel.size); have hbz := Nat.lt_of_lt_of_le hbz hb2.size))
          go_wp2_with fail
          go_roundw
          case rel => exact ⟨k + 1, by omega, by go_num, bel, P⟩
          case measure => simp [intOf]; omega
        · obtain rfl : k = K := by omega
          by_cases hkn : k < m
          · have hno : ¬ ltP (L.getD k (0, 0)) (x, y) := by
              rcases HKK.out with h0 | ⟨_, h0⟩
              · rw [HL.out] at h0; omega
              · exact h0
            have HNO := Lib.hid hno
            have hk := Nat.le_of_lt hkn
            clear hno
            obtain ⟨g, q, rfl, hbw, c0, c1⟩ := (hr.below bel).at_ hkn
            have HC2 : Hid (decide (ltP ((L.getD k (0, 0)).1, (L.getD k (0, 0)).2) (x, y)) = false) := Lib.hid (decide_eq_false HNO.out)
            generalize hy0 : (L.getD k (0, 0)).1 = y0 at *
            generalize hy1 : (L.getD k (0, 0)).2 = y1 at *
            have HY : Hid (L.getD k (0, 0) = (y0, y1)) := Lib.hid (by rw [← hy0, ← hy1])
            clear hy0 hy1
            have e0 : (0 : Int) ≤ (k : Int) := by omega
            have e1 : (k : Int) < (m : Int) := by omega
            have e2 : ¬ cc = k := by omega
            have e6 : (k : Int) ≤ (cc : Int) := by omega
            have e3 : (k : Int) ≤ (m : Int) := by omega
            have e4 : (0 : Int) < (m : Int) - (k : Int) := by omega
            have e5 : 0 < m - k := by omega
            have hbz : g < wr.drew.heap.size := Nat.lt_of_lt_of_le hbw bel.size
            go_wp2_with fail
            go_region_held3 (fun w' => w'.cell? ⟨wb.heap.size, 0, none⟩ = some (.int .i64 x) ∧ w'.cell? ⟨wb.heap.size, 1, none⟩ = some (.int .i64 y) ∧ w'.cell? ⟨g, q + k * 2, none⟩ = some (.int .i64 y0) ∧ w'.cell? ⟨g, q + k * 2 + 1, none⟩ = some (.int .i64 y1)) (first | exact ⟨P.at0, P.at1, c0, c1⟩) (first
              | (go_at_call 51; refine (pyBefore_c _ _ _ _ _).mono ?_; rw [HC2.out]; rintro e u2 ⟨rfl, hb2⟩; have P := P.go hb2; have c0 := (hb2.cell (p := ⟨g, q + k * 2, none⟩) hbz).trans c0; have c1 := (hb2.cell (p := ⟨g, q + k * 2 + 1, none⟩) hbz).trans c1; have bel := bel.trans (hb2.mono bel.size); have hbz := Nat.lt_of_lt_of_le hbz hb2.size))
            go_wp2_with fail
            have p0 := P.at0
            have p1 := P.at1
            by_cases hs : (y0, y1) = (x, y)
            · have HF : Hid (insAll [] (l.take (j + 1)) = L) := Lib.hid (by rw [HC.out]; exact insP_same (by rw [HL.out]; exact hkn) HALL.out (by rw [HY.out, hs]))
              obtain ⟨rfl, rfl⟩ := Prod.mk.inj hs
              clear hs
              go_quiet (fail)
              replace bel := bel_drewN bel nq
              have own : OwnP (u2.drewN nq) w.heap.size 32 (.slice (some ⟨g, q, none⟩) m cc) m (insAll [] (l.take (j + 1))) := by rw [HF.out]; exact OwnP.go (HOW.out) bel
              generalize u2.drewN nq = u3 at *
              go_wp2_with fail
              go_roundw
              case rel => exact ⟨j + 1, by omega, by go_num, _, own, hbel.trans (bel.mono hsz)⟩
              case measure => simp [intOf]; omega
            · have HF : Hid (insAll [] (l.take (j + 1)) = L.take k ++ [(x, y)] ++ L.drop k) := Lib.hid (by rw [HC.out]; exact insP_before (by rw [HL.out]; exact hkn) HALL.out HNO.out (by rw [HY.out]; exact hs))
              have ne := pne hs
              clear hs
              rcases ne with ⟨n1, n2⟩ | ⟨n1, n2⟩
              all_goals
                go_quiet (fail)
                replace bel := bel_drewN bel nq
                replace P := P.drewN nq
                generalize u2.drewN nq = u3 at *
                clear c0 c1 p0 p1 n1 n2
                go_wp2_with fail
                refine gen_world (C := Code.wp _ _ _ _) (fun u => Below wb.heap.size wb u ∧ Bx u wb.heap.size [.int .i64 x, .int .i64 y]) ⟨?_, ?_⟩ ?_
                · repeat (first | exact bel | refine Below.drew ?_ | refine bel_drewN ?_ _)
                · exact P
                rintro u ⟨bel, P⟩
                have hPs := P.1
                go_region_held3 (fun w' => w'.cell? ⟨wb.heap.size, 0, none⟩ = some (.int .i64 x) ∧ w'.cell? ⟨wb.heap.size, 1, none⟩ = some (.int .i64 y)) ((refine keep2 ?_; repeat (first | exact P | refine Bx.drew ?_ | refine Bx.alloc ?_ _)))
                  (first
                  | (refine step_appSrc (by rfl) (.tmp 39) (.tmp 42) 22 (by rfl) wb.heap.size 32 2 i0 _ Tryz.underlying22 HI.out HZ0.out HZ1.out HZ2.out (by omega) (by omega) rfl (.slice (some ⟨u.heap.size, 0, none⟩) 0 0) 0 [] ?_ ?_ ?_ k (flatP (L.take k)) ?_ ?_ ?_ ?_ ?_; (exact rfl); (with_reducible exact OwnF.drew1 (OwnF.empty _ _ _ bel.size)); rotate_left; (exact rfl); (focus (exact srcP_pre (hr.below ((bel_alloc bel _).drew)) hk)); (omega); (exact bel_size (B := wb.heap.size) (bel_alloc bel _).drew); intro v1 w1 own1 bel1 g1 at1; have PN := app_box (q := wb.heap.size) (cs := [.int .i64 x, .int .i64 y]) (P.alloc _).drew (blk_far hPs (.inl rfl)) g1 at1; have P := PN.1; have NE1 := PN.2; clear PN; have bel := Below.trans (B := wb.heap.size) (a := wb) (bel_alloc bel _).drew bel1)
                  | (refine step_appSrc (by rfl) (.tmp 39) (.tmp 42) 22 (by rfl) wb.heap.size 32 2 i0 _ Tryz.underlying22 HI.out HZ0.out HZ1.out HZ2.out (by omega) (by omega) rfl (.slice (some ⟨u.heap.size, 0, none⟩) 0 0) 0 [] ?_ ?_ ?_ k (flatP (L.take k)) ?_ ?_ ?_ ?_ ?_; (exact rfl); (with_reducible exact OwnF.drew1 (OwnF.new (OwnF.empty _ _ _ bel.size) _)); rotate_left; (exact rfl); (focus (exact srcP_pre (hr.below ((bel_alloc (bel_alloc bel _) _).drew)) hk)); (omega); (exact bel_size (B := wb.heap.size) (bel_alloc (bel_alloc bel _) _).drew); intro v1 w1 own1 bel1 g1 at1; have T := (app_box (q := u.heap.size + 1) (cs := [.int .i64 x, .int .i64 y]) (Bx.drew (bx_second u _ [.int .i64 x, .int .i64 y] _)) (slice_ne (by omega)) g1 at1).1; have PN := app_box (q := wb.heap.size) (cs := [.int .i64 x, .int .i64 y]) ((P.alloc _).alloc _).drew (blk_far hPs (.inl rfl)) g1 at1; have P := PN.1; have NE1 := PN.2; clear PN; have bel := Below.trans (B := wb.heap.size) (a := wb) (bel_alloc (bel_alloc bel _) _).drew bel1)
                  | (refine step_appSrc (by rfl) (.tmp 39) (.tmp 42) 22 (by rfl) wb.heap.size 32 2 i0 _ Tryz.underlying22 HI.out HZ0.out HZ1.out HZ2.out (by omega) (by omega) rfl (.slice (some ⟨u.heap.size + 1, 0, none⟩) 0 0) 0 [] ?_ ?_ ?_ k (flatP (L.take k)) ?_ ?_ ?_ ?_ ?_; (exact rfl); (with_reducible exact OwnF.drew1 (OwnF.empty2 _ _ _ _ bel.size)); rotate_left; (exact rfl); (focus (exact srcP_pre (hr.below ((bel_alloc (bel_alloc bel _) _).drew)) hk)); (omega); (exact bel_size (B := wb.heap.size) (bel_alloc (bel_alloc bel _) _).drew); intro v1 w1 own1 bel1 g1 at1; have T := (app_box (q := u.heap.size) (cs := [.int .i64 x, .int .i64 y]) (Bx.drew (bx_first u [.int .i64 x, .int .i64 y] _ _)) (slice_ne (by omega)) g1 at1).1; have PN := app_box (q := wb.heap.size) (cs := [.int .i64 x, .int .i64 y]) ((P.alloc _).alloc _).drew (blk_far hPs (.inr rfl)) g1 at1; have P := PN.1; have NE1 := PN.2; clear PN; have bel := Below.trans (B := wb.heap.size) (a := wb) (bel_alloc (bel_alloc bel _) _).drew bel1)
                  | (refine step_appSrc (by rfl) (.tmp 43) (.tmp 45) 22 (by rfl) wb.heap.size 32 2 i0 _ Tryz.underlying22 HI.out HZ0.out HZ1.out HZ2.out (by omega) (by omega) rfl v1 (0 + k) ([] ++ flatP (L.take k)) ?_ ?_ ?_ 1 [x, y] ?_ ?_ ?_ ?_ ?_; (exact rfl); (with_reducible exact OwnF.new own1 _); rotate_left; (exact rfl); (focus (exact SrcF.new _ _ [x, y] _ rfl)); (omega); (exact bel_size (B := wb.heap.size) (bel_alloc bel _)); intro v2 w2 own2 bel2 g2 at2; have PN := app_box (q := wb.heap.size) (cs := [.int .i64 x, .int .i64 y]) (P.alloc _) NE1 g2 at2; have P := PN.1; have NE2 := PN.2; clear PN; have bel := Below.trans (B := wb.heap.size) (a := wb) (bel_alloc bel _) bel2)
                  | (refine step_appSrc (by rfl) (.tmp 43) (.tmp 45) 22 (by rfl) wb.heap.size 32 2 i0 _ Tryz.underlying22 HI.out HZ0.out HZ1.out HZ2.out (by omega) (by omega) rfl v1 (0 + k) ([] ++ flatP (L.take k)) ?_ ?_ ?_ 1 [x, y] ?_ ?_ ?_ ?_ ?_; (exact rfl); (with_reducible exact own1); rotate_left; (exact rfl); (focus (exact srcF_bx (ys := [x, y]) T rfl)); (omega); (exact bel_size (B := wb.heap.size) bel); intro v2 w2 own2 bel2 g2 at2; have PN := app_box (q := wb.heap.size) (cs := [.int .i64 x, .int .i64 y]) P NE1 g2 at2; have P := PN.1; have NE2 := PN.2; clear PN; have bel := Below.trans (B := wb.heap.size) (a := wb) bel bel2)
                  | (refine step_appSrc (by rfl) (.tmp 46) (.tmp 49) 22 (by rfl) wb.heap.size 32 2 i0 _ Tryz.underlying22 HI.out HZ0.out HZ1.out HZ2.out (by omega) (by omega) rfl v2 (0 + k + 1) ([] ++ flatP (L.take k) ++ [x, y]) ?_ ?_ ?_ (m - k) (flatP (L.drop k)) ?_ ?_ ?_ ?_ ?_; (exact rfl); (with_reducible exact own2); rotate_left; (exact rfl); (focus (exact srcP_rest (hr.below (bel)) hk)); (omega); (exact bel_size (B := wb.heap.size) bel); intro v3 w3 own3 bel3 g3 at3; have PN := app_box (q := wb.heap.size) (cs := [.int .i64 x, .int .i64 y]) P NE2 g3 at3; have P := PN.1; have NE3 := PN.2; clear PN; have bel := Below.trans (B := wb.heap.size) (a := wb) bel bel3))
                all_goals
                  have own : OwnP w3 wb.heap.size 32 v3 (0 + k + 1 + (m - k)) (insAll [] (l.take (j + 1))) := by rw [HF.out]; unfold OwnP; rw [flatP_app, flatP_snoc]; exact own3
                  clear own1 own2 own3 g1 g2 g3 at1 at2 at3 P
                  go_wp2_with fail
                  go_roundw
                  case rel => exact ⟨j + 1, by omega, by go_num, _, OwnP.more own hsz, hbel.trans (bel.mono hsz)⟩
                  case measure => simp [intOf]; omega
          · obtain rfl : k = m := by omega
            have HF : Hid (insAll [] (l.take (j + 1)) = L.take k ++ [(x, y)] ++ []) := Lib.hid (by rw [HC.out]; exact insP_end HL.out.symm HALL.out)
            have bel := belO
            have P := PO
            obtain ⟨A', c', hsl, hA'⟩ := slice_end (P := Tryz.prog) (t := 22) (e := 32) (k := 2) Tryz.underlying22 (by kernel_rfl) Tryz.sizeOf32 A1 k cc (fun h => (HA0.out h).2)
            have HA' := Lib.hid hA'
            clear hA'
            have e6 : (k : Int) ≤ (cc : Int) := by omega
            have e7 : (0 : Int) ≤ (k : Int) := by omega
            rcases HZN.out with ⟨hA, hk0, hc0⟩ | ⟨g, hA⟩
            · subst hA
              have HK0 := Lib.hid hk0
              have HC0 := Lib.hid hc0
              clear hk0 hc0
              go_wp2_with fail
              go_quiet (fail)
              go_wp2_with fail
              go_quiet (fail)
              go_wp2_with fail
              refine gen_world (C := Code.wp _ _ _ _) (fun u => Below wb.heap.size wb u ∧ Bx u wb.heap.size [.int .i64 x, .int .i64 y]) ⟨?_, ?_⟩ ?_
              · repeat (first | exact bel | refine Below.drew ?_ | refine bel_drewN ?_ _)
              · exact P
              rintro u ⟨bel, P⟩
              have hPs := P.1
              go_region_held3 (fun w' => w'.cell? ⟨wb.heap.size, 0, none⟩ = some (.int .i64 x) ∧ w'.cell? ⟨wb.heap.size, 1, none⟩ = some (.int .i64 y)) ((refine keep2 ?_; repeat (first | exact P | refine Bx.drew ?_ | refine Bx.alloc ?_ _)))
                (first
                | (refine step_appSrc (by rfl) (.tmp 39) (.tmp 42) 22 (by rfl) wb.heap.size 32 2 i0 _ Tryz.underlying22 HI.out HZ0.out HZ1.out HZ2.out (by omega) (by omega) rfl (.slice (some ⟨u.heap.size, 0, none⟩) 0 0) 0 [] ?_ ?_ ?_ k (flatP (L.take k)) ?_ ?_ ?_ ?_ ?_; (exact rfl); (with_reducible exact OwnF.drew1 (OwnF.empty _ _ _ bel.size)); rotate_left; (exact rfl); (focus (exact srcP_nil _ _ HK0 HC0)); (omega); (exact bel_size (B := wb.heap.size) (bel_alloc bel _).drew); intro v1 w1 own1 bel1 g1 at1; have PN := app_box (q := wb.heap.size) (cs := [.int .i64 x, .int .i64 y]) (P.alloc _).drew (blk_far hPs (.inl rfl)) g1 at1; have P := PN.1; have NE1 := PN.2; clear PN; have bel := Below.trans (B := wb.heap.size) (a := wb) (bel_alloc bel _).drew bel1)
                | (refine step_appSrc (by rfl) (.tmp 39) (.tmp 42) 22 (by rfl) wb.heap.size 32 2 i0 _ Tryz.underlying22 HI.out HZ0.out HZ1.out HZ2.out (by omega) (by omega) rfl (.slice (some ⟨u.heap.size, 0, none⟩) 0 0) 0 [] ?_ ?_ ?_ k (flatP (L.take k)) ?_ ?_ ?_ ?_ ?_; (exact rfl); (with_reducible exact OwnF.drew1 (OwnF.new (OwnF.empty _ _ _ bel.size) _)); rotate_left; (exact rfl); (focus (exact srcP_nil _ _ HK0 HC0)); (omega); (exact bel_size (B := wb.heap.size) (bel_alloc (bel_alloc bel _) _).drew); intro v1 w1 own1 bel1 g1 at1; have T := (app_box (q := u.heap.size + 1) (cs := [.int .i64 x, .int .i64 y]) (Bx.drew (bx_second u _ [.int .i64 x, .int .i64 y] _)) (slice_ne (by omega)) g1 at1).1; have PN := app_box (q := wb.heap.size) (cs := [.int .i64 x, .int .i64 y]) ((P.alloc _).alloc _).drew (blk_far hPs (.inl rfl)) g1 at1; have P := PN.1; have NE1 := PN.2; clear PN; have bel := Below.trans (B := wb.heap.size) (a := wb) (bel_alloc (bel_alloc bel _) _).drew bel1)
                | (refine step_appSrc (by rfl) (.tmp 39) (.tmp 42) 22 (by rfl) wb.heap.size 32 2 i0 _ Tryz.underlying22 HI.out HZ0.out HZ1.out HZ2.out (by omega) (by omega) rfl (.slice (some ⟨u.heap.size + 1, 0, none⟩) 0 0) 0 [] ?_ ?_ ?_ k (flatP (L.take k)) ?_ ?_ ?_ ?_ ?_; (exact rfl); (with_reducible exact OwnF.drew1 (OwnF.empty2 _ _ _ _ bel.size)); rotate_left; (exact rfl); (focus (exact srcP_nil _ _ HK0 HC0)); (omega); (exact bel_size (B := wb.heap.size) (bel_alloc (bel_alloc bel _) _).drew); intro v1 w1 own1 bel1 g1 at1; have T := (app_box (q := u.heap.size) (cs := [.int .i64 x, .int .i64 y]) (Bx.drew (bx_first u [.int .i64 x, .int .i64 y] _ _)) (slice_ne (by omega)) g1 at1).1; have PN := app_box (q := wb.heap.size) (cs := [.int .i64 x, .int .i64 y]) ((P.alloc _).alloc _).drew (blk_far hPs (.inr rfl)) g1 at1; have P := PN.1; have NE1 := PN.2; clear PN; have bel := Below.trans (B := wb.heap.size) (a := wb) (bel_alloc (bel_alloc bel _) _).drew bel1)
                | (refine step_appSrc (by rfl) (.tmp 43) (.tmp 45) 22 (by rfl) wb.heap.size 32 2 i0 _ Tryz.underlying22 HI.out HZ0.out HZ1.out HZ2.out (by omega) (by omega) rfl v1 (0 + k) ([] ++ flatP (L.take k)) ?_ ?_ ?_ 1 [x, y] ?_ ?_ ?_ ?_ ?_; (exact rfl); (with_reducible exact OwnF.new own1 _); rotate_left; (exact rfl); (focus (exact SrcF.new _ _ [x, y] _ rfl)); (omega); (exact bel_size (B := wb.heap.size) (bel_alloc bel _)); intro v2 w2 own2 bel2 g2 at2; have PN := app_box (q := wb.heap.size) (cs := [.int .i64 x, .int .i64 y]) (P.alloc _) NE1 g2 at2; have P := PN.1; have NE2 := PN.2; clear PN; have bel := Below.trans (B := wb.heap.size) (a := wb) (bel_alloc bel _) bel2)
                | (refine step_appSrc (by rfl) (.tmp 43) (.tmp 45) 22 (by rfl) wb.heap.size 32 2 i0 _ Tryz.underlying22 HI.out HZ0.out HZ1.out HZ2.out (by omega) (by omega) rfl v1 (0 + k) ([] ++ flatP (L.take k)) ?_ ?_ ?_ 1 [x, y] ?_ ?_ ?_ ?_ ?_; (exact rfl); (with_reducible exact own1); rotate_left; (exact rfl); (focus (exact srcF_bx (ys := [x, y]) T rfl)); (omega); (exact bel_size (B := wb.heap.size) bel); intro v2 w2 own2 bel2 g2 at2; have PN := app_box (q := wb.heap.size) (cs := [.int .i64 x, .int .i64 y]) P NE1 g2 at2; have P := PN.1; have NE2 := PN.2; clear PN; have bel := Below.trans (B := wb.heap.size) (a := wb) bel bel2)
                | (refine step_appSrc (by rfl) (.tmp 46) (.tmp 49) 22 (by rfl) wb.heap.size 32 2 i0 _ Tryz.underlying22 HI.out HZ0.out HZ1.out HZ2.out (by omega) (by omega) rfl v2 (0 + k + 1) ([] ++ flatP (L.take k) ++ [x, y]) ?_ ?_ ?_ 0 (flatP []) ?_ ?_ ?_ ?_ ?_; (exact rfl); (with_reducible exact own2); rotate_left; (exact rfl); (focus (exact srcP_none _ _ _ HA'.out)); (omega); (exact bel_size (B := wb.heap.size) bel); intro v3 w3 own3 bel3 g3 at3; have PN := app_box (q := wb.heap.size) (cs := [.int .i64 x, .int .i64 y]) P NE2 g3 at3; have P := PN.1; have NE3 := PN.2; clear PN; have bel := Below.trans (B := wb.heap.size) (a := wb) bel bel3))
              all_goals
                have own : OwnP w3 wb.heap.size 32 v3 (0 + k + 1 + 0) (insAll [] (l.take (j + 1))) := by rw [HF.out]; unfold OwnP; rw [flatP_app, flatP_snoc]; exact own3
                clear own1 own2 own3 g1 g2 g3 at1 at2 at3 P
                go_wp2_with fail
                go_roundw
                case rel => exact ⟨j + 1, by omega, by go_num, _, OwnP.more own hsz, hbel.trans (bel.mono hsz)⟩
                case measure => simp [intOf]; omega
            · subst hA
              go_wp2_with fail
              go_quiet (fail)
              go_wp2_with fail
              go_quiet (fail)
              go_wp2_with fail
              refine gen_world (C := Code.wp _ _ _ _) (fun u => Below wb.heap.size wb u ∧ Bx u wb.heap.size [.int .i64 x, .int .i64 y]) ⟨?_, ?_⟩ ?_
              · repeat (first | exact bel | refine Below.drew ?_ | refine bel_drewN ?_ _)
              · exact P
              rintro u ⟨bel, P⟩
              have hPs := P.1
              go_region_held3 (fun w' => w'.cell? ⟨wb.heap.size, 0, none⟩ = some (.int .i64 x) ∧ w'.cell? ⟨wb.heap.size, 1, none⟩ = some (.int .i64 y)) ((refine keep2 ?_; repeat (first | exact P | refine Bx.drew ?_ | refine Bx.alloc ?_ _)))
                (first
                | (refine step_appSrc (by rfl) (.tmp 39) (.tmp 42) 22 (by rfl) wb.heap.size 32 2 i0 _ Tryz.underlying22 HI.out HZ0.out HZ1.out HZ2.out (by omega) (by omega) rfl (.slice (some ⟨u.heap.size, 0, none⟩) 0 0) 0 [] ?_ ?_ ?_ k (flatP (L.take k)) ?_ ?_ ?_ ?_ ?_; (exact rfl); (with_reducible exact OwnF.drew1 (OwnF.empty _ _ _ bel.size)); rotate_left; (exact rfl); (focus (exact srcP_pre (hr.below ((bel_alloc bel _).drew)) hk)); (omega); (exact bel_size (B := wb.heap.size) (bel_alloc bel _).drew); intro v1 w1 own1 bel1 g1 at1; have PN := app_box (q := wb.heap.size) (cs := [.int .i64 x, .int .i64 y]) (P.alloc _).drew (blk_far hPs (.inl rfl)) g1 at1; have P := PN.1; have NE1 := PN.2; clear PN; have bel := Below.trans (B := wb.heap.size) (a := wb) (bel_alloc bel _).drew bel1)
                | (refine step_appSrc (by rfl) (.tmp 39) (.tmp 42) 22 (by rfl) wb.heap.size 32 2 i0 _ Tryz.underlying22 HI.out HZ0.out HZ1.out HZ2.out (by omega) (by omega) rfl (.slice (some ⟨u.heap.size, 0, none⟩) 0 0) 0 [] ?_ ?_ ?_ k (flatP (L.take k)) ?_ ?_ ?_ ?_ ?_; (exact rfl); (with_reducible exact OwnF.drew1 (OwnF.new (OwnF.empty _ _ _ bel.size) _)); rotate_left; (exact rfl); (focus (exact srcP_pre (hr.below ((bel_alloc (bel_alloc bel _) _).drew)) hk)); (omega); (exact bel_size (B := wb.heap.size) (bel_alloc (bel_alloc bel _) _).drew); intro v1 w1 own1 bel1 g1 at1; have T := (app_box (q := u.heap.size + 1) (cs := [.int .i64 x, .int .i64 y]) (Bx.drew (bx_second u _ [.int .i64 x, .int .i64 y] _)) (slice_ne (by omega)) g1 at1).1; have PN := app_box (q := wb.heap.size) (cs := [.int .i64 x, .int .i64 y]) ((P.alloc _).alloc _).drew (blk_far hPs (.inl rfl)) g1 at1; have P := PN.1; have NE1 := PN.2; clear PN; have bel := Below.trans (B := wb.heap.size) (a := wb) (bel_alloc (bel_alloc bel _) _).drew bel1)
                | (refine step_appSrc (by rfl) (.tmp 39) (.tmp 42) 22 (by rfl) wb.heap.size 32 2 i0 _ Tryz.underlying22 HI.out HZ0.out HZ1.out HZ2.out (by omega) (by omega) rfl (.slice (some ⟨u.heap.size + 1, 0, none⟩) 0 0) 0 [] ?_ ?_ ?_ k (flatP (L.take k)) ?_ ?_ ?_ ?_ ?_; (exact rfl); (with_reducible exact OwnF.drew1 (OwnF.empty2 _ _ _ _ bel.size)); rotate_left; (exact rfl); (focus (exact srcP_pre (hr.below ((bel_alloc (bel_alloc bel _) _).drew)) hk)); (omega); (exact bel_size (B := wb.heap.size) (bel_alloc (bel_alloc bel _) _).drew); intro v1 w1 own1 bel1 g1 at1; have T := (app_box (q := u.heap.size) (cs := [.int .i64 x, .int .i64 y]) (Bx.drew (bx_first u [.int .i64 x, .int .i64 y] _ _)) (slice_ne (by omega)) g1 at1).1; have PN := app_box (q := wb.heap.size) (cs := [.int .i64 x, .int .i64 y]) ((P.alloc _).alloc _).drew (blk_far hPs (.inr rfl)) g1 at1; have P := PN.1; have NE1 := PN.2; clear PN; have bel := Below.trans (B := wb.heap.size) (a := wb) (bel_alloc (bel_alloc bel _) _).drew bel1)
                | (refine step_appSrc (by rfl) (.tmp 43) (.tmp 45) 22 (by rfl) wb.heap.size 32 2 i0 _ Tryz.underlying22 HI.out HZ0.out HZ1.out HZ2.out (by omega) (by omega) rfl v1 (0 + k) ([] ++ flatP (L.take k)) ?_ ?_ ?_ 1 [x, y] ?_ ?_ ?_ ?_ ?_; (exact rfl); (with_reducible exact OwnF.new own1 _); rotate_left; (exact rfl); (focus (exact SrcF.new _ _ [x, y] _ rfl)); (omega); (exact bel_size (B := wb.heap.size) (bel_alloc bel _)); intro v2 w2 own2 bel2 g2 at2; have PN := app_box (q := wb.heap.size) (cs := [.int .i64 x, .int .i64 y]) (P.alloc _) NE1 g2 at2; have P := PN.1; have NE2 := PN.2; clear PN; have bel := Below.trans (B := wb.heap.size) (a := wb) (bel_alloc bel _) bel2)
                | (refine step_appSrc (by rfl) (.tmp 43) (.tmp 45) 22 (by rfl) wb.heap.size 32 2 i0 _ Tryz.underlying22 HI.out HZ0.out HZ1.out HZ2.out (by omega) (by omega) rfl v1 (0 + k) ([] ++ flatP (L.take k)) ?_ ?_ ?_ 1 [x, y] ?_ ?_ ?_ ?_ ?_; (exact rfl); (with_reducible exact own1); rotate_left; (exact rfl); (focus (exact srcF_bx (ys := [x, y]) T rfl)); (omega); (exact bel_size (B := wb.heap.size) bel); intro v2 w2 own2 bel2 g2 at2; have PN := app_box (q := wb.heap.size) (cs := [.int .i64 x, .int .i64 y]) P NE1 g2 at2; have P := PN.1; have NE2 := PN.2; clear PN; have bel := Below.trans (B := wb.heap.size) (a := wb) bel bel2)
                | (refine step_appSrc (by rfl) (.tmp 46) (.tmp 49) 22 (by rfl) wb.heap.size 32 2 i0 _ Tryz.underlying22 HI.out HZ0.out HZ1.out HZ2.out (by omega) (by omega) rfl v2 (0 + k + 1) ([] ++ flatP (L.take k) ++ [x, y]) ?_ ?_ ?_ 0 (flatP []) ?_ ?_ ?_ ?_ ?_; (exact rfl); (with_reducible exact own2); rotate_left; (exact rfl); (focus (exact srcP_none _ _ _ HA'.out)); (omega); (exact bel_size (B := wb.heap.size) bel); intro v3 w3 own3 bel3 g3 at3; have PN := app_box (q := wb.heap.size) (cs := [.int .i64 x, .int .i64 y]) P NE2 g3 at3; have P := PN.1; have NE3 := PN.2; clear PN; have bel := Below.trans (B := wb.heap.size) (a := wb) bel bel3))
              all_goals
                have own : OwnP w3 wb.heap.size 32 v3 (0 + k + 1 + 0) (insAll [] (l.take (j + 1))) := by rw [HF.out]; unfold OwnP; rw [flatP_app, flatP_snoc]; exact own3
                clear own1 own2 own3 g1 g2 g3 at1 at2 at3 P
                go_wp2_with fail
                go_roundw
                case rel => exact ⟨j + 1, by omega, by go_num, _, OwnP.more own hsz, hbel.trans (bel.mono hsz)⟩
                case measure => simp [intOf]; omega
    · have HE : Hid (insAll [] (l.take j) = sortP l) := Lib.hid (by rw [List.take_of_length_le (by rw [HLen.out]; omega)]; rfl)
      rw [HE.out] at hown hlen hle
      go_wp2_with fail
      go_ret
      exact retP_mk hown hbel (by omega)
end Go.Proofs.YtfkglbmdpefigaaGreatDoor
