/- The reference's insertion of a term into an ordered list: behind all others. -/
import Derived.Test.YtfamemjlhgkneaaWPut
import Derived.Deep.RegionHeld3
namespace Go.Proofs.Ytfamemjlhgkneaa
open Go.RowKit
set_option maxRecDepth 8192 in
set_option maxHeartbeats 8000000 in
theorem plPutA (A : Option Addr) (n c : Nat) (l : List Trm) (x0 x1 x2 : Int) (K : Nat) (B0 : Nat) (w : World) (h : OwnT w B0 54 (.slice A n c) n l) (hn : n ≤ 1000000) (hZ : ∃ b, A = some ⟨b, 0, none⟩) (hK : K = n) (hall : ∀ i, i < K → ltT (l.getD i (0, 0, 0)) (x0, x1, x2) = true) :
    Calls Try.prog 71 #[.slice A n c, .agg #[.int .i64 x0, .int .i64 x1, .int .i64 x2]] w (RetT 54 (putT (x0, x1, x2) l) w) := by
  have HL := Lib.hid h.len
  have hr := h.rd
  obtain ⟨hnc, hcm, hA0⟩ := h.capAt
  unfold maxLen at hcm
  have HA0 := Lib.hid hA0
  clear hA0
  have HALL := Lib.hid hall
  clear hall
  have HF : Hid (putT (x0, x1, x2) l = l.take K ++ [(x0, x1, x2)] ++ []) := Lib.hid (putT_end (by rw [HL.out, hK]) HALL.out)
  have P0 := Bx.new w [.int .i64 x0, .int .i64 x1, .int .i64 x2] 54
  have bel0 := bel_new w (.cells #[.int .i64 x0, .int .i64 x1, .int .i64 x2] 54)
  obtain ⟨i0, hi, hz0, hz1, hz2⟩ := info_parts info_trm
  have HI := Lib.hid hi
  have HZ0 := Lib.hid hz0
  have HZ1 := Lib.hid hz1
  have HZ2 := Lib.hid hz2
  clear hi hz0 hz1 hz2
  go_enter Try.func71, Try.ntmps71
  go_wp2_with fail
  go_loopw [5] (fun i wr => ∃ k : Nat, k ≤ K ∧ i = .int .i64 k ∧ Below w.heap.size w wr ∧ Bx wr w.heap.size [.int .i64 x0, .int .i64 x1, .int .i64 x2]) (fun i _ => K - (intOf i).toNat)
  case atStart => exact ⟨0, Nat.zero_le _, rfl, bel0, P0⟩
  case round =>
    clear bel0 P0
    obtain ⟨k, hk, rfl, belO, PO⟩ := hrel
    have bel := belO.drew
    have P := PO.drew
    by_cases hlt : k < K
    · have hkn : k < n := by omega
      obtain ⟨b, o, rfl, hbw, c0, c1, c2⟩ := (hr.below bel).at_ hkn
      have HC : Hid (ltT ((l.getD k (0, 0, 0)).1, (l.getD k (0, 0, 0)).2.1, (l.getD k (0, 0, 0)).2.2) (x0, x1, x2) = true) := Lib.hid (HALL.out k hlt)
      generalize (l.getD k (0, 0, 0)).1 = y0 at *
      generalize (l.getD k (0, 0, 0)).2.1 = y1 at *
      generalize (l.getD k (0, 0, 0)).2.2 = y2 at *
      have e0 : (0 : Int) ≤ (k : Int) := by omega
      have e1 : (k : Int) < (n : Int) := by omega
      have e2 : ¬ c = k := by omega
      have e6 : (k : Int) ≤ (c : Int) := by omega
      have e3 : (k : Int) ≤ (n : Int) := by omega
      have e4 : (0 : Int) < (n : Int) - (k : Int) := by omega
      have e5 : 0 < n - k := by omega
      have hbz : b < wr.drew.heap.size := Nat.lt_of_lt_of_le hbw bel.size
      go_wp2_with fail
      go_region_held3 (fun w' => w'.cell? ⟨w.heap.size, 0, none⟩ = some (.int .i64 x0) ∧ w'.cell? ⟨w.heap.size, 1, none⟩ = some (.int .i64 x1) ∧ w'.cell? ⟨w.heap.size, 2, none⟩ = some (.int .i64 x2) ∧ w'.cell? ⟨b, o + k * 3, none⟩ = some (.int .i64 y0) ∧ w'.cell? ⟨b, o + k * 3 + 1, none⟩ = some (.int .i64 y1) ∧ w'.cell? ⟨b, o + k * 3 + 2, none⟩ = some (.int .i64 y2)) (first | exact ⟨P.at0, P.at1, P.at2, c0, c1, c2⟩) (first
        | (go_at_call 76; refine (plBefore_c _ _ _ _ _ _ _).mono ?_; rw [HC.out]; rintro e u2 ⟨rfl, hb2⟩; have P := P.go hb2; have c0 := (hb2.cell (p := ⟨b, o + k * 3, none⟩) hbz).trans c0; have c1 := (hb2.cell (p := ⟨b, o + k * 3 + 1, none⟩) hbz).trans c1; have c2 := (hb2.cell (p := ⟨b, o + k * 3 + 2, none⟩) hbz).trans c2; have bel := bel.trans (hb2.mono bel.size); have hbz := Nat.lt_of_lt_of_le hbz hb2.size))
      go_wp2_with fail
      go_roundw
      case rel => exact ⟨k + 1, by omega, by go_num, bel, P⟩
      case measure => simp [intOf]; omega
    · obtain rfl : k = K := by omega
      subst hK
      have hk := Nat.le_refl k
      have bel := belO
      have P := PO
      obtain ⟨A', c', hsl, hA'⟩ := slice_end (P := Try.prog) (t := 25) (e := 54) (k := 3) Try.underlying25 (by kernel_rfl) Try.sizeOf54 A k c (fun h => (HA0.out h).2)
      have HA' := Lib.hid hA'
      clear hA'
      obtain ⟨b, rfl⟩ := hZ
      have e6 : (k : Int) ≤ (c : Int) := by omega
      have e7 : (0 : Int) ≤ (k : Int) := by omega
      go_wp2_with fail
      go_quiet (fail)
      go_wp2_with fail
      go_quiet (fail)
      go_wp2_with fail
      refine gen_world (C := Code.wp _ _ _ _) (fun u => Below w.heap.size w u ∧ Bx u w.heap.size [.int .i64 x0, .int .i64 x1, .int .i64 x2]) ⟨?_, ?_⟩ ?_
      · repeat (first | exact bel | refine Below.drew ?_ | refine below_drewN ?_ _)
      · exact P
      rintro u ⟨bel, P⟩
      have hPs := P.1
      go_region_held3 (fun w' => w'.cell? ⟨w.heap.size, 0, none⟩ = some (.int .i64 x0) ∧ w'.cell? ⟨w.heap.size, 1, none⟩ = some (.int .i64 x1) ∧ w'.cell? ⟨w.heap.size, 2, none⟩ = some (.int .i64 x2)) ((refine keep3 ?_; repeat (first | exact P | refine Bx.drew ?_ | refine Bx.alloc ?_ _)))
        (first
        | (refine step_appSrc (by rfl) (.tmp 45) (.tmp 48) 25 (by rfl) w.heap.size 54 3 i0 _ Try.underlying25 HI.out HZ0.out HZ1.out HZ2.out (by omega) (by omega) rfl (.slice (some ⟨u.heap.size, 0, none⟩) 0 0) 0 [] ?_ ?_ ?_ k (flatT (l.take k)) ?_ ?_ ?_ ?_ ?_; (exact rfl); (with_reducible exact OwnF.drew1 (OwnF.empty _ _ _ bel.size)); rotate_left; (exact rfl); (focus (exact srcT_pre (hr.below ((bel_alloc bel _).drew)) hk)); (omega); (exact bel_size (B := w.heap.size) (bel_alloc bel _).drew); intro v1 w1 own1 bel1 g1 at1; have PN := app_box (q := w.heap.size) (cs := [.int .i64 x0, .int .i64 x1, .int .i64 x2]) (P.alloc _).drew (blk_far hPs (.inl rfl)) g1 at1; have P := PN.1; have NE1 := PN.2; clear PN; have bel := Below.trans (B := w.heap.size) (a := w) (bel_alloc bel _).drew bel1)
        | (refine step_appSrc (by rfl) (.tmp 45) (.tmp 48) 25 (by rfl) w.heap.size 54 3 i0 _ Try.underlying25 HI.out HZ0.out HZ1.out HZ2.out (by omega) (by omega) rfl (.slice (some ⟨u.heap.size, 0, none⟩) 0 0) 0 [] ?_ ?_ ?_ k (flatT (l.take k)) ?_ ?_ ?_ ?_ ?_; (exact rfl); (with_reducible exact OwnF.drew1 (OwnF.new (OwnF.empty _ _ _ bel.size) _)); rotate_left; (exact rfl); (focus (exact srcT_pre (hr.below ((bel_alloc (bel_alloc bel _) _).drew)) hk)); (omega); (exact bel_size (B := w.heap.size) (bel_alloc (bel_alloc bel _) _).drew); intro v1 w1 own1 bel1 g1 at1; have T := (app_box (q := u.heap.size + 1) (cs := [.int .i64 x0, .int .i64 x1, .int .i64 x2]) (Bx.drew (bx_second u _ [.int .i64 x0, .int .i64 x1, .int .i64 x2] _)) (slice_ne (by omega)) g1 at1).1; have PN := app_box (q := w.heap.size) (cs := [.int .i64 x0, .int .i64 x1, .int .i64 x2]) ((P.alloc _).alloc _).drew (blk_far hPs (.inl rfl)) g1 at1; have P := PN.1; have NE1 := PN.2; clear PN; have bel := Below.trans (B := w.heap.size) (a := w) (bel_alloc (bel_alloc bel _) _).drew bel1)
        | (refine step_appSrc (by rfl) (.tmp 45) (.tmp 48) 25 (by rfl) w.heap.size 54 3 i0 _ Try.underlying25 HI.out HZ0.out HZ1.out HZ2.out (by omega) (by omega) rfl (.slice (some ⟨u.heap.size + 1, 0, none⟩) 0 0) 0 [] ?_ ?_ ?_ k (flatT (l.take k)) ?_ ?_ ?_ ?_ ?_; (exact rfl); (with_reducible exact OwnF.drew1 (OwnF.empty2 _ _ _ _ bel.size)); rotate_left; (exact rfl); (focus (exact srcT_pre (hr.below ((bel_alloc (bel_alloc bel _) _).drew)) hk)); (omega); (exact bel_size (B := w.heap.size) (bel_alloc (bel_alloc bel _) _).drew); intro v1 w1 own1 bel1 g1 at1; have T := (app_box (q := u.heap.size) (cs := [.int .i64 x0, .int .i64 x1, .int .i64 x2]) (Bx.drew (bx_first u [.int .i64 x0, .int .i64 x1, .int .i64 x2] _ _)) (slice_ne (by omega)) g1 at1).1; have PN := app_box (q := w.heap.size) (cs := [.int .i64 x0, .int .i64 x1, .int .i64 x2]) ((P.alloc _).alloc _).drew (blk_far hPs (.inr rfl)) g1 at1; have P := PN.1; have NE1 := PN.2; clear PN; have bel := Below.trans (B := w.heap.size) (a := w) (bel_alloc (bel_alloc bel _) _).drew bel1)
        | (refine step_appSrc (by rfl) (.tmp 49) (.tmp 51) 25 (by rfl) w.heap.size 54 3 i0 _ Try.underlying25 HI.out HZ0.out HZ1.out HZ2.out (by omega) (by omega) rfl v1 (0 + k) ([] ++ flatT (l.take k)) ?_ ?_ ?_ 1 [x0, x1, x2] ?_ ?_ ?_ ?_ ?_; (exact rfl); (with_reducible exact OwnF.new own1 _); rotate_left; (exact rfl); (focus (exact SrcF.new _ _ [x0, x1, x2] _ rfl)); (omega); (exact bel_size (B := w.heap.size) (bel_alloc bel _)); intro v2 w2 own2 bel2 g2 at2; have PN := app_box (q := w.heap.size) (cs := [.int .i64 x0, .int .i64 x1, .int .i64 x2]) (P.alloc _) NE1 g2 at2; have P := PN.1; have NE2 := PN.2; clear PN; have bel := Below.trans (B := w.heap.size) (a := w) (bel_alloc bel _) bel2)
        | (refine step_appSrc (by rfl) (.tmp 49) (.tmp 51) 25 (by rfl) w.heap.size 54 3 i0 _ Try.underlying25 HI.out HZ0.out HZ1.out HZ2.out (by omega) (by omega) rfl v1 (0 + k) ([] ++ flatT (l.take k)) ?_ ?_ ?_ 1 [x0, x1, x2] ?_ ?_ ?_ ?_ ?_; (exact rfl); (with_reducible exact own1); rotate_left; (exact rfl); (focus (exact srcF_bx (ys := [x0, x1, x2]) T rfl)); (omega); (exact bel_size (B := w.heap.size) bel); intro v2 w2 own2 bel2 g2 at2; have PN := app_box (q := w.heap.size) (cs := [.int .i64 x0, .int .i64 x1, .int .i64 x2]) P NE1 g2 at2; have P := PN.1; have NE2 := PN.2; clear PN; have bel := Below.trans (B := w.heap.size) (a := w) bel bel2)
        | (refine step_appSrc (by rfl) (.tmp 52) (.tmp 53) 25 (by rfl) w.heap.size 54 3 i0 _ Try.underlying25 HI.out HZ0.out HZ1.out HZ2.out (by omega) (by omega) rfl v2 (0 + k + 1) ([] ++ flatT (l.take k) ++ [x0, x1, x2]) ?_ ?_ ?_ 0 (flatT []) ?_ ?_ ?_ ?_ ?_; (exact rfl); (with_reducible exact own2); rotate_left; (exact rfl); (focus (exact srcT_none _ _ _ HA'.out)); (omega); (exact bel_size (B := w.heap.size) bel); intro v3 w3 own3 bel3 g3 at3; have PN := app_box (q := w.heap.size) (cs := [.int .i64 x0, .int .i64 x1, .int .i64 x2]) P NE2 g3 at3; have P := PN.1; have NE3 := PN.2; clear PN; have bel := Below.trans (B := w.heap.size) (a := w) bel bel3))
      all_goals
        have own : OwnT w3 w.heap.size 54 v3 (0 + k + 1 + 0) (putT (x0, x1, x2) l) := by rw [HF.out]; unfold OwnT; rw [flatT_app, flatT_snoc]; exact own3
        clear own1 own2 own3 g1 g2 g3 at1 at2 at3 P
        go_wp2_with fail
        go_ret
        exact retT_mk own bel (by omega)
end Go.Proofs.Ytfamemjlhgkneaa
