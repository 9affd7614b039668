/- The law on the polynomial of roots. -/
import Derived.Test.YtfmlclciijlpkaaPureRoots
import Derived.Test.YtfmlclciijlpkaaWPow
import Derived.Test.YtfmlclciijlpkaaFin
import Derived.Test.YtfmlclciijlpkaaPutI
import Derived.Deep.RegionHeld3
import Derived.Deep.RegionLaw
namespace Go.Proofs.Ytfmlclciijlpkaa
open Go.RowKit
theorem dropI_cons {l : List Int} {k : Nat} (hk : k < l.length) : l.drop k = l.getD k 0 :: l.drop (k + 1) := by
  rw [List.drop_eq_getElem_cons hk]; simp [List.getD, List.getElem?_eq_getElem hk]
theorem set_back {R : List Int} {T : Nat} (h : T < R.length) : (List.replicate (T + 1) (0 : Int) ++ R.drop (T + 1)).set T (R.getD T 0) = List.replicate T 0 ++ R.drop T := by
  rw [dropI_cons h, List.replicate_succ', List.append_assoc, List.set_append_right _ _ (by simp), List.length_replicate, Nat.sub_self]
  rfl
theorem ownI_ne {w : World} {B n : Nat} {E : TypeId} {v : Value} {zs : List Int} (h : Own w (B + 1) E v n zs) : v.ownBlock = none ∨ v.ownBlock ≠ some B := by
  cases e : v.ownBlock with
  | none => exact .inl rfl
  | some g => exact .inr fun e2 => by have := (h.lt g e).1; have := Option.some.inj e2; omega
theorem rootsP_next {lead : Int} {S : List Int} {i : Nat} (h : i < S.length) : (rootsP lead S).getD i 0 = (rootsP lead S).getD (i + 1) 0 + S.getD (S.length - (i + 1)) 0 := by
  rw [rootsP_at (by omega), rootsP_at (by omega)]
  have := sumS_succ S (S.length - (i + 1)) (by omega)
  rw [show S.length - (i + 1) + 1 = S.length - i from by omega] at this
  rw [this]; omega
theorem rootsP_top (lead : Int) (S : List Int) : (rootsP lead S).getD S.length 0 = lead := by
  rw [rootsP_at (Nat.le_refl _), Nat.sub_self]
  have : sumS S 0 = 0 := by cases S <;> rfl
  rw [this]; omega
theorem rd_two (w : World) (a b : Int) (E : TypeId) : Rd (w.alloc (.cells #[.int .i64 a, .int .i64 b] E)) (w.alloc (.cells #[.int .i64 a, .int .i64 b] E)).heap.size (some ⟨w.heap.size, 0, none⟩) 2 [a, b] := by
  have h := World.ownsRow_lit (size := 1) (base := 0) (e := E) w #[.int .i64 a, .int .i64 b] 2 (Nat.zero_le _) (by simp [maxLen]) rfl
  exact Own.rd (B := 0) (E := E) (c := 2) h
set_option maxRecDepth 8192 in
set_option maxHeartbeats 8000000 in
theorem specPolyFromRoots_c (x0 : Int) (A : Option Addr) (n c : Nat) (l : List Int) (w : World) (h : Rd w w.heap.size A n l) (_hn : n ≤ 1048576) :
    Calls Try.prog 6 #[.int .i64 x0, .slice A n c] w (RetOwnB 3 (pRoots x0 l).1 (pRoots x0 l).2 w) := by
  have HLen := Lib.hid h.len
  obtain ⟨i0, hi, hz0, hz1, hz2⟩ := info_parts info_int
  have HI := Lib.hid hi
  have HZ0 := Lib.hid hz0
  have HZ1 := Lib.hid hz1
  have HZ2 := Lib.hid hz2
  clear hi hz0 hz1 hz2
  cases h1 : isFin x0
  · have H : Hid (pRoots x0 l = ([], false)) := Lib.hid (by rw [pRoots, okRoots, h1]; rfl)
    have H1 := Lib.hid h1
    clear h1
    go_enter Try.func6, Try.ntmps6
    go_wp2_with (go_at_call 18; refine (poFinite_c _ _).mono ?_; rw [H1.out]; rintro e w' ⟨rfl, rfl⟩)
    go_ret2
    rw [H.out]
    exact retOwnB_mk (Own.nil _ _ _) (Below.refl _ _) (by omega)
  cases h2 : l.all isFin
  · have H : Hid (pRoots x0 l = ([], false)) := Lib.hid (by rw [pRoots, okRoots, h1, h2]; rfl)
    have H1 := Lib.hid h1
    have H2 := Lib.hid h2
    clear h1 h2
    go_enter Try.func6, Try.ntmps6
    go_wp2_with (first | (go_at_call 18; refine (poFinite_c _ _).mono ?_; rw [H1.out]; rintro e w' ⟨rfl, rfl⟩) | (go_at_call 19; refine (l1AllFin_c _ _ _ _ _ _ h).mono ?_; rw [H2.out]; rintro e w' ⟨rfl, rfl⟩))
    go_ret2
    rw [H.out]
    exact retOwnB_mk (Own.nil _ _ _) (Below.refl _ _) (by omega)
  by_cases h3 : n ≤ 12
  rotate_left
  · have H : Hid (pRoots x0 l = ([], false)) := Lib.hid (by rw [pRoots, okRoots, h1, h2, HLen.out, decide_eq_false h3]; rfl)
    have H1 := Lib.hid h1
    have H2 := Lib.hid h2
    clear h1 h2
    have h3' : (12 : Int) < (n : Int) := by omega
    go_enter Try.func6, Try.ntmps6
    go_wp2_with (first | (go_at_call 18; refine (poFinite_c _ _).mono ?_; rw [H1.out]; rintro e w' ⟨rfl, rfl⟩) | (go_at_call 19; refine (l1AllFin_c _ _ _ _ _ _ h).mono ?_; rw [H2.out]; rintro e w' ⟨rfl, rfl⟩))
    go_ret2
    rw [H.out]
    exact retOwnB_mk (Own.nil _ _ _) (Below.refl _ _) (by omega)
  have hok : okRoots x0 l = true := by rw [okRoots, h1, h2, HLen.out, decide_eq_true h3]; rfl
  have H : Hid (pRoots x0 l = if (rootsP x0 (srtS l)).all isFin then (rootsP x0 (srtS l), true) else ([], false)) := Lib.hid (by rw [pRoots, hok]; rfl)
  have hx := (isFin_iff _).1 h1
  have HF0 := Lib.hid fun z hz => (isFin_iff z).1 (List.all_eq_true.1 h2 z hz)
  have H1 := Lib.hid h1
  have H2 := Lib.hid h2
  clear h1 h2 hok
  have h3' : ¬ (12 : Int) < (n : Int) := by omega
  go_enter Try.func6, Try.ntmps6
  go_wp2_with (first | (go_at_call 18; refine (poFinite_c _ _).mono ?_; rw [H1.out]; rintro e w' ⟨rfl, rfl⟩) | (go_at_call 19; refine (l1AllFin_c _ _ _ _ _ _ h).mono ?_; rw [H2.out]; rintro e w' ⟨rfl, rfl⟩) | (at_make; refine wp_mkn rfl _ _ 22 rfl w.heap.size 3 i0 Try.underlying22 HI.out HZ0.out HZ1.out HZ2.out _ _ _ _ (n + 1) rfl rfl (by omega) (by omega) (by omega) (Nat.le_refl _) ?_))
  intro w0 own0 bel0
  have hw0 : w.heap.size + 1 ≤ w0.heap.size := (OwnF.there own0).1
  have sorted0 := Own.empty w0 3 hw0
  have out0 := own0.new (.cells #[] 3)
  have bel1 := bel_alloc bel0 (.cells #[] 3)
  clear own0
  go_wp2_with fail
  go_loopw [7, 33] (fun v i wr => ∃ j : Nat, j ≤ n ∧ i = .int .i64 j ∧ ∃ m : Nat, Own wr (w.heap.size + 1) 3 v m (srtS (l.take j)) ∧ Own wr w.heap.size 3 (.slice (some ⟨w.heap.size, 0, none⟩) (n + 1) (n + 1)) (n + 1) (List.replicate (n + 1) 0) ∧ Below w.heap.size w wr) (fun _ i _ => n - (intOf i).toNat)
  case atStart => exact ⟨0, Nat.zero_le _, rfl, 0, sorted0, out0, bel1⟩
  case round =>
    clear sorted0 out0 bel1 bel0
    obtain ⟨j, hj, rfl, m, hown, hout, hbel⟩ := hrel
    have hsz := hbel.size
    have hsz1 : w.heap.size + 1 ≤ wr.heap.size := (OwnF.there hout).1
    have hlen := hown.len
    rw [srtS_len, List.length_take] at hlen
    by_cases hlt : j < n
    · have hjL : j < l.length := by rw [HLen.out]; exact hlt
      have hmn : m ≤ 12 := by omega
      have HC := Lib.hid (srtS_take hjL)
      obtain ⟨ad, rfl, hab, c0⟩ := (h.below hbel).at_ hlt
      generalize hx : l.getD j 0 = x at *
      clear hx
      generalize hLL : srtS (l.take j) = L at *
      generalize wr = wb at *
      have HL : Hid (L.length = m) := Lib.hid (by rw [← hLL, srtS_len, List.length_take]; omega)
      clear hLL
      obtain ⟨K, hKm, hall, hKK⟩ := placeS x L
      rw [HL.out] at hKm hKK
      have HALL := Lib.hid hall
      have HKK := Lib.hid hKK
      obtain ⟨A1, cc, rfl⟩ := hown.shape
      have hr : RdF wb wb.heap.size 1 A1 m L := OwnF.rd hown
      obtain ⟨hnc, hcm, hA0⟩ := ownI_cap hown
      unfold maxLen at hcm
      have HA0 := Lib.hid hA0
      have HZN := Lib.hid (ownI_nil hown)
      clear hA0 hall hKK hlen
      have bel0 := Below.refl wb.heap.size wb
      go_wp2_with fail
      clear c0
      go_loopw [10] (fun i wr => ∃ k : Nat, k ≤ K ∧ i = .int .i64 k ∧ wr = wb) (fun i _ => K - (intOf i).toNat)
      case atStart => exact ⟨0, Nat.zero_le _, rfl, rfl⟩
      case round =>
        obtain ⟨k, hk, rfl, hww⟩ := hrel
        replace hww := hww.symm
        subst hww
        by_cases hlt2 : k < K
        · have hkn : k < m := by omega
          obtain ⟨g, q, rfl, hbw, hcc⟩ := hr.at_ (show 0 < m by omega)
          have c0 := hcc k (by omega)
          have HV := HALL.out k hlt2
          generalize L.getD k 0 = y at *
          have e0 : (0 : Int) ≤ (k : Int) := by omega
          have e1 : (k : Int) < (m : Int) := by omega
          clear hcc
          go_wp2_with fail
          go_roundw
          case rel => exact ⟨k + 1, by omega, by go_num, trivial⟩
          case measure => simp [intOf]; omega
        · obtain rfl : k = K := by omega
          have HF : Hid (srtS (l.take (j + 1)) = L.take k ++ [x] ++ L.drop k) := Lib.hid (by rw [HC.out]; exact insS_at (by rw [HL.out]; exact hKm) HALL.out (by rw [HL.out]; intro h0; have := HKK.out h0; omega))
          have bel := bel0
          by_cases hkn : k < m
          · obtain ⟨g, q, rfl, hbw, hcc⟩ := hr.at_ (show 0 < m by omega)
            have c0 := hcc k (by omega)
            have HV := HKK.out hkn
            generalize L.getD k 0 = y at *
            have hk := Nat.le_of_lt hkn
            have e0 : (0 : Int) ≤ (k : Int) := by omega
            have e1 : (k : Int) < (m : Int) := by omega
            have e2 : ¬ cc = k := by omega
            have e6 : (k : Int) ≤ (cc : Int) := by omega
            have e3 : (k : Int) ≤ (m : Int) := by omega
            clear hcc
            have hs2 := slice_toO (P := Try.prog) (t := 22) (e := 3) Try.underlying22 (by kernel_rfl) Try.sizeOf3 g q m cc k hk hnc
            have hs3 := slice_fromO (P := Try.prog) (t := 22) (e := 3) Try.underlying22 (by kernel_rfl) Try.sizeOf3 g q m cc k hkn hnc
            go_wp2_with fail
            refine gen_world (C := Code.wp _ _ _ _) (fun u => Below wb.heap.size wb u) ?_ ?_
            · repeat (first | exact bel | refine Below.drew ?_ | refine bel_drewN ?_ _)
            rintro u bel
            go_region_held3 (fun _ => True) (trivial)
              (first
              | (refine step_appSrc (by rfl) (.tmp 51) (.tmp 54) 22 (by rfl) wb.heap.size 3 1 i0 _ Try.underlying22 HI.out HZ0.out HZ1.out HZ2.out (by omega) (by omega) rfl (.slice (some ⟨u.heap.size, 0, none⟩) 0 0) 0 [] ?_ ?_ ?_ k (L.take k) ?_ ?_ ?_ ?_ ?_; (exact rfl); (with_reducible exact OwnF.drew1 (OwnF.empty _ _ _ bel.size)); rotate_left; (exact rfl); (focus (exact srcF_pre (hr.below ((bel_alloc bel _).drew)) hk)); (omega); (exact bel_size (B := wb.heap.size) (bel_alloc bel _).drew); intro v1 w1 own1 bel1 g1 at1; have bel := Below.trans (B := wb.heap.size) (a := wb) (bel_alloc bel _).drew bel1)
              | (refine step_appSrc (by rfl) (.tmp 51) (.tmp 54) 22 (by rfl) wb.heap.size 3 1 i0 _ Try.underlying22 HI.out HZ0.out HZ1.out HZ2.out (by omega) (by omega) rfl (.slice (some ⟨u.heap.size, 0, none⟩) 0 0) 0 [] ?_ ?_ ?_ k (L.take k) ?_ ?_ ?_ ?_ ?_; (exact rfl); (with_reducible exact OwnF.drew1 (OwnF.new (OwnF.empty _ _ _ bel.size) _)); rotate_left; (exact rfl); (focus (exact srcF_pre (hr.below ((bel_alloc (bel_alloc bel _) _).drew)) hk)); (omega); (exact bel_size (B := wb.heap.size) (bel_alloc (bel_alloc bel _) _).drew); intro v1 w1 own1 bel1 g1 at1; have T := (app_box (q := u.heap.size + 1) (cs := [.int .i64 x]) (Bx.drew (bx_second u _ [.int .i64 x] _)) (slice_ne (by omega)) g1 at1).1; have bel := Below.trans (B := wb.heap.size) (a := wb) (bel_alloc (bel_alloc bel _) _).drew bel1)
              | (refine step_appSrc (by rfl) (.tmp 51) (.tmp 54) 22 (by rfl) wb.heap.size 3 1 i0 _ Try.underlying22 HI.out HZ0.out HZ1.out HZ2.out (by omega) (by omega) rfl (.slice (some ⟨u.heap.size + 1, 0, none⟩) 0 0) 0 [] ?_ ?_ ?_ k (L.take k) ?_ ?_ ?_ ?_ ?_; (exact rfl); (with_reducible exact OwnF.drew1 (OwnF.empty2 _ _ _ _ bel.size)); rotate_left; (exact rfl); (focus (exact srcF_pre (hr.below ((bel_alloc (bel_alloc bel _) _).drew)) hk)); (omega); (exact bel_size (B := wb.heap.size) (bel_alloc (bel_alloc bel _) _).drew); intro v1 w1 own1 bel1 g1 at1; have T := (app_box (q := u.heap.size) (cs := [.int .i64 x]) (Bx.drew (bx_first u [.int .i64 x] _ _)) (slice_ne (by omega)) g1 at1).1; have bel := Below.trans (B := wb.heap.size) (a := wb) (bel_alloc (bel_alloc bel _) _).drew bel1)
              | (refine step_appSrc (by rfl) (.tmp 55) (.tmp 57) 22 (by rfl) wb.heap.size 3 1 i0 _ Try.underlying22 HI.out HZ0.out HZ1.out HZ2.out (by omega) (by omega) rfl v1 (0 + k) ([] ++ L.take k) ?_ ?_ ?_ 1 [x] ?_ ?_ ?_ ?_ ?_; (exact rfl); (with_reducible exact OwnF.new own1 _); rotate_left; (exact rfl); (focus (exact SrcF.new _ _ [x] _ rfl)); (omega); (exact bel_size (B := wb.heap.size) (bel_alloc bel _)); intro v2 w2 own2 bel2 g2 at2; have bel := Below.trans (B := wb.heap.size) (a := wb) (bel_alloc bel _) bel2)
              | (refine step_appSrc (by rfl) (.tmp 55) (.tmp 57) 22 (by rfl) wb.heap.size 3 1 i0 _ Try.underlying22 HI.out HZ0.out HZ1.out HZ2.out (by omega) (by omega) rfl v1 (0 + k) ([] ++ L.take k) ?_ ?_ ?_ 1 [x] ?_ ?_ ?_ ?_ ?_; (exact rfl); (with_reducible exact own1); rotate_left; (exact rfl); (focus (exact srcF_bx (ys := [x]) T rfl)); (omega); (exact bel_size (B := wb.heap.size) bel); intro v2 w2 own2 bel2 g2 at2; have bel := Below.trans (B := wb.heap.size) (a := wb) bel bel2)
              | (refine step_appSrc (by rfl) (.tmp 58) (.tmp 61) 22 (by rfl) wb.heap.size 3 1 i0 _ Try.underlying22 HI.out HZ0.out HZ1.out HZ2.out (by omega) (by omega) rfl v2 (0 + k + 1) ([] ++ L.take k ++ [x]) ?_ ?_ ?_ (m - k) (L.drop k) ?_ ?_ ?_ ?_ ?_; (exact rfl); (with_reducible exact own2); rotate_left; (exact rfl); (focus (exact srcF_rest (hr.below (bel)) hk)); (omega); (exact bel_size (B := wb.heap.size) bel); intro v3 w3 own3 bel3 g3 at3; have bel := Below.trans (B := wb.heap.size) (a := wb) bel bel3))
            all_goals
              have own : Own w3 wb.heap.size 3 v3 (0 + k + 1 + (m - k)) (srtS (l.take (j + 1))) := by rw [HF.out]; exact own3
              clear own1 own2 own3 g1 g2 g3 at1 at2 at3
              have hout := hout.go bel
              go_wp2_with fail
              go_roundw
              case rel => exact ⟨j + 1, by omega, by go_num, _, Own.more own hsz1, hout, hbel.trans (bel.mono hsz)⟩
              case measure => simp [intOf]; omega
          · obtain rfl : k = m := by omega
            have HD : Hid (L.drop k = []) := Lib.hid (List.drop_of_length_le (by rw [HL.out]; exact Nat.le_refl _))
            rw [HD.out] at HF
            obtain ⟨A', c', hsl, hA'⟩ := slice_end (P := Try.prog) (t := 22) (e := 3) (k := 1) Try.underlying22 (by kernel_rfl) Try.sizeOf3 A1 k cc (fun h => (HA0.out h).2)
            have HA' := Lib.hid hA'
            clear hA'
            have e6 : (k : Int) ≤ (cc : Int) := by omega
            have e7 : (0 : Int) ≤ (k : Int) := by omega
            rcases HZN.out with ⟨hA, hk0, hc0⟩ | ⟨g, hA⟩
            · subst hA
              have hs2 := slice_toN (P := Try.prog) (t := 22) (e := 3) Try.underlying22 (by kernel_rfl) Try.sizeOf3 k cc hk0 hc0
              have HK0 := Lib.hid hk0
              have HC0 := Lib.hid hc0
              clear hk0 hc0
              go_wp2_with fail
              refine gen_world (C := Code.wp _ _ _ _) (fun u => Below wb.heap.size wb u) ?_ ?_
              · repeat (first | exact bel | refine Below.drew ?_ | refine bel_drewN ?_ _)
              rintro u bel
              go_region_held3 (fun _ => True) (trivial)
                (first
                | (refine step_appSrc (by rfl) (.tmp 51) (.tmp 54) 22 (by rfl) wb.heap.size 3 1 i0 _ Try.underlying22 HI.out HZ0.out HZ1.out HZ2.out (by omega) (by omega) rfl (.slice (some ⟨u.heap.size, 0, none⟩) 0 0) 0 [] ?_ ?_ ?_ k (L.take k) ?_ ?_ ?_ ?_ ?_; (exact rfl); (with_reducible exact OwnF.drew1 (OwnF.empty _ _ _ bel.size)); rotate_left; (exact rfl); (focus (exact srcF_nil _ _ HK0 HC0)); (omega); (exact bel_size (B := wb.heap.size) (bel_alloc bel _).drew); intro v1 w1 own1 bel1 g1 at1; have bel := Below.trans (B := wb.heap.size) (a := wb) (bel_alloc bel _).drew bel1)
                | (refine step_appSrc (by rfl) (.tmp 51) (.tmp 54) 22 (by rfl) wb.heap.size 3 1 i0 _ Try.underlying22 HI.out HZ0.out HZ1.out HZ2.out (by omega) (by omega) rfl (.slice (some ⟨u.heap.size, 0, none⟩) 0 0) 0 [] ?_ ?_ ?_ k (L.take k) ?_ ?_ ?_ ?_ ?_; (exact rfl); (with_reducible exact OwnF.drew1 (OwnF.new (OwnF.empty _ _ _ bel.size) _)); rotate_left; (exact rfl); (focus (exact srcF_nil _ _ HK0 HC0)); (omega); (exact bel_size (B := wb.heap.size) (bel_alloc (bel_alloc bel _) _).drew); intro v1 w1 own1 bel1 g1 at1; have T := (app_box (q := u.heap.size + 1) (cs := [.int .i64 x]) (Bx.drew (bx_second u _ [.int .i64 x] _)) (slice_ne (by omega)) g1 at1).1; have bel := Below.trans (B := wb.heap.size) (a := wb) (bel_alloc (bel_alloc bel _) _).drew bel1)
                | (refine step_appSrc (by rfl) (.tmp 51) (.tmp 54) 22 (by rfl) wb.heap.size 3 1 i0 _ Try.underlying22 HI.out HZ0.out HZ1.out HZ2.out (by omega) (by omega) rfl (.slice (some ⟨u.heap.size + 1, 0, none⟩) 0 0) 0 [] ?_ ?_ ?_ k (L.take k) ?_ ?_ ?_ ?_ ?_; (exact rfl); (with_reducible exact OwnF.drew1 (OwnF.empty2 _ _ _ _ bel.size)); rotate_left; (exact rfl); (focus (exact srcF_nil _ _ HK0 HC0)); (omega); (exact bel_size (B := wb.heap.size) (bel_alloc (bel_alloc bel _) _).drew); intro v1 w1 own1 bel1 g1 at1; have T := (app_box (q := u.heap.size) (cs := [.int .i64 x]) (Bx.drew (bx_first u [.int .i64 x] _ _)) (slice_ne (by omega)) g1 at1).1; have bel := Below.trans (B := wb.heap.size) (a := wb) (bel_alloc (bel_alloc bel _) _).drew bel1)
                | (refine step_appSrc (by rfl) (.tmp 55) (.tmp 57) 22 (by rfl) wb.heap.size 3 1 i0 _ Try.underlying22 HI.out HZ0.out HZ1.out HZ2.out (by omega) (by omega) rfl v1 (0 + k) ([] ++ L.take k) ?_ ?_ ?_ 1 [x] ?_ ?_ ?_ ?_ ?_; (exact rfl); (with_reducible exact OwnF.new own1 _); rotate_left; (exact rfl); (focus (exact SrcF.new _ _ [x] _ rfl)); (omega); (exact bel_size (B := wb.heap.size) (bel_alloc bel _)); intro v2 w2 own2 bel2 g2 at2; have bel := Below.trans (B := wb.heap.size) (a := wb) (bel_alloc bel _) bel2)
                | (refine step_appSrc (by rfl) (.tmp 55) (.tmp 57) 22 (by rfl) wb.heap.size 3 1 i0 _ Try.underlying22 HI.out HZ0.out HZ1.out HZ2.out (by omega) (by omega) rfl v1 (0 + k) ([] ++ L.take k) ?_ ?_ ?_ 1 [x] ?_ ?_ ?_ ?_ ?_; (exact rfl); (with_reducible exact own1); rotate_left; (exact rfl); (focus (exact srcF_bx (ys := [x]) T rfl)); (omega); (exact bel_size (B := wb.heap.size) bel); intro v2 w2 own2 bel2 g2 at2; have bel := Below.trans (B := wb.heap.size) (a := wb) bel bel2)
                | (refine step_appSrc (by rfl) (.tmp 58) (.tmp 61) 22 (by rfl) wb.heap.size 3 1 i0 _ Try.underlying22 HI.out HZ0.out HZ1.out HZ2.out (by omega) (by omega) rfl v2 (0 + k + 1) ([] ++ L.take k ++ [x]) ?_ ?_ ?_ 0 [] ?_ ?_ ?_ ?_ ?_; (exact rfl); (with_reducible exact own2); rotate_left; (exact rfl); (focus (exact srcF_none _ _ _ HA'.out)); (omega); (exact bel_size (B := wb.heap.size) bel); intro v3 w3 own3 bel3 g3 at3; have bel := Below.trans (B := wb.heap.size) (a := wb) bel bel3))
              all_goals
                have own : Own w3 wb.heap.size 3 v3 (0 + k + 1 + 0) (srtS (l.take (j + 1))) := by rw [HF.out]; exact own3
                clear own1 own2 own3 g1 g2 g3 at1 at2 at3
                have hout := hout.go bel
                go_wp2_with fail
                go_roundw
                case rel => exact ⟨j + 1, by omega, by go_num, _, Own.more own hsz1, hout, hbel.trans (bel.mono hsz)⟩
                case measure => simp [intOf]; omega
            · subst hA
              have hs2 := slice_toO (P := Try.prog) (t := 22) (e := 3) Try.underlying22 (by kernel_rfl) Try.sizeOf3 g 0 k cc k (Nat.le_refl _) hnc
              go_wp2_with fail
              refine gen_world (C := Code.wp _ _ _ _) (fun u => Below wb.heap.size wb u) ?_ ?_
              · repeat (first | exact bel | refine Below.drew ?_ | refine bel_drewN ?_ _)
              rintro u bel
              go_region_held3 (fun _ => True) (trivial)
                (first
                | (refine step_appSrc (by rfl) (.tmp 51) (.tmp 54) 22 (by rfl) wb.heap.size 3 1 i0 _ Try.underlying22 HI.out HZ0.out HZ1.out HZ2.out (by omega) (by omega) rfl (.slice (some ⟨u.heap.size, 0, none⟩) 0 0) 0 [] ?_ ?_ ?_ k (L.take k) ?_ ?_ ?_ ?_ ?_; (exact rfl); (with_reducible exact OwnF.drew1 (OwnF.empty _ _ _ bel.size)); rotate_left; (exact rfl); (focus (exact srcF_pre (hr.below ((bel_alloc bel _).drew)) hk)); (omega); (exact bel_size (B := wb.heap.size) (bel_alloc bel _).drew); intro v1 w1 own1 bel1 g1 at1; have bel := Below.trans (B := wb.heap.size) (a := wb) (bel_alloc bel _).drew bel1)
                | (refine step_appSrc (by rfl) (.tmp 51) (.tmp 54) 22 (by rfl) wb.heap.size 3 1 i0 _ Try.underlying22 HI.out HZ0.out HZ1.out HZ2.out (by omega) (by omega) rfl (.slice (some ⟨u.heap.size, 0, none⟩) 0 0) 0 [] ?_ ?_ ?_ k (L.take k) ?_ ?_ ?_ ?_ ?_; (exact rfl); (with_reducible exact OwnF.drew1 (OwnF.new (OwnF.empty _ _ _ bel.size) _)); rotate_left; (exact rfl); (focus (exact srcF_pre (hr.below ((bel_alloc (bel_alloc bel _) _).drew)) hk)); (omega); (exact bel_size (B := wb.heap.size) (bel_alloc (bel_alloc bel _) _).drew); intro v1 w1 own1 bel1 g1 at1; have T := (app_box (q := u.heap.size + 1) (cs := [.int .i64 x]) (Bx.drew (bx_second u _ [.int .i64 x] _)) (slice_ne (by omega)) g1 at1).1; have bel := Below.trans (B := wb.heap.size) (a := wb) (bel_alloc (bel_alloc bel _) _).drew bel1)
                | (refine step_appSrc (by rfl) (.tmp 51) (.tmp 54) 22 (by rfl) wb.heap.size 3 1 i0 _ Try.underlying22 HI.out HZ0.out HZ1.out HZ2.out (by omega) (by omega) rfl (.slice (some ⟨u.heap.size + 1, 0, none⟩) 0 0) 0 [] ?_ ?_ ?_ k (L.take k) ?_ ?_ ?_ ?_ ?_; (exact rfl); (with_reducible exact OwnF.drew1 (OwnF.empty2 _ _ _ _ bel.size)); rotate_left; (exact rfl); (focus (exact srcF_pre (hr.below ((bel_alloc (bel_alloc bel _) _).drew)) hk)); (omega); (exact bel_size (B := wb.heap.size) (bel_alloc (bel_alloc bel _) _).drew); intro v1 w1 own1 bel1 g1 at1; have T := (app_box (q := u.heap.size) (cs := [.int .i64 x]) (Bx.drew (bx_first u [.int .i64 x] _ _)) (slice_ne (by omega)) g1 at1).1; have bel := Below.trans (B := wb.heap.size) (a := wb) (bel_alloc (bel_alloc bel _) _).drew bel1)
                | (refine step_appSrc (by rfl) (.tmp 55) (.tmp 57) 22 (by rfl) wb.heap.size 3 1 i0 _ Try.underlying22 HI.out HZ0.out HZ1.out HZ2.out (by omega) (by omega) rfl v1 (0 + k) ([] ++ L.take k) ?_ ?_ ?_ 1 [x] ?_ ?_ ?_ ?_ ?_; (exact rfl); (with_reducible exact OwnF.new own1 _); rotate_left; (exact rfl); (focus (exact SrcF.new _ _ [x] _ rfl)); (omega); (exact bel_size (B := wb.heap.size) (bel_alloc bel _)); intro v2 w2 own2 bel2 g2 at2; have bel := Below.trans (B := wb.heap.size) (a := wb) (bel_alloc bel _) bel2)
                | (refine step_appSrc (by rfl) (.tmp 55) (.tmp 57) 22 (by rfl) wb.heap.size 3 1 i0 _ Try.underlying22 HI.out HZ0.out HZ1.out HZ2.out (by omega) (by omega) rfl v1 (0 + k) ([] ++ L.take k) ?_ ?_ ?_ 1 [x] ?_ ?_ ?_ ?_ ?_; (exact rfl); (with_reducible exact own1); rotate_left; (exact rfl); (focus (exact srcF_bx (ys := [x]) T rfl)); (omega); (exact bel_size (B := wb.heap.size) bel); intro v2 w2 own2 bel2 g2 at2; have bel := Below.trans (B := wb.heap.size) (a := wb) bel bel2)
                | (refine step_appSrc (by rfl) (.tmp 58) (.tmp 61) 22 (by rfl) wb.heap.size 3 1 i0 _ Try.underlying22 HI.out HZ0.out HZ1.out HZ2.out (by omega) (by omega) rfl v2 (0 + k + 1) ([] ++ L.take k ++ [x]) ?_ ?_ ?_ 0 [] ?_ ?_ ?_ ?_ ?_; (exact rfl); (with_reducible exact own2); rotate_left; (exact rfl); (focus (exact srcF_none _ _ _ HA'.out)); (omega); (exact bel_size (B := wb.heap.size) bel); intro v3 w3 own3 bel3 g3 at3; have bel := Below.trans (B := wb.heap.size) (a := wb) bel bel3))
              all_goals
                have own : Own w3 wb.heap.size 3 v3 (0 + k + 1 + 0) (srtS (l.take (j + 1))) := by rw [HF.out]; exact own3
                clear own1 own2 own3 g1 g2 g3 at1 at2 at3
                have hout := hout.go bel
                go_wp2_with fail
                go_roundw
                case rel => exact ⟨j + 1, by omega, by go_num, _, Own.more own hsz1, hout, hbel.trans (bel.mono hsz)⟩
                case measure => simp [intOf]; omega
    · have HE : Hid (srtS (l.take j) = srtS l) := Lib.hid (by rw [List.take_of_length_le (by rw [HLen.out]; omega)])
      rw [HE.out] at hown
      obtain rfl : m = n := by have := HLen.out; omega
      have HSL : Hid ((srtS l).length = m) := Lib.hid (by rw [srtS_len, HLen.out])
      have HB := Lib.hid (rootsP_bd (S := srtS l) hx (fun z hz => HF0.out z ((srtS_mem l z).1 hz)) (by rw [HSL.out]; exact h3))
      have HB0 := Lib.hid fun (i : Nat) (hi : i < m) => HF0.out ((srtS l).getD i 0) ((srtS_mem l _).1 (by simp [List.getD, List.getElem?_eq_getElem (show i < (srtS l).length by rw [HSL.out]; exact hi)]))
      have HRL : Hid ((rootsP x0 (srtS l)).length = m + 1) := Lib.hid (by rw [rootsP_len, HSL.out])
      have HS := fun (i : Nat) (hi : i < m) => rootsP_next (lead := x0) (S := srtS l) (i := i) (by rw [HSL.out]; exact hi)
      have HT : Hid ((rootsP x0 (srtS l)).getD m 0 = x0) := Lib.hid (by rw [← HSL.out]; exact rootsP_top _ _)
      rw [HSL.out] at HS
      have HS := Lib.hid HS
      clear hlen
      generalize rootsP x0 (srtS l) = R at *
      generalize srtS l = S at *
      go_wp2_with fail
      go_loopw [11, 12] (fun z i wx => ∃ M : Nat, M ≤ m + 1 ∧ i = .int .i64 ((M : Int) - 1) ∧ (∃ y : Int, z = .int .i64 y ∧ Hid (0 < M → y = R.getD (M - 1) 0)) ∧ Own wx w.heap.size 3 (.slice (some ⟨w.heap.size, 0, none⟩) (m + 1) (m + 1)) (m + 1) (List.replicate M 0 ++ R.drop M) ∧ Own wx (w.heap.size + 1) 3 u7 m S ∧ Below w.heap.size w wx ∧ Hid ((R.drop M).all isFin = true)) (fun _ i _ => (intOf i + 1).toNat)
      case atStart => exact ⟨m + 1, Nat.le_refl _, by go_num, ⟨x0, rfl, Lib.hid fun _ => by rw [Nat.add_sub_cancel, HT.out]⟩, by rw [List.drop_of_length_le (by rw [HRL.out]; exact Nat.le_refl _), List.append_nil]; exact hout, hown, hbel, Lib.hid (by rw [List.drop_of_length_le (by rw [HRL.out]; exact Nat.le_refl _)]; rfl)⟩
      case round =>
        clear hout hown hbel
        obtain ⟨M, hM, rfl, ⟨y, rfl, hy⟩, hout, hown, hbel, hall⟩ := hrel
        by_cases hM0 : 0 < M
        · obtain ⟨T, rfl⟩ : ∃ T, M = T + 1 := ⟨M - 1, by omega⟩
          have hyT : y = R.getD T 0 := by have := hy.out hM0; rwa [Nat.add_sub_cancel] at this
          have hTR : T < R.length := by rw [HRL.out]; omega
          have hyb := HB.out _ (getD_mem hTR)
          rw [← hyT] at hyb
          have HY := Lib.hid hyT
          rw [show ((T + 1 : Nat) : Int) - 1 = (T : Int) from by omega]
          cases hf : isFin y
          · have HR : Hid (pRoots x0 l = ([], false)) := Lib.hid (by rw [H.out, show R.all isFin = false from by rw [List.all_eq_false]; exact ⟨_, getD_mem hTR, by rw [← HY.out, hf]; simp⟩]; rfl)
            have HV := Lib.hid hf
            clear hf hyT
            go_wp2_with (go_at_call 18; refine (poFinite_c _ _).mono ?_; rw [HV.out]; rintro e w' ⟨rfl, rfl⟩)
            go_ret2
            rw [HR.out]
            exact retOwnB_mk (Own.nil _ _ _) hbel (by omega)
          · have HA : Hid ((R.drop T).all isFin = true) := Lib.hid (by rw [dropI_cons hTR, List.all_cons, hall.out, ← HY.out, hf]; rfl)
            have HSet : Hid ((List.replicate (T + 1) (0 : Int) ++ R.drop (T + 1)).set T y = List.replicate T 0 ++ R.drop T) := Lib.hid (by rw [HY.out]; exact set_back hTR)
            have HV := Lib.hid hf
            clear hf hyT hM0
            have hfz := OwnF.frozenAt hout T
            have hc := OwnF.getAt hout T (by omega)
            generalize (List.replicate (T + 1) (0 : Int) ++ R.drop (T + 1)).getD T 0 = oz at hc
            have g1 := own_eq (hout.set_ T y) HSet.out
            have g2 := hbel.setCell (p := ⟨w.heap.size, T, none⟩) (Nat.le_refl _) (.int .i64 y)
            have g3 := Own.kept hown (OwnF.set_grown hout T y) (ownI_ne hown)
            have e1 : (T : Int) < ((m + 1 : Nat) : Int) := by omega
            by_cases hT0 : 0 < T
            · obtain ⟨A1, cc, hv7⟩ := hown.shape
              subst hv7
              obtain ⟨ad, rfl, _, c0⟩ := g3.rd.at_ (show m - T < m by omega)
              have HN : Hid (R.getD (T - 1) 0 = y + S.getD (m - T) 0) := Lib.hid (by
                have := HS.out (T - 1) (by omega)
                rw [show T - 1 + 1 = T from by omega, ← HY.out] at this
                exact this)
              have hsb := HB0.out (m - T) (by omega)
              generalize S.getD (m - T) 0 = z at *
              have e2 : IntKind.i64.wrap ((m : Int) - (T : Int)) = ((m - T : Nat) : Int) := by rw [IntWalk.i64_in _ (by omega)]; omega
              have e3 : (0 : Int) ≤ ((m - T : Nat) : Int) := by omega
              have e4 : ((m - T : Nat) : Int) < (m : Int) := by omega
              have e5 : (0 : Int) < (T : Int) := by omega
              have e6 : IntKind.i64.wrap (y + z) = y + z := IntWalk.i64_in _ (by omega)
              have HM3 := Lib.hid hM
              clear hout hown hbel
              go_wp2_with (go_at_call 18; refine (poFinite_c _ _).mono ?_; rw [HV.out]; rintro e w' ⟨rfl, rfl⟩)
              go_roundw
              case rel => exact ⟨T, by omega, by go_num, ⟨y + z, by go_num, Lib.hid fun _ => HN.out.symm⟩, g1, g3, g2, HA⟩
              case measure => simp [intOf]
            · obtain rfl : T = 0 := by omega
              clear hout hown hbel
              go_wp2_with (go_at_call 18; refine (poFinite_c _ _).mono ?_; rw [HV.out]; rintro e w' ⟨rfl, rfl⟩)
              go_roundw
              case rel => exact ⟨0, by omega, by go_num, ⟨y, by go_num, Lib.hid fun h0 => absurd h0 (by omega)⟩, g1, g3, g2, HA⟩
              case measure => simp [intOf]
        · obtain rfl : M = 0 := by omega
          have HR : Hid (pRoots x0 l = (R, true)) := Lib.hid (by rw [H.out, show R.all isFin = true from hall.out]; rfl)
          rw [List.replicate_zero, List.nil_append, List.drop_zero] at hout
          rw [show ((0 : Nat) : Int) - 1 = -1 from rfl]
          go_wp2_with fail
          go_ret2
          rw [HR.out]
          exact retOwnB_mk hout hbel (by omega)
set_option maxRecDepth 8192 in
set_option maxHeartbeats 4000000 in
theorem implPolyFromRoots_c (x0 : Int) (A : Option Addr) (n c : Nat) (l : List Int) (w : World) (h : Rd w w.heap.size A n l) (_hn : n ≤ 1048576) :
    Calls Try.prog 8 #[.int .i64 x0, .slice A n c] w (RetOwnB 3 (pRoots x0 l).1 (pRoots x0 l).2 w) := by
  have HLen := Lib.hid h.len
  cases h1 : isFin x0
  · have H : Hid (pRoots x0 l = ([], false)) := Lib.hid (by rw [pRoots, okRoots, h1]; rfl)
    have H1 := Lib.hid h1
    clear h1
    go_enter Try.func8, Try.ntmps8
    go_wp2_with (go_at_call 20; refine (isFinite_c _ _).mono ?_; rw [H1.out]; rintro e w' ⟨rfl, rfl⟩)
    go_ret2
    rw [H.out]
    exact retOwnB_mk (Own.nil _ _ _) (Below.refl _ _) (by omega)
  by_cases h3 : n ≤ 12
  rotate_left
  · have H : Hid (pRoots x0 l = ([], false)) := Lib.hid (by rw [pRoots, okRoots, HLen.out, decide_eq_false h3, Bool.and_false]; rfl)
    have H1 := Lib.hid h1
    clear h1
    have h3' : (12 : Int) < (n : Int) := by omega
    go_enter Try.func8, Try.ntmps8
    go_wp2_with (go_at_call 20; refine (isFinite_c _ _).mono ?_; rw [H1.out]; rintro e w' ⟨rfl, rfl⟩)
    go_ret2
    rw [H.out]
    exact retOwnB_mk (Own.nil _ _ _) (Below.refl _ _) (by omega)
  have h3' : ¬ (12 : Int) < (n : Int) := by omega
  cases h2 : l.all isFin
  · have H : Hid (pRoots x0 l = ([], false)) := Lib.hid (by rw [pRoots, okRoots, h1, h2]; rfl)
    have H1 := Lib.hid h1
    have H2 := Lib.hid h2
    clear h1 h2
    go_enter Try.func8, Try.ntmps8
    go_wp2_with (first | (go_at_call 20; refine (isFinite_c _ _).mono ?_; rw [H1.out]; rintro e w' ⟨rfl, rfl⟩) | (go_at_call 21; refine (areFinite_c _ _ _ _ _ _ h).mono ?_; rw [H2.out]; rintro e w' ⟨rfl, rfl⟩))
    go_ret2
    rw [H.out]
    exact retOwnB_mk (Own.nil _ _ _) (Below.refl _ _) (by omega)
  have hok : okRoots x0 l = true := by rw [okRoots, h1, h2, HLen.out, decide_eq_true h3]; rfl
  have HPol := Lib.hid (roots_pol hok)
  have H : Hid (pRoots x0 l = if (rootsP x0 (srtS l)).all isFin then (rootsP x0 (srtS l), true) else ([], false)) := Lib.hid (by rw [pRoots, hok]; rfl)
  have hx := (isFin_iff _).1 h1
  have HF0 := Lib.hid fun z hz => (isFin_iff z).1 (List.all_eq_true.1 h2 z hz)
  have H1 := Lib.hid h1
  have H2 := Lib.hid h2
  clear h1 h2 hok
  have own0 := Own.one w x0 3 (Nat.le_refl w.heap.size)
  have bel0 := bel_new w (.cells #[.int .i64 x0] 3)
  have HR0 : Hid (rootsP x0 (srtS (l.take 0)) = [x0]) := Lib.hid (by simp [rootsP, srtS, sumS])
  rw [← HR0.out] at own0
  go_enter Try.func8, Try.ntmps8
  go_wp2_with (first | (go_at_call 20; refine (isFinite_c _ _).mono ?_; rw [H1.out]; rintro e w' ⟨rfl, rfl⟩) | (go_at_call 21; refine (areFinite_c _ _ _ _ _ _ h).mono ?_; rw [H2.out]; rintro e w' ⟨rfl, rfl⟩))
  go_loopw [6, 26] (fun v i wr => ∃ j : Nat, j ≤ n ∧ i = .int .i64 j ∧ Own wr w.heap.size 3 v (j + 1) (rootsP x0 (srtS (l.take j))) ∧ Below w.heap.size w wr) (fun _ i _ => n - (intOf i).toNat)
  case atStart => exact ⟨0, Nat.zero_le _, rfl, own0, bel0⟩
  case round =>
    clear own0 bel0
    obtain ⟨j, hj, rfl, hown, hbel⟩ := hrel
    have hsz := hbel.size
    by_cases hlt : j < n
    · have hjL : j < l.length := by rw [HLen.out]; exact hlt
      have hr0 := HF0.out _ (getD_mem hjL)
      have hS : ∀ z ∈ srtS (l.take j), -1000000 ≤ z ∧ z ≤ 1000000 := fun z hz => HF0.out z (List.mem_of_mem_take ((srtS_mem _ z).1 hz))
      have hSl : (srtS (l.take j)).length ≤ 12 := by rw [srtS_len, List.length_take]; omega
      have HP : Hid (pprod (rootsP x0 (srtS (l.take j))) [l.getD j 0, 0] = rootsP x0 (srtS (l.take (j + 1)))) := Lib.hid (by rw [srtS_take hjL]; exact pprod_roots hx hS hr0 hSl (srtS_srt _))
      have HB := Lib.hid fun z hz => (show -100000000 ≤ z ∧ z ≤ 1000000000 by have := rootsP_bd hx hS hSl z hz; omega)
      clear hS hSl
      obtain ⟨ad, rfl, hab, c0⟩ := (h.below hbel).at_ hlt
      generalize l.getD j 0 = r at *
      obtain ⟨A1, c1, rfl⟩ := hown.shape
      generalize rootsP x0 (srtS (l.take j)) = R at *
      have HQ : Hid (∀ z ∈ [r, 0], -100000000 ≤ z ∧ z ≤ 1000000000) := Lib.hid fun z hz => by
        rcases List.mem_cons.1 hz with e | e
        · omega
        · have : z = 0 := by simpa using e
          omega
      have own1 := hown.new (.cells #[.int .i64 r, .int .i64 0] 3)
      have bel1 := bel_alloc hbel (.cells #[.int .i64 r, .int .i64 0] 3)
      have rd2 := rd_two wr r 0 3
      clear hown hbel
      go_wp2_with fail
      refine (polyProductB_c _ _ _ _ _ _ _ _ _ _ own1.rd rd2 (Nat.le_refl _) HB.out HQ.out (by omega) (by omega) (by omega) (by omega)).mono ?_
      rintro e w2 ⟨A2, n2, c2, rfl, own2, bel2, _⟩
      have hn2 : n2 = j + 1 + 1 := by
        have := own2.len
        rw [HP.out, rootsP_len, srtS_len, List.length_take] at this
        have := HLen.out
        omega
      rw [HP.out, hn2] at own2
      have own2 := own2.more bel1.size
      have bel2 := bel_step bel1 bel2
      subst hn2
      clear own1 bel1
      go_wp2_with fail
      go_roundw
      case rel => exact ⟨j + 1, by omega, by go_num, own2, bel2⟩
      case measure => simp [intOf]; omega
    · have HE : Hid (srtS (l.take j) = srtS l) := Lib.hid (by rw [List.take_of_length_le (by rw [HLen.out]; omega)])
      rw [HE.out] at hown
      obtain ⟨A1, c1, rfl⟩ := hown.shape
      have rd1 := hown.rd
      cases hp : isPol (rootsP x0 (srtS l))
      all_goals
        have HV := Lib.hid hp
        have HG : Hid (pRoots x0 l = if isPol (rootsP x0 (srtS l)) then (rootsP x0 (srtS l), true) else ([], false)) := Lib.hid (by rw [H.out, HPol.out])
        rw [HV.out] at HG
        clear hp
        go_wp2_with (go_at_call 23; refine (toldPoly_c _ _ _ _ _ _ _ HV.out rd1).mono ?_; rintro e w' ⟨rfl, rfl⟩)
        go_ret2
        rw [HG.out]
        first
          | exact retOwnB_mk hown hbel (by omega)
          | exact retOwnB_mk (Own.nil _ _ _) hbel (by omega)
theorem walk_FnExactPolyFromRoots (a0 : Int) (A1 : Option Addr) (n1 c1 : Nat) (z1 : List Int) (w : World) (w0 : (Lit.int .i64 a0).wf = true) (r1 : Rd w w.heap.size A1 n1 z1) :
  Calls Try.prog 3 #[.int .i64 a0, .slice A1 n1 c1] w fun e w' => e = .returned (.bool true) ∧ Below w.heap.size w w' := by
  have _w := w0
  have l1 := r1.le
  by_cases s1 : n1 ≤ 1048576
  rotate_left
  · go_enter Try.func3, Try.ntmps3
    go_wp2_with fail
    go_ret
    exact ⟨rfl, Below.refl _ _⟩
  go_enter Try.func3, Try.ntmps3
  have bel : Below w.heap.size w w := Below.refl _ _
  go_wp2_with fail
  refine (toIntS_c _ _ _ _ _ _ (r1.below bel) bel.size (by omega)).mono ?_
  rintro e u1 ⟨AT1, nT1, cT1, rfl, T1, hb1, qT1⟩
  have bel := bel_step bel hb1
  have sz1 := hb1.size
  have T10 := T1
  have eT1 : nT1 ≤ 1048576 := by have := T1.len; have := r1.len; omega
  go_wp2_with fail
  refine (specPolyFromRoots_c _ _ _ _ _ _ T1.rd eT1).mono ?_
  rintro e u2 ⟨AWr, nWr, cWr, rfl, Wr, hb2, qWr⟩
  have bel := bel_step bel hb2
  have sz2 := hb2.size
  have T1 := T1.go hb2
  have Wr0 := Wr
  go_wp2_with fail
  refine (toIntS_c _ _ _ _ _ _ (r1.below bel) bel.size (by omega)).mono ?_
  rintro e u3 ⟨AX1, nX1, cX1, rfl, X1, hb3, qX1⟩
  have bel := bel_step bel hb3
  have sz3 := hb3.size
  have Wr := Wr.go hb3
  have X10 := X1
  have eX1 : nX1 ≤ 1048576 := by have := X1.len; have := r1.len; omega
  go_wp2_with fail
  refine (implPolyFromRoots_c _ _ _ _ _ _ X1.rd eX1).mono ?_
  rintro e u4 ⟨AGr, nGr, cGr, rfl, Gr, hb4, qGr⟩
  have bel := bel_step bel hb4
  have sz4 := hb4.size
  have Wr := Wr.go hb4
  have X1 := X1.go hb4
  have Gr0 := Gr
  go_wp2_with fail
  refine (eqIntS_c _ _ _ _ _ _ _ _ _ _ Gr.rd Wr.rd).mono ?_
  rintro e u5 ⟨rfl, hb5⟩
  have bel := bel_step bel hb5
  have sz5 := hb5.size
  have Wr := Wr.go hb5
  have X1 := X1.go hb5
  have Gr := Gr.go hb5
  go_wp2_with fail
  refine (toIntS_c _ _ _ _ _ _ (r1.below bel) bel.size (by omega)).mono ?_
  rintro e u6 ⟨AY1, nY1, cY1, rfl, Y1, hb6, qY1⟩
  have bel := bel_step bel hb6
  have sz6 := hb6.size
  have Wr := Wr.go hb6
  have X1 := X1.go hb6
  have Gr := Gr.go hb6
  have Y10 := Y1
  have eY1 : nY1 ≤ 1048576 := by have := Y1.len; have := r1.len; omega
  go_wp2_with fail
  refine (eqIntS_c _ _ _ _ _ _ _ _ _ _ X1.rd Y1.rd).mono ?_
  rintro e u7 ⟨rfl, hb7⟩
  have bel := bel_step bel hb7
  have sz7 := hb7.size
  have Wr := Wr.go hb7
  have X1 := X1.go hb7
  have Gr := Gr.go hb7
  have Y1 := Y1.go hb7
  go_wp2_with fail
  refine (markIntS_c _ _ _ _ _ _ _ X1 (by omega) (by omega) (by omega)).mono ?_
  rintro e u8 ⟨rfl, X1, hg8⟩
  have bel := bel.grown hg8 bel.size fun g hg => by have := (X10.lt g hg).1; omega
  have sz8 := hg8.size
  have Wr := Wr.kept hg8 (blk_ne Wr0.lt X10.lt (by omega))
  have Gr := Gr.kept hg8 (blk_ne' X10.lt Gr0.lt (by omega))
  go_wp2_with fail
  refine (eqIntS_c _ _ _ _ _ _ _ _ _ _ Gr.rd Wr.rd).mono ?_
  rintro e u9 ⟨rfl, hb9⟩
  have bel := bel_step bel hb9
  have sz9 := hb9.size
  have Wr := Wr.go hb9
  have X1 := X1.go hb9
  have Gr := Gr.go hb9
  go_wp2_with fail
  refine (markIntS_c _ _ _ _ _ _ _ Gr (by omega) (by omega) (by omega)).mono ?_
  rintro e u10 ⟨rfl, Gr, hg10⟩
  have bel := bel.grown hg10 bel.size fun g hg => by have := (Gr0.lt g hg).1; omega
  have sz10 := hg10.size
  have Wr := Wr.kept hg10 (blk_ne Wr0.lt Gr0.lt (by omega))
  go_wp2_with fail
  refine (heldIntS_c _ _ _ _ _ _ Gr.rd (by omega) (by omega) (by omega)).mono ?_
  rintro e u11 ⟨rfl, hb11⟩
  have bel := bel_step bel hb11
  have sz11 := hb11.size
  have Wr := Wr.go hb11
  have Gr := Gr.go hb11
  go_wp2_with fail
  refine (toIntS_c _ _ _ _ _ _ (r1.below bel) bel.size (by omega)).mono ?_
  rintro e u12 ⟨AZ1, nZ1, cZ1, rfl, Z1, hb12, qZ1⟩
  have bel := bel_step bel hb12
  have sz12 := hb12.size
  have Wr := Wr.go hb12
  have Gr := Gr.go hb12
  have Z10 := Z1
  have eZ1 : nZ1 ≤ 1048576 := by have := Z1.len; have := r1.len; omega
  go_wp2_with fail
  refine (implPolyFromRoots_c _ _ _ _ _ _ Z1.rd eZ1).mono ?_
  rintro e u13 ⟨AHr, nHr, cHr, rfl, Hr, hb13, qHr⟩
  have bel := bel_step bel hb13
  have sz13 := hb13.size
  have Wr := Wr.go hb13
  have Gr := Gr.go hb13
  have Z1 := Z1.go hb13
  have Hr0 := Hr
  go_wp2_with fail
  refine (eqIntS_c _ _ _ _ _ _ _ _ _ _ Hr.rd Wr.rd).mono ?_
  rintro e u14 ⟨rfl, hb14⟩
  have bel := bel_step bel hb14
  have sz14 := hb14.size
  have Wr := Wr.go hb14
  have Gr := Gr.go hb14
  have Hr := Hr.go hb14
  go_wp2_with fail
  refine (heldIntS_c _ _ _ _ _ _ Gr.rd (by omega) (by omega) (by omega)).mono ?_
  rintro e u15 ⟨rfl, hb15⟩
  have bel := bel_step bel hb15
  have sz15 := hb15.size
  have Wr := Wr.go hb15
  have Gr := Gr.go hb15
  have Hr := Hr.go hb15
  go_wp2_with fail
  go_ret
  exact ⟨rfl, bel⟩
end Go.Proofs.Ytfmlclciijlpkaa
