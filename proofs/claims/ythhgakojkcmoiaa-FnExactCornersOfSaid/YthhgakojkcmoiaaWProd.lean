/- The laws on products and powers of polynomials: both packages' functions against plain ones, and the walk of each law. -/
import Derived.Test.YthhgakojkcmoiaaPoly
import Derived.Test.YthhgakojkcmoiaaMem
import Derived.StillTailTactics
namespace Go.Proofs.Ythhgakojkcmoiaa
open Go.RowKit
/- The product by rows: what the row-wise loop has put at place n. -/
def rowAt (p q : List Int) (i k n : Nat) : Int := if i ≤ n ∧ n < i + k then convTo p q n (i + 1) else convTo p q n i
def rowsTo (p q : List Int) (i k m : Nat) : List Int := (List.range m).map (rowAt p q i k)
theorem rowsTo_len (p q : List Int) (i k m : Nat) : (rowsTo p q i k m).length = m := by simp [rowsTo]
theorem rowsTo_at {p q : List Int} {i k m n : Nat} (h : n < m) : (rowsTo p q i k m).getD n 0 = rowAt p q i k n := by simp [rowsTo, List.getD, h]
theorem rowsTo_zero (p q : List Int) (m : Nat) : rowsTo p q 0 0 m = List.replicate m 1000000000 := by
  apply List.ext_getElem?
  intro n
  by_cases h : n < m
  · simp [rowsTo, rowAt, convTo, h]
  · simp [rowsTo, h]
/-- One row is done. -/
theorem rowsTo_row (p q : List Int) (i m : Nat)  : rowsTo p q i q.length m = rowsTo p q (i + 1) 0 m := by
  unfold rowsTo
  refine List.map_congr_left fun n hn => ?_
  have hn' : n < m := by simpa using hn
  unfold rowAt
  rw [if_neg (show ¬ (i + 1 ≤ n ∧ n < i + 1 + 0) by omega)]
  by_cases h : i ≤ n ∧ n < i + q.length
  · rw [if_pos h]
  · rw [if_neg h, convTo]
    by_cases h2 : i ≤ n
    · rw [if_pos h2]
      have h3 : prod (coef p i) (coef q (n - i)) = 1000000000 := by rw [prod, if_pos (.inr (coef_out (by omega)))]
      have := convTo_le p q n i
      omega
    · rw [if_neg h2]
/-- One step within a row. -/
theorem rowsTo_step (p q : List Int) (i k m : Nat) (_hm : i + k < m) : (rowsTo p q i k m).set (i + k) (min (convTo p q (i + k) i) (prod (coef p i) (coef q k))) = rowsTo p q i (k + 1) m := by
  apply List.ext_getElem?
  intro n
  rw [List.getElem?_set]
  by_cases hn : i + k = n
  · subst hn
    rw [if_pos rfl]
    simp only [rowsTo, List.length_map, List.length_range, List.getElem?_map, List.getElem?_range _hm, _hm, if_true, Option.map_some, rowAt]
    rw [if_pos (by omega), convTo, if_pos (by omega), Nat.add_sub_cancel_left]
  · rw [if_neg hn]
    by_cases h : n < m
    · simp only [rowsTo, List.getElem?_map, List.getElem?_range h, Option.map_some, rowAt]
      by_cases h2 : i ≤ n ∧ n < i + k
      · rw [if_pos h2, if_pos (by omega)]
      · rw [if_neg h2, if_neg (by omega)]
    · simp [rowsTo, h]
theorem rowsTo_all (p q : List Int) (m : Nat) : rowsTo p q p.length 0 m = pprodTo p q m := by
  induction m with
  | zero => rfl
  | succ m ih =>
    rw [pprodTo, ← ih]
    simp only [rowsTo, List.range_succ, List.map_append, List.map_cons, List.map_nil]
    congr 2
    rw [rowAt, if_neg (by omega), convTo_all]
theorem replicate_step {m k : Nat} (hk : k < m) : (List.replicate k (1000000000 : Int) ++ List.replicate (m - k) 0).set k 1000000000 = List.replicate (k + 1) 1000000000 ++ List.replicate (m - (k + 1)) 0 := by
  rw [List.set_append_right _ _ (by simp), List.length_replicate, Nat.sub_self, show m - k = (m - (k + 1)) + 1 from by omega, List.replicate_succ, List.set_cons_zero, List.replicate_succ']
  simp
theorem Own.getAt {w : World} {B g n c : Nat} {E : TypeId} {zs : List Int} (h : Own w B E (.slice (some ⟨g, 0, none⟩) n c) n zs) (j : Nat) (hj : j < n) : w.cell? ⟨g, j, none⟩ = some (.int .i64 (zs.getD j 0)) := by
  rw [World.ownsRow.cellAt h j (by omega)]
  have := h.len
  simp [List.getD, List.getElem?_eq_getElem (show j < zs.length by omega)]
theorem still_of {P : Program} {f : FuncId} {args : Array Value} {w : World} {v : Value} (h : Calls P f args w fun e w' => e = .returned v ∧ w = w') : Calls P f args w fun e w' => e = .returned v ∧ w' = w :=
  h.mono fun _ _ ⟨a, b⟩ => ⟨a, b.symm⟩
set_option maxRecDepth 8192 in
set_option maxHeartbeats 4000000 in
theorem polyProduct_c (A : Option Addr) (n c : Nat) (p : List Int) (A' : Option Addr) (n' c' : Nat) (q : List Int) (B : Nat) (w : World) (h : Rd w B A n p) (h' : Rd w B A' n' q) (hB : B ≤ w.heap.size)
    (hp : p.all isNum = true) (hq : q.all isNum = true) (hn : 1 ≤ n) (hn2 : n ≤ 1000) (hn' : 1 ≤ n') (hn2' : n' ≤ 1000) :
    Calls Try.prog 65 #[.slice A n c, .slice A' n' c'] w (RetOwn 3 (pprod p q) w) := by
  obtain ⟨m, hm⟩ : ∃ m : Nat, m + 1 = n + n' := ⟨n + n' - 1, by omega⟩
  have HL := Lib.hid h.len
  have HL' := Lib.hid h'.len
  have HA := Lib.hid hp
  have HA' := Lib.hid hq
  have HR : Hid (pprod p q = pprodTo p q m) := Lib.hid (by rw [pprod, HL.out, HL'.out]; congr 1; omega)
  have hb1 : m < n + n' := by omega
  have hb2 : n + n' ≤ m + 1 := by omega
  clear hp hq hm
  obtain ⟨i0, hi, hz0, hz1, hz2⟩ := info_parts info_int
  have HI := Lib.hid hi
  have HZ0 := Lib.hid hz0
  have HZ1 := Lib.hid hz1
  have HZ2 := Lib.hid hz2
  clear hi hz0 hz1 hz2
  go_enter Try.func65, Try.ntmps65
  go_wp2_with (at_make; refine wp_mkn rfl _ _ 22 rfl w.heap.size 3 i0 Try.underlying22 HI.out HZ0.out HZ1.out HZ2.out _ _ _ _ m rfl rfl (by omega) (by omega) (by omega) (Nat.le_refl _) ?_)
  intro w0 own0 bel0
  go_wp2_with fail
  go_loopw [20] (fun i wr => ∃ k : Nat, k ≤ m ∧ i = .int .i64 k ∧ Own wr w.heap.size 3 (.slice (some ⟨w.heap.size, 0, none⟩) m m) m (List.replicate k (1000000000 : Int) ++ List.replicate (m - k) 0) ∧ Below w.heap.size w wr) (fun i _ => m - (intOf i).toNat)
  case atStart => exact ⟨0, Nat.zero_le _, rfl, by simpa using own0, bel0⟩
  case round =>
    obtain ⟨k, hk, rfl, hown, hbel⟩ := hrel
    by_cases hlt : k < m
    · have hfz := hown.frozenAt k
      obtain ⟨u, hu⟩ := hown.cellAt k hlt
      have g1 := own_eq (hown.set_ k 1000000000) (replicate_step hlt)
      have g2 := hbel.setCell (p := ⟨w.heap.size, k, none⟩) (Nat.le_refl _) (.int .i64 1000000000)
      clear hown hbel own0 bel0
      go_wp2_with fail
      go_roundw
      case rel => exact ⟨k + 1, by omega, by go_num, g1, g2⟩
      case measure => simp [intOf]; omega
    · have hrow := own_eq (zs' := rowsTo p q 0 0 m) hown (by rw [rowsTo_zero, show m - k = 0 from by omega, show k = m from by omega]; simp)
      clear hown own0 bel0
      go_wp2_with fail
      obtain ⟨wo, rfl⟩ : ∃ wo : World, wo = wr := ⟨_, rfl⟩
      go_loopw [29] (fun i wr => ∃ r : Nat, r ≤ n ∧ i = .int .i64 r ∧ Own wr w.heap.size 3 (.slice (some ⟨w.heap.size, 0, none⟩) m m) m (rowsTo p q r 0 m) ∧ Below w.heap.size w wr) (fun i _ => n - (intOf i).toNat)
      case atStart => exact ⟨0, Nat.zero_le _, rfl, hrow, hbel⟩
      case round =>
        clear hrow hbel
        obtain ⟨r, hr, rfl, hown, hbel⟩ := hrel
        by_cases hlr : r < n
        · have hrp : r < p.length := by rw [HL.out]; exact hlr
          have bp := isNum_bd (List.all_eq_true.1 HA.out _ (getD_mem hrp))
          have HC : Hid (coef p r = p.getD r 0) := Lib.hid (coef_in hrp)
          obtain ⟨ad, rfl, hab, hc⟩ := (h.below (hbel.mono hB)).at_ hlr
          generalize p.getD r 0 = x at *
          go_wp2_with fail
          obtain ⟨wi, rfl⟩ : ∃ wi : World, wi = wr := ⟨_, rfl⟩
          go_loopw [36] (fun i wr => ∃ k : Nat, k ≤ n' ∧ i = .int .i64 k ∧ Own wr w.heap.size 3 (.slice (some ⟨w.heap.size, 0, none⟩) m m) m (rowsTo p q r k m) ∧ Below w.heap.size w wr) (fun i _ => n' - (intOf i).toNat)
          case atStart => exact ⟨0, Nat.zero_le _, rfl, hown, hbel⟩
          case round =>
            clear hown hbel hc
            obtain ⟨k, hk', rfl, hown, hbel⟩ := hrel
            by_cases hlk : k < n'
            · have hkq : k < q.length := by rw [HL'.out]; exact hlk
              have bq := isNum_bd (List.all_eq_true.1 HA'.out _ (getD_mem hkq))
              have HC' : Hid (coef q k = q.getD k 0) := Lib.hid (coef_in hkq)
              obtain ⟨ad', rfl, _, hc'⟩ := (h'.below (hbel.mono hB)).at_ hlk
              have hrk : r + k < m := by omega
              have hfz := hown.frozenAt (r + k)
              have hu := hown.getAt (r + k) hrk
              rw [rowsTo_at hrk, rowAt, if_neg (by omega)] at hu
              have g1 := own_eq (hown.set_ (r + k) (min (convTo p q (r + k) r) (prod (coef p r) (coef q k)))) (rowsTo_step p q r k m hrk)
              have g2 := hbel.setCell (p := ⟨w.heap.size, r + k, none⟩) (Nat.le_refl _) (.int .i64 (min (convTo p q (r + k) r) (prod (coef p r) (coef q k))))
              rw [HC.out, HC'.out] at g1 g2
              generalize q.getD k 0 = y at *
              generalize convTo p q (r + k) r = z at *
              have e1 : IntKind.i64.wrap ((r : Int) + (k : Int)) = (r : Int) + (k : Int) := IntWalk.i64_in _ (by omega)
              have e2 : ((r : Int) + (k : Int)).toNat = r + k := by omega
              have e3 : (0 : Int) ≤ (r : Int) + (k : Int) := by omega
              have e4 : (r : Int) + (k : Int) < (m : Int) := by omega
              clear hown hbel
              by_cases hmin : prod x y < z
              all_goals
                first | rw [Int.min_eq_right (Int.le_of_lt hmin)] at g1 g2 | rw [Int.min_eq_left (Int.not_lt.1 hmin)] at g1 g2
                go_wp2_with fail
                refine wp_region_still_tail 15 (by kernel_rfl) (by kernel_rfl) ?_
                simp only [List.take_succ_cons, List.take_zero, List.drop_succ_cons, List.drop_zero]
                still_step
                still_step
                still_step
                still_step
                still_step
                still_step
                still_step
                still_step
                still_step
                still_step
                still_step
                still_step
                still_call (still_of (product_c x y _ (by omega) (by omega) (by omega) (by omega)))
                iterate 2 still_step
                refine wpStill_nil ?_
                go_wp2_with fail
                go_roundw
                case rel => exact ⟨k + 1, by omega, by go_num, g1, g2.drew⟩
                case measure => simp [intOf]; omega
            · have hnext := own_eq (zs' := rowsTo p q (r + 1) 0 m) hown (by rw [← rowsTo_row, HL'.out, show k = n' from by omega])
              clear hown
              go_wp2_with fail
              go_roundw
              case rel => exact ⟨r + 1, by omega, by go_num, hnext, hbel⟩
              case measure => simp [intOf]; omega
        · have hend := own_eq (zs' := pprod p q) hown (by rw [HR.out, ← rowsTo_all, HL.out, show r = n from by omega])
          clear hown
          go_wp2_with fail
          go_ret
          exact retOwn_mk hend hbel (by omega)
set_option maxHeartbeats 4000000 in
theorem poProduct_c (A : Option Addr) (n c : Nat) (p : List Int) (A' : Option Addr) (n' c' : Nat) (q : List Int) (B : Nat) (w : World) (h : Rd w B A n p) (h' : Rd w B A' n' q) (hB : B ≤ w.heap.size)
    (hp : p.all isNum = true) (hq : q.all isNum = true) (hn : 1 ≤ n) (hn2 : n ≤ 1000) (hn' : 1 ≤ n') (hn2' : n' ≤ 1000) :
    Calls Try.prog 66 #[.slice A n c, .slice A' n' c'] w (RetOwnB 3 (toldPol (pprod p q)).1 (toldPol (pprod p q)).2 w) := by
  obtain ⟨m, hm⟩ : ∃ m : Nat, m + 1 = n + n' := ⟨n + n' - 1, by omega⟩
  have HL := Lib.hid h.len
  have HL' := Lib.hid h'.len
  have HA := Lib.hid hp
  have HA' := Lib.hid hq
  have HR : Hid (pprod p q = pprodTo p q m) := Lib.hid (by rw [pprod, HL.out, HL'.out]; congr 1; omega)
  have hb1 : m < n + n' := by omega
  have hb2 : n + n' ≤ m + 1 := by omega
  have e0 : IntKind.i64.wrap ((n : Int) + (n' : Int)) = (n : Int) + (n' : Int) := IntWalk.i64_in _ (by omega)
  have HE : Hid (((n : Int) + (n' : Int) - 1) = (m : Int)) := Lib.hid (by omega)
  clear hp hq hm
  obtain ⟨i0, hi, hz0, hz1, hz2⟩ := info_parts info_int
  have HI := Lib.hid hi
  have HZ0 := Lib.hid hz0
  have HZ1 := Lib.hid hz1
  have HZ2 := Lib.hid hz2
  clear hi hz0 hz1 hz2
  cases hP : isPol (pprod p q)
  all_goals
    have HP := Lib.hid hP
    clear hP
    go_enter Try.func66, Try.ntmps66
    go_wp2_with fail
    go_loopw [6, 7] (fun v i wr => ∃ k : Nat, k ≤ m ∧ i = .int .i64 k ∧ Own wr w.heap.size 3 v k (pprodTo p q k) ∧ Below w.heap.size w wr) (fun _ i _ => m - (intOf i).toNat)
    case atStart => exact ⟨0, Nat.zero_le _, rfl, Own.nil _ _ _, Below.refl _ _⟩
    case round =>
      obtain ⟨k, hk, rfl, hown, hbel⟩ := hrel
      have hsz := hbel.size
      have hr := h.below (hbel.mono hB)
      have hr' := h'.below (hbel.mono hB)
      by_cases hlt : k < m
      · have HS : Hid (pprodTo p q (k + 1) = pprodTo p q k ++ [convTo p q k (k + 1)]) := Lib.hid rfl
        have ek : (k : Int) < (n : Int) + (n' : Int) - 1 := by omega
        go_wp2_with fail
        go_loopw [8, 9] (fun v i wx => ∃ j : Nat, j ≤ k + 1 ∧ i = .int .i64 j ∧ v = .int .i64 (convTo p q k j) ∧ wx = wr) (fun _ i _ => k + 1 - (intOf i).toNat)
        case atStart => exact ⟨0, Nat.zero_le _, rfl, rfl, rfl⟩
        case round =>
          obtain ⟨j, hj, rfl, rfl, rfl⟩ := hrel
          by_cases hlj : j < k + 1
          · have HC : Hid (convTo p q k (j + 1) = min (convTo p q k j) (prod (coef p j) (coef q (k - j)))) := Lib.hid (by rw [convTo, if_pos (by omega)])
            have b1 := isNum_bd (coef_num HA.out j)
            have b2 := isNum_bd (coef_num HA'.out (k - j))
            have ej : (j : Int) ≤ (k : Int) := by omega
            have HJ : Hid (((k : Int) - (j : Int)).toNat = k - j) := Lib.hid (by omega)
            go_wp2_with fail
            refine (poAt_c _ _ _ _ _ _ _ hr (by omega) (by omega)).mono ?_; rintro e w' ⟨rfl, rfl⟩
            go_wp2_with fail
            refine (poAt_c _ _ _ _ _ _ _ hr' (by omega) (by omega)).mono ?_; rintro e w' ⟨rfl, rfl⟩
            rw [HJ.out]
            generalize coef p j = x at *
            generalize coef q (k - j) = y at *
            go_wp2_with fail
            refine (nuPlus_c _ _ _ (by omega) (by omega) (by omega) (by omega)).mono ?_; rintro e w' ⟨rfl, rfl⟩
            go_wp2_with fail
            refine (l1Least_c _ _ _).mono ?_; rintro e w' ⟨rfl, rfl⟩
            rw [← HC.out]
            go_wp2_with fail
            go_roundw
            case rel => exact ⟨j + 1, by omega, by go_num, rfl, trivial⟩
            case measure => simp [intOf]; omega
          · have ej : (k : Int) < (j : Int) := by omega
            obtain rfl : j = k + 1 := by omega
            go_wp2_with (at_builtin; refine wp_app1 rfl _ _ 22 rfl w.heap.size 3 i0 Try.underlying22 HI.out HZ0.out HZ1.out HZ2.out _ _ _ rfl hown _ rfl (by omega) hsz ?_)
            intro v' w1 h1 hb1 _
            have hbel' := hbel.trans hb1
            rw [← HS.out] at h1
            clear hown hbel hb1 hr hr'
            go_wp2_with fail
            go_roundw
            case rel => exact ⟨k + 1, by omega, by go_num, h1, hbel'⟩
            case measure => simp [intOf]; omega
      · obtain rfl : k = m := by omega
        have ek : ¬ (k : Int) < (n : Int) + (n' : Int) - 1 := by omega
        rw [← HR.out] at hown
        obtain ⟨A1, c1, rfl⟩ := hown.shape
        go_wp2_with fail
        refine (poGood_c _ _ _ _ _ _ hown.rd).mono ?_; rw [HP.out]; rintro e w' ⟨rfl, rfl⟩
        go_wp2_with fail
        go_ret2
        first
        | (rw [show toldPol (pprod p q) = (pprod p q, true) from by rw [toldPol, if_pos HP.out]]; exact retOwnB_mk hown hbel (by omega))
        | (rw [show toldPol (pprod p q) = ([], false) from by rw [toldPol, if_neg (by rw [HP.out]; simp)]]; exact retOwnB_mk (Own.nil _ _ _) hbel (by omega))
set_option maxHeartbeats 4000000 in
theorem specPolyProduct_c (A : Option Addr) (n c : Nat) (p : List Int) (A' : Option Addr) (n' c' : Nat) (q : List Int) (w : World) (h : Rd w w.heap.size A n p) (_hn : n ≤ 1048576) (h' : Rd w w.heap.size A' n' q) (_hn' : n' ≤ 1048576) :
    Calls Try.prog 31 #[.slice A n c, .slice A' n' c'] w (RetOwnB 3 (pPolyProduct p q).1 (pPolyProduct p q).2 w) := by
  cases hp : isPol p <;> cases hq : isPol q
  case true.true =>
    have H : Hid (pPolyProduct p q = toldPol (pprod p q)) := Lib.hid (by rw [pPolyProduct, hp, hq]; rfl)
    have hl := isPol_len hp
    have hl' := isPol_len hq
    have HN := Lib.hid (show p.length = n from h.len)
    have HN' := Lib.hid (show q.length = n' from h'.len)
    rw [HN.out] at hl
    rw [HN'.out] at hl'
    have HA := Lib.hid (isPol_all hp)
    have HA' := Lib.hid (isPol_all hq)
    have HP := Lib.hid hp
    have HQ := Lib.hid hq
    clear hp hq
    go_enter Try.func31, Try.ntmps31
    go_wp2_with fail
    refine (poGood_c _ _ _ _ _ _ h).mono ?_; rw [HP.out]; rintro e w' ⟨rfl, rfl⟩
    go_wp2_with fail
    refine (poGood_c _ _ _ _ _ _ h').mono ?_; rw [HQ.out]; rintro e w' ⟨rfl, rfl⟩
    go_wp2_with fail
    refine (poProduct_c _ _ _ _ _ _ _ _ _ _ h h' (Nat.le_refl _) HA.out HA'.out (by omega) (by omega) (by omega) (by omega)).mono ?_; rintro e w1 ⟨A1, n1, c1, rfl, own, bel, hn1⟩
    go_wp2_with fail
    go_ret2
    rw [H.out]
    exact retOwnB_mk own bel hn1
  all_goals
    have H : Hid (pPolyProduct p q = ([], false)) := Lib.hid (by rw [pPolyProduct, hp, hq]; rfl)
    have HP := Lib.hid hp
    have HQ := Lib.hid hq
    clear hp hq
    go_enter Try.func31, Try.ntmps31
    go_wp2_with fail
    refine (poGood_c _ _ _ _ _ _ h).mono ?_; rw [HP.out]; rintro e w' ⟨rfl, rfl⟩
    go_wp2_with (go_at_call 45; refine (poGood_c _ _ _ _ _ _ h').mono ?_; rw [HQ.out]; rintro e w' ⟨rfl, rfl⟩)
    go_ret2
    rw [H.out]
    exact retOwnB_mk (Own.nil _ _ _) (Below.refl _ _) (by omega)
set_option maxHeartbeats 4000000 in
theorem implPolyProduct_c (A : Option Addr) (n c : Nat) (p : List Int) (A' : Option Addr) (n' c' : Nat) (q : List Int) (w : World) (h : Rd w w.heap.size A n p) (_hn : n ≤ 1048576) (h' : Rd w w.heap.size A' n' q) (_hn' : n' ≤ 1048576) :
    Calls Try.prog 32 #[.slice A n c, .slice A' n' c'] w (RetOwnB 3 (pPolyProduct p q).1 (pPolyProduct p q).2 w) := by
  cases hp : isPol p <;> cases hq : isPol q
  case true.true =>
    have H : Hid (pPolyProduct p q = toldPol (pprod p q)) := Lib.hid (by rw [pPolyProduct, hp, hq]; rfl)
    have hl := isPol_len hp
    have hl' := isPol_len hq
    have HN := Lib.hid (show p.length = n from h.len)
    have HN' := Lib.hid (show q.length = n' from h'.len)
    rw [HN.out] at hl
    rw [HN'.out] at hl'
    have HA := Lib.hid (isPol_all hp)
    have HA' := Lib.hid (isPol_all hq)
    have HP := Lib.hid hp
    have HQ := Lib.hid hq
    clear hp hq
    cases hR : isPol (pprod p q)
    all_goals
      have HR := Lib.hid hR
      clear hR
      go_enter Try.func32, Try.ntmps32
      go_wp2_with fail
      refine (isPoly_c _ _ _ _ _ _ h).mono ?_; rw [HP.out]; rintro e w' ⟨rfl, rfl⟩
      go_wp2_with fail
      refine (isPoly_c _ _ _ _ _ _ h').mono ?_; rw [HQ.out]; rintro e w' ⟨rfl, rfl⟩
      go_wp2_with fail
      refine (polyProduct_c _ _ _ _ _ _ _ _ _ _ h h' (Nat.le_refl _) HA.out HA'.out (by omega) (by omega) (by omega) (by omega)).mono ?_; rintro e w1 ⟨A1, n1, c1, rfl, own, bel, hn1⟩
      go_wp2_with fail
      refine (toldPoly_c _ _ _ _ _ _ _ HR.out own.rd).mono ?_; rintro e w' ⟨rfl, rfl⟩
      go_wp2_with fail
      go_ret2
      rw [H.out]
      first
      | (rw [show toldPol (pprod p q) = (pprod p q, true) from by rw [toldPol, if_pos HR.out]]; exact retOwnB_mk own bel hn1)
      | (rw [show toldPol (pprod p q) = ([], false) from by rw [toldPol, if_neg (by rw [HR.out]; simp)]]; exact retOwnB_mk (Own.nil _ _ _) bel (by omega))
  all_goals
    have H : Hid (pPolyProduct p q = ([], false)) := Lib.hid (by rw [pPolyProduct, hp, hq]; rfl)
    have HP := Lib.hid hp
    have HQ := Lib.hid hq
    clear hp hq
    go_enter Try.func32, Try.ntmps32
    go_wp2_with fail
    refine (isPoly_c _ _ _ _ _ _ h).mono ?_; rw [HP.out]; rintro e w' ⟨rfl, rfl⟩
    go_wp2_with (go_at_call 46; refine (isPoly_c _ _ _ _ _ _ h').mono ?_; rw [HQ.out]; rintro e w' ⟨rfl, rfl⟩)
    go_ret2
    rw [H.out]
    exact retOwnB_mk (Own.nil _ _ _) (Below.refl _ _) (by omega)
theorem walk_FnExactPolyProduct (A0 : Option Addr) (n0 c0 : Nat) (z0 : List Int) (A1 : Option Addr) (n1 c1 : Nat) (z1 : List Int) (w : World) (r0 : Rd w w.heap.size A0 n0 z0) (r1 : Rd w w.heap.size A1 n1 z1) :
  Calls Try.prog 9 #[.slice A0 n0 c0, .slice A1 n1 c1] w fun e w' => e = .returned (.bool true) ∧ Below w.heap.size w w' := by
  have l0 := r0.le
  by_cases s0 : n0 ≤ 1048576
  rotate_left
  · go_enter Try.func9, Try.ntmps9
    go_wp2_with fail
    go_ret
    exact ⟨rfl, Below.refl _ _⟩
  have l1 := r1.le
  by_cases s1 : n1 ≤ 1048576
  rotate_left
  · go_enter Try.func9, Try.ntmps9
    go_wp2_with fail
    go_ret
    exact ⟨rfl, Below.refl _ _⟩
  go_enter Try.func9, Try.ntmps9
  have bel : Below w.heap.size w w := Below.refl _ _
  go_wp2_with fail
  refine (toIntS_c _ _ _ _ _ _ (r0.below bel) bel.size (by omega)).mono ?_
  rintro e u1 ⟨AT0, nT0, cT0, rfl, T0, hb1, qT0⟩
  have bel := bel_step bel hb1
  have sz1 := hb1.size
  have T00 := T0
  have eT0 : nT0 ≤ 1048576 := by have := T0.len; have := r0.len; omega
  go_wp2_with fail
  refine (toIntS_c _ _ _ _ _ _ (r1.below bel) bel.size (by omega)).mono ?_
  rintro e u2 ⟨AT1, nT1, cT1, rfl, T1, hb2, qT1⟩
  have bel := bel_step bel hb2
  have sz2 := hb2.size
  have T0 := T0.go hb2
  have T10 := T1
  have eT1 : nT1 ≤ 1048576 := by have := T1.len; have := r1.len; omega
  go_wp2_with fail
  refine (specPolyProduct_c _ _ _ _ _ _ _ _ _ T0.rd eT0 T1.rd eT1).mono ?_
  rintro e u3 ⟨AWr, nWr, cWr, rfl, Wr, hb3, qWr⟩
  have bel := bel_step bel hb3
  have sz3 := hb3.size
  have T0 := T0.go hb3
  have T1 := T1.go hb3
  have Wr0 := Wr
  go_wp2_with fail
  refine (toIntS_c _ _ _ _ _ _ (r0.below bel) bel.size (by omega)).mono ?_
  rintro e u4 ⟨AX0, nX0, cX0, rfl, X0, hb4, qX0⟩
  have bel := bel_step bel hb4
  have sz4 := hb4.size
  have Wr := Wr.go hb4
  have X00 := X0
  have eX0 : nX0 ≤ 1048576 := by have := X0.len; have := r0.len; omega
  go_wp2_with fail
  refine (toIntS_c _ _ _ _ _ _ (r1.below bel) bel.size (by omega)).mono ?_
  rintro e u5 ⟨AX1, nX1, cX1, rfl, X1, hb5, qX1⟩
  have bel := bel_step bel hb5
  have sz5 := hb5.size
  have Wr := Wr.go hb5
  have X0 := X0.go hb5
  have X10 := X1
  have eX1 : nX1 ≤ 1048576 := by have := X1.len; have := r1.len; omega
  go_wp2_with fail
  refine (implPolyProduct_c _ _ _ _ _ _ _ _ _ X0.rd eX0 X1.rd eX1).mono ?_
  rintro e u6 ⟨AGr, nGr, cGr, rfl, Gr, hb6, qGr⟩
  have bel := bel_step bel hb6
  have sz6 := hb6.size
  have Wr := Wr.go hb6
  have X0 := X0.go hb6
  have X1 := X1.go hb6
  have Gr0 := Gr
  go_wp2_with fail
  refine (eqIntS_c _ _ _ _ _ _ _ _ _ _ Gr.rd Wr.rd).mono ?_
  rintro e u7 ⟨rfl, hb7⟩
  have bel := bel_step bel hb7
  have sz7 := hb7.size
  have Wr := Wr.go hb7
  have X0 := X0.go hb7
  have X1 := X1.go hb7
  have Gr := Gr.go hb7
  go_wp2_with fail
  refine (toIntS_c _ _ _ _ _ _ (r0.below bel) bel.size (by omega)).mono ?_
  rintro e u8 ⟨AY0, nY0, cY0, rfl, Y0, hb8, qY0⟩
  have bel := bel_step bel hb8
  have sz8 := hb8.size
  have Wr := Wr.go hb8
  have X0 := X0.go hb8
  have X1 := X1.go hb8
  have Gr := Gr.go hb8
  have Y00 := Y0
  have eY0 : nY0 ≤ 1048576 := by have := Y0.len; have := r0.len; omega
  go_wp2_with fail
  refine (eqIntS_c _ _ _ _ _ _ _ _ _ _ X0.rd Y0.rd).mono ?_
  rintro e u9 ⟨rfl, hb9⟩
  have bel := bel_step bel hb9
  have sz9 := hb9.size
  have Wr := Wr.go hb9
  have X0 := X0.go hb9
  have X1 := X1.go hb9
  have Gr := Gr.go hb9
  have Y0 := Y0.go hb9
  go_wp2_with fail
  refine (toIntS_c _ _ _ _ _ _ (r1.below bel) bel.size (by omega)).mono ?_
  rintro e u10 ⟨AY1, nY1, cY1, rfl, Y1, hb10, qY1⟩
  have bel := bel_step bel hb10
  have sz10 := hb10.size
  have Wr := Wr.go hb10
  have X0 := X0.go hb10
  have X1 := X1.go hb10
  have Gr := Gr.go hb10
  have Y10 := Y1
  have eY1 : nY1 ≤ 1048576 := by have := Y1.len; have := r1.len; omega
  go_wp2_with fail
  refine (eqIntS_c _ _ _ _ _ _ _ _ _ _ X1.rd Y1.rd).mono ?_
  rintro e u11 ⟨rfl, hb11⟩
  have bel := bel_step bel hb11
  have sz11 := hb11.size
  have Wr := Wr.go hb11
  have X0 := X0.go hb11
  have X1 := X1.go hb11
  have Gr := Gr.go hb11
  have Y1 := Y1.go hb11
  go_wp2_with fail
  refine (markIntS_c _ _ _ _ _ _ _ X0 (by omega) (by omega) (by omega)).mono ?_
  rintro e u12 ⟨rfl, X0, hg12⟩
  have bel := bel.grown hg12 bel.size fun g hg => by have := (X00.lt g hg).1; omega
  have sz12 := hg12.size
  have Wr := Wr.kept hg12 (own_ne Wr0 X00 (by omega))
  have X1 := X1.kept hg12 (own_ne' X00 X10 (by omega))
  have Gr := Gr.kept hg12 (own_ne' X00 Gr0 (by omega))
  go_wp2_with fail
  refine (markIntS_c _ _ _ _ _ _ _ X1 (by omega) (by omega) (by omega)).mono ?_
  rintro e u13 ⟨rfl, X1, hg13⟩
  have bel := bel.grown hg13 bel.size fun g hg => by have := (X10.lt g hg).1; omega
  have sz13 := hg13.size
  have Wr := Wr.kept hg13 (own_ne Wr0 X10 (by omega))
  have X0 := X0.kept hg13 (own_ne X00 X10 (by omega))
  have Gr := Gr.kept hg13 (own_ne' X10 Gr0 (by omega))
  go_wp2_with fail
  refine (eqIntS_c _ _ _ _ _ _ _ _ _ _ Gr.rd Wr.rd).mono ?_
  rintro e u14 ⟨rfl, hb14⟩
  have bel := bel_step bel hb14
  have sz14 := hb14.size
  have Wr := Wr.go hb14
  have X0 := X0.go hb14
  have X1 := X1.go hb14
  have Gr := Gr.go hb14
  go_wp2_with fail
  refine (markIntS_c _ _ _ _ _ _ _ Gr (by omega) (by omega) (by omega)).mono ?_
  rintro e u15 ⟨rfl, Gr, hg15⟩
  have bel := bel.grown hg15 bel.size fun g hg => by have := (Gr0.lt g hg).1; omega
  have sz15 := hg15.size
  have Wr := Wr.kept hg15 (own_ne Wr0 Gr0 (by omega))
  go_wp2_with fail
  refine (heldIntS_c _ _ _ _ _ _ Gr.rd (by omega) (by omega) (by omega)).mono ?_
  rintro e u16 ⟨rfl, hb16⟩
  have bel := bel_step bel hb16
  have sz16 := hb16.size
  have Wr := Wr.go hb16
  have Gr := Gr.go hb16
  go_wp2_with fail
  refine (toIntS_c _ _ _ _ _ _ (r0.below bel) bel.size (by omega)).mono ?_
  rintro e u17 ⟨AZ0, nZ0, cZ0, rfl, Z0, hb17, qZ0⟩
  have bel := bel_step bel hb17
  have sz17 := hb17.size
  have Wr := Wr.go hb17
  have Gr := Gr.go hb17
  have Z00 := Z0
  have eZ0 : nZ0 ≤ 1048576 := by have := Z0.len; have := r0.len; omega
  go_wp2_with fail
  refine (toIntS_c _ _ _ _ _ _ (r1.below bel) bel.size (by omega)).mono ?_
  rintro e u18 ⟨AZ1, nZ1, cZ1, rfl, Z1, hb18, qZ1⟩
  have bel := bel_step bel hb18
  have sz18 := hb18.size
  have Wr := Wr.go hb18
  have Gr := Gr.go hb18
  have Z0 := Z0.go hb18
  have Z10 := Z1
  have eZ1 : nZ1 ≤ 1048576 := by have := Z1.len; have := r1.len; omega
  go_wp2_with fail
  refine (implPolyProduct_c _ _ _ _ _ _ _ _ _ Z0.rd eZ0 Z1.rd eZ1).mono ?_
  rintro e u19 ⟨AHr, nHr, cHr, rfl, Hr, hb19, qHr⟩
  have bel := bel_step bel hb19
  have sz19 := hb19.size
  have Wr := Wr.go hb19
  have Gr := Gr.go hb19
  have Z0 := Z0.go hb19
  have Z1 := Z1.go hb19
  have Hr0 := Hr
  go_wp2_with fail
  refine (eqIntS_c _ _ _ _ _ _ _ _ _ _ Hr.rd Wr.rd).mono ?_
  rintro e u20 ⟨rfl, hb20⟩
  have bel := bel_step bel hb20
  have sz20 := hb20.size
  have Wr := Wr.go hb20
  have Gr := Gr.go hb20
  have Hr := Hr.go hb20
  go_wp2_with fail
  refine (heldIntS_c _ _ _ _ _ _ Gr.rd (by omega) (by omega) (by omega)).mono ?_
  rintro e u21 ⟨rfl, hb21⟩
  have bel := bel_step bel hb21
  have sz21 := hb21.size
  have Wr := Wr.go hb21
  have Gr := Gr.go hb21
  have Hr := Hr.go hb21
  go_wp2_with fail
  go_ret
  exact ⟨rfl, bel⟩
end Go.Proofs.Ythhgakojkcmoiaa
