/- The laws on products and powers of polynomials: both packages' functions against plain ones, and the walk of each law. -/
import Derived.Test.YtfmlclciijlpkaaPoly
import Derived.Test.YtfmlclciijlpkaaMem
import Derived.StillTailTactics
namespace Go.Proofs.Ytfmlclciijlpkaa
open Go.RowKit
/- The product by rows: what the row-wise loop has put at place n. -/
def rowAt (p q : List Int) (i k n : Nat) : Int := if i ≤ n ∧ n < i + k then convTo p q n (i + 1) else convTo p q n i
def rowsTo (p q : List Int) (i k m : Nat) : List Int := (List.range m).map (rowAt p q i k)
theorem rowsTo_len (p q : List Int) (i k m : Nat) : (rowsTo p q i k m).length = m := by simp [rowsTo]
theorem rowsTo_at {p q : List Int} {i k m n : Nat} (h : n < m) : (rowsTo p q i k m).getD n 0 = rowAt p q i k n := by simp [rowsTo, List.getD, h]
theorem rowsTo_zero (p q : List Int) (m : Nat) : rowsTo p q 0 0 m = List.replicate m 1000000000 := by
  apply List.ext_getElem?
  intro n
  by_cases h : n < m
  · simp [rowsTo, rowAt, convTo, h]
  · simp [rowsTo, h]
/-- One row is done. -/
theorem rowsTo_row (p q : List Int) (i m : Nat)  : rowsTo p q i q.length m = rowsTo p q (i + 1) 0 m := by
  unfold rowsTo
  refine List.map_congr_left fun n hn => ?_
  have hn' : n < m := by simpa using hn
  unfold rowAt
  rw [if_neg (show ¬ (i + 1 ≤ n ∧ n < i + 1 + 0) by omega)]
  by_cases h : i ≤ n ∧ n < i + q.length
  · rw [if_pos h]
  · rw [if_neg h, convTo]
    by_cases h2 : i ≤ n
    · rw [if_pos h2]
      have h3 : prod (coef p i) (coef q (n - i)) = 1000000000 := by rw [prod, if_pos (.inr (coef_out (by omega)))]
      have := convTo_le p q n i
      omega
    · rw [if_neg h2]
/-- One step within a row. -/
theorem rowsTo_step (p q : List Int) (i k m : Nat) (_hm : i + k < m) : (rowsTo p q i k m).set (i + k) (min (convTo p q (i + k) i) (prod (coef p i) (coef q k))) = rowsTo p q i (k + 1) m := by
  apply List.ext_getElem?
  intro n
  rw [List.getElem?_set]
  by_cases hn : i + k = n
  · subst hn
    rw [if_pos rfl]
    simp only [rowsTo, List.length_map, List.length_range, List.getElem?_map, List.getElem?_range _hm, _hm, if_true, Option.map_some, rowAt]
    rw [if_pos (by omega), convTo, if_pos (by omega), Nat.add_sub_cancel_left]
  · rw [if_neg hn]
    by_cases h : n < m
    · simp only [rowsTo, List.getElem?_map, List.getElem?_range h, Option.map_some, rowAt]
      by_cases h2 : i ≤ n ∧ n < i + k
      · rw [if_pos h2, if_pos (by omega)]
      · rw [if_neg h2, if_neg (by omega)]
    · simp [rowsTo, h]
theorem rowsTo_all (p q : List Int) (m : Nat) : rowsTo p q p.length 0 m = pprodTo p q m := by
  induction m with
  | zero => rfl
  | succ m ih =>
    rw [pprodTo, ← ih]
    simp only [rowsTo, List.range_succ, List.map_append, List.map_cons, List.map_nil]
    congr 2
    rw [rowAt, if_neg (by omega), convTo_all]
theorem replicate_step {m k : Nat} (hk : k < m) : (List.replicate k (1000000000 : Int) ++ List.replicate (m - k) 0).set k 1000000000 = List.replicate (k + 1) 1000000000 ++ List.replicate (m - (k + 1)) 0 := by
  rw [List.set_append_right _ _ (by simp), List.length_replicate, Nat.sub_self, show m - k = (m - (k + 1)) + 1 from by omega, List.replicate_succ, List.set_cons_zero, List.replicate_succ']
  simp
theorem Own.getAt {w : World} {B g n c : Nat} {E : TypeId} {zs : List Int} (h : Own w B E (.slice (some ⟨g, 0, none⟩) n c) n zs) (j : Nat) (hj : j < n) : w.cell? ⟨g, j, none⟩ = some (.int .i64 (zs.getD j 0)) := by
  rw [World.ownsRow.cellAt h j (by omega)]
  have := h.len
  simp [List.getD, List.getElem?_eq_getElem (show j < zs.length by omega)]
theorem still_of {P : Program} {f : FuncId} {args : Array Value} {w : World} {v : Value} (h : Calls P f args w fun e w' => e = .returned v ∧ w = w') : Calls P f args w fun e w' => e = .returned v ∧ w' = w :=
  h.mono fun _ _ ⟨a, b⟩ => ⟨a, b.symm⟩
set_option maxRecDepth 8192 in
set_option maxHeartbeats 4000000 in
theorem polyProductB_c (A : Option Addr) (n c : Nat) (p : List Int) (A' : Option Addr) (n' c' : Nat) (q : List Int) (B : Nat) (w : World) (h : Rd w B A n p) (h' : Rd w B A' n' q) (hB : B ≤ w.heap.size)
    (hp : ∀ z ∈ p, -100000000 ≤ z ∧ z ≤ 1000000000) (hq : ∀ z ∈ q, -100000000 ≤ z ∧ z ≤ 1000000000) (hn : 1 ≤ n) (hn2 : n ≤ 1000) (hn' : 1 ≤ n') (hn2' : n' ≤ 1000) :
    Calls Try.prog 22 #[.slice A n c, .slice A' n' c'] w (RetOwn 3 (pprod p q) w) := by
  obtain ⟨m, hm⟩ : ∃ m : Nat, m + 1 = n + n' := ⟨n + n' - 1, by omega⟩
  have HL := Lib.hid h.len
  have HL' := Lib.hid h'.len
  have HA := Lib.hid hp
  have HA' := Lib.hid hq
  have HR : Hid (pprod p q = pprodTo p q m) := Lib.hid (by rw [pprod, HL.out, HL'.out]; congr 1; omega)
  have hb1 : m < n + n' := by omega
  have hb2 : n + n' ≤ m + 1 := by omega
  clear hp hq hm
  obtain ⟨i0, hi, hz0, hz1, hz2⟩ := info_parts info_int
  have HI := Lib.hid hi
  have HZ0 := Lib.hid hz0
  have HZ1 := Lib.hid hz1
  have HZ2 := Lib.hid hz2
  clear hi hz0 hz1 hz2
  go_enter Try.func22, Try.ntmps22
  go_wp2_with (at_make; refine wp_mkn rfl _ _ 22 rfl w.heap.size 3 i0 Try.underlying22 HI.out HZ0.out HZ1.out HZ2.out _ _ _ _ m rfl rfl (by omega) (by omega) (by omega) (Nat.le_refl _) ?_)
  intro w0 own0 bel0
  go_wp2_with fail
  go_loopw [20] (fun i wr => ∃ k : Nat, k ≤ m ∧ i = .int .i64 k ∧ Own wr w.heap.size 3 (.slice (some ⟨w.heap.size, 0, none⟩) m m) m (List.replicate k (1000000000 : Int) ++ List.replicate (m - k) 0) ∧ Below w.heap.size w wr) (fun i _ => m - (intOf i).toNat)
  case atStart => exact ⟨0, Nat.zero_le _, rfl, by simpa using own0, bel0⟩
  case round =>
    obtain ⟨k, hk, rfl, hown, hbel⟩ := hrel
    by_cases hlt : k < m
    · have hfz := hown.frozenAt k
      obtain ⟨u, hu⟩ := hown.cellAt k hlt
      have g1 := own_eq (hown.set_ k 1000000000) (replicate_step hlt)
      have g2 := hbel.setCell (p := ⟨w.heap.size, k, none⟩) (Nat.le_refl _) (.int .i64 1000000000)
      clear hown hbel own0 bel0
      go_wp2_with fail
      go_roundw
      case rel => exact ⟨k + 1, by omega, by go_num, g1, g2⟩
      case measure => simp [intOf]; omega
    · have hrow := own_eq (zs' := rowsTo p q 0 0 m) hown (by rw [rowsTo_zero, show m - k = 0 from by omega, show k = m from by omega]; simp)
      clear hown own0 bel0
      go_wp2_with fail
      obtain ⟨wo, rfl⟩ : ∃ wo : World, wo = wr := ⟨_, rfl⟩
      go_loopw [29] (fun i wr => ∃ r : Nat, r ≤ n ∧ i = .int .i64 r ∧ Own wr w.heap.size 3 (.slice (some ⟨w.heap.size, 0, none⟩) m m) m (rowsTo p q r 0 m) ∧ Below w.heap.size w wr) (fun i _ => n - (intOf i).toNat)
      case atStart => exact ⟨0, Nat.zero_le _, rfl, hrow, hbel⟩
      case round =>
        clear hrow hbel
        obtain ⟨r, hr, rfl, hown, hbel⟩ := hrel
        by_cases hlr : r < n
        · have hrp : r < p.length := by rw [HL.out]; exact hlr
          have bp := HA.out _ (getD_mem hrp)
          have HC : Hid (coef p r = p.getD r 0) := Lib.hid (coef_in hrp)
          obtain ⟨ad, rfl, hab, hc⟩ := (h.below (hbel.mono hB)).at_ hlr
          generalize p.getD r 0 = x at *
          go_wp2_with fail
          obtain ⟨wi, rfl⟩ : ∃ wi : World, wi = wr := ⟨_, rfl⟩
          go_loopw [36] (fun i wr => ∃ k : Nat, k ≤ n' ∧ i = .int .i64 k ∧ Own wr w.heap.size 3 (.slice (some ⟨w.heap.size, 0, none⟩) m m) m (rowsTo p q r k m) ∧ Below w.heap.size w wr) (fun i _ => n' - (intOf i).toNat)
          case atStart => exact ⟨0, Nat.zero_le _, rfl, hown, hbel⟩
          case round =>
            clear hown hbel hc
            obtain ⟨k, hk', rfl, hown, hbel⟩ := hrel
            by_cases hlk : k < n'
            · have hkq : k < q.length := by rw [HL'.out]; exact hlk
              have bq := HA'.out _ (getD_mem hkq)
              have HC' : Hid (coef q k = q.getD k 0) := Lib.hid (coef_in hkq)
              obtain ⟨ad', rfl, _, hc'⟩ := (h'.below (hbel.mono hB)).at_ hlk
              have hrk : r + k < m := by omega
              have hfz := hown.frozenAt (r + k)
              have hu := hown.getAt (r + k) hrk
              rw [rowsTo_at hrk, rowAt, if_neg (by omega)] at hu
              have g1 := own_eq (hown.set_ (r + k) (min (convTo p q (r + k) r) (prod (coef p r) (coef q k)))) (rowsTo_step p q r k m hrk)
              have g2 := hbel.setCell (p := ⟨w.heap.size, r + k, none⟩) (Nat.le_refl _) (.int .i64 (min (convTo p q (r + k) r) (prod (coef p r) (coef q k))))
              rw [HC.out, HC'.out] at g1 g2
              generalize q.getD k 0 = y at *
              generalize convTo p q (r + k) r = z at *
              have e1 : IntKind.i64.wrap ((r : Int) + (k : Int)) = (r : Int) + (k : Int) := IntWalk.i64_in _ (by omega)
              have e2 : ((r : Int) + (k : Int)).toNat = r + k := by omega
              have e3 : (0 : Int) ≤ (r : Int) + (k : Int) := by omega
              have e4 : (r : Int) + (k : Int) < (m : Int) := by omega
              clear hown hbel
              by_cases hmin : prod x y < z
              all_goals
                first | rw [Int.min_eq_right (Int.le_of_lt hmin)] at g1 g2 | rw [Int.min_eq_left (Int.not_lt.1 hmin)] at g1 g2
                go_wp2_with fail
                refine wp_region_still_tail 15 (by kernel_rfl) (by kernel_rfl) ?_
                simp only [List.take_succ_cons, List.take_zero, List.drop_succ_cons, List.drop_zero]
                still_step
                still_step
                still_step
                still_step
                still_step
                still_step
                still_step
                still_step
                still_step
                still_step
                still_step
                still_step
                still_call (still_of (product_c x y _ (by omega) (by omega) (by omega) (by omega)))
                iterate 2 still_step
                refine wpStill_nil ?_
                go_wp2_with fail
                go_roundw
                case rel => exact ⟨k + 1, by omega, by go_num, g1, g2.drew⟩
                case measure => simp [intOf]; omega
            · have hnext := own_eq (zs' := rowsTo p q (r + 1) 0 m) hown (by rw [← rowsTo_row, HL'.out, show k = n' from by omega])
              clear hown
              go_wp2_with fail
              go_roundw
              case rel => exact ⟨r + 1, by omega, by go_num, hnext, hbel⟩
              case measure => simp [intOf]; omega
        · have hend := own_eq (zs' := pprod p q) hown (by rw [HR.out, ← rowsTo_all, HL.out, show r = n from by omega])
          clear hown
          go_wp2_with fail
          go_ret
          exact retOwn_mk hend hbel (by omega)
theorem polyProduct_c (A : Option Addr) (n c : Nat) (p : List Int) (A' : Option Addr) (n' c' : Nat) (q : List Int) (B : Nat) (w : World) (h : Rd w B A n p) (h' : Rd w B A' n' q) (hB : B ≤ w.heap.size)
    (hp : p.all isNum = true) (hq : q.all isNum = true) (hn : 1 ≤ n) (hn2 : n ≤ 1000) (hn' : 1 ≤ n') (hn2' : n' ≤ 1000) :
    Calls Try.prog 22 #[.slice A n c, .slice A' n' c'] w (RetOwn 3 (pprod p q) w) :=
  polyProductB_c A n c p A' n' c' q B w h h' hB (fun z hz => by have := isNum_bd (List.all_eq_true.1 hp z hz); omega) (fun z hz => by have := isNum_bd (List.all_eq_true.1 hq z hz); omega) hn hn2 hn' hn2'
end Go.Proofs.Ytfmlclciijlpkaa
