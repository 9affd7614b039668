/- The law on the product of plane polynomials. -/
import Derived.Test.YtfamemjlhgkneaaWSwap
import Derived.Test.YtfamemjlhgkneaaApp4
import Derived.Test.YtfamemjlhgkneaaApp
namespace Go.Proofs.Ytfamemjlhgkneaa
open Go.RowKit
theorem pProd_no {l m : List Trm} (h : (isPlane l && isPlane m) = false) : pPlaneProd l m = ([], false) := by rw [pPlaneProd, h]; rfl
theorem pProd_yes {l m : List Trm} (h : isPlane l = true) (k : isPlane m = true) : pPlaneProd l m = toldPl (putAll [] (prdTo l m l.length)) := by rw [pPlaneProd, h, k]; rfl
theorem prd_b {a b k n1 n2 : Nat} (hk : k < a) (ha : a ≤ 12) (hb : b ≤ 12) (h1 : n1 = k * b) (h2 : n2 ≤ b) : n1 + n2 ≤ 144 := by
  have : k * b ≤ 11 * 12 := Nat.mul_le_mul (by omega) hb
  omega
set_option maxRecDepth 8192 in
set_option maxHeartbeats 2000000 in
theorem plProduct_c (A A2 : Option Addr) (n c n2 c2 : Nat) (l m : List Trm) (B : Nat) (w : World) (h : RdT w B A n l) (h2 : RdT w B A2 n2 m) (hB : B ≤ w.heap.size) (hp : isPlane l = true) (hq : isPlane m = true) :
    Calls Try.prog 73 #[.slice A n c, .slice A2 n2 c2] w (RetT 54 (putAll [] (prdTo l m l.length)) w) := by
  have hl := isPlane_len hp
  have hm := isPlane_len hq
  have HN := Lib.hid (show l.length = n from h.len)
  have HN2 := Lib.hid (show m.length = n2 from h2.len)
  rw [HN.out] at hl
  rw [HN2.out] at hm
  have HT := Lib.hid fun (k : Nat) (hk : k < n) => isPlane_trm hp (by rw [HN.out]; exact hk)
  have HT2 := Lib.hid fun (k : Nat) (hk : k < n2) => isPlane_trm hq (by rw [HN2.out]; exact hk)
  clear hp hq
  go_enter Try.func73, Try.ntmps73
  go_wp2_with fail
  go_loopw [5, 12] (fun v i wr => ∃ k q : Nat, k ≤ n ∧ i = .int .i64 k ∧ Hid (q ≤ k * n2) ∧ OwnT wr w.heap.size 54 v q (putAll [] (prdTo l m k)) ∧ Below w.heap.size w wr) (fun _ i _ => n - (intOf i).toNat)
  case atStart => exact ⟨0, 0, Nat.zero_le _, rfl, Lib.hid (Nat.zero_le _), OwnT.nil _ _ _, Below.refl _ _⟩
  case round =>
    obtain ⟨k, q, hk, rfl, hq, hown, hbel⟩ := hrel
    have hsz := hbel.size
    by_cases hlt : k < n
    · obtain ⟨b, o, rfl, _, c0, c1, c2⟩ := ((h.below (hbel.mono hB))).at_ hlt
      have ht := HT.out k hlt
      have HM : Hid (prdTo l m (k + 1) = prdTo l m k ++ prdRow (l.getD k (0, 0, 0)) m n2) := Lib.hid (by rw [prdTo, HN2.out])
      have HL : Hid (n2 * 11 + n2 ≤ 144 ∧ k * n2 ≤ n2 * 11 ∧ k * n2 + n2 = (k + 1) * n2) := Lib.hid ⟨by omega, by rw [Nat.mul_comm]; exact Nat.mul_le_mul_left _ (by omega), by rw [Nat.succ_mul]⟩
      have HX : Hid (l.getD k (0, 0, 0) = ((l.getD k (0, 0, 0)).1, (l.getD k (0, 0, 0)).2.1, (l.getD k (0, 0, 0)).2.2)) := Lib.hid rfl
      generalize hx0 : (l.getD k (0, 0, 0)).1 = x0 at *
      generalize hx1 : (l.getD k (0, 0, 0)).2.1 = x1 at *
      generalize hx2 : (l.getD k (0, 0, 0)).2.2 = x2 at *
      clear hx0 hx1 hx2
      rw [HX.out] at HM
      obtain ⟨⟨t0, t1⟩, ⟨t2, t3⟩, t4, t5⟩ := ht
      have bel := hbel.alloc hbel.size (.cells #[.int .i64 x0, .int .i64 x1, .int .i64 x2] 54)
      have own := hown.new (.cells #[.int .i64 x0, .int .i64 x1, .int .i64 x2] 54)
      have P := Bx.new wr [.int .i64 x0, .int .i64 x1, .int .i64 x2] 54
      have hsS : w.heap.size ≤ wr.heap.size := hsz
      have h2k := h2.below ((hbel.alloc hbel.size (.cells #[.int .i64 x0, .int .i64 x1, .int .i64 x2] 54)).mono hB)
      clear hown hbel h2k
      go_wp2_with fail
      generalize wr.alloc (.cells #[.int .i64 x0, .int .i64 x1, .int .i64 x2] 54) = wz at *
      generalize wr.heap.size = S at *
      go_loopw [5, 18] (fun v i wr => ∃ j q : Nat, j ≤ n2 ∧ i = .int .i64 j ∧ Hid (q ≤ k * n2 + j) ∧ OwnT wr w.heap.size 54 v q (putAll [] (prdTo l m k ++ prdRow (x0, x1, x2) m j)) ∧ Below w.heap.size w wr ∧ Bx wr S [.int .i64 x0, .int .i64 x1, .int .i64 x2]) (fun _ i _ => n2 - (intOf i).toNat)
      case atStart => exact ⟨0, q, Nat.zero_le _, rfl, Lib.hid hq.out, by rw [prdRow, List.append_nil]; exact own, bel, P⟩
      case round =>
        clear own bel P
        obtain ⟨j, q, hj, rfl, hq, hown, hbel, hP⟩ := hrel
        have hsz := hbel.size
        by_cases hlt2 : j < n2
        · obtain ⟨b', o', rfl, _, d0, d1, d2⟩ := ((h2.below (hbel.mono hB))).at_ hlt2
          have ht := HT2.out j hlt2
          have HM2 : Hid (putAll [] (prdTo l m k ++ prdRow (x0, x1, x2) m (j + 1)) = putT (sumT (x0, x1, x2) (m.getD j (0, 0, 0))) (putAll [] (prdTo l m k ++ prdRow (x0, x1, x2) m j))) := Lib.hid (by rw [prdRow, ← List.append_assoc, putAll_snoc])
          have HQ := Lib.hid (putT_len (sumT (x0, x1, x2) (m.getD j (0, 0, 0))) (putAll [] (prdTo l m k ++ prdRow (x0, x1, x2) m j)))
          rw [hown.len] at HQ
          rw [sumT] at HM2 HQ
          generalize (m.getD j (0, 0, 0)).1 = y0 at *
          generalize (m.getD j (0, 0, 0)).2.1 = y1 at *
          generalize (m.getD j (0, 0, 0)).2.2 = y2 at *
          obtain ⟨⟨s0, s1⟩, ⟨s2, s3⟩, s4, s5⟩ := ht
          have bel := hbel.alloc hbel.size (.cells #[.int .i64 y0, .int .i64 y1, .int .i64 y2] 54)
          have own := hown.new (.cells #[.int .i64 y0, .int .i64 y1, .int .i64 y2] 54)
          have P := hP.alloc (.cells #[.int .i64 y0, .int .i64 y1, .int .i64 y2] 54)
          have p0 := P.at0
          have p1 := P.at1
          have p2 := P.at2
          obtain ⟨A1, c1', rfl⟩ := hown.shape
          have hqb : q ≤ 1000000 := by have := hq.out; have := HL.out; omega
          clear hown hbel
          go_wp2_with fail
          refine (plPut_c _ _ _ _ _ _ _ _ _ own hqb).mono ?_
          rintro e w5 ⟨A5, n5, c5, rfl, own5, hb5, hn5⟩
          have hbel' := bel_step bel hb5
          have P' := P.go hb5
          rw [← HM2.out] at own5 HQ
          have hq5 := own5.len
          have hqq : Hid (n5 ≤ k * n2 + (j + 1)) := Lib.hid (by have := HQ.out; have := hq.out; omega)
          have own6 := own5.more bel.size
          clear own bel hb5 own5 hq5 P p0 p1 p2 d0 d1 d2 c0 c1 c2
          go_wp2_with fail
          go_roundw
          case rel => exact ⟨j + 1, n5, by omega, by go_num, hqq, own6, hbel', P'⟩
          case measure => simp [intOf]; omega
        · have HE : Hid (putAll [] (prdTo l m (k + 1)) = putAll [] (prdTo l m k ++ prdRow (x0, x1, x2) m j)) := Lib.hid (by rw [HM.out, show n2 = j from by omega])
          have hown' := hown
          rw [← HE.out] at hown'
          have hqq : Hid (q ≤ (k + 1) * n2) := Lib.hid (by have := HL.out; have := hq.out; omega)
          clear hown c0 c1 c2 hP
          go_wp2_with fail
          go_roundw
          case rel => exact ⟨k + 1, q, by omega, by go_num, hqq, hown', hbel⟩
          case measure => simp [intOf]; omega
    · have HE : Hid (prdTo l m l.length = prdTo l m k) := Lib.hid (by rw [HN.out, show n = k from by omega])
      have hqb : q ≤ 144 := by
        have h1 := hq.out
        have h2 : k * n2 ≤ 12 * 12 := Nat.mul_le_mul (by omega) hm.2
        omega
      obtain ⟨A1, c1, rfl⟩ := hown.shape
      go_wp2_with fail
      go_ret
      rw [HE.out]
      exact retT_mk hown hbel (by omega)
set_option maxRecDepth 8192 in
set_option maxHeartbeats 1000000 in
theorem specPlaneProduct_c (A : Option Addr) (n c : Nat) (l : List Trm) (A2 : Option Addr) (n2 c2 : Nat) (m : List Trm) (w : World) (h : RdT w w.heap.size A n l) (_hn : n ≤ 1048576) (h2 : RdT w w.heap.size A2 n2 m) (_hn2 : n2 ≤ 1048576) :
    Calls Try.prog 43 #[.slice A n c, .slice A2 n2 c2] w (RetTB 54 (pPlaneProd l m).1 (pPlaneProd l m).2 w) := by
  cases hp : isPlane l
  · have H := Lib.hid (pProd_no (l := l) (m := m) (by rw [hp]; rfl))
    have HP := Lib.hid hp
    clear hp
    go_enter Try.func43, Try.ntmps43
    go_wp2_with fail
    refine (plGood_c _ _ _ _ _ _ h (Nat.le_refl _)).mono ?_; rw [HP.out]; rintro e w1 ⟨rfl, hb⟩
    go_wp2_with fail
    go_ret2
    rw [H.out]
    exact retTB_mk (OwnT.nil _ _ _) hb (by omega)
  cases hq : isPlane m
  · have H := Lib.hid (pProd_no (l := l) (m := m) (by rw [hp, hq]; rfl))
    have HP := Lib.hid hp
    have HQ := Lib.hid hq
    clear hp hq
    go_enter Try.func43, Try.ntmps43
    go_wp2_with fail
    refine (plGood_c _ _ _ _ _ _ h (Nat.le_refl _)).mono ?_; rw [HP.out]; rintro e w1 ⟨rfl, hb⟩
    have h2' := h2.below hb
    go_wp2_with fail
    refine (plGood_c _ _ _ _ _ _ h2' hb.size).mono ?_; rw [HQ.out]; rintro e w2 ⟨rfl, hb2⟩
    have hb3 := bel_step hb hb2
    clear hb hb2 h2'
    go_wp2_with fail
    go_ret2
    rw [H.out]
    exact retTB_mk (OwnT.nil _ _ _) hb3 (by omega)
  have hl := isPlane_len hp
  have hm := isPlane_len hq
  have H := Lib.hid (pProd_yes hp hq)
  have HP := Lib.hid hp
  have HQ := Lib.hid hq
  clear hp hq hl hm
  go_enter Try.func43, Try.ntmps43
  go_wp2_with fail
  refine (plGood_c _ _ _ _ _ _ h (Nat.le_refl _)).mono ?_; rw [HP.out]; rintro e w1 ⟨rfl, hb⟩
  have h2' := h2.below hb
  go_wp2_with fail
  refine (plGood_c _ _ _ _ _ _ h2' hb.size).mono ?_; rw [HQ.out]; rintro e w2 ⟨rfl, hb2⟩
  have hb3 := bel_step hb hb2
  have h1 := h.below hb3
  have h3 := h2.below hb3
  clear hb hb2 h2'
  go_wp2_with fail
  refine (plProduct_c _ _ _ _ _ _ _ _ _ _ h1 h3 hb3.size HP.out HQ.out).mono ?_
  rintro e w5 ⟨A5, n5, c5, rfl, own5, hb5, hn5⟩
  have hb6 := bel_step hb3 hb5
  have own6 := own5.more hb3.size
  have hrd := own5.rd
  generalize prdTo l m l.length = pr at *
  clear hb3 hb5 own5 h1 h3
  cases hz : isPlane (putAll [] pr)
  · have HT := Lib.hid (toldPl_no hz)
    have HZ := Lib.hid hz
    clear hz
    go_wp2_with fail
    refine (plIf_c _ _ _ _ _ _ false HZ.out hrd (Nat.le_refl _)).mono ?_; rintro e w7 ⟨rfl, hb7⟩
    go_wp2_with fail
    go_ret2
    rw [H.out, HT.out]
    exact retTB_mk (OwnT.nil _ _ _) (bel_step hb6 hb7) (by omega)
  · have HT := Lib.hid (toldPl_yes hz)
    have HZ := Lib.hid hz
    clear hz
    go_wp2_with fail
    refine (plIf_c _ _ _ _ _ _ true HZ.out hrd (Nat.le_refl _)).mono ?_; rintro e w7 ⟨rfl, hb7⟩
    go_wp2_with fail
    go_ret2
    rw [H.out, HT.out]
    exact retTB_mk (own6.go hb7) (bel_step hb6 hb7) hn5
set_option maxRecDepth 8192 in
set_option maxHeartbeats 2000000 in
theorem implPlaneProduct_c (A : Option Addr) (n c : Nat) (l : List Trm) (A2 : Option Addr) (n2 c2 : Nat) (m : List Trm) (w : World) (h : RdT w w.heap.size A n l) (_hn : n ≤ 1048576) (h2 : RdT w w.heap.size A2 n2 m) (_hn2 : n2 ≤ 1048576) :
    Calls Try.prog 44 #[.slice A n c, .slice A2 n2 c2] w (RetTB 54 (pPlaneProd l m).1 (pPlaneProd l m).2 w) := by
  cases hp : isPlane l
  · have H := Lib.hid (pProd_no (l := l) (m := m) (by rw [hp]; rfl))
    have HP := Lib.hid hp
    clear hp
    go_enter Try.func44, Try.ntmps44
    go_wp2_with fail
    refine (isPlane_c _ _ _ _ _ _ h (Nat.le_refl _)).mono ?_; rw [HP.out]; rintro e w1 ⟨rfl, hb⟩
    go_wp2_with fail
    go_ret2
    rw [H.out]
    exact retTB_mk (OwnT.nil _ _ _) hb (by omega)
  cases hq : isPlane m
  · have H := Lib.hid (pProd_no (l := l) (m := m) (by rw [hp, hq]; rfl))
    have HP := Lib.hid hp
    have HQ := Lib.hid hq
    clear hp hq
    go_enter Try.func44, Try.ntmps44
    go_wp2_with fail
    refine (isPlane_c _ _ _ _ _ _ h (Nat.le_refl _)).mono ?_; rw [HP.out]; rintro e w1 ⟨rfl, hb⟩
    have h2' := h2.below hb
    go_wp2_with fail
    refine (isPlane_c _ _ _ _ _ _ h2' hb.size).mono ?_; rw [HQ.out]; rintro e w2 ⟨rfl, hb2⟩
    have hb3 := bel_step hb hb2
    clear hb hb2 h2'
    go_wp2_with fail
    go_ret2
    rw [H.out]
    exact retTB_mk (OwnT.nil _ _ _) hb3 (by omega)
  have hl := isPlane_len hp
  have hm := isPlane_len hq
  have H := Lib.hid (pProd_yes hp hq)
  have HN := Lib.hid (show l.length = n from h.len)
  have HN2 := Lib.hid (show m.length = n2 from h2.len)
  rw [HN.out] at hl
  rw [HN2.out] at hm
  have HT := Lib.hid fun (k : Nat) (hk : k < n) => isPlane_trm hp (by rw [HN.out]; exact hk)
  have HT2 := Lib.hid fun (k : Nat) (hk : k < n2) => isPlane_trm hq (by rw [HN2.out]; exact hk)
  have HK := Lib.hid (prdTo_ok hp hq l.length (Nat.le_refl _))
  have HP := Lib.hid hp
  have HQ := Lib.hid hq
  clear hp hq
  obtain ⟨i0, hi, hz0, hz1, hz2⟩ := info_parts info_trm
  have HI := Lib.hid hi
  have HZ0 := Lib.hid hz0
  have HZ1 := Lib.hid hz1
  have HZ2 := Lib.hid hz2
  clear hi hz0 hz1 hz2
  go_enter Try.func44, Try.ntmps44
  go_wp2_with fail
  refine (isPlane_c _ _ _ _ _ _ h (Nat.le_refl _)).mono ?_; rw [HP.out]; rintro e w1 ⟨rfl, hb⟩
  have h2' := h2.below hb
  go_wp2_with fail
  refine (isPlane_c _ _ _ _ _ _ h2' hb.size).mono ?_; rw [HQ.out]; rintro e w2 ⟨rfl, hb2⟩
  have hb3 := bel_step hb hb2
  have own0 := OwnT.empty (B := w.heap.size) w2 54 hb3.size
  have bel0 := hb3.alloc hb3.size (.cells #[] 54)
  clear hb hb2 h2' hb3
  go_wp2_with fail
  go_loopw [6, 22] (fun v i wr => ∃ k q : Nat, k ≤ n ∧ i = .int .i64 k ∧ OwnT wr w.heap.size 54 v q (prdTo l m k) ∧ Below w.heap.size w wr) (fun _ i _ => n - (intOf i).toNat)
  case atStart => exact ⟨0, 0, Nat.zero_le _, rfl, own0, bel0⟩
  case round =>
    clear own0 bel0
    obtain ⟨k, q, hk, rfl, hown, hbel⟩ := hrel
    have hsz := hbel.size
    have hql : q = k * n2 := by have := hown.len; rw [prdTo_len, HN2.out] at this; exact this.symm
    by_cases hlt : k < n
    · obtain ⟨b, o, rfl, _, c0, c1, c2⟩ := (h.below hbel).at_ hlt
      have ht := HT.out k hlt
      have HM : Hid (prdTo l m (k + 1) = prdTo l m k ++ prdRow (l.getD k (0, 0, 0)) m n2) := Lib.hid (by rw [prdTo, HN2.out])
      have hL : q ≤ 132 := by
        have h1 : k * n2 ≤ 11 * 12 := Nat.mul_le_mul (by omega) hm.2
        omega
      have HX : Hid (l.getD k (0, 0, 0) = ((l.getD k (0, 0, 0)).1, (l.getD k (0, 0, 0)).2.1, (l.getD k (0, 0, 0)).2.2)) := Lib.hid rfl
      generalize hx0 : (l.getD k (0, 0, 0)).1 = x0 at *
      generalize hx1 : (l.getD k (0, 0, 0)).2.1 = x1 at *
      generalize hx2 : (l.getD k (0, 0, 0)).2.2 = x2 at *
      clear hx0 hx1 hx2
      rw [HX.out] at HM
      obtain ⟨⟨t0, t1⟩, ⟨t2, t3⟩, t4, t5⟩ := ht
      have bel := hbel.alloc hbel.size (.cells #[.int .i64 x0, .int .i64 x1, .int .i64 x2] 54)
      have own := hown.new (.cells #[.int .i64 x0, .int .i64 x1, .int .i64 x2] 54)
      have P := Bx.new wr [.int .i64 x0, .int .i64 x1, .int .i64 x2] 54
      have hsS : w.heap.size ≤ wr.heap.size := hsz
      have HO : Hid (∀ v' n' l', OwnT wr w.heap.size 54 v' n' l' → v'.ownBlock ≠ some wr.heap.size) := Lib.hid fun v' n' l' hh => ne_blk hh.lt (Nat.le_refl _)
      have hv := HO.out _ _ _ hown
      clear hown hbel hql HO
      go_wp2_with fail
      generalize wr.alloc (.cells #[.int .i64 x0, .int .i64 x1, .int .i64 x2] 54) = wz at *
      generalize wr.heap.size = S at *
      go_loopw [6, 28] (fun v i wr => ∃ j q' : Nat, j ≤ n2 ∧ i = .int .i64 j ∧ q' = q + j ∧ OwnT wr w.heap.size 54 v q' (prdTo l m k ++ prdRow (x0, x1, x2) m j) ∧ Below w.heap.size w wr ∧ Bx wr S [.int .i64 x0, .int .i64 x1, .int .i64 x2] ∧ v.ownBlock ≠ some S) (fun _ i _ => n2 - (intOf i).toNat)
      case atStart => exact ⟨0, q, Nat.zero_le _, rfl, rfl, by rw [prdRow, List.append_nil]; exact own, bel, P, hv⟩
      case round =>
        clear own bel P hv
        obtain ⟨j, q', hj, rfl, hq', hown, hbel, hP, hv⟩ := hrel
        have hsz := hbel.size
        by_cases hlt2 : j < n2
        · obtain ⟨b', o', rfl, _, d0, d1, d2⟩ := (h2.below hbel).at_ hlt2
          have ht := HT2.out j hlt2
          have HM2 : Hid (prdTo l m k ++ prdRow (x0, x1, x2) m (j + 1) = prdTo l m k ++ (prdRow (x0, x1, x2) m j ++ [sumT (x0, x1, x2) (m.getD j (0, 0, 0))])) := Lib.hid rfl
          rw [sumT] at HM2
          generalize (m.getD j (0, 0, 0)).1 = y0 at *
          generalize (m.getD j (0, 0, 0)).2.1 = y1 at *
          generalize (m.getD j (0, 0, 0)).2.2 = y2 at *
          obtain ⟨⟨s0, s1⟩, ⟨s2, s3⟩, s4, s5⟩ := ht
          have bel := hbel.alloc hbel.size (.cells #[.int .i64 y0, .int .i64 y1, .int .i64 y2] 54)
          have own := hown.new (.cells #[.int .i64 y0, .int .i64 y1, .int .i64 y2] 54)
          have P := hP.alloc (.cells #[.int .i64 y0, .int .i64 y1, .int .i64 y2] 54)
          have p0 := P.at0
          have p1 := P.at1
          have p2 := P.at2
          have hz : w.heap.size ≤ (wr.alloc (.cells #[.int .i64 y0, .int .i64 y1, .int .i64 y2] 54)).heap.size := bel.size
          have HSz : Hid (S < wr.heap.size + 1) := Lib.hid (by have := hP.1; omega)
          have hqb : q' ≤ 3000000000 := by omega
          clear hbel hP
          go_wp2_with (at_builtin; refine wp_appTb rfl _ _ 25 rfl w.heap.size 54 i0 Try.underlying25 HI.out HZ0.out HZ1.out HZ2.out _ _ _ rfl own _ _ _ (by rw [World.size_alloc]; rfl) hqb hz ?_)
          intro v' w5 h1 hb5 g5 hn5
          have hbel' := bel.trans hb5
          have P' := P.grown g5 hv
          have hv' := hn5 S HSz.out hv
          rw [← HM2.out] at h1
          clear hown hb5 own bel hz g5 hn5 P hv p0 p1 p2 d0 d1 d2 c0 c1 c2
          go_wp2_with fail
          go_roundw
          case rel => exact ⟨j + 1, q + j + 1, by omega, by go_num, by omega, h1, hbel', P', hv'⟩
          case measure => simp [intOf]; omega
        · have HE : Hid (prdTo l m (k + 1) = prdTo l m k ++ prdRow (x0, x1, x2) m j) := Lib.hid (by rw [HM.out, show n2 = j from by omega])
          have hown' := hown
          rw [← HE.out] at hown'
          clear hown c0 c1 c2 hP hv
          go_wp2_with fail
          go_roundw
          case rel => exact ⟨k + 1, q', by omega, by go_num, hown', hbel⟩
          case measure => simp [intOf]; omega
    · have HE : Hid (prdTo l m l.length = prdTo l m k) := Lib.hid (by rw [HN.out, show n = k from by omega])
      have hq1 : 0 < q := by rw [hql]; exact Nat.mul_pos (by omega) (by omega)
      have hq2 : q ≤ 1048576 := by
        have h1 : k * n2 ≤ 12 * 12 := Nat.mul_le_mul (by omega) hm.2
        omega
      obtain ⟨A1, c1, rfl⟩ := hown.shape
      have hrd := hown.rd
      have hbd := HK.out
      rw [HE.out] at hbd
      have HBD := Lib.hid hbd
      clear hbd hown hql
      go_wp2_with fail
      refine (gathered_c A1 q c1 (prdTo l m k) wr.heap.size wr hrd (Nat.le_refl _) HBD.out hq1 hq2).mono ?_
      rintro e w5 ⟨M, hp, hs, A5, n5, c5, rfl, own5, hb5, hn5⟩
      have HG : Hid (compT M = putAll [] (prdTo l m k)) := Lib.hid (gath_eq (m := []) hs (by simpa using hp) rep_nil)
      clear hp hs
      rw [HG.out] at own5
      have hb6 := bel_step hbel hb5
      have own6 := own5.more hsz
      have hrd5 := own5.rd
      rw [HE.out] at H
      generalize prdTo l m k = pr at *
      clear hbel hb5 own5 hrd
      cases hz : isPlane (putAll [] pr)
      · have HT := Lib.hid (toldPl_no hz)
        have HZ := Lib.hid hz
        clear hz
        go_wp2_with fail
        refine (toldPlane_c _ _ _ _ _ _ false HZ.out hrd5 (Nat.le_refl _)).mono ?_; rintro e w7 ⟨rfl, hb7⟩
        go_wp2_with fail
        go_ret2
        rw [H.out, HT.out]
        exact retTB_mk (OwnT.nil _ _ _) (bel_step hb6 hb7) (by omega)
      · have HT := Lib.hid (toldPl_yes hz)
        have HZ := Lib.hid hz
        clear hz
        go_wp2_with fail
        refine (toldPlane_c _ _ _ _ _ _ true HZ.out hrd5 (Nat.le_refl _)).mono ?_; rintro e w7 ⟨rfl, hb7⟩
        go_wp2_with fail
        go_ret2
        rw [H.out, HT.out]
        exact retTB_mk (own6.go hb7) (bel_step hb6 hb7) hn5
theorem walk_FnExactPlaneProduct (A0 : Option Addr) (n0 c0 : Nat) (z0 : List Trm) (A1 : Option Addr) (n1 c1 : Nat) (z1 : List Trm) (w : World) (r0 : RdT w w.heap.size A0 n0 z0) (r1 : RdT w w.heap.size A1 n1 z1) :
  Calls Try.prog 12 #[.slice A0 n0 c0, .slice A1 n1 c1] w fun e w' => e = .returned (.bool true) ∧ Below w.heap.size w w' := by
  have l0 := r0.le
  by_cases s0 : (n0 : Int) ≤ 1048576
  rotate_left
  · go_enter Try.func12, Try.ntmps12
    go_wp2_with fail
    refine (szTermS_no _ _ _ _ _ (by omega) (by omega) (by omega)).mono ?_; rintro e w' ⟨rfl, rfl⟩
    go_wp2_with fail
    go_ret
    exact ⟨rfl, Below.refl _ _⟩
  have l1 := r1.le
  by_cases s1 : (n1 : Int) ≤ 1048576 - (n0 : Int)
  rotate_left
  · go_enter Try.func12, Try.ntmps12
    go_wp2_with fail
    refine (szTermS_yes _ _ _ _ _ (by omega) (by omega)).mono ?_; rintro e w' ⟨rfl, rfl⟩
    go_wp2_with fail
    refine (szTermS_no _ _ _ _ _ (by omega) (by omega) (by omega)).mono ?_; rintro e w' ⟨rfl, rfl⟩
    go_wp2_with fail
    go_ret
    exact ⟨rfl, Below.refl _ _⟩
  go_enter Try.func12, Try.ntmps12
  have bel : Below w.heap.size w w := Below.refl _ _
  go_wp2_with fail
  refine (szTermS_yes _ _ _ _ _ (by omega) (by omega)).mono ?_; rintro e w' ⟨rfl, rfl⟩
  go_wp2_with fail
  refine (szTermS_yes _ _ _ _ _ (by omega) (by omega)).mono ?_; rintro e w' ⟨rfl, rfl⟩
  go_wp2_with fail
  refine (toTermS_c _ _ _ _ _ _ (r0.below bel) bel.size (by omega)).mono ?_
  rintro e u1 ⟨AT0, nT0, cT0, rfl, T0, hb1, qT0⟩
  have bel := bel_step bel hb1
  have sz1 := hb1.size
  have T00 := T0
  have eT0 : nT0 ≤ 1048576 := by have := T0.len; have := r0.len; omega
  go_wp2_with fail
  refine (toTermS_c _ _ _ _ _ _ (r1.below bel) bel.size (by omega)).mono ?_
  rintro e u2 ⟨AT1, nT1, cT1, rfl, T1, hb2, qT1⟩
  have bel := bel_step bel hb2
  have sz2 := hb2.size
  have T0 := T0.go hb2
  have T10 := T1
  have eT1 : nT1 ≤ 1048576 := by have := T1.len; have := r1.len; omega
  go_wp2_with fail
  refine (specPlaneProduct_c _ _ _ _ _ _ _ _ _ T0.rd eT0 T1.rd eT1).mono ?_
  rintro e u3 ⟨AWr, nWr, cWr, rfl, Wr, hb3, qWr⟩
  have bel := bel_step bel hb3
  have sz3 := hb3.size
  have T0 := T0.go hb3
  have T1 := T1.go hb3
  have Wr0 := Wr
  go_wp2_with fail
  refine (toTermS_c _ _ _ _ _ _ (r0.below bel) bel.size (by omega)).mono ?_
  rintro e u4 ⟨AX0, nX0, cX0, rfl, X0, hb4, qX0⟩
  have bel := bel_step bel hb4
  have sz4 := hb4.size
  have Wr := Wr.go hb4
  have X00 := X0
  have eX0 : nX0 ≤ 1048576 := by have := X0.len; have := r0.len; omega
  go_wp2_with fail
  refine (toTermS_c _ _ _ _ _ _ (r1.below bel) bel.size (by omega)).mono ?_
  rintro e u5 ⟨AX1, nX1, cX1, rfl, X1, hb5, qX1⟩
  have bel := bel_step bel hb5
  have sz5 := hb5.size
  have Wr := Wr.go hb5
  have X0 := X0.go hb5
  have X10 := X1
  have eX1 : nX1 ≤ 1048576 := by have := X1.len; have := r1.len; omega
  go_wp2_with fail
  refine (implPlaneProduct_c _ _ _ _ _ _ _ _ _ X0.rd eX0 X1.rd eX1).mono ?_
  rintro e u6 ⟨AGr, nGr, cGr, rfl, Gr, hb6, qGr⟩
  have bel := bel_step bel hb6
  have sz6 := hb6.size
  have Wr := Wr.go hb6
  have X0 := X0.go hb6
  have X1 := X1.go hb6
  have Gr0 := Gr
  go_wp2_with fail
  refine (eqTermS_c _ _ _ _ _ _ _ _ _ _ Gr.rd Wr.rd (Nat.le_refl _) (Nat.le_refl _)).mono ?_
  rintro e u7 ⟨rfl, hb7⟩
  have bel := bel_step bel hb7
  have sz7 := hb7.size
  have Wr := Wr.go hb7
  have X0 := X0.go hb7
  have X1 := X1.go hb7
  have Gr := Gr.go hb7
  go_wp2_with fail
  refine (toTermS_c _ _ _ _ _ _ (r0.below bel) bel.size (by omega)).mono ?_
  rintro e u8 ⟨AY0, nY0, cY0, rfl, Y0, hb8, qY0⟩
  have bel := bel_step bel hb8
  have sz8 := hb8.size
  have Wr := Wr.go hb8
  have X0 := X0.go hb8
  have X1 := X1.go hb8
  have Gr := Gr.go hb8
  have Y00 := Y0
  have eY0 : nY0 ≤ 1048576 := by have := Y0.len; have := r0.len; omega
  go_wp2_with fail
  refine (eqTermS_c _ _ _ _ _ _ _ _ _ _ X0.rd Y0.rd (Nat.le_refl _) (Nat.le_refl _)).mono ?_
  rintro e u9 ⟨rfl, hb9⟩
  have bel := bel_step bel hb9
  have sz9 := hb9.size
  have Wr := Wr.go hb9
  have X0 := X0.go hb9
  have X1 := X1.go hb9
  have Gr := Gr.go hb9
  have Y0 := Y0.go hb9
  go_wp2_with fail
  refine (toTermS_c _ _ _ _ _ _ (r1.below bel) bel.size (by omega)).mono ?_
  rintro e u10 ⟨AY1, nY1, cY1, rfl, Y1, hb10, qY1⟩
  have bel := bel_step bel hb10
  have sz10 := hb10.size
  have Wr := Wr.go hb10
  have X0 := X0.go hb10
  have X1 := X1.go hb10
  have Gr := Gr.go hb10
  have Y10 := Y1
  have eY1 : nY1 ≤ 1048576 := by have := Y1.len; have := r1.len; omega
  go_wp2_with fail
  refine (eqTermS_c _ _ _ _ _ _ _ _ _ _ X1.rd Y1.rd (Nat.le_refl _) (Nat.le_refl _)).mono ?_
  rintro e u11 ⟨rfl, hb11⟩
  have bel := bel_step bel hb11
  have sz11 := hb11.size
  have Wr := Wr.go hb11
  have X0 := X0.go hb11
  have X1 := X1.go hb11
  have Gr := Gr.go hb11
  have Y1 := Y1.go hb11
  go_wp2_with fail
  refine (markTermS_c _ _ _ _ _ _ _ X0 (by omega) (by omega) (by omega)).mono ?_
  rintro e u12 ⟨rfl, X0, hg12⟩
  have bel := bel.grown hg12 bel.size fun g hg => by have := (X00.lt g hg).1; omega
  have sz12 := hg12.size
  have Wr := Wr.kept hg12 (blk_ne Wr0.lt X00.lt (by omega))
  have X1 := X1.kept hg12 (blk_ne' X00.lt X10.lt (by omega))
  have Gr := Gr.kept hg12 (blk_ne' X00.lt Gr0.lt (by omega))
  go_wp2_with fail
  refine (markTermS_c _ _ _ _ _ _ _ X1 (by omega) (by omega) (by omega)).mono ?_
  rintro e u13 ⟨rfl, X1, hg13⟩
  have bel := bel.grown hg13 bel.size fun g hg => by have := (X10.lt g hg).1; omega
  have sz13 := hg13.size
  have Wr := Wr.kept hg13 (blk_ne Wr0.lt X10.lt (by omega))
  have X0 := X0.kept hg13 (blk_ne X00.lt X10.lt (by omega))
  have Gr := Gr.kept hg13 (blk_ne' X10.lt Gr0.lt (by omega))
  go_wp2_with fail
  refine (eqTermS_c _ _ _ _ _ _ _ _ _ _ Gr.rd Wr.rd (Nat.le_refl _) (Nat.le_refl _)).mono ?_
  rintro e u14 ⟨rfl, hb14⟩
  have bel := bel_step bel hb14
  have sz14 := hb14.size
  have Wr := Wr.go hb14
  have X0 := X0.go hb14
  have X1 := X1.go hb14
  have Gr := Gr.go hb14
  go_wp2_with fail
  refine (markTermS_c _ _ _ _ _ _ _ Gr (by omega) (by omega) (by omega)).mono ?_
  rintro e u15 ⟨rfl, Gr, hg15⟩
  have bel := bel.grown hg15 bel.size fun g hg => by have := (Gr0.lt g hg).1; omega
  have sz15 := hg15.size
  have Wr := Wr.kept hg15 (blk_ne Wr0.lt Gr0.lt (by omega))
  go_wp2_with fail
  refine (heldTermS_c _ _ _ _ _ _ Gr.rd (by omega) (by omega) (by omega)).mono ?_
  rintro e u16 ⟨rfl, hb16⟩
  have bel := bel_step bel hb16
  have sz16 := hb16.size
  have Wr := Wr.go hb16
  have Gr := Gr.go hb16
  go_wp2_with fail
  refine (toTermS_c _ _ _ _ _ _ (r0.below bel) bel.size (by omega)).mono ?_
  rintro e u17 ⟨AZ0, nZ0, cZ0, rfl, Z0, hb17, qZ0⟩
  have bel := bel_step bel hb17
  have sz17 := hb17.size
  have Wr := Wr.go hb17
  have Gr := Gr.go hb17
  have Z00 := Z0
  have eZ0 : nZ0 ≤ 1048576 := by have := Z0.len; have := r0.len; omega
  go_wp2_with fail
  refine (toTermS_c _ _ _ _ _ _ (r1.below bel) bel.size (by omega)).mono ?_
  rintro e u18 ⟨AZ1, nZ1, cZ1, rfl, Z1, hb18, qZ1⟩
  have bel := bel_step bel hb18
  have sz18 := hb18.size
  have Wr := Wr.go hb18
  have Gr := Gr.go hb18
  have Z0 := Z0.go hb18
  have Z10 := Z1
  have eZ1 : nZ1 ≤ 1048576 := by have := Z1.len; have := r1.len; omega
  go_wp2_with fail
  refine (implPlaneProduct_c _ _ _ _ _ _ _ _ _ Z0.rd eZ0 Z1.rd eZ1).mono ?_
  rintro e u19 ⟨AHr, nHr, cHr, rfl, Hr, hb19, qHr⟩
  have bel := bel_step bel hb19
  have sz19 := hb19.size
  have Wr := Wr.go hb19
  have Gr := Gr.go hb19
  have Z0 := Z0.go hb19
  have Z1 := Z1.go hb19
  have Hr0 := Hr
  go_wp2_with fail
  refine (eqTermS_c _ _ _ _ _ _ _ _ _ _ Hr.rd Wr.rd (Nat.le_refl _) (Nat.le_refl _)).mono ?_
  rintro e u20 ⟨rfl, hb20⟩
  have bel := bel_step bel hb20
  have sz20 := hb20.size
  have Wr := Wr.go hb20
  have Gr := Gr.go hb20
  have Hr := Hr.go hb20
  go_wp2_with fail
  refine (heldTermS_c _ _ _ _ _ _ Gr.rd (by omega) (by omega) (by omega)).mono ?_
  rintro e u21 ⟨rfl, hb21⟩
  have bel := bel_step bel hb21
  have sz21 := hb21.size
  have Wr := Wr.go hb21
  have Gr := Gr.go hb21
  have Hr := Hr.go hb21
  go_wp2_with fail
  go_ret
  exact ⟨rfl, bel⟩
end Go.Proofs.Ytfamemjlhgkneaa
