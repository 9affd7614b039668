/- The law on the width of a polygon in a direction. -/
import Derived.Test.YtmaodbmjknmepaaWSum
import Derived.Test.YtmaodbmjknmepaaSlMin
namespace Go.Proofs.Ytmaodbmjknmepaa
open Go.RowKit
def hts (l : List Pnt) (d : Pnt) : List Int := l.map fun p => p.1 * d.1 + p.2 * d.2
def mostTo (zs : List Int) : Nat → Int
  | 0 => -1000000000
  | k + 1 => max (mostTo zs k) (zs.getD k 0)
def most (zs : List Int) : Int := mostTo zs zs.length
def pWidth (l : List Pnt) (d : Pnt) : Int × Bool := if isPgn l && okPt d then (most (hts l d) - least (hts l d), true) else (0, false)
theorem hts_at {l : List Pnt} {d : Pnt} {k : Nat} (h : k < l.length) : (hts l d).getD k 0 = (l.getD k (0, 0)).1 * d.1 + (l.getD k (0, 0)).2 * d.2 := by
  simp [hts, List.getD, List.getElem?_eq_getElem h]
theorem takeI_succ {l : List Int} {k : Nat} (hk : k < l.length) : l.take (k + 1) = l.take k ++ [l.getD k 0] := by
  rw [List.take_add_one]; simp [List.getD, List.getElem?_eq_getElem hk]
theorem hts_bd {l : List Pnt} {d : Pnt} (h : ∀ t ∈ l, okPt t = true) (hd : okPt d = true) (k : Nat) : -20000 ≤ (hts l d).getD k 0 ∧ (hts l d).getD k 0 ≤ 20000 := by
  by_cases hk : k < l.length
  · rw [hts_at hk]
    have h1 := (okPt_iff _).1 (h _ (getP_mem hk))
    have h2 := (okPt_iff _).1 hd
    have m1 := mulBd (x := (l.getD k (0, 0)).1) (y := d.1) (A := 100) (B := 100) (by omega) (by omega) (by omega) (by omega)
    have m2 := mulBd (x := (l.getD k (0, 0)).2) (y := d.2) (A := 100) (B := 100) (by omega) (by omega) (by omega) (by omega)
    omega
  · rw [List.getD, List.getElem?_eq_none (by rw [hts, List.length_map]; omega)]
    simp
theorem least_start {zs : List Int} (h : zs.getD 0 0 ≤ 20000) : min (zs.getD 0 0) (leastTo zs 0) = zs.getD 0 0 := by rw [leastTo]; omega
theorem most_start {zs : List Int} (h : -20000 ≤ zs.getD 0 0) : max (zs.getD 0 0) (mostTo zs 0) = zs.getD 0 0 := by rw [mostTo]; omega
theorem leastTo_leH (zs : List Int) : ∀ k, 0 < k → leastTo zs k ≤ zs.getD 0 0
  | 1, _ => by rw [leastTo]; omega
  | k + 2, _ => by have := leastTo_leH zs (k + 1) (by omega); rw [leastTo]; omega
theorem mostTo_geH (zs : List Int) : ∀ k, 0 < k → zs.getD 0 0 ≤ mostTo zs k
  | 1, _ => by rw [mostTo]; omega
  | k + 2, _ => by have := mostTo_geH zs (k + 1) (by omega); rw [mostTo]; omega
theorem least_end {zs : List Int} (h : 0 < zs.length) : min (zs.getD 0 0) (leastTo zs zs.length) = least zs := by
  have := leastTo_leH zs zs.length h
  unfold least
  omega
theorem most_end {zs : List Int} (h : 0 < zs.length) : max (zs.getD 0 0) (mostTo zs zs.length) = most zs := by
  have := mostTo_geH zs zs.length h
  unfold most
  omega
theorem least_bdH {zs : List Int} (h : ∀ k, -20000 ≤ zs.getD k 0 ∧ zs.getD k 0 ≤ 20000) : -20000 ≤ least zs ∧ least zs ≤ 1000000000 := by
  unfold least
  generalize zs.length = n
  induction n with
  | zero => rw [leastTo]; omega
  | succ n ih => have := h n; rw [leastTo]; omega
theorem most_bdH {zs : List Int} (h : ∀ k, -20000 ≤ zs.getD k 0 ∧ zs.getD k 0 ≤ 20000) : -1000000000 ≤ most zs ∧ most zs ≤ 20000 := by
  unfold most
  generalize zs.length = n
  induction n with
  | zero => rw [mostTo]; omega
  | succ n ih => have := h n; rw [mostTo]; omega
theorem slicesMax_c (A : Option Addr) (n c : Nat) (zs : List Int) (B : Nat) (w : World) (h : Rd w B A n zs) (hn : 0 < n) (hle : -1000000000 ≤ zs.getD 0 0) :
    Calls Try.prog 32 #[.slice A n c] w fun e w' => e = .returned (.int .i64 (most zs)) ∧ w = w' := by
  have hm := h.le
  have HL := Lib.hid h.len
  have H1 : Hid (mostTo zs 1 = zs.getD 0 0) := Lib.hid (by rw [mostTo, mostTo]; omega)
  obtain ⟨ad, rfl, _, hc0⟩ := h.at_ hn
  rw [ad_add0] at hc0
  generalize zs.getD 0 0 = z0 at *
  have hn1 : ¬ (n : Int) < 1 := by omega
  have hn2 : 1 ≤ n := by omega
  have hn3 : (0 : Int) < (n : Int) := by omega
  go_enter Try.func32, Try.ntmps32
  go_wp2
  go_loop [3, 4] (fun o i => ∃ k : Nat, 1 ≤ k ∧ k ≤ n ∧ i = .int .i64 k ∧ o = .int .i64 (mostTo zs k)) (fun _ i => n - (intOf i).toNat)
  case atStart => exact ⟨1, by omega, by omega, rfl, by rw [H1.out]⟩
  case round =>
    obtain ⟨k, hk1, hk, rfl, rfl⟩ := hrel
    by_cases hlt : k < n
    · obtain ⟨ad', q, _, hc⟩ := h.at_ hlt
      cases q
      have H : Hid (mostTo zs (k + 1) = max (mostTo zs k) (zs.getD k 0)) := Lib.hid rfl
      generalize zs.getD k 0 = z at *
      generalize mostTo zs k = m at *
      go_wp2
      all_goals
        go_round
        case rel => exact ⟨k + 1, by omega, by omega, by go_num, by rw [H.out]; first | done | go_num⟩
        case measure => simp [intOf]; omega
    · have H : Hid (most zs = mostTo zs k) := Lib.hid (by rw [most, HL.out, show n = k from by omega])
      go_wp2
      go_ret
      exact ⟨retI H.out.symm, rfl⟩
set_option maxHeartbeats 4000000 in
set_option maxRecDepth 8192 in
theorem specWidthIn_c (A : Option Addr) (n c : Nat) (l : List Pnt) (d0 d1 : Int) (w : World) (h : RdP w w.heap.size A n l) (_hn : n ≤ 1048576) :
    Calls Try.prog 16 #[.slice A n c, .agg #[.int .i64 d0, .int .i64 d1]] w fun e w' => e = .returned (.tuple #[.int .i64 (pWidth l (d0, d1)).1, .bool (pWidth l (d0, d1)).2]) ∧ Below w.heap.size w w' := by
  have HL := Lib.hid h.len
  have hbx := bel_new w (.cells #[.int .i64 d0, .int .i64 d1] 36)
  have P := Bx.new w [.int .i64 d0, .int .i64 d1] 36
  cases hp : isPgn l
  · have H : Hid (pWidth l (d0, d1) = (0, false)) := Lib.hid (by rw [pWidth, hp]; rfl)
    have HP := Lib.hid hp
    clear hp
    go_enter Try.func16, Try.ntmps16
    go_wp2_with fail
    refine (pyGood_c _ _ _ _ _ _ (h.below hbx) hbx.size).mono ?_; rw [HP.out]; rintro e w1 ⟨rfl, hb1⟩
    go_wp2_with fail
    go_ret2
    exact ⟨by rw [H.out]; rfl, bel_step hbx hb1⟩
  cases hd : isPt d0 d1
  · have H : Hid (pWidth l (d0, d1) = (0, false)) := Lib.hid (by rw [pWidth, hp, ← isPt_ok, hd]; rfl)
    have HP := Lib.hid hp
    have HD := Lib.hid hd
    clear hp hd
    go_enter Try.func16, Try.ntmps16
    go_wp2_with fail
    refine (pyGood_c _ _ _ _ _ _ (h.below hbx) hbx.size).mono ?_; rw [HP.out]; rintro e w1 ⟨rfl, hb1⟩
    have P1 := P.go hb1
    have p0 := P1.at0
    have p1 := P1.at1
    go_wp2_with fail
    refine (pyOne_c _ _ _).mono ?_; rw [HD.out]; rintro e w2 ⟨rfl, hb2⟩
    go_wp2_with fail
    go_ret2
    exact ⟨by rw [H.out]; rfl, bel_step (bel_step hbx hb1) hb2⟩
  have H : Hid (pWidth l (d0, d1) = (most (hts l (d0, d1)) - least (hts l (d0, d1)), true)) := Lib.hid (by rw [pWidth, hp, ← isPt_ok, hd]; rfl)
  have hpts := isPgn_pts hp
  have hn := arePts_len hpts
  rw [HL.out] at hn
  have HO := Lib.hid (arePts_ok hpts)
  have hdd := (isPt_iff _ _).1 hd
  have HP := Lib.hid hp
  have HD := Lib.hid hd
  have HTL : Hid ((hts l (d0, d1)).length = n) := Lib.hid (by rw [hts, List.length_map, HL.out])
  have HBD := Lib.hid (hts_bd (l := l) (d := (d0, d1)) HO.out (by rw [okPt_iff]; dsimp only; omega))
  clear hp hd hpts
  obtain ⟨e0, e1, e2, e3⟩ := hdd
  go_enter Try.func16, Try.ntmps16
  go_wp2_with fail
  refine (pyGood_c _ _ _ _ _ _ (h.below hbx) hbx.size).mono ?_; rw [HP.out]; rintro e w1 ⟨rfl, hb1⟩
  have P := P.go hb1
  have p0 := P.at0
  have p1 := P.at1
  have bel1 := bel_step hbx hb1
  go_wp2_with fail
  refine (pyOne_c _ _ _).mono ?_; rw [HD.out]; rintro e w2 ⟨rfl, hb2⟩
  have P := P.go hb2
  have p0 := P.at0
  have p1 := P.at1
  have bel := bel_step bel1 hb2
  clear hbx hb1 hb2 bel1
  obtain ⟨b, o, rfl, _, c0, c1⟩ := (h.below bel).at_ (show 0 < n by omega)
  have hb0 := (okPt_iff _).1 (HO.out _ (getP_mem (show 0 < l.length by rw [HL.out]; omega)))
  have HH0 : Hid ((hts l (d0, d1)).getD 0 0 = (l.getD 0 (0, 0)).1 * d0 + (l.getD 0 (0, 0)).2 * d1) := Lib.hid (hts_at (by rw [HL.out]; omega))
  generalize (l.getD 0 (0, 0)).1 = x0 at *
  generalize (l.getD 0 (0, 0)).2 = x1 at *
  obtain ⟨⟨t0, t1⟩, t2, t3⟩ := hb0
  try dsimp only at t0 t1 t2 t3
  rw [Nat.zero_mul, Nat.add_zero] at c0 c1
  have m1 := mulBd (x := x0) (y := d0) (A := 100) (B := 100) (by omega) (by omega) (by omega) (by omega)
  have m2 := mulBd (x := x1) (y := d1) (A := 100) (B := 100) (by omega) (by omega) (by omega) (by omega)
  have w1 : IntKind.i64.wrap (x0 * d0) = x0 * d0 := IntWalk.i64_in _ (by omega)
  have w2 : IntKind.i64.wrap (x1 * d1) = x1 * d1 := IntWalk.i64_in _ (by omega)
  have w3 : IntKind.i64.wrap (x0 * d0 + x1 * d1) = x0 * d0 + x1 * d1 := IntWalk.i64_in _ (by omega)
  have k0 : (0 : Int) < (n : Int) := by omega
  have k1 : ¬ (n : Int) ≤ 0 := by omega
  have k2 : 0 < n := by omega
  go_wp2_with fail
  go_quiet (fail)
  go_wp2_with fail
  rw [← HH0.out]
  clear c0 c1 m1 m2 w1 w2 w3 t0 t1 t2 t3 p0 p1
  replace bel := bel_drewN bel nq
  replace P := Bx.drewN P nq
  generalize World.drewN w2 nq = wa at *
  have HS0 := Lib.hid (least_start (zs := hts l (d0, d1)) (HBD.out 0).2)
  have HS1 := Lib.hid (most_start (zs := hts l (d0, d1)) (HBD.out 0).1)
  go_loopw [6, 7, 36] (fun a b2 i wr => ∃ k : Nat, k ≤ n ∧ i = .int .i64 k ∧ a = .int .i64 (min ((hts l (d0, d1)).getD 0 0) (leastTo (hts l (d0, d1)) k)) ∧ b2 = .int .i64 (max ((hts l (d0, d1)).getD 0 0) (mostTo (hts l (d0, d1)) k)) ∧ Below w.heap.size w wr ∧ Bx wr w.heap.size [.int .i64 d0, .int .i64 d1]) (fun _ _ i _ => n - (intOf i).toNat)
  case atStart => exact ⟨0, Nat.zero_le _, rfl, by rw [HS0.out], by rw [HS1.out], bel, P⟩
  case round =>
    clear bel P
    obtain ⟨k, hk, rfl, rfl, rfl, bel, P⟩ := hrel
    by_cases hlt : k < n
    · obtain ⟨b', o', q, _, c0, c1⟩ := (h.below bel).at_ hlt
      cases q
      have hb0 := (okPt_iff _).1 (HO.out _ (getP_mem (show k < l.length by rw [HL.out]; exact hlt)))
      have HHk : Hid ((hts l (d0, d1)).getD k 0 = (l.getD k (0, 0)).1 * d0 + (l.getD k (0, 0)).2 * d1) := Lib.hid (hts_at (by rw [HL.out]; exact hlt))
      have HN0 : Hid (leastTo (hts l (d0, d1)) (k + 1) = min (leastTo (hts l (d0, d1)) k) ((hts l (d0, d1)).getD k 0)) := Lib.hid rfl
      have HN1 : Hid (mostTo (hts l (d0, d1)) (k + 1) = max (mostTo (hts l (d0, d1)) k) ((hts l (d0, d1)).getD k 0)) := Lib.hid rfl
      rw [HHk.out] at HN0 HN1
      generalize (l.getD k (0, 0)).1 = x0 at *
      generalize (l.getD k (0, 0)).2 = x1 at *
      obtain ⟨⟨t0, t1⟩, t2, t3⟩ := hb0
      try dsimp only at t0 t1 t2 t3
      have m1 := mulBd (x := x0) (y := d0) (A := 100) (B := 100) (by omega) (by omega) (by omega) (by omega)
      have m2 := mulBd (x := x1) (y := d1) (A := 100) (B := 100) (by omega) (by omega) (by omega) (by omega)
      have w1 : IntKind.i64.wrap (x0 * d0) = x0 * d0 := IntWalk.i64_in _ (by omega)
      have w2 : IntKind.i64.wrap (x1 * d1) = x1 * d1 := IntWalk.i64_in _ (by omega)
      have w3 : IntKind.i64.wrap (x0 * d0 + x1 * d1) = x0 * d0 + x1 * d1 := IntWalk.i64_in _ (by omega)
      generalize (hts l (d0, d1)).getD 0 0 = z0 at *
      generalize leastTo (hts l (d0, d1)) k = zl at *
      generalize mostTo (hts l (d0, d1)) k = zm at *
      have bel := bel_alloc bel (.cells #[.int .i64 x0, .int .i64 x1] 36)
      have P := P.alloc (.cells #[.int .i64 x0, .int .i64 x1] 36)
      have p0 := P.at0
      have p1 := P.at1
      go_wp2_with fail
      refine (l1Least_c _ _ _).mono ?_; rintro e w' ⟨rfl, rfl⟩
      go_wp2_with fail
      refine (l1Most_c _ _ _).mono ?_; rintro e w' ⟨rfl, rfl⟩
      go_wp2_with fail
      go_roundw
      case rel => exact ⟨k + 1, by omega, by go_num, by rw [HN0.out], by rw [HN1.out], bel, P⟩
      case measure => simp [intOf]; omega
    · have HE0 : Hid (min ((hts l (d0, d1)).getD 0 0) (leastTo (hts l (d0, d1)) k) = least (hts l (d0, d1))) := Lib.hid (by rw [show k = n from by omega, ← HTL.out]; exact least_end (by rw [HTL.out]; omega))
      have HE1 : Hid (max ((hts l (d0, d1)).getD 0 0) (mostTo (hts l (d0, d1)) k) = most (hts l (d0, d1))) := Lib.hid (by rw [show k = n from by omega, ← HTL.out]; exact most_end (by rw [HTL.out]; omega))
      rw [HE0.out, HE1.out]
      have hq0 := least_bdH HBD.out
      have hq1 := most_bdH HBD.out
      generalize least (hts l (d0, d1)) = zl at *
      generalize most (hts l (d0, d1)) = zm at *
      have w3 : IntKind.i64.wrap (zm - zl) = zm - zl := IntWalk.i64_in _ (by omega)
      go_wp2_with fail
      go_ret2
      exact ⟨by rw [H.out]; rfl, bel⟩
set_option maxHeartbeats 4000000 in
set_option maxRecDepth 8192 in
theorem implWidthIn_c (A : Option Addr) (n c : Nat) (l : List Pnt) (d0 d1 : Int) (w : World) (h : RdP w w.heap.size A n l) (_hn : n ≤ 1048576) :
    Calls Try.prog 18 #[.slice A n c, .agg #[.int .i64 d0, .int .i64 d1]] w fun e w' => e = .returned (.tuple #[.int .i64 (pWidth l (d0, d1)).1, .bool (pWidth l (d0, d1)).2]) ∧ Below w.heap.size w w' := by
  have HL := Lib.hid h.len
  have hbx := bel_new w (.cells #[.int .i64 d0, .int .i64 d1] 36)
  have P := Bx.new w [.int .i64 d0, .int .i64 d1] 36
  cases hp : isPgn l
  · have H : Hid (pWidth l (d0, d1) = (0, false)) := Lib.hid (by rw [pWidth, hp]; rfl)
    have HP := Lib.hid hp
    clear hp
    go_enter Try.func18, Try.ntmps18
    go_wp2_with fail
    refine (isPolygon_c _ _ _ _ _ _ (h.below hbx) hbx.size).mono ?_; rw [HP.out]; rintro e w1 ⟨rfl, hb1⟩
    go_wp2_with fail
    go_ret2
    exact ⟨by rw [H.out]; rfl, bel_step hbx hb1⟩
  cases hd : isPt d0 d1
  · have H : Hid (pWidth l (d0, d1) = (0, false)) := Lib.hid (by rw [pWidth, hp, ← isPt_ok, hd]; rfl)
    have HP := Lib.hid hp
    have HD := Lib.hid hd
    clear hp hd
    go_enter Try.func18, Try.ntmps18
    go_wp2_with fail
    refine (isPolygon_c _ _ _ _ _ _ (h.below hbx) hbx.size).mono ?_; rw [HP.out]; rintro e w1 ⟨rfl, hb1⟩
    have P1 := P.go hb1
    have p0 := P1.at0
    have p1 := P1.at1
    go_wp2_with fail
    refine (isPoint_c _ _ _).mono ?_; rw [HD.out]; rintro e w2 ⟨rfl, hb2⟩
    go_wp2_with fail
    go_ret2
    exact ⟨by rw [H.out]; rfl, bel_step (bel_step hbx hb1) hb2⟩
  have H : Hid (pWidth l (d0, d1) = (most (hts l (d0, d1)) - least (hts l (d0, d1)), true)) := Lib.hid (by rw [pWidth, hp, ← isPt_ok, hd]; rfl)
  have hpts := isPgn_pts hp
  have hn := arePts_len hpts
  rw [HL.out] at hn
  have HO := Lib.hid (arePts_ok hpts)
  have hdd := (isPt_iff _ _).1 hd
  have HP := Lib.hid hp
  have HD := Lib.hid hd
  have HTL : Hid ((hts l (d0, d1)).length = n) := Lib.hid (by rw [hts, List.length_map, HL.out])
  have HBD := Lib.hid (hts_bd (l := l) (d := (d0, d1)) HO.out (by rw [okPt_iff]; dsimp only; omega))
  clear hp hd hpts
  obtain ⟨e0, e1, e2, e3⟩ := hdd
  go_enter Try.func18, Try.ntmps18
  go_wp2_with fail
  refine (isPolygon_c _ _ _ _ _ _ (h.below hbx) hbx.size).mono ?_; rw [HP.out]; rintro e w1 ⟨rfl, hb1⟩
  have P := P.go hb1
  have p0 := P.at0
  have p1 := P.at1
  have bel1 := bel_step hbx hb1
  go_wp2_with fail
  refine (isPoint_c _ _ _).mono ?_; rw [HD.out]; rintro e w2 ⟨rfl, hb2⟩
  have P := P.go hb2
  have p0 := P.at0
  have p1 := P.at1
  have bel := bel_step bel1 hb2
  clear hbx hb1 hb2 bel1
  obtain ⟨i0, hi, hz0, hz1, hz2⟩ := info_parts info_int
  have HI := Lib.hid hi
  have HZ0 := Lib.hid hz0
  have HZ1 := Lib.hid hz1
  have HZ2 := Lib.hid hz2
  clear hi hz0 hz1 hz2 p0 p1
  have P0 := P
  have own0 := Own.empty w2 3 bel.size
  have bel := bel_alloc bel (.cells #[] 3)
  have P := P.alloc (.cells #[] 3)
  have hv : (Value.slice (some ⟨w2.heap.size, 0, none⟩) 0 0).ownBlock ≠ some w.heap.size := by
    intro e
    have e := Option.some.inj e
    have := P0.1
    dsimp only at e
    omega
  go_wp2_with fail
  go_loopw [6, 20] (fun v i wr => ∃ k : Nat, k ≤ n ∧ i = .int .i64 k ∧ Own wr w.heap.size 3 v k ((hts l (d0, d1)).take k) ∧ Below w.heap.size w wr ∧ Bx wr w.heap.size [.int .i64 d0, .int .i64 d1] ∧ v.ownBlock ≠ some w.heap.size) (fun _ i _ => n - (intOf i).toNat)
  case atStart => exact ⟨0, Nat.zero_le _, rfl, own0, bel, P, hv⟩
  case round =>
    clear own0 bel P hv
    obtain ⟨k, hk, rfl, hown, bel, P, hv⟩ := hrel
    by_cases hlt : k < n
    · obtain ⟨b, o, rfl, _, c0, c1⟩ := (h.below bel).at_ hlt
      have hb0 := (okPt_iff _).1 (HO.out _ (getP_mem (show k < l.length by rw [HL.out]; exact hlt)))
      have HHk : Hid ((hts l (d0, d1)).getD k 0 = d0 * (l.getD k (0, 0)).1 + d1 * (l.getD k (0, 0)).2) := Lib.hid (by rw [hts_at (by rw [HL.out]; exact hlt), Int.mul_comm d0, Int.mul_comm d1])
      have HN : Hid ((hts l (d0, d1)).take (k + 1) = (hts l (d0, d1)).take k ++ [(hts l (d0, d1)).getD k 0]) := Lib.hid (takeI_succ (by rw [HTL.out]; exact hlt))
      rw [HHk.out] at HN
      generalize (l.getD k (0, 0)).1 = x0 at *
      generalize (l.getD k (0, 0)).2 = x1 at *
      obtain ⟨⟨t0, t1⟩, t2, t3⟩ := hb0
      try dsimp only at t0 t1 t2 t3
      have m1 := mulBd (x := d0) (y := x0) (A := 100) (B := 100) (by omega) (by omega) (by omega) (by omega)
      have m2 := mulBd (x := d1) (y := x1) (A := 100) (B := 100) (by omega) (by omega) (by omega) (by omega)
      have w1 : IntKind.i64.wrap (d0 * x0) = d0 * x0 := IntWalk.i64_in _ (by omega)
      have w2 : IntKind.i64.wrap (d1 * x1) = d1 * x1 := IntWalk.i64_in _ (by omega)
      have w3 : IntKind.i64.wrap (d0 * x0 + d1 * x1) = d0 * x0 + d1 * x1 := IntWalk.i64_in _ (by omega)
      generalize (hts l (d0, d1)).take k = zs at *
      have own := hown.new (.cells #[.int .i64 x0, .int .i64 x1] 36)
      have HSz : Hid (w.heap.size < wr.heap.size + 1) := Lib.hid (by have := P.1; omega)
      have bel := bel_alloc bel (.cells #[.int .i64 x0, .int .i64 x1] 36)
      have P := P.alloc (.cells #[.int .i64 x0, .int .i64 x1] 36)
      have p0 := P.at0
      have p1 := P.at1
      have hz := bel.size
      clear hown
      go_wp2_with (at_builtin; refine wp_app1b rfl _ _ 45 rfl w.heap.size 3 i0 Try.underlying45 HI.out HZ0.out HZ1.out HZ2.out _ _ _ rfl own _ (by rw [World.size_alloc]; rfl) (by omega) hz ?_)
      intro v' w5 h1 hb5 g5 hn5
      have hbel' := bel.trans hb5
      have P' := P.grown g5 hv
      have hv' := hn5 _ HSz.out hv
      rw [← HN.out] at h1
      clear own bel hb5 hz g5 hn5 P hv p0 p1 c0 c1
      go_wp2_with fail
      go_roundw
      case rel => exact ⟨k + 1, by omega, by go_num, h1, hbel', P', hv'⟩
      case measure => simp [intOf]; omega
    · obtain rfl : k = n := by omega
      rw [List.take_of_length_le (by rw [HTL.out]; exact Nat.le_refl _)] at hown
      obtain ⟨A3, c3, rfl⟩ := hown.shape
      have rd3 := hown.rd
      have hq0 := least_bdH HBD.out
      have hq1 := most_bdH HBD.out
      have hb0 := HBD.out 0
      go_wp2_with fail
      refine (slicesMax_c _ _ _ _ _ _ rd3 (by omega) (by omega)).mono ?_; rintro e w' ⟨rfl, rfl⟩
      go_wp2_with fail
      refine (slicesMin_c _ _ _ _ _ _ rd3 (by omega) (by omega)).mono ?_; rintro e w' ⟨rfl, rfl⟩
      generalize least (hts l (d0, d1)) = zl at *
      generalize most (hts l (d0, d1)) = zm at *
      have w3 : IntKind.i64.wrap (zm - zl) = zm - zl := IntWalk.i64_in _ (by omega)
      go_wp2_with fail
      go_ret2
      exact ⟨by rw [H.out]; rfl, bel⟩
theorem walk_FnExactWidthIn (A0 : Option Addr) (n0 c0 : Nat) (z0 : List Pnt) (a1 b1 : Int) (w : World) (r0 : RdP w w.heap.size A0 n0 z0) (w1 : (Lit.int .i64 a1).wf = true) (x1 : (Lit.int .i64 b1).wf = true) :
  Calls Try.prog 5 #[.slice A0 n0 c0, .agg #[.int .i64 a1, .int .i64 b1]] w fun e w' => e = .returned (.bool true) ∧ Below w.heap.size w w' := by
  have _w := w1
  have _w := x1
  have l0 := r0.le
  by_cases s0 : (n0 : Int) ≤ 1048576
  rotate_left
  · go_enter Try.func5, Try.ntmps5
    go_wp2_with fail
    refine (szPointS_no _ _ _ _ _ (by omega) (by omega) (by omega)).mono ?_; rintro e w' ⟨rfl, rfl⟩
    go_wp2_with fail
    go_ret
    exact ⟨rfl, bel_new _ _⟩
  have P := Bx.new w [.int .i64 a1, .int .i64 b1] 33
  have bel := bel_new w (.cells #[.int .i64 a1, .int .i64 b1] 33)
  go_enter Try.func5, Try.ntmps5
  go_wp2_with fail
  refine (szPointS_yes _ _ _ _ _ (by omega) (by omega)).mono ?_; rintro e w' ⟨rfl, rfl⟩
  go_wp2_with fail
  refine gen_world (C := Code.wp _ _ _ _) (fun u => Below w.heap.size w u ∧ Bx u w.heap.size [.int .i64 a1, .int .i64 b1]) ⟨bel, P⟩ ?_
  clear bel P
  rintro u ⟨bel, P⟩
  replace bel := bel.drew
  replace P := P.drew
  go_region_held3 (fun w' => w'.cell? ⟨w.heap.size, 0, none⟩ = some (.int .i64 a1) ∧ w'.cell? ⟨w.heap.size, 1, none⟩ = some (.int .i64 b1))
    (first | exact ⟨P.at0, P.at1⟩)
    (first
    | (go_at_call 9; refine (toPointS_c _ _ _ _ _ _ (r0.below bel) bel.size (by omega)).mono ?_; rintro e v1 ⟨AX, nX, cX, rfl, ownX, hb1, _⟩; have P := P.go hb1; have bel := bel_step bel hb1)
    | (go_at_call 17; refine (toPoint_c _ _ _).mono ?_; rintro e v2 ⟨rfl, hb2⟩; have P := P.go hb2; have bel := bel_step bel hb2; have ownX := OwnP.go ownX hb2)
    | (go_at_call 16; refine (specWidthIn_c _ _ _ _ _ _ _ ownX.rd (by have := ownX.len; have := r0.len; omega)).mono ?_; rintro e v3 ⟨rfl, hb3⟩; have P := P.go hb3; have bel := bel_step bel hb3))
  all_goals
    clear ownX
    go_wp2_with fail
    refine (toPointS_c _ _ _ _ _ _ (r0.below bel) bel.size (by omega)).mono ?_; rintro e v4 ⟨A4, n4, c4, rfl, own4, hb4, _⟩
    have P := P.go hb4
    have bel := bel_step bel hb4
    have p0 := P.at0
    have p1 := P.at1
    have hn4 : n4 ≤ 1048576 := by have := own4.len; have := r0.len; omega
    go_wp2_with fail
    refine (toPoint_c _ _ _).mono ?_; rintro e v5 ⟨rfl, hb5⟩
    have bel := bel_step bel hb5
    have own4 := own4.go hb5
    go_wp2_with fail
    refine (implWidthIn_c _ _ _ _ _ _ _ own4.rd hn4).mono ?_; rintro e v6 ⟨rfl, hb6⟩
    have bel := bel_step bel hb6
    have own4 := own4.go hb6
    go_wp2_with fail
    refine (toPointS_c _ _ _ _ _ _ (r0.below bel) bel.size (by omega)).mono ?_; rintro e v7 ⟨A7, n7, c7, rfl, own7, hb7, _⟩
    have bel := bel_step bel hb7
    have own4 := own4.go hb7
    go_wp2_with fail
    refine (eqPointS_c _ _ _ _ _ _ _ _ _ _ own4.rd own7.rd (Nat.le_refl _) (Nat.le_refl _)).mono ?_; rintro e v8 ⟨rfl, hb8⟩
    have bel := bel_step bel hb8
    go_wp2_with fail
    go_ret
    exact ⟨rfl, bel⟩
end Go.Proofs.Ytmaodbmjknmepaa
