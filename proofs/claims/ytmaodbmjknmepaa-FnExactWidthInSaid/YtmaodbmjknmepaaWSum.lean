/- The law on the sum of two polygons. -/
import Derived.Test.YtmaodbmjknmepaaWGood
import Derived.Test.YtmaodbmjknmepaaApp4
import Derived.Test.YtmaodbmjknmepaaApp
namespace Go.Proofs.Ytmaodbmjknmepaa
open Go.RowKit
theorem wp_appPb {P : Program} {W : World} {ops : Array Oper} {rest : List Oper} {o : Oper} {a : Act} {Q : Exit → Act → World → Prop} (hgd : o.guard = none) (s x : Operand) (t : TypeId)
    (ho : o.op = .call { callee := .builtin .append, args := #[s, x], argTypes := #[t, t] })
    (base : Nat) (e : TypeId) (i : TypeInfo) (ht : P.underlying t = some (.slice e)) (hi : P.info? e = some i) (hz : i.zero = some (.agg #[.int .i64 0, .int .i64 0])) (hsize : i.size = 2) (hby : i.bytes = 16)
    (v : Value) (n : Nat) (l : List Pnt) (hs : a.eval s = v) (hown : OwnP W base e v n l) (t0 t1 : Int) (hx : a.eval x = .slice (some ⟨W.heap.size, 0, none⟩) 1 1)
    (hn : n ≤ 3000000000) (hbase : base ≤ W.heap.size)
    (h : ∀ v' w', OwnP w' base e v' (n + 1) (l ++ [(t0, t1)]) → Below base W w' → W.grownBy w' v.ownBlock → (∀ g, g < W.heap.size → v.ownBlock ≠ some g → v'.ownBlock ≠ some g) → wpList P ops Q rest (a.put o.dst v') w') : wpList P ops Q (o :: rest) a (W.alloc (.cells #[.int .i64 t0, .int .i64 t1] e)) :=
  wp_appFb hgd s x t ho base e 2 i _ ht hi hz hsize hby (by omega) (by omega) rfl v n (flatP l) hs hown [t0, t1] rfl hx hn hbase fun v' w' h1 h2 h3 h4 => h v' w' (by unfold OwnP; rw [flatP_snoc]; exact h1) h2 h3 h4
def addP (p q : Pnt) : Pnt := (p.1 + q.1, p.2 + q.2)
def sumsP (a b : List Pnt) : List Pnt := a.flatMap fun p => b.map (addP p)
theorem sumsP_take {a b : List Pnt} {k : Nat} (h : k < a.length) : sumsP (a.take (k + 1)) b = sumsP (a.take k) b ++ b.map (addP (a.getD k (0, 0))) := by
  rw [takeP_succ h]; simp [sumsP]
theorem sumsP_pos {a b : List Pnt} (h : 0 < a.length) (k : 0 < b.length) : 0 < (sumsP a b).length := by
  match a, h, b, k with
  | x :: a, _, y :: b, _ => simp [sumsP]
theorem sumsP_bd {a b : List Pnt} (ha : ∀ t ∈ a, okPt t = true) (hb : ∀ t ∈ b, okPt t = true) : ∀ t ∈ sumsP a b, bdP t := fun t ht => by
  unfold sumsP at ht
  obtain ⟨p, hp, ht⟩ := List.mem_flatMap.1 ht
  obtain ⟨q, hq, rfl⟩ := List.mem_map.1 ht
  have h1 := (okPt_iff p).1 (ha p hp)
  have h2 := (okPt_iff q).1 (hb q hq)
  unfold bdP addP
  dsimp only
  omega
def pOut (l : List Pnt) : List Pnt × Bool := if arePts l then (l, true) else ([], false)
def pSum (a b : List Pnt) : List Pnt × Bool := if isPgn a && isPgn b then (if arePts (hullP (sumsP a b)) then (hullP (sumsP a b), true) else ([], false)) else ([], false)
theorem isPgn_pts {l : List Pnt} (h : isPgn l = true) : arePts l = true := by
  unfold isPgn at h
  rw [Bool.and_eq_true] at h
  exact h.1
set_option maxHeartbeats 4000000 in
set_option maxRecDepth 8192 in
theorem pySum_c (A A' : Option Addr) (n c n' c' : Nat) (a b : List Pnt) (B : Nat) (w : World) (h : RdP w B A n a) (h' : RdP w B A' n' b) (hB : B ≤ w.heap.size) (ha : ∀ t ∈ a, okPt t = true) (hb : ∀ t ∈ b, okPt t = true) (hn1 : 1 ≤ n) (hn2 : n ≤ 40) (hn3 : 1 ≤ n') (hn4 : n' ≤ 40) :
    Calls Try.prog 34 #[.slice A n c, .slice A' n' c'] w (RetP 36 (hullP (sumsP a b)) w) := by
  have HBS := Lib.hid (sumsP_bd ha hb)
  obtain ⟨i0, hi, hz0, hz1, hz2⟩ := info_parts info_pnt
  have HI := Lib.hid hi
  have HZ0 := Lib.hid hz0
  have HZ1 := Lib.hid hz1
  have HZ2 := Lib.hid hz2
  clear hi hz0 hz1 hz2
  have HL := Lib.hid h.len
  have HL' := Lib.hid h'.len
  have HBA := Lib.hid ha
  have HBB := Lib.hid hb
  clear ha hb
  go_enter Try.func34, Try.ntmps34
  go_wp2_with fail
  go_loopw [5, 12] (fun v i wr => ∃ k m : Nat, k ≤ n ∧ i = .int .i64 k ∧ m ≤ 40 * k ∧ OwnP wr w.heap.size 36 v m (sumsP (a.take k) b) ∧ Below w.heap.size w wr) (fun _ i _ => n - (intOf i).toNat)
  case atStart => exact ⟨0, 0, Nat.zero_le _, rfl, Nat.zero_le _, OwnP.nil _ _ _, Below.refl _ _⟩
  case round =>
    skip
    obtain ⟨k, m, hk, rfl, hmk, hown, hbel⟩ := hrel
    have hsz := hbel.size
    by_cases hlt : k < n
    · obtain ⟨b1, o1, rfl, _, c0, c1⟩ := (h.below (hbel.mono hB)).at_ hlt
      have HA := Lib.hid (HBA.out _ (getP_mem (show k < a.length by rw [HL.out]; exact hlt)))
      have HC : Hid (sumsP (a.take (k + 1)) b = sumsP (a.take k) b ++ b.map (addP (a.getD k (0, 0)))) := Lib.hid (sumsP_take (by rw [HL.out]; exact hlt))
      generalize hx0 : (a.getD k (0, 0)).1 = x0 at *
      generalize hx1 : (a.getD k (0, 0)).2 = x1 at *
      have HX : Hid (a.getD k (0, 0) = (x0, x1)) := Lib.hid (by rw [← hx0, ← hx1])
      clear hx0 hx1
      rw [HX.out] at HA HC
      obtain ⟨⟨t0, t1⟩, t2, t3⟩ := (okPt_iff _).1 HA.out
      dsimp only at t0 t1 t2 t3
      have hv := ne_blk (k := wr.heap.size) hown.lt (Nat.le_refl _)
      have P := Bx.new wr [.int .i64 x0, .int .i64 x1] 36
      have own := hown.new (.cells #[.int .i64 x0, .int .i64 x1] 36)
      have bel := bel_alloc hbel (.cells #[.int .i64 x0, .int .i64 x1] 36)
      clear hown hbel
      go_wp2_with fail
      generalize wr.alloc (.cells #[.int .i64 x0, .int .i64 x1] 36) = wz at *
      generalize wr.heap.size = S at *
      clear c0 c1 hsz
      go_loopw [5, 18] (fun v i wr => ∃ j m2 : Nat, j ≤ n' ∧ i = .int .i64 j ∧ m2 ≤ 40 * k + j ∧ OwnP wr w.heap.size 36 v m2 (sumsP (a.take k) b ++ (b.take j).map (addP (x0, x1))) ∧ Below w.heap.size w wr ∧ Bx wr S [.int .i64 x0, .int .i64 x1] ∧ v.ownBlock ≠ some S) (fun _ i _ => n' - (intOf i).toNat)
      case atStart => exact ⟨0, m, Nat.zero_le _, rfl, by omega, by rw [List.take_zero, List.map_nil, List.append_nil]; exact own, bel, P, hv⟩
      case round =>
        clear own bel P hv
        obtain ⟨j, m2, hj, rfl, hm2, hown, hbel, hP, hv⟩ := hrel
        have hsz := hbel.size
        by_cases hlt2 : j < n'
        · obtain ⟨b2, o2, rfl, _, d0, d1⟩ := (h'.below (hbel.mono hB)).at_ hlt2
          have HY := Lib.hid (HBB.out _ (getP_mem (show j < b.length by rw [HL'.out]; exact hlt2)))
          have HM : Hid (sumsP (a.take k) b ++ (b.take (j + 1)).map (addP (x0, x1)) = sumsP (a.take k) b ++ (b.take j).map (addP (x0, x1)) ++ [addP (x0, x1) (b.getD j (0, 0))]) := Lib.hid (by rw [takeP_succ (by rw [HL'.out]; exact hlt2), List.map_append, List.append_assoc]; rfl)
          generalize hy0 : (b.getD j (0, 0)).1 = y0 at *
          generalize hy1 : (b.getD j (0, 0)).2 = y1 at *
          have HYY : Hid (b.getD j (0, 0) = (y0, y1)) := Lib.hid (by rw [← hy0, ← hy1])
          clear hy0 hy1
          rw [HYY.out] at HY HM
          obtain ⟨⟨s0, s1⟩, s2, s3⟩ := (okPt_iff _).1 HY.out
          dsimp only at s0 s1 s2 s3
          have e1 : IntKind.i64.wrap (x0 + y0) = x0 + y0 := IntWalk.i64_in _ (by omega)
          have e2 : IntKind.i64.wrap (x1 + y1) = x1 + y1 := IntWalk.i64_in _ (by omega)
          have bel := bel_alloc hbel (.cells #[.int .i64 y0, .int .i64 y1] 36)
          have own := hown.new (.cells #[.int .i64 y0, .int .i64 y1] 36)
          have P := hP.alloc (.cells #[.int .i64 y0, .int .i64 y1] 36)
          have p0 := P.at0
          have p1 := P.at1
          have hz : w.heap.size ≤ (wr.alloc (.cells #[.int .i64 y0, .int .i64 y1] 36)).heap.size := bel.size
          have HSz : Hid (S < wr.heap.size + 1) := Lib.hid (by have := hP.1; omega)
          have hmb : m2 ≤ 3000000000 := by omega
          clear hbel hP hown
          generalize sumsP (a.take k) b ++ (b.take j).map (addP (x0, x1)) = Lj at *
          go_wp2_with (at_builtin; refine wp_appPb rfl _ _ 25 rfl w.heap.size 36 i0 Try.underlying25 HI.out HZ0.out HZ1.out HZ2.out _ _ _ rfl own _ _ (by rw [World.size_alloc]; rfl) hmb hz ?_)
          intro v' w5 h1 hb5 g5 hn5
          have hbel' := bel.trans hb5
          have P' := P.grown g5 hv
          have hv' := hn5 S HSz.out hv
          have own6 : OwnP w5 w.heap.size 36 v' (m2 + 1) (sumsP (a.take k) b ++ (b.take (j + 1)).map (addP (x0, x1))) := by rw [HM.out]; exact h1
          clear own h1 hb5 bel hz g5 hn5 P hv p0 p1 d0 d1
          go_wp2_with fail
          go_roundw
          case rel => exact ⟨j + 1, m2 + 1, by omega, by go_num, by omega, own6, hbel', P', hv'⟩
          case measure => simp [intOf]; omega
        · have HE : Hid (sumsP (a.take (k + 1)) b = sumsP (a.take k) b ++ (b.take j).map (addP (x0, x1))) := Lib.hid (by rw [HC.out, List.take_of_length_le (l := b) (by rw [HL'.out]; omega)])
          have hown' := hown
          rw [← HE.out] at hown'
          clear hown hP hv
          go_wp2_with fail
          go_roundw
          case rel => exact ⟨k + 1, m2, by omega, by go_num, by omega, hown', hbel⟩
          case measure => simp [intOf]; omega
    · have HE : Hid (sumsP (a.take k) b = sumsP a b) := Lib.hid (by rw [List.take_of_length_le (by rw [HL.out]; omega)])
      rw [HE.out] at hown
      have hml := hown.len
      have hmp : 0 < m := by rw [← hml]; exact sumsP_pos (by rw [HL.out]; omega) (by rw [HL'.out]; omega)
      obtain ⟨A3, c3, rfl⟩ := hown.shape
      go_wp2_with fail
      refine (pyHull_c _ _ _ _ _ _ hown.rd (Nat.le_refl _) HBS.out hmp (by omega)).mono ?_
      rintro e w6 ⟨A6, n6, c6, rfl, own6, bel6, hn6⟩
      go_wp2_with fail
      go_ret
      exact retP_mk (OwnP.more own6 hsz) (bel_step hbel bel6) hn6
theorem plus_c (a0 a1 b0 b1 : Int) (w : World) (h1 : okPt (a0, a1) = true) (h2 : okPt (b0, b1) = true) :
    Calls Try.prog 50 #[.agg #[.int .i64 a0, .int .i64 a1], .agg #[.int .i64 b0, .int .i64 b1]] w fun e w' => e = .returned (.agg #[.int .i64 (a0 + b0), .int .i64 (a1 + b1)]) ∧ Below w.heap.size w w' := by
  obtain ⟨⟨a2, a3⟩, a4, a5⟩ := (okPt_iff _).1 h1
  obtain ⟨⟨b2, b3⟩, b4, b5⟩ := (okPt_iff _).1 h2
  dsimp only at *
  clear h1 h2
  go_enter Try.func50, Try.ntmps50
  go_wp2
  refine bodyPost_ret (v := .agg #[.int .i64 (a0 + b0), .int .i64 (a1 + b1)]) (by simp [results, Try.results50, go_sem]) rfl ⟨rfl, ?_⟩
  have bel : Below w.heap.size w w := Below.refl _ _
  (repeat (first | exact bel | refine Below.drew ?_ | refine bel_set ?_ (by first | exact Nat.le_refl _ | (dsimp only; omega) | omega) _ | refine bel_alloc ?_ _))
set_option maxHeartbeats 4000000 in
set_option maxRecDepth 8192 in
theorem sumOf_c (A A' : Option Addr) (n c n' c' : Nat) (a b : List Pnt) (B : Nat) (w : World) (h : RdP w B A n a) (h' : RdP w B A' n' b) (hB : B ≤ w.heap.size) (ha : ∀ t ∈ a, okPt t = true) (hb : ∀ t ∈ b, okPt t = true) (hn1 : 1 ≤ n) (hn2 : n ≤ 40) (hn3 : 1 ≤ n') (hn4 : n' ≤ 40) :
    Calls Try.prog 35 #[.slice A n c, .slice A' n' c'] w (RetPB 36 (pOut (hullP (sumsP a b))).1 (pOut (hullP (sumsP a b))).2 w) := by
  have HBS := Lib.hid (sumsP_bd ha hb)
  obtain ⟨i0, hi, hz0, hz1, hz2⟩ := info_parts info_pnt
  have HI := Lib.hid hi
  have HZ0 := Lib.hid hz0
  have HZ1 := Lib.hid hz1
  have HZ2 := Lib.hid hz2
  clear hi hz0 hz1 hz2
  have HL := Lib.hid h.len
  have HL' := Lib.hid h'.len
  have HBA := Lib.hid ha
  have HBB := Lib.hid hb
  clear ha hb
  have own0 := OwnP.empty w 36 (Nat.le_refl w.heap.size)
  have bel0 := bel_new w (.cells #[] 36)
  go_enter Try.func35, Try.ntmps35
  go_wp2_with fail
  go_loopw [6, 15] (fun v i wr => ∃ k m : Nat, k ≤ n ∧ i = .int .i64 k ∧ m ≤ 40 * k ∧ OwnP wr w.heap.size 36 v m (sumsP (a.take k) b) ∧ Below w.heap.size w wr) (fun _ i _ => n - (intOf i).toNat)
  case atStart => exact ⟨0, 0, Nat.zero_le _, rfl, Nat.zero_le _, own0, bel0⟩
  case round =>
    clear own0 bel0
    obtain ⟨k, m, hk, rfl, hmk, hown, hbel⟩ := hrel
    have hsz := hbel.size
    by_cases hlt : k < n
    · obtain ⟨b1, o1, rfl, _, c0, c1⟩ := (h.below (hbel.mono hB)).at_ hlt
      have HA := Lib.hid (HBA.out _ (getP_mem (show k < a.length by rw [HL.out]; exact hlt)))
      have HC : Hid (sumsP (a.take (k + 1)) b = sumsP (a.take k) b ++ b.map (addP (a.getD k (0, 0)))) := Lib.hid (sumsP_take (by rw [HL.out]; exact hlt))
      generalize hx0 : (a.getD k (0, 0)).1 = x0 at *
      generalize hx1 : (a.getD k (0, 0)).2 = x1 at *
      have HX : Hid (a.getD k (0, 0) = (x0, x1)) := Lib.hid (by rw [← hx0, ← hx1])
      clear hx0 hx1
      rw [HX.out] at HA HC
      obtain ⟨⟨t0, t1⟩, t2, t3⟩ := (okPt_iff _).1 HA.out
      dsimp only at t0 t1 t2 t3
      have hv := ne_blk (k := wr.heap.size) hown.lt (Nat.le_refl _)
      have P := Bx.new wr [.int .i64 x0, .int .i64 x1] 36
      have own := hown.new (.cells #[.int .i64 x0, .int .i64 x1] 36)
      have bel := bel_alloc hbel (.cells #[.int .i64 x0, .int .i64 x1] 36)
      clear hown hbel
      go_wp2_with fail
      generalize wr.alloc (.cells #[.int .i64 x0, .int .i64 x1] 36) = wz at *
      generalize wr.heap.size = S at *
      clear c0 c1 hsz
      go_loopw [6, 21] (fun v i wr => ∃ j m2 : Nat, j ≤ n' ∧ i = .int .i64 j ∧ m2 ≤ 40 * k + j ∧ OwnP wr w.heap.size 36 v m2 (sumsP (a.take k) b ++ (b.take j).map (addP (x0, x1))) ∧ Below w.heap.size w wr ∧ Bx wr S [.int .i64 x0, .int .i64 x1] ∧ v.ownBlock ≠ some S) (fun _ i _ => n' - (intOf i).toNat)
      case atStart => exact ⟨0, m, Nat.zero_le _, rfl, by omega, by rw [List.take_zero, List.map_nil, List.append_nil]; exact own, bel, P, hv⟩
      case round =>
        clear own bel P hv
        obtain ⟨j, m2, hj, rfl, hm2, hown, hbel, hP, hv⟩ := hrel
        have hsz := hbel.size
        by_cases hlt2 : j < n'
        · obtain ⟨b2, o2, rfl, _, d0, d1⟩ := (h'.below (hbel.mono hB)).at_ hlt2
          have HY := Lib.hid (HBB.out _ (getP_mem (show j < b.length by rw [HL'.out]; exact hlt2)))
          have HM : Hid (sumsP (a.take k) b ++ (b.take (j + 1)).map (addP (x0, x1)) = sumsP (a.take k) b ++ (b.take j).map (addP (x0, x1)) ++ [addP (x0, x1) (b.getD j (0, 0))]) := Lib.hid (by rw [takeP_succ (by rw [HL'.out]; exact hlt2), List.map_append, List.append_assoc]; rfl)
          generalize hy0 : (b.getD j (0, 0)).1 = y0 at *
          generalize hy1 : (b.getD j (0, 0)).2 = y1 at *
          have HYY : Hid (b.getD j (0, 0) = (y0, y1)) := Lib.hid (by rw [← hy0, ← hy1])
          clear hy0 hy1
          rw [HYY.out] at HY HM
          obtain ⟨⟨s0, s1⟩, s2, s3⟩ := (okPt_iff _).1 HY.out
          dsimp only at s0 s1 s2 s3
          have e1 : IntKind.i64.wrap (x0 + y0) = x0 + y0 := IntWalk.i64_in _ (by omega)
          have e2 : IntKind.i64.wrap (x1 + y1) = x1 + y1 := IntWalk.i64_in _ (by omega)
          have bel := bel_alloc hbel (.cells #[.int .i64 y0, .int .i64 y1] 36)
          have own := hown.new (.cells #[.int .i64 y0, .int .i64 y1] 36)
          have P := hP.alloc (.cells #[.int .i64 y0, .int .i64 y1] 36)
          have p0 := P.at0
          have p1 := P.at1
          have hz : w.heap.size ≤ (wr.alloc (.cells #[.int .i64 y0, .int .i64 y1] 36)).heap.size := bel.size
          have HSz : Hid (S < wr.heap.size + 1) := Lib.hid (by have := hP.1; omega)
          have hmb : m2 ≤ 3000000000 := by omega
          clear hbel hP hown
          generalize sumsP (a.take k) b ++ (b.take j).map (addP (x0, x1)) = Lj at *
          go_wp2_with fail
          refine (plus_c x0 x1 y0 y1 _ HA.out HY.out).mono ?_
          rintro e u1 ⟨rfl, hb1⟩
          replace own := OwnP.go own hb1
          replace P := P.go hb1
          replace HSz : Hid (S < u1.heap.size) := Lib.hid (Nat.lt_of_lt_of_le (by rw [World.size_alloc]; exact HSz.out) hb1.size)
          replace bel := bel.trans (hb1.mono bel.size)
          have hz := bel.size
          go_wp2_with (at_builtin; refine wp_appPb rfl _ _ 25 rfl w.heap.size 36 i0 Try.underlying25 HI.out HZ0.out HZ1.out HZ2.out _ _ _ rfl own _ _ (by rfl) hmb hz ?_)
          intro v' w5 h1 hb5 g5 hn5
          have hbel' := bel.trans hb5
          have P' := P.grown g5 hv
          have hv' := hn5 S HSz.out hv
          have own6 : OwnP w5 w.heap.size 36 v' (m2 + 1) (sumsP (a.take k) b ++ (b.take (j + 1)).map (addP (x0, x1))) := by rw [HM.out]; exact h1
          clear own h1 hb5 bel hz g5 hn5 P hv p0 p1 d0 d1
          go_wp2_with fail
          go_roundw
          case rel => exact ⟨j + 1, m2 + 1, by omega, by go_num, by omega, own6, hbel', P', hv'⟩
          case measure => simp [intOf]; omega
        · have HE : Hid (sumsP (a.take (k + 1)) b = sumsP (a.take k) b ++ (b.take j).map (addP (x0, x1))) := Lib.hid (by rw [HC.out, List.take_of_length_le (l := b) (by rw [HL'.out]; omega)])
          have hown' := hown
          rw [← HE.out] at hown'
          clear hown hP hv
          go_wp2_with fail
          go_roundw
          case rel => exact ⟨k + 1, m2, by omega, by go_num, by omega, hown', hbel⟩
          case measure => simp [intOf]; omega
    · have HE : Hid (sumsP (a.take k) b = sumsP a b) := Lib.hid (by rw [List.take_of_length_le (by rw [HL.out]; omega)])
      rw [HE.out] at hown
      have hml := hown.len
      have hmp : 0 < m := by rw [← hml]; exact sumsP_pos (by rw [HL.out]; omega) (by rw [HL'.out]; omega)
      obtain ⟨A3, c3, rfl⟩ := hown.shape
      go_wp2_with fail
      refine (hull_c _ _ _ _ _ _ hown.rd (Nat.le_refl _) HBS.out hmp (by omega)).mono ?_
      rintro e w6 ⟨A6, n6, c6, rfl, own6, bel6, hn6⟩
      have hb6 := bel_step hbel bel6
      cases hr : arePts (hullP (sumsP a b))
      · have HR := Lib.hid hr
        have H : Hid (pOut (hullP (sumsP a b)) = ([], false)) := Lib.hid (by rw [pOut, hr]; rfl)
        clear hr
        go_wp2_with fail
        refine (arePoints_c _ _ _ _ _ _ own6.rd (Nat.le_refl _)).mono ?_; rw [HR.out]; rintro e w7 ⟨rfl, hb7⟩
        go_wp2_with fail
        go_ret2
        rw [H.out]
        exact retPB_mk (OwnP.nil _ _ _) (bel_step hb6 hb7) (by omega)
      · have HR := Lib.hid hr
        have H : Hid (pOut (hullP (sumsP a b)) = (hullP (sumsP a b), true)) := Lib.hid (by rw [pOut, hr]; rfl)
        clear hr
        go_wp2_with fail
        refine (arePoints_c _ _ _ _ _ _ own6.rd (Nat.le_refl _)).mono ?_; rw [HR.out]; rintro e w7 ⟨rfl, hb7⟩
        have own7 := OwnP.more (OwnP.go own6 hb7) hsz
        go_wp2_with fail
        go_ret2
        rw [H.out]
        exact retPB_mk own7 (bel_step hb6 hb7) hn6
set_option maxHeartbeats 1000000 in
theorem specSumOfPolygons_c (A : Option Addr) (n c : Nat) (a : List Pnt) (A' : Option Addr) (n' c' : Nat) (b : List Pnt) (w : World) (h : RdP w w.heap.size A n a) (_hn : n ≤ 1048576) (h' : RdP w w.heap.size A' n' b) (_hn' : n' ≤ 1048576) :
    Calls Try.prog 19 #[.slice A n c, .slice A' n' c'] w (RetPB 36 (pSum a b).1 (pSum a b).2 w) := by
  have HL := Lib.hid h.len
  have HL' := Lib.hid h'.len
  cases hp : isPgn a
  · have H : Hid (pSum a b = ([], false)) := Lib.hid (by rw [pSum, hp]; rfl)
    have HP := Lib.hid hp
    clear hp
    go_enter Try.func19, Try.ntmps19
    go_wp2_with fail
    refine (pyGood_c _ _ _ _ _ _ h (Nat.le_refl _)).mono ?_; rw [HP.out]; rintro e w1 ⟨rfl, hb1⟩
    go_wp2_with fail
    go_ret2
    rw [H.out]
    exact retPB_mk (OwnP.nil _ _ _) hb1 (by omega)
  · have HA := Lib.hid hp
    have HPA := Lib.hid (isPgn_pts hp)
    have hna := arePts_len HPA.out
    rw [HL.out] at hna
    clear hp
    cases hp : isPgn b
    · have H : Hid (pSum a b = ([], false)) := Lib.hid (by rw [pSum, HA.out, hp]; rfl)
      have HP := Lib.hid hp
      clear hp
      go_enter Try.func19, Try.ntmps19
      go_wp2_with fail
      refine (pyGood_c _ _ _ _ _ _ h (Nat.le_refl _)).mono ?_; rw [HA.out]; rintro e w1 ⟨rfl, hb1⟩
      go_wp2_with fail
      refine (pyGood_c _ _ _ _ _ _ (h'.below hb1) hb1.size).mono ?_; rw [HP.out]; rintro e w2 ⟨rfl, hb2⟩
      have hb2 := bel_step hb1 hb2
      go_wp2_with fail
      go_ret2
      rw [H.out]
      exact retPB_mk (OwnP.nil _ _ _) hb2 (by omega)
    · have HB := Lib.hid hp
      have HPB := Lib.hid (isPgn_pts hp)
      have hnb := arePts_len HPB.out
      rw [HL'.out] at hnb
      clear hp
      go_enter Try.func19, Try.ntmps19
      go_wp2_with fail
      refine (pyGood_c _ _ _ _ _ _ h (Nat.le_refl _)).mono ?_; rw [HA.out]; rintro e w1 ⟨rfl, hb1⟩
      go_wp2_with fail
      refine (pyGood_c _ _ _ _ _ _ (h'.below hb1) hb1.size).mono ?_; rw [HB.out]; rintro e w2 ⟨rfl, hb2⟩
      have hb2 := bel_step hb1 hb2
      go_wp2_with fail
      refine (pySum_c _ _ _ _ _ _ _ _ _ _ (h.below hb2) (h'.below hb2) hb2.size (arePts_ok HPA.out) (arePts_ok HPB.out) (by omega) (by omega) (by omega) (by omega)).mono ?_
      rintro e w3 ⟨A3, n3, c3, rfl, own3, hb3, hn3⟩
      have hb3' := bel_step hb2 hb3
      cases hr : arePts (hullP (sumsP a b))
      · have HR : Hid (isPgn (hullP (sumsP a b)) = false) := Lib.hid (by rw [isPgn, hr]; rfl)
        have H : Hid (pSum a b = ([], false)) := Lib.hid (by rw [pSum, HA.out, HB.out, hr]; rfl)
        go_wp2_with fail
        refine (pyGood_c _ _ _ _ _ _ own3.rd (Nat.le_refl _)).mono ?_; rw [HR.out]; rintro e w4 ⟨rfl, hb4⟩
        go_wp2_with fail
        go_ret2
        rw [H.out]
        exact retPB_mk (OwnP.nil _ _ _) (bel_step hb3' hb4) (by omega)
      · have HR : Hid (isPgn (hullP (sumsP a b)) = true) := Lib.hid (by rw [isPgn, hr, hull_idem]; simp)
        have H : Hid (pSum a b = (hullP (sumsP a b), true)) := Lib.hid (by rw [pSum, HA.out, HB.out, hr]; rfl)
        go_wp2_with fail
        refine (pyGood_c _ _ _ _ _ _ own3.rd (Nat.le_refl _)).mono ?_; rw [HR.out]; rintro e w4 ⟨rfl, hb4⟩
        have own4 := OwnP.more (OwnP.go own3 hb4) hb2.size
        go_wp2_with fail
        go_ret2
        rw [H.out]
        exact retPB_mk own4 (bel_step hb3' hb4) hn3
set_option maxHeartbeats 1000000 in
theorem implSumOfPolygons_c (A : Option Addr) (n c : Nat) (a : List Pnt) (A' : Option Addr) (n' c' : Nat) (b : List Pnt) (w : World) (h : RdP w w.heap.size A n a) (_hn : n ≤ 1048576) (h' : RdP w w.heap.size A' n' b) (_hn' : n' ≤ 1048576) :
    Calls Try.prog 20 #[.slice A n c, .slice A' n' c'] w (RetPB 36 (pSum a b).1 (pSum a b).2 w) := by
  have HL := Lib.hid h.len
  have HL' := Lib.hid h'.len
  cases hp : isPgn a
  · have H : Hid (pSum a b = ([], false)) := Lib.hid (by rw [pSum, hp]; rfl)
    have HP := Lib.hid hp
    clear hp
    go_enter Try.func20, Try.ntmps20
    go_wp2_with fail
    refine (isPolygon_c _ _ _ _ _ _ h (Nat.le_refl _)).mono ?_; rw [HP.out]; rintro e w1 ⟨rfl, hb1⟩
    go_wp2_with fail
    go_ret2
    rw [H.out]
    exact retPB_mk (OwnP.nil _ _ _) hb1 (by omega)
  · have HA := Lib.hid hp
    have HPA := Lib.hid (isPgn_pts hp)
    have hna := arePts_len HPA.out
    rw [HL.out] at hna
    clear hp
    cases hp : isPgn b
    · have H : Hid (pSum a b = ([], false)) := Lib.hid (by rw [pSum, HA.out, hp]; rfl)
      have HP := Lib.hid hp
      clear hp
      go_enter Try.func20, Try.ntmps20
      go_wp2_with fail
      refine (isPolygon_c _ _ _ _ _ _ h (Nat.le_refl _)).mono ?_; rw [HA.out]; rintro e w1 ⟨rfl, hb1⟩
      go_wp2_with fail
      refine (isPolygon_c _ _ _ _ _ _ (h'.below hb1) hb1.size).mono ?_; rw [HP.out]; rintro e w2 ⟨rfl, hb2⟩
      have hb2 := bel_step hb1 hb2
      go_wp2_with fail
      go_ret2
      rw [H.out]
      exact retPB_mk (OwnP.nil _ _ _) hb2 (by omega)
    · have HB := Lib.hid hp
      have HPB := Lib.hid (isPgn_pts hp)
      have hnb := arePts_len HPB.out
      rw [HL'.out] at hnb
      clear hp
      go_enter Try.func20, Try.ntmps20
      go_wp2_with fail
      refine (isPolygon_c _ _ _ _ _ _ h (Nat.le_refl _)).mono ?_; rw [HA.out]; rintro e w1 ⟨rfl, hb1⟩
      go_wp2_with fail
      refine (isPolygon_c _ _ _ _ _ _ (h'.below hb1) hb1.size).mono ?_; rw [HB.out]; rintro e w2 ⟨rfl, hb2⟩
      have hb2 := bel_step hb1 hb2
      go_wp2_with fail
      refine (sumOf_c _ _ _ _ _ _ _ _ _ _ (h.below hb2) (h'.below hb2) hb2.size (arePts_ok HPA.out) (arePts_ok HPB.out) (by omega) (by omega) (by omega) (by omega)).mono ?_
      rintro e w3 ⟨A3, n3, c3, rfl, own3, hb3, hn3⟩
      have H : Hid (pSum a b = pOut (hullP (sumsP a b))) := Lib.hid (by rw [pSum, HA.out, HB.out]; rfl)
      have own3 := OwnP.more own3 hb2.size
      go_wp2_with fail
      go_ret2
      rw [H.out]
      exact retPB_mk own3 (bel_step hb2 hb3) hn3
theorem walk_FnExactSumOfPolygons (A0 : Option Addr) (n0 c0 : Nat) (z0 : List Pnt) (A1 : Option Addr) (n1 c1 : Nat) (z1 : List Pnt) (w : World) (r0 : RdP w w.heap.size A0 n0 z0) (r1 : RdP w w.heap.size A1 n1 z1) :
  Calls Try.prog 6 #[.slice A0 n0 c0, .slice A1 n1 c1] w fun e w' => e = .returned (.bool true) ∧ Below w.heap.size w w' := by
  have l0 := r0.le
  by_cases s0 : (n0 : Int) ≤ 1048576
  rotate_left
  · go_enter Try.func6, Try.ntmps6
    go_wp2_with fail
    refine (szPointS_no _ _ _ _ _ (by omega) (by omega) (by omega)).mono ?_; rintro e w' ⟨rfl, rfl⟩
    go_wp2_with fail
    go_ret
    exact ⟨rfl, Below.refl _ _⟩
  have l1 := r1.le
  by_cases s1 : (n1 : Int) ≤ 1048576 - (n0 : Int)
  rotate_left
  · go_enter Try.func6, Try.ntmps6
    go_wp2_with fail
    refine (szPointS_yes _ _ _ _ _ (by omega) (by omega)).mono ?_; rintro e w' ⟨rfl, rfl⟩
    go_wp2_with fail
    refine (szPointS_no _ _ _ _ _ (by omega) (by omega) (by omega)).mono ?_; rintro e w' ⟨rfl, rfl⟩
    go_wp2_with fail
    go_ret
    exact ⟨rfl, Below.refl _ _⟩
  go_enter Try.func6, Try.ntmps6
  have bel : Below w.heap.size w w := Below.refl _ _
  go_wp2_with fail
  refine (szPointS_yes _ _ _ _ _ (by omega) (by omega)).mono ?_; rintro e w' ⟨rfl, rfl⟩
  go_wp2_with fail
  refine (szPointS_yes _ _ _ _ _ (by omega) (by omega)).mono ?_; rintro e w' ⟨rfl, rfl⟩
  go_wp2_with fail
  refine (toPointS_c _ _ _ _ _ _ (r0.below bel) bel.size (by omega)).mono ?_
  rintro e u1 ⟨AT0, nT0, cT0, rfl, T0, hb1, qT0⟩
  have bel := bel_step bel hb1
  have sz1 := hb1.size
  have T00 := T0
  have eT0 : nT0 ≤ 1048576 := by have := T0.len; have := r0.len; omega
  go_wp2_with fail
  refine (toPointS_c _ _ _ _ _ _ (r1.below bel) bel.size (by omega)).mono ?_
  rintro e u2 ⟨AT1, nT1, cT1, rfl, T1, hb2, qT1⟩
  have bel := bel_step bel hb2
  have sz2 := hb2.size
  have T0 := T0.go hb2
  have T10 := T1
  have eT1 : nT1 ≤ 1048576 := by have := T1.len; have := r1.len; omega
  go_wp2_with fail
  refine (specSumOfPolygons_c _ _ _ _ _ _ _ _ _ T0.rd eT0 T1.rd eT1).mono ?_
  rintro e u3 ⟨AWr, nWr, cWr, rfl, Wr, hb3, qWr⟩
  have bel := bel_step bel hb3
  have sz3 := hb3.size
  have T0 := T0.go hb3
  have T1 := T1.go hb3
  have Wr0 := Wr
  go_wp2_with fail
  refine (toPointS_c _ _ _ _ _ _ (r0.below bel) bel.size (by omega)).mono ?_
  rintro e u4 ⟨AX0, nX0, cX0, rfl, X0, hb4, qX0⟩
  have bel := bel_step bel hb4
  have sz4 := hb4.size
  have Wr := Wr.go hb4
  have X00 := X0
  have eX0 : nX0 ≤ 1048576 := by have := X0.len; have := r0.len; omega
  go_wp2_with fail
  refine (toPointS_c _ _ _ _ _ _ (r1.below bel) bel.size (by omega)).mono ?_
  rintro e u5 ⟨AX1, nX1, cX1, rfl, X1, hb5, qX1⟩
  have bel := bel_step bel hb5
  have sz5 := hb5.size
  have Wr := Wr.go hb5
  have X0 := X0.go hb5
  have X10 := X1
  have eX1 : nX1 ≤ 1048576 := by have := X1.len; have := r1.len; omega
  go_wp2_with fail
  refine (implSumOfPolygons_c _ _ _ _ _ _ _ _ _ X0.rd eX0 X1.rd eX1).mono ?_
  rintro e u6 ⟨AGr, nGr, cGr, rfl, Gr, hb6, qGr⟩
  have bel := bel_step bel hb6
  have sz6 := hb6.size
  have Wr := Wr.go hb6
  have X0 := X0.go hb6
  have X1 := X1.go hb6
  have Gr0 := Gr
  go_wp2_with fail
  refine (eqPointS_c _ _ _ _ _ _ _ _ _ _ Gr.rd Wr.rd (Nat.le_refl _) (Nat.le_refl _)).mono ?_
  rintro e u7 ⟨rfl, hb7⟩
  have bel := bel_step bel hb7
  have sz7 := hb7.size
  have Wr := Wr.go hb7
  have X0 := X0.go hb7
  have X1 := X1.go hb7
  have Gr := Gr.go hb7
  go_wp2_with fail
  refine (toPointS_c _ _ _ _ _ _ (r0.below bel) bel.size (by omega)).mono ?_
  rintro e u8 ⟨AY0, nY0, cY0, rfl, Y0, hb8, qY0⟩
  have bel := bel_step bel hb8
  have sz8 := hb8.size
  have Wr := Wr.go hb8
  have X0 := X0.go hb8
  have X1 := X1.go hb8
  have Gr := Gr.go hb8
  have Y00 := Y0
  have eY0 : nY0 ≤ 1048576 := by have := Y0.len; have := r0.len; omega
  go_wp2_with fail
  refine (eqPointS_c _ _ _ _ _ _ _ _ _ _ X0.rd Y0.rd (Nat.le_refl _) (Nat.le_refl _)).mono ?_
  rintro e u9 ⟨rfl, hb9⟩
  have bel := bel_step bel hb9
  have sz9 := hb9.size
  have Wr := Wr.go hb9
  have X0 := X0.go hb9
  have X1 := X1.go hb9
  have Gr := Gr.go hb9
  have Y0 := Y0.go hb9
  go_wp2_with fail
  refine (toPointS_c _ _ _ _ _ _ (r1.below bel) bel.size (by omega)).mono ?_
  rintro e u10 ⟨AY1, nY1, cY1, rfl, Y1, hb10, qY1⟩
  have bel := bel_step bel hb10
  have sz10 := hb10.size
  have Wr := Wr.go hb10
  have X0 := X0.go hb10
  have X1 := X1.go hb10
  have Gr := Gr.go hb10
  have Y10 := Y1
  have eY1 : nY1 ≤ 1048576 := by have := Y1.len; have := r1.len; omega
  go_wp2_with fail
  refine (eqPointS_c _ _ _ _ _ _ _ _ _ _ X1.rd Y1.rd (Nat.le_refl _) (Nat.le_refl _)).mono ?_
  rintro e u11 ⟨rfl, hb11⟩
  have bel := bel_step bel hb11
  have sz11 := hb11.size
  have Wr := Wr.go hb11
  have X0 := X0.go hb11
  have X1 := X1.go hb11
  have Gr := Gr.go hb11
  have Y1 := Y1.go hb11
  go_wp2_with fail
  refine (markPointS_c _ _ _ _ _ _ _ X0 (by omega) (by omega) (by omega)).mono ?_
  rintro e u12 ⟨rfl, X0, hg12⟩
  have bel := bel.grown hg12 bel.size fun g hg => by have := (X00.lt g hg).1; omega
  have sz12 := hg12.size
  have Wr := Wr.kept hg12 (blk_ne Wr0.lt X00.lt (by omega))
  have X1 := X1.kept hg12 (blk_ne' X00.lt X10.lt (by omega))
  have Gr := Gr.kept hg12 (blk_ne' X00.lt Gr0.lt (by omega))
  go_wp2_with fail
  refine (markPointS_c _ _ _ _ _ _ _ X1 (by omega) (by omega) (by omega)).mono ?_
  rintro e u13 ⟨rfl, X1, hg13⟩
  have bel := bel.grown hg13 bel.size fun g hg => by have := (X10.lt g hg).1; omega
  have sz13 := hg13.size
  have Wr := Wr.kept hg13 (blk_ne Wr0.lt X10.lt (by omega))
  have X0 := X0.kept hg13 (blk_ne X00.lt X10.lt (by omega))
  have Gr := Gr.kept hg13 (blk_ne' X10.lt Gr0.lt (by omega))
  go_wp2_with fail
  refine (eqPointS_c _ _ _ _ _ _ _ _ _ _ Gr.rd Wr.rd (Nat.le_refl _) (Nat.le_refl _)).mono ?_
  rintro e u14 ⟨rfl, hb14⟩
  have bel := bel_step bel hb14
  have sz14 := hb14.size
  have Wr := Wr.go hb14
  have X0 := X0.go hb14
  have X1 := X1.go hb14
  have Gr := Gr.go hb14
  go_wp2_with fail
  refine (markPointS_c _ _ _ _ _ _ _ Gr (by omega) (by omega) (by omega)).mono ?_
  rintro e u15 ⟨rfl, Gr, hg15⟩
  have bel := bel.grown hg15 bel.size fun g hg => by have := (Gr0.lt g hg).1; omega
  have sz15 := hg15.size
  have Wr := Wr.kept hg15 (blk_ne Wr0.lt Gr0.lt (by omega))
  go_wp2_with fail
  refine (heldPointS_c _ _ _ _ _ _ Gr.rd (by omega) (by omega) (by omega)).mono ?_
  rintro e u16 ⟨rfl, hb16⟩
  have bel := bel_step bel hb16
  have sz16 := hb16.size
  have Wr := Wr.go hb16
  have Gr := Gr.go hb16
  go_wp2_with fail
  refine (toPointS_c _ _ _ _ _ _ (r0.below bel) bel.size (by omega)).mono ?_
  rintro e u17 ⟨AZ0, nZ0, cZ0, rfl, Z0, hb17, qZ0⟩
  have bel := bel_step bel hb17
  have sz17 := hb17.size
  have Wr := Wr.go hb17
  have Gr := Gr.go hb17
  have Z00 := Z0
  have eZ0 : nZ0 ≤ 1048576 := by have := Z0.len; have := r0.len; omega
  go_wp2_with fail
  refine (toPointS_c _ _ _ _ _ _ (r1.below bel) bel.size (by omega)).mono ?_
  rintro e u18 ⟨AZ1, nZ1, cZ1, rfl, Z1, hb18, qZ1⟩
  have bel := bel_step bel hb18
  have sz18 := hb18.size
  have Wr := Wr.go hb18
  have Gr := Gr.go hb18
  have Z0 := Z0.go hb18
  have Z10 := Z1
  have eZ1 : nZ1 ≤ 1048576 := by have := Z1.len; have := r1.len; omega
  go_wp2_with fail
  refine (implSumOfPolygons_c _ _ _ _ _ _ _ _ _ Z0.rd eZ0 Z1.rd eZ1).mono ?_
  rintro e u19 ⟨AHr, nHr, cHr, rfl, Hr, hb19, qHr⟩
  have bel := bel_step bel hb19
  have sz19 := hb19.size
  have Wr := Wr.go hb19
  have Gr := Gr.go hb19
  have Z0 := Z0.go hb19
  have Z1 := Z1.go hb19
  have Hr0 := Hr
  go_wp2_with fail
  refine (eqPointS_c _ _ _ _ _ _ _ _ _ _ Hr.rd Wr.rd (Nat.le_refl _) (Nat.le_refl _)).mono ?_
  rintro e u20 ⟨rfl, hb20⟩
  have bel := bel_step bel hb20
  have sz20 := hb20.size
  have Wr := Wr.go hb20
  have Gr := Gr.go hb20
  have Hr := Hr.go hb20
  go_wp2_with fail
  refine (heldPointS_c _ _ _ _ _ _ Gr.rd (by omega) (by omega) (by omega)).mono ?_
  rintro e u21 ⟨rfl, hb21⟩
  have bel := bel_step bel hb21
  have sz21 := hb21.size
  have Wr := Wr.go hb21
  have Gr := Gr.go hb21
  have Hr := Hr.go hb21
  go_wp2_with fail
  go_ret
  exact ⟨rfl, bel⟩
end Go.Proofs.Ytmaodbmjknmepaa
