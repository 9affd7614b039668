/- One half of a hull: both packages' functions, against the plain stack. -/
import Derived.Test.YtfkglbmdpefigaaGreatDoorCompactP
import Derived.Test.YtfkglbmdpefigaaGreatDoorMemP
import Derived.Test.YtfkglbmdpefigaaGreatDoorHalfW
namespace Go.Proofs.YtfkglbmdpefigaaGreatDoor
open Go.RowKit
set_option maxHeartbeats 4000000 in
set_option maxRecDepth 8192 in
theorem pyHalf_c (A : Option Addr) (n c : Nat) (l : List Pnt) (B : Nat) (w : World) (h : RdP w B A n l) (hB : B ≤ w.heap.size) (hb : ∀ t ∈ l, bdP t) (hn1 : 0 < n) (hn2 : n ≤ 3000) :
    Calls Tryz.prog 34 #[.slice A n c] w (RetP 32 (halfS l).reverse w) := by
  have HL := Lib.hid h.len
  have HB := Lib.hid hb
  clear hb
  obtain ⟨i0, hi, hz0, hz1, hz2⟩ := info_parts info_pnt
  have HI := Lib.hid hi
  have HZ0 := Lib.hid hz0
  have HZ1 := Lib.hid hz1
  have HZ2 := Lib.hid hz2
  clear hi hz0 hz1 hz2
  go_enter Tryz.func34, Tryz.ntmps34
  go_wp2_with fail
  go_loopw [3, 8] (fun v i wr => ∃ j : Nat, j ≤ n ∧ i = .int .i64 j ∧ OwnP wr w.heap.size 32 v (halfS (l.take j)).length (halfS (l.take j)).reverse ∧ Below w.heap.size w wr) (fun _ i _ => n - (intOf i).toNat)
  case atStart => exact ⟨0, Nat.zero_le _, rfl, OwnP.nil _ _ _, Below.refl _ _⟩
  case round =>
    skip
    obtain ⟨j, hj, rfl, hown, hbel⟩ := hrel
    have hsz := hbel.size
    by_cases hlt : j < n
    · have hjL : j < l.length := by rw [HL.out]; exact hlt
      have HC := Lib.hid (half_step hjL)
      have hck := Lib.hid (fun t (ht : t ∈ halfS (l.take j)) => HB.out t (half_sub_mem j ht))
      have hcl := half_len l j
      have hbp := bdP_at HB.out hjL
      obtain ⟨b, o, rfl, hbB, c0, c1⟩ := (h.below (hbel.mono hB)).at_ hlt
      generalize hx : (l.getD j (0, 0)).1 = x at *
      generalize hy : (l.getD j (0, 0)).2 = y at *
      have HX : Hid (l.getD j (0, 0) = (x, y)) := Lib.hid (by rw [← hx, ← hy])
      clear hx hy
      rw [HX.out] at HC hbp
      have HP := Lib.hid hbp
      clear hbp
      generalize halfS (l.take j) = s0 at *
      have P := Bx.new wr [.int .i64 x, .int .i64 y] 32
      have hown := hown.new (.cells #[.int .i64 x, .int .i64 y] 32)
      have hbel := bel_alloc hbel (.cells #[.int .i64 x, .int .i64 y] 32)
      go_wp2_with fail
      generalize hwz : wr.alloc (.cells #[.int .i64 x, .int .i64 y] 32) = wz at *
      generalize wr.heap.size = S at *
      clear hwz c0 c1 hsz
      go_loopw [3] (fun v wx => ∃ s : List Pnt, Hid (hpop (x, y) s = hpop (x, y) s0) ∧ Hid (∀ t ∈ s, bdP t) ∧ s.length ≤ j ∧ OwnP wx w.heap.size 32 v s.length s.reverse ∧ Below w.heap.size w wx ∧ Bx wx S [.int .i64 x, .int .i64 y]) (fun v _ => lenOf v)
      case atStart => exact ⟨s0, Lib.hid rfl, hck, hcl, hown, hbel, P⟩
      case round =>
        clear hown hbel P hcl
        obtain ⟨s, HS, hsk, hsl, hown, hbel, P⟩ := hrel
        have hsz := hbel.size
        have p0 := P.at0
        have p1 := P.at1
        obtain ⟨A1, c1, rfl⟩ := hown.shape
        match s with
        | [] =>
          have HN : Hid ((halfS (l.take (j + 1))).reverse = [] ++ [(x, y)]) := Lib.hid (by rw [HC.out, ← HS.out]; rfl)
          have HM : Hid ((halfS (l.take (j + 1))).length = 1) := Lib.hid (by rw [HC.out, ← HS.out]; rfl)
          dsimp only [List.length_nil, List.length_cons, List.reverse_nil] at hown hsl
          simp only [List.length_nil]
          go_wp2_with fail
          go_quiet (fail)
          replace hown := hown.drewN nq
          replace hbel := bel_drewN hbel nq
          replace p0 := (cell_drewN wr nq _).trans p0
          replace p1 := (cell_drewN wr nq _).trans p1
          replace hsz : w.heap.size ≤ (wr.drewN nq).heap.size := hsz
          generalize wr.drewN nq = wq at *
          go_wp2_with (at_builtin; refine wp_appP rfl _ _ 22 rfl w.heap.size 32 i0 Tryz.underlying22 HI.out HZ0.out HZ1.out HZ2.out _ _ _ rfl hown _ _ rfl (by omega) hsz ?_)
          intro v' w1 h1 hb1 _
          have hbel' := Below.trans hbel hb1
          have h1 : OwnP w1 w.heap.size 32 v' (halfS (l.take (j + 1))).length (halfS (l.take (j + 1))).reverse := by rw [HM.out, HN.out]; first | exact h1 | simpa using h1
          clear hown hbel hb1 P
          go_wp2_with fail
          go_roundw
          case rel => exact ⟨j + 1, by omega, by go_num, h1, hbel'⟩
          case measure => simp [intOf]; omega
        | [b] =>
          have HN : Hid ((halfS (l.take (j + 1))).reverse = [b] ++ [(x, y)]) := Lib.hid (by rw [HC.out, ← HS.out]; rfl)
          have HM : Hid ((halfS (l.take (j + 1))).length = 2) := Lib.hid (by rw [HC.out, ← HS.out]; rfl)
          dsimp only [List.length_nil, List.length_cons] at hown hsl
          rw [show [b].reverse = [b] from rfl] at hown
          simp only [List.length_nil, List.length_cons]
          go_wp2_with fail
          go_quiet (fail)
          replace hown := hown.drewN nq
          replace hbel := bel_drewN hbel nq
          replace p0 := (cell_drewN wr nq _).trans p0
          replace p1 := (cell_drewN wr nq _).trans p1
          replace hsz : w.heap.size ≤ (wr.drewN nq).heap.size := hsz
          generalize wr.drewN nq = wq at *
          go_wp2_with (at_builtin; refine wp_appP rfl _ _ 22 rfl w.heap.size 32 i0 Tryz.underlying22 HI.out HZ0.out HZ1.out HZ2.out _ _ _ rfl hown _ _ rfl (by omega) hsz ?_)
          intro v' w1 h1 hb1 _
          have hbel' := Below.trans hbel hb1
          have h1 : OwnP w1 w.heap.size 32 v' (halfS (l.take (j + 1))).length (halfS (l.take (j + 1))).reverse := by rw [HM.out, HN.out]; first | exact h1 | simpa using h1
          clear hown hbel hb1 P
          go_wp2_with fail
          go_roundw
          case rel => exact ⟨j + 1, by omega, by go_num, h1, hbel'⟩
          case measure => simp [intOf]; omega
        | (b0, b1) :: (a0, a1) :: s =>
          have HSt : Hid (hpop (x, y) ((b0, b1) :: (a0, a1) :: s) = if turnP (a0, a1) (b0, b1) (x, y) ≤ 0 then hpop (x, y) ((a0, a1) :: s) else (b0, b1) :: (a0, a1) :: s) := Lib.hid (by rw [hpop])
          have hC := fun w => pyTurn_c a0 a1 b0 b1 x y w (hsk.out (a0, a1) (by simp)) (hsk.out (b0, b1) (by simp)) HP.out
          have hsk' : Hid (∀ t ∈ (a0, a1) :: s, bdP t) := Lib.hid fun t ht => hsk.out t (List.mem_cons_of_mem _ ht)
          obtain ⟨M, hM⟩ : ∃ M : Nat, M = s.length + 1 + 1 := ⟨_, rfl⟩
          have HM2 := Lib.hid hM
          dsimp only [List.length_cons] at hown hsl
          simp only [List.length_cons]
          rw [← hM] at hown hsl ⊢
          obtain ⟨g, rfl⟩ := OwnF.head hown (by omega)
          obtain ⟨d0, d1⟩ := hown.get2 (show M - 1 < M by omega)
          obtain ⟨a2, a3⟩ := hown.get2 (show M - 2 < M by omega)
          rw [show ((b0, b1) :: (a0, a1) :: s).reverse.getD (M - 1) (0, 0) = (b0, b1) from by rw [show M - 1 = ((a0, a1) :: s).length from by rw [List.length_cons]; omega]; exact rev_at1 _ _] at d0 d1
          rw [show ((b0, b1) :: (a0, a1) :: s).reverse.getD (M - 2) (0, 0) = (a0, a1) from by rw [show M - 2 = s.length from by omega]; exact rev_at2 _ _ _] at a2 a3
          dsimp only at d0 d1 a2 a3
          obtain ⟨q1, q2, _⟩ := hown.capAt
          unfold maxLen at q2
          have hgs : g < wr.heap.size := (hown.lt g rfl).2
          have e1 : ((M : Int) - 2).toNat = M - 2 := by omega
          have e2 : ((M : Int) - 1).toNat = M - 1 := by omega
          have e3 : (0 : Int) ≤ (M : Int) - 2 := by omega
          have e4 : (0 : Int) ≤ (M : Int) - 1 := by omega
          have e5 : (M : Int) - 2 < (M : Int) := by omega
          have e6 : (M : Int) - 1 < (M : Int) := by omega
          have e7 : (1 : Int) < (M : Int) := by omega
          have e8 : IntKind.i64.wrap ((M : Int) - 1) = (M : Int) - 1 := IntWalk.i64_in _ (by omega)
          have e9 : IntKind.i64.wrap ((M : Int) - 2) = (M : Int) - 2 := IntWalk.i64_in _ (by omega)
          have k0 : (2 : Int) ≤ (M : Int) := by omega
          have k1 : (1 : Int) ≤ (M : Int) := by omega
          have k2 : ¬ (M : Int) - 1 < 0 := by omega
          have k3 : ¬ (M : Int) - 2 < 0 := by omega
          have k4 : ¬ (M : Int) ≤ (M : Int) - 1 := by omega
          have k5 : ¬ (M : Int) ≤ (M : Int) - 2 := by omega
          have k6 : 0 < M := by omega
          have k7 : 1 < M := by omega
          have q3 : (M : Int) - 1 ≤ (c1 : Int) := by omega
          have q4 : M - 1 ≤ c1 := by omega
          have q5 : 0 ≤ M - 1 := by omega
          have q6 : ¬ (c1 : Int) < (M : Int) - 1 := by omega
          have hpop' : Hid (((b0, b1) :: (a0, a1) :: s).reverse.take (M - 1) = ((a0, a1) :: s).reverse) := Lib.hid (by rw [show M - 1 = ((a0, a1) :: s).length from by rw [List.length_cons]; omega]; exact rev_pop _ _)
          have hs4 := slice_toP (P := Tryz.prog) Tryz.underlying22 (by kernel_rfl) Tryz.sizeOf32 g M c1 (M - 1) (by omega) q1
          rw [show ((M - 1 : Nat) : Int) = (M : Int) - 1 from by omega] at hs4
          clear hM hsk
          by_cases hst : turnP (a0, a1) (b0, b1) (x, y) ≤ 0
          all_goals
            have hst' : decide (turnP (a0, a1) (b0, b1) (x, y) ≤ 0) = decide (turnP (a0, a1) (b0, b1) (x, y) ≤ 0) := rfl
            have HST := Lib.hid hst
            go_wp2_with fail
            replace hown := OwnP.drew1 hown
            replace hbel := hbel.drew
            replace d0 := (cell_drew wr _).trans d0
            replace d1 := (cell_drew wr _).trans d1
            replace a2 := (cell_drew wr _).trans a2
            replace a3 := (cell_drew wr _).trans a3
            replace p0 := (cell_drew wr _).trans p0
            replace p1 := (cell_drew wr _).trans p1
            replace P := P.drew
            replace hgs : g < wr.drew.heap.size := hgs
            go_region_held3 (fun w' => w'.cell? ⟨S, 0, none⟩ = some (.int .i64 x) ∧ w'.cell? ⟨S, 1, none⟩ = some (.int .i64 y) ∧ w'.cell? ⟨g, (M - 1) * 2, none⟩ = some (.int .i64 b0) ∧ w'.cell? ⟨g, (M - 1) * 2 + 1, none⟩ = some (.int .i64 b1) ∧ w'.cell? ⟨g, (M - 2) * 2, none⟩ = some (.int .i64 a0) ∧ w'.cell? ⟨g, (M - 2) * 2 + 1, none⟩ = some (.int .i64 a1))
              (first | exact ⟨p0, p1, d0, d1, a2, a3⟩)
              (first
              | (go_at_call 52; with_reducible refine Calls.mono (hC _) ?_; rintro e u1 ⟨rfl, hb1⟩; have P := P.go hb1; have p0 := P.at0; have p1 := P.at1; have d0 := (hb1.cell (p := ⟨g, (M - 1) * 2, none⟩) hgs).trans d0; have d1 := (hb1.cell (p := ⟨g, (M - 1) * 2 + 1, none⟩) hgs).trans d1; have a2 := (hb1.cell (p := ⟨g, (M - 2) * 2, none⟩) hgs).trans a2; have a3 := (hb1.cell (p := ⟨g, (M - 2) * 2 + 1, none⟩) hgs).trans a3; have hbel := hbel.trans (hb1.mono hbel.size); have hown := OwnP.go hown hb1; have hsz := hbel.size))
          · have HQ : Hid (hpop (x, y) ((a0, a1) :: s) = hpop (x, y) s0) := Lib.hid (by rw [← HS.out, HSt.out, if_pos (by have := HST.out; omega)])
            have hpop : OwnP u1 w.heap.size 32 (.slice (some ⟨g, 0, none⟩) (M - 1) c1) ((a0, a1) :: s).length ((a0, a1) :: s).reverse := by
              have := OwnF.short (m := M - 1) hown (by omega)
              rw [flatP_take, hpop'.out] at this
              rw [show ((a0, a1) :: s).length = M - 1 from by rw [List.length_cons]; have := HM2.out; omega]
              exact this
            go_wp2_with fail
            go_roundw
            case rel => exact ⟨(a0, a1) :: s, HQ, hsk', by have := HM2.out; simp only [List.length_cons]; omega, hpop, hbel, P⟩
            case measure => simp [lenOf]; omega
          · have HN : Hid ((halfS (l.take (j + 1))).reverse = ((b0, b1) :: (a0, a1) :: s).reverse ++ [(x, y)]) := Lib.hid (by rw [HC.out, ← HS.out, HSt.out, if_neg (by have := HST.out; omega)]; exact List.reverse_cons)
            have HM : Hid ((halfS (l.take (j + 1))).length = M + 1) := Lib.hid (by rw [HC.out, ← HS.out, HSt.out, if_neg (by have := HST.out; omega), HM2.out]; rfl)
            clear hs4
            go_wp2_with (at_builtin; refine wp_appP rfl _ _ 22 rfl w.heap.size 32 i0 Tryz.underlying22 HI.out HZ0.out HZ1.out HZ2.out _ _ _ rfl hown _ _ rfl (by omega) hsz ?_)
            intro v' w1 h1 hb1 _
            have hbel' := Below.trans hbel hb1
            have h1 : OwnP w1 w.heap.size 32 v' (halfS (l.take (j + 1))).length (halfS (l.take (j + 1))).reverse := by rw [HM.out, HN.out]; first | exact h1 | simpa using h1
            clear hown hbel hb1 P
            go_wp2_with fail
            go_roundw
            case rel => exact ⟨j + 1, by omega, by go_num, h1, hbel'⟩
            case measure => simp [intOf]; omega
    · have HE : Hid (halfS (l.take j) = halfS l) := Lib.hid (by rw [List.take_of_length_le (by rw [HL.out]; omega)])
      have hcl := half_len l j
      rw [HE.out] at hown hcl
      go_wp2_with fail
      go_ret
      exact retP_mk hown hbel (by omega)
end Go.Proofs.YtfkglbmdpefigaaGreatDoor
