/- The law on a polynomial's needless terms: both packages' functions, and the walk of the law. -/
import Derived.Test.YteadfobnoapdhaaWCorn
import Derived.Test.YteadfobnoapdhaaMapFr
import Derived.Test.YteadfobnoapdhaaFrac
import Derived.Deep.RegionHeld3
import Derived.Deep.RegionWith
import Derived.Deep.DeepCutAuto
namespace Go.Proofs.Yteadfobnoapdhaa
open Go.RowKit
theorem asRow_corners (p : List Int) : asRow (cornTo p p.length) = (corners p).map Int.ofNat := by rw [asRow, corners, List.map_reverse]
theorem cornAt {L : List Nat} {n : Nat} (h : n < L.length) : (L.map Int.ofNat).getD n 0 = ((L.getD n 0 : Nat) : Int) := by simp [List.getD, List.getElem?_eq_getElem h]
theorem segL_start (p : List Int) (i k : Nat) : ∀ m, m ≤ i + 1 → segL p i k m = []
  | 0, _ => rfl
  | m + 1, h => by rw [segL, if_neg (by omega), segL_start p i k m (by omega)]
theorem segL_len (p : List Int) (i k : Nat) : ∀ j, (segL p i k j).length ≤ j
  | 0 => by simp [segL]
  | j + 1 => by
    have := segL_len p i k j
    rw [segL]
    split
    · simp; exact this
    · omega
/-- What is known of the corners beside their order. -/
theorem corn_lt {p : List Int} {L : List Nat} (H : Corn p L) : ∀ m n, n + m < L.length → L.getD n 0 + m ≤ L.getD (n + m) 0
  | 0, n, _ => Nat.le_refl _
  | m + 1, n, h => by
    have h1 := corn_lt H m n (by omega)
    have h2 := H.lt (n + m) (by omega)
    rw [show n + (m + 1) = n + m + 1 from by omega]
    omega
theorem corn_top {p : List Int} {L : List Nat} (H : Corn p L) {n : Nat} (h : n < L.length) : L.getD n 0 < p.length := by
  have h1 := corn_lt H (L.length - 1 - n) n (by omega)
  rw [show n + (L.length - 1 - n) = L.length - 1 from by omega] at h1
  have := H.top
  omega
theorem corn_len {p : List Int} {L : List Nat} (H : Corn p L) : L.length ≤ p.length := by
  have h1 := corn_lt H (L.length - 1) 0 (by have := H.pos; omega)
  rw [Nat.zero_add] at h1
  have := H.top
  have := H.pos
  omega
theorem sN_len {p : List Int} {L : List Nat} (H : Corn p L) : ∀ n, n < L.length → (sN p L n).length ≤ 400 * n ∨ 400 < p.length
  | 0, _ => .inl (by simp [sN])
  | n + 1, h => by
    rcases sN_len H n (by omega) with h1 | h1
    · by_cases hl : 400 < p.length
      · exact .inr hl
      · left
        have h2 := segL_len p (L.getD n 0) (L.getD (n + 1) 0) (L.getD (n + 1) 0)
        have h3 := corn_top H h
        rw [sN, List.length_append]
        omega
    · exact .inr h1
set_option maxHeartbeats 8000000 in
theorem specNeedlessTerms_c (A : Option Addr) (n c : Nat) (p : List Int) (w : World) (h : Rd w w.heap.size A n p) (_hn : n ≤ 1048576) :
    Calls Try.prog 4 #[.slice A n c] w (RetOwnB 3 (pNeed p).1 (pNeed p).2 w) := by
  have HLen := Lib.hid h.len
  cases hp : isPol p
  · have HP : Hid (pNeed p = ([], false)) := Lib.hid (by rw [pNeed, hp]; rfl)
    have HV := Lib.hid hp
    clear hp
    go_enter Try.func4, Try.ntmps4
    go_wp2_with fail
    refine (poGood_c _ _ _ _ _ _ h).mono ?_; rw [HV.out]; rintro e w' ⟨rfl, rfl⟩
    go_wp2_with fail
    go_ret2
    rw [HP.out]
    exact retOwnB_mk (Own.nil _ _ _) (Below.refl _ _) (by omega)
  have HP : Hid (pNeed p = (sN p (corners p) ((corners p).length - 1), true)) := Lib.hid (by rw [pNeed, hp]; rfl)
  have hl := isPol_len hp
  rw [HLen.out] at hl
  have HA := Lib.hid (isPol_all hp)
  have HC := corn_of hp
  have HR := Lib.hid (asRow_corners p)
  have HV := Lib.hid hp
  have hcl := corn_len HC
  rw [HLen.out] at hcl
  have hcp := HC.pos
  have HH := Lib.hid HC
  clear hp HC
  obtain ⟨i0, hi, hz0, hz1, hz2⟩ := info_parts info_int
  have HI := Lib.hid hi
  have HZ0 := Lib.hid hz0
  have HZ1 := Lib.hid hz1
  have HZ2 := Lib.hid hz2
  clear hi hz0 hz1 hz2
  go_enter Try.func4, Try.ntmps4
  go_wp2_with fail
  refine (poGood_c _ _ _ _ _ _ h).mono ?_; rw [HV.out]; rintro e w' ⟨rfl, rfl⟩
  go_wp2_with fail
  refine (rtCorners_c _ _ _ _ _ _ h (Nat.le_refl _) HA.out (by omega)).mono ?_
  rintro e w1 ⟨A3, m, c3, rfl, own3, hb1, _⟩
  rw [HR.out] at own3
  generalize corners p = L at *
  have hml : L.length = m := by have := own3.len; simpa using this
  have HM := Lib.hid hml
  have rd3 := own3.rd
  have hr1 := h.below hb1
  have hs1 := hb1.size
  rw [hml] at hcl hcp
  clear own3 hml
  go_wp2_with fail
  go_loopw [4, 6] (fun v i wr => ∃ k M : Nat, 1 ≤ k ∧ k ≤ m ∧ i = .int .i64 k ∧ Own wr w1.heap.size 3 v M (sN p L (k - 1)) ∧ Below w1.heap.size w1 wr) (fun _ i _ => m - (intOf i).toNat)
  case atStart => exact ⟨1, 0, Nat.le_refl _, hcp, rfl, Own.nil _ _ _, Below.refl _ _⟩
  case round =>
    obtain ⟨k, M, hk1, hk, rfl, hown, hbel⟩ := hrel
    have hml := hown.len
    have hsz := hbel.size
    have hr := hr1.go hbel hs1
    have hrL := rd3.below hbel
    have hol := sN_len HH.out (k - 1) (by rw [HM.out]; omega)
    rw [HLen.out, hml] at hol
    have hol : M ≤ 400 * (k - 1) := by omega
    have hml := Lib.hid hml
    by_cases hlt : k < m
    · have hkL : k < L.length := by rw [HM.out]; exact hlt
      obtain ⟨adL, rfl, habL, cI⟩ := hrL.at_ (show k - 1 < m by omega)
      obtain ⟨adL', q1, _, cK⟩ := hrL.at_ hlt
      cases q1
      rw [cornAt (by omega)] at cI
      rw [cornAt hkL] at cK
      have hik := HH.out.lt (k - 1) (by omega)
      rw [show k - 1 + 1 = k from by omega] at hik
      have hkp := corn_top HH.out hkL
      have fI := HH.out.fin (k - 1) (by omega)
      have fK := HH.out.fin k hkL
      have HS : Hid (sN p L k = sN p L (k - 1) ++ segL p (L.getD (k - 1) 0) (L.getD k 0) (L.getD k 0)) := Lib.hid (by
        obtain ⟨j, rfl⟩ : ∃ j, k = j + 1 := ⟨k - 1, by omega⟩
        rfl)
      rw [HLen.out] at hkp
      generalize L.getD (k - 1) 0 = a at *
      generalize L.getD k 0 = b at *
      generalize sN p L (k - 1) = S0 at *
      have hml : S0.length = M := hml.out
      have e1 : IntKind.i64.wrap ((k : Int) - 1) = (k : Int) - 1 := IntWalk.i64_in _ (by omega)
      have e2 : ((k : Int) - 1).toNat = k - 1 := by omega
      have k0 : (1 : Int) ≤ (k : Int) := by omega
      have k1 : ¬ (k : Int) - 1 < 0 := by omega
      have k2 : ¬ (k : Int) ≤ (k : Int) - 1 := by omega
      have k3 : (k : Int) - 1 < (m : Int) := by omega
      have k4 : (0 : Int) ≤ (k : Int) - 1 := by omega
      have k5 : ¬ (m : Int) ≤ (k : Int) - 1 := by omega
      have ha13 : a < n := by omega
      obtain ⟨ad, rfl, hab, pa⟩ := hr.at_ ha13
      obtain ⟨ad', q2, _, pb⟩ := hr.at_ hkp
      cases q2
      have bA := isNum_bd (List.all_eq_true.1 HA.out _ (getD_mem (show a < p.length by rw [HLen.out]; exact ha13)))
      have bB := isNum_bd (List.all_eq_true.1 HA.out _ (getD_mem (show b < p.length by rw [HLen.out]; exact hkp)))
      clear fI fK
      go_wp2_with fail
      go_quiet (fail)
      go_wp2_with fail
      go_loopw [4, 9] (fun v j wx => ∃ t M : Nat, a + 1 ≤ t ∧ t ≤ b ∧ j = .int .i64 t ∧ Own wx w1.heap.size 3 v M (S0 ++ segL p a b t) ∧ Below w1.heap.size w1 wx) (fun _ j _ => b - (intOf j).toNat)
      case atStart => exact ⟨a + 1, M, Nat.le_refl _, by omega, by go_num, by rw [segL_start p a b (a + 1) (Nat.le_refl _), List.append_nil]; exact hown.drewN _, bel_drewN hbel _⟩
      case round =>
        clear hown hbel hr hrL cI cK pa pb hsz
        obtain ⟨t, M2, ht1, ht, rfl, hown, hbel⟩ := hrel
        have hml2 := hown.len
        rw [List.length_append] at hml2
        have hsz := hbel.size
        have hr := hr1.go hbel hs1
        by_cases hlt2 : t < b
        · have htn : t < n := by omega
          obtain ⟨ad1, q1, _, pt⟩ := hr.at_ htn
          cases q1
          obtain ⟨ad2, q2, _, pa⟩ := hr.at_ ha13
          cases q2
          obtain ⟨ad3, q3, _, pb⟩ := hr.at_ hkp
          cases q3
          have bT := isNum_bd (List.all_eq_true.1 HA.out _ (getD_mem (show t < p.length by rw [HLen.out]; exact htn)))
          have hsl := segL_len p a b t
          have HSt : Hid (segL p a b (t + 1) = if rB p a b t = true then segL p a b t ++ [(t : Int)] else segL p a b t) := Lib.hid (by
            rw [segL]
            by_cases hh : rB p a b t = true
            · rw [if_pos hh, if_pos ⟨by omega, hh⟩]
            · rw [if_neg hh, if_neg (fun x => hh x.2)])
          have hlen : M2 ≤ 20000000 := by omega
          clear hml2
          by_cases hinf : p.getD t 0 = 1000000000
          · have HQ : Hid (S0 ++ segL p a b (t + 1) = S0 ++ (segL p a b t ++ [(t : Int)])) := Lib.hid (by rw [HSt.out, if_pos (by rw [rB, hinf]; rfl)])
            rw [hinf] at pt
            clear hinf bT pa pb
            go_wp2_with fail
            go_quiet (fail)
            go_wp2_with (at_builtin; refine wp_app1 rfl _ _ 22 rfl w1.heap.size 3 i0 Try.underlying22 HI.out HZ0.out HZ1.out HZ2.out _ _ _ rfl (hown.drewN _) _ rfl (by omega) hsz ?_)
            intro v' w2 h1 hb2 _
            have hbel' := (bel_drewN hbel _).trans hb2
            rw [← HQ.out] at h1
            clear hown hbel hb2 hr
            go_wp2_with fail
            go_roundw
            case rel => exact ⟨t + 1, M2 + 1, by omega, by omega, by go_num, h1, hbel'⟩
            case measure => simp [intOf]; omega
          · have hzb : (p.getD t 0 == 1000000000) = false := by simpa using hinf
            have HB : Hid (rB p a b t = decide (p.getD a 0 * ((b : Int) - t) + p.getD b 0 * ((t : Int) - a) < p.getD t 0 * ((b : Int) - a))) := Lib.hid (by rw [rB, hzb]; rfl)
            clear hinf
            generalize p.getD t 0 = x at *
            generalize p.getD a 0 = y at *
            generalize p.getD b 0 = z at *
            have hn13 : (n : Int) ≤ 13 := by omega
            have m1 := mulBd (x := x) (y := (b : Int) - a) (A := 2000000000) (B := 1000) (by omega) (by omega) (by omega) (by omega)
            have m2 := mulBd (x := y) (y := (b : Int) - t) (A := 2000000000) (B := 1000) (by omega) (by omega) (by omega) (by omega)
            have m3 := mulBd (x := z) (y := (t : Int) - a) (A := 2000000000) (B := 1000) (by omega) (by omega) (by omega) (by omega)
            have u1 : IntKind.i64.wrap (x * ((b : Int) - a)) = x * ((b : Int) - a) := IntWalk.i64_in _ (by omega)
            have u2 : IntKind.i64.wrap (y * ((b : Int) - t)) = y * ((b : Int) - t) := IntWalk.i64_in _ (by omega)
            have u3 : IntKind.i64.wrap (z * ((t : Int) - a)) = z * ((t : Int) - a) := IntWalk.i64_in _ (by omega)
            have u4 : IntKind.i64.wrap (y * ((b : Int) - t) + z * ((t : Int) - a)) = y * ((b : Int) - t) + z * ((t : Int) - a) := IntWalk.i64_in _ (by omega)
            by_cases hst : y * ((b : Int) - t) + z * ((t : Int) - a) < x * ((b : Int) - a)
            · have HQ : Hid (S0 ++ segL p a b (t + 1) = S0 ++ (segL p a b t ++ [(t : Int)])) := Lib.hid (by rw [HSt.out, if_pos (by rw [HB.out]; exact decide_eq_true hst)])
              go_wp2_with fail
              go_quiet (fail)
              clear u1 u2 u3 u4 m1 m2 m3
              go_wp2_with (at_builtin; refine wp_app1 rfl _ _ 22 rfl w1.heap.size 3 i0 Try.underlying22 HI.out HZ0.out HZ1.out HZ2.out _ _ _ rfl (hown.drewN _) _ rfl (by omega) hsz ?_)
              intro v' w2 h1 hb2 _
              have hbel' := (bel_drewN hbel _).trans hb2
              rw [← HQ.out] at h1
              clear hown hbel hb2 hr
              go_wp2_with fail
              go_roundw
              case rel => exact ⟨t + 1, M2 + 1, by omega, by omega, by go_num, h1, hbel'⟩
              case measure => simp [intOf]; omega
            · have HQ : Hid (S0 ++ segL p a b (t + 1) = S0 ++ segL p a b t) := Lib.hid (by rw [HSt.out, if_neg (by rw [HB.out, decide_eq_false hst]; simp)])
              rw [← HQ.out] at hown
              go_wp2_with fail
              go_quiet (fail)
              clear u1 u2 u3 u4 m1 m2 m3
              go_wp2_with fail
              go_roundw
              case rel => exact ⟨t + 1, M2, by omega, by omega, by go_num, hown.drewN _, bel_drewN hbel _⟩
              case measure => simp [intOf]; omega
        · have HQ : Hid (S0 ++ segL p a b t = sN p L k) := Lib.hid (by rw [HS.out, show t = b from by omega])
          rw [HQ.out] at hown
          go_wp2_with fail
          go_roundw
          case rel => exact ⟨k + 1, M2, by omega, by omega, by go_num, by rw [Nat.add_sub_cancel]; exact hown, hbel⟩
          case measure => simp [intOf]; omega
    · have HE : Hid (sN p L (k - 1) = (pNeed p).1) := Lib.hid (by rw [HP.out, HM.out, show k = m from by omega])
      have HE2 : Hid ((pNeed p).2 = true) := Lib.hid (by rw [HP.out])
      rw [HE.out] at hown
      go_wp2_with fail
      go_ret2
      rw [HE2.out]
      exact retOwnB_mk (hown.more hs1) (hb1.trans (hbel.mono hs1)) (by omega)
theorem whole_c (a : Int) (w : World) : Calls Try.prog 14 #[.int .i64 a] w fun e w' => e = .returned (.agg #[.int .i64 a, .int .i64 1]) ∧ Below w.heap.size w w' := by
  go_enter Try.func14, Try.ntmps14
  go_wp2
  have bel := Below.refl w.heap.size w
  refine bodyPost_ret (v := .agg #[.int .i64 a, .int .i64 1]) (by simp [results, Try.results14, go_sem, *]) rfl ⟨?_, ?_⟩
  · rfl
  · (repeat (first | exact bel | refine Below.drew ?_ | refine bel_set ?_ (by first | exact Nat.le_refl _ | (dsimp only; omega) | omega) _ | refine bel_alloc ?_ _))
/-- One cell holds a value. -/
def Cl (w : World) (p : Addr) (v : Value) : Prop := p.block < w.heap.size ∧ w.cell? p = some v
theorem Cl.go {a b : World} {p : Addr} {v : Value} (h : Cl a p v) (hb : Below a.heap.size a b) : Cl b p v := ⟨Nat.lt_of_lt_of_le h.1 hb.size, (hb.cell h.1).trans h.2⟩
theorem Cl.alloc {a : World} {p : Addr} {v : Value} (h : Cl a p v) (o : Obj) : Cl (a.alloc o) p v := h.go (bel_new a o)
theorem Cl.drew {a : World} {p : Addr} {v : Value} (h : Cl a p v) : Cl a.drew p v := h
theorem Cl.grown {a b : World} {p : Addr} {v : Value} {k : Nat} (h : Cl a p v) (hg : a.grownBy b (some k)) (hk : p.block ≠ k) : Cl b p v :=
  ⟨Nat.lt_of_lt_of_le h.1 hg.size, (World.cell?_of_block (hg.block p.block h.1 (fun e => by injection e with e; exact hk e))).trans h.2⟩
theorem bel_map {B b : Nat} {a x y : World} (h : Below B a x) (hg : x.grownBy y (some b)) (hB : B ≤ b) (hs : B ≤ x.heap.size) : Below B a y :=
  h.grown hg hs fun g hg => by cases hg; exact hB
set_option maxRecDepth 8192 in
set_option maxHeartbeats 8000000 in
theorem sides_c (A : Option Addr) (n c : Nat) (p : List Int) (w : World) (h : Rd w w.heap.size A n p) (hp : isPol p = true) :
    Calls Try.prog 13 #[.slice A n c] w fun e w' => ∃ b, e = .returned (.map (some b)) ∧ FMap w' b 1000 (hN p (corners p) ((corners p).length - 1)) ∧ Below w.heap.size w w' := by
  have HLen := Lib.hid h.len
  have hl := isPol_len hp
  rw [HLen.out] at hl
  have HA := Lib.hid (isPol_all hp)
  have HC := corn_of hp
  have HR := Lib.hid (asRow_corners p)
  have hcl := corn_len HC
  rw [HLen.out] at hcl
  have hcp := HC.pos
  have HH := Lib.hid HC
  clear hp HC
  have hmm := @run_makeMap Try.prog
  go_enter Try.func13, Try.ntmps13
  go_wp2_with fail
  refine (corners_c _ _ _ _ _ _ h (Nat.le_refl _) HA.out (by omega)).mono ?_
  rintro e w1 ⟨A3, m, c3, rfl, own3, hb1, _⟩
  rw [HR.out] at own3
  generalize hLL : corners p = L at *
  have HLL := Lib.hid hLL
  clear hLL
  have hml : L.length = m := by have := own3.len; simpa using this
  have HM := Lib.hid hml
  have rd3 := own3.rd
  have hr1 := h.below hb1
  have hs1 := hb1.size
  rw [hml] at hcl hcp
  clear own3 hml
  obtain ⟨adL, rfl, habL, cI⟩ := rd3.at_ (show 0 < m by omega)
  rw [cornAt (by rw [HM.out]; omega), ad_add0] at cI
  have ha13 := corn_top HH.out (show 0 < L.length by rw [HM.out]; omega)
  rw [HLen.out] at ha13
  obtain ⟨ad, rfl, hab, pa⟩ := hr1.at_ ha13
  have HZ : Hid (hN p L 0 = fun y => if y = L.getD 0 0 then some (p.getD (L.getD 0 0) 0, 1) else none) := Lib.hid (by
    funext y
    show (if y = L.getD 0 0 then some (p.getD y 0, (1 : Int)) else none) = _
    by_cases hy : y = L.getD 0 0
    · rw [if_pos hy, if_pos hy, hy]
    · rw [if_neg hy, if_neg hy])
  have X1 : Cl w1 adL (.int .i64 ((L.getD 0 0 : Nat) : Int)) := ⟨habL, cI⟩
  have X2 : Cl w1 (ad.add (L.getD 0 0)) (.int .i64 (p.getD (L.getD 0 0) 0)) := ⟨by rw [blk_add]; omega, pa⟩
  have HL0 := Lib.hid (show L.getD 0 0 = L.getD 0 0 from rfl)
  clear cI pa
  have bel : Below w1.heap.size w1 w1 := Below.refl _ _
  go_wp2_with fail
  go_upto_region 2 with fail
  go_cut [4] (fun v wx => ∃ b : Nat, v = .map (some b) ∧ FMap wx b 1 (hN p L 0) ∧ w1.heap.size ≤ b ∧ Below w1.heap.size w1 wx)
  case first =>
    generalize L.getD 0 0 = a at *
    generalize p.getD a 0 = z at *
    have X1 := X1.drew
    have X2 := X2.drew
    have bel := bel.drew
    have FM : FMap (w1.drew.alloc (.map #[] 0)) w1.heap.size 0 (fun _ => none) := FMap.new w1.drew
    have q1 : (0 : Int) < (m : Int) := by omega
    have q2 : (a : Int) < (n : Int) := by omega
    have q3 : (0 : Int) ≤ (a : Int) := by omega
    have q4 : 0 < m := by omega
    have q5 : (ad.add a).block = ad.block := blk_add _ _
    have q6 : ad.block < w1.heap.size := by omega
    go_region_held3 (fun w' => w'.cell? adL = some (.int .i64 (a : Int)) ∧ w'.cell? (ad.add a) = some (.int .i64 z)) (first | exact ⟨X1.2, X2.2⟩ | exact ⟨(X1.alloc _).2, (X2.alloc _).2⟩ | exact ⟨Y1.2, Y2.2⟩ | exact ⟨Z1.2, Z2.2⟩)
      (first
      | (go_at_call 14; (with_reducible refine Calls.mono (whole_c _ _) ?_); rintro e v1 ⟨rfl, hb1⟩; have bel : Below w1.heap.size w1 v1 := (by first | exact bel_step bel hb1 | exact bel_step (bel_alloc bel _) hb1); have X1 : Cl v1 adL (.int .i64 (a : Int)) := (by first | exact X1.go hb1 | exact (X1.alloc _).go hb1); have X2 : Cl v1 (ad.add a) (.int .i64 z) := (by first | exact X2.go hb1 | exact (X2.alloc _).go hb1); (first | (have FM1 := FM.go hb1; obtain ⟨u1, hrun1, F1, g1⟩ := FM1.store (by omega) a (by omega) z 1) | skip); (try have Y1 := X1.grown g1 (by omega)); (try have Y2 := X2.grown g1 (by omega)); (try obtain ⟨u2, hrun2, F2, g2⟩ := (FMap.new v1).store (by omega) a (by omega) z 1); (try have Z1 := (X1.alloc _).grown g2 (by have := bel.size; omega)); (try have Z2 := (X2.alloc _).grown g2 (by have := bel.size; omega))))
    all_goals
      go_wp2_with fail
      go_meet
      first
      | exact ⟨_, rfl, F1.eq HZ.out.symm, by simp, bel_map bel g1 (by simp) bel.size⟩
      | exact ⟨_, rfl, F2.eq HZ.out.symm, bel.size, bel_map (bel_alloc bel _) g2 bel.size (bel_alloc bel _).size⟩
  case rest =>
    obtain ⟨b, rfl, hF, hbb, hbel⟩ := hcut
    clear X1 X2 HZ HL0 hmm
    go_wp2_with fail
    go_loopw [5] (fun i wr => ∃ k : Nat, 1 ≤ k ∧ k ≤ m ∧ i = .int .i64 k ∧ FMap wr b (L.getD (k - 1) 0 + 1) (hN p L (k - 1)) ∧ Below w1.heap.size w1 wr) (fun i _ => m - (intOf i).toNat)
    case atStart => exact ⟨1, Nat.le_refl _, hcp, rfl, hF.mono (by omega), hbel⟩
    case round =>
      clear hF hbel
      obtain ⟨k, hk1, hk, rfl, hF, hbel⟩ := hrel
      have hr := hr1.go hbel hs1
      have hrL := rd3.below hbel
      by_cases hlt : k < m
      · have hkL : k < L.length := by rw [HM.out]; exact hlt
        obtain ⟨adL', q1, _, cI⟩ := hrL.at_ (show k - 1 < m by omega)
        cases q1
        obtain ⟨adL', q1, _, cK⟩ := hrL.at_ hlt
        cases q1
        rw [cornAt (by omega)] at cI
        rw [cornAt hkL] at cK
        have hik := HH.out.lt (k - 1) (by omega)
        rw [show k - 1 + 1 = k from by omega] at hik
        have hkp := corn_top HH.out hkL
        have HS : Hid (hN p L k = segF p (L.getD (k - 1) 0) (L.getD k 0) (L.getD k 0 + 1) (hN p L (k - 1))) := Lib.hid (by
          obtain ⟨j, rfl⟩ : ∃ j, k = j + 1 := ⟨k - 1, by omega⟩
          rfl)
        rw [HLen.out] at hkp
        obtain ⟨c1, hc1⟩ : ∃ c1, c1 = L.getD k 0 := ⟨_, rfl⟩
        rw [← hc1] at cK hik hkp HS
        have HLk := Lib.hid hc1
        clear hc1
        generalize L.getD (k - 1) 0 = a at *
        generalize hN p L (k - 1) = f0 at *
        have e1 : IntKind.i64.wrap ((k : Int) - 1) = (k : Int) - 1 := IntWalk.i64_in _ (by omega)
        have e2 : ((k : Int) - 1).toNat = k - 1 := by omega
        have k0 : (1 : Int) ≤ (k : Int) := by omega
        have k1 : ¬ (k : Int) - 1 < 0 := by omega
        have k2 : ¬ (k : Int) ≤ (k : Int) - 1 := by omega
        have k3 : (k : Int) - 1 < (m : Int) := by omega
        have k4 : (0 : Int) ≤ (k : Int) - 1 := by omega
        have k5 : ¬ (m : Int) ≤ (k : Int) - 1 := by omega
        have ha13 : a < n := by omega
        go_wp2_with fail
        go_quiet (fail)
        go_wp2_with fail
        go_loopw [8] (fun j wx => ∃ t : Nat, a + 1 ≤ t ∧ t ≤ c1 + 1 ∧ j = .int .i64 t ∧ FMap wx b t (segF p a c1 t f0) ∧ Below w1.heap.size w1 wx) (fun j _ => c1 + 1 - (intOf j).toNat)
        case atStart => exact ⟨a + 1, Nat.le_refl _, by omega, by go_num, by rw [segF_start]; exact hF, bel_drewN hbel _⟩
        case round =>
          clear hF hbel hr hrL cI cK
          obtain ⟨t, ht1, ht, rfl, hF, hbel⟩ := hrel
          have hsz := hbel.size
          have hr := hr1.go hbel hs1
          by_cases hlt2 : t ≤ c1
          · obtain ⟨ad2, q2, hba, pa⟩ := hr.at_ ha13
            cases q2
            obtain ⟨ad3, q3, _, pb⟩ := hr.at_ hkp
            cases q3
            have HSt : Hid (segF p a c1 (t + 1) f0 = fun x => if x = t then some (hgt p a c1 t) else segF p a c1 t f0 x) := Lib.hid (segF_step (by omega))
            have HG : Hid (hgt p a c1 t = (lowN (p.getD a 0 * ((c1 : Int) - a) + (p.getD c1 0 - p.getD a 0) * ((t : Int) - a)) ((c1 : Int) - a), lowD (p.getD a 0 * ((c1 : Int) - a) + (p.getD c1 0 - p.getD a 0) * ((t : Int) - a)) ((c1 : Int) - a))) := Lib.hid rfl
            have bA := isNum_bd (List.all_eq_true.1 HA.out _ (getD_mem (show a < p.length by rw [HLen.out]; exact ha13)))
            have bB := isNum_bd (List.all_eq_true.1 HA.out _ (getD_mem (show c1 < p.length by rw [HLen.out]; exact hkp)))
            generalize p.getD a 0 = y at *
            generalize p.getD c1 0 = z at *
            have m2 := mulBd (x := y) (y := (c1 : Int) - a) (A := 2000000000) (B := 1000) (by omega) (by omega) (by omega) (by omega)
            have m3 := mulBd (x := z - y) (y := (t : Int) - a) (A := 2000000000) (B := 1000) (by omega) (by omega) (by omega) (by omega)
            have u0 : IntKind.i64.wrap (z - y) = z - y := IntWalk.i64_in _ (by omega)
            have u1 : IntKind.i64.wrap ((c1 : Int) - a) = (c1 : Int) - a := IntWalk.i64_in _ (by omega)
            have u2 : IntKind.i64.wrap (y * ((c1 : Int) - a)) = y * ((c1 : Int) - a) := IntWalk.i64_in _ (by omega)
            have u3 : IntKind.i64.wrap ((z - y) * ((t : Int) - a)) = (z - y) * ((t : Int) - a) := IntWalk.i64_in _ (by omega)
            have u4 : IntKind.i64.wrap (y * ((c1 : Int) - a) + (z - y) * ((t : Int) - a)) = y * ((c1 : Int) - a) + (z - y) * ((t : Int) - a) := IntWalk.i64_in _ (by omega)
            have u5 : IntKind.i64.wrap ((t : Int) - a) = (t : Int) - a := IntWalk.i64_in _ (by omega)
            have CL := fun w => lowest_c (y * ((c1 : Int) - a) + (z - y) * ((t : Int) - a)) ((c1 : Int) - a) w (by omega) (by omega) (by omega) (by omega) (by omega)
            have q1 : (c1 : Int) < (n : Int) := by omega
            have q2 : (a : Int) < (n : Int) := by omega
            have q3 : (0 : Int) ≤ (a : Int) := by omega
            have q4 : (0 : Int) ≤ (c1 : Int) := by omega
            have q5 : (ad.add a).block = ad.block := blk_add _ _
            have q6 : (ad.add c1).block = ad.block := blk_add _ _
            have q7 : t ≤ 1000 := by omega
            have X1 : Cl wr (ad.add a) (.int .i64 y) := ⟨by omega, pa⟩
            have X2 : Cl wr (ad.add c1) (.int .i64 z) := ⟨by omega, pb⟩
            have q8 : ad.block < b := by omega
            clear pa pb m2 m3
            go_wp2_with fail
            have X1 := X1.drew
            have X2 := X2.drew
            have hbel := hbel.drew
            have hF := hF.drew
            go_region_held3 (fun w' => w'.cell? (ad.add a) = some (.int .i64 y) ∧ w'.cell? (ad.add c1) = some (.int .i64 z)) (first | exact ⟨X1.2, X2.2⟩ | exact ⟨Y1.2, Y2.2⟩)
              (first
              | (go_at_call 21; (with_reducible refine Calls.mono (CL _) ?_); rintro e v1 ⟨rfl, hb1⟩; have hbel : Below w1.heap.size w1 v1 := hbel.trans (hb1.mono hbel.size); have X1 := X1.go hb1; have X2 := X2.go hb1; obtain ⟨v2, hrun1, F1, g1⟩ := (hF.go hb1).store (by omega) t (by omega) (lowN (y * ((c1 : Int) - a) + (z - y) * ((t : Int) - a)) ((c1 : Int) - a)) (lowD (y * ((c1 : Int) - a) + (z - y) * ((t : Int) - a)) ((c1 : Int) - a)); have Y1 := X1.grown g1 (by omega); have Y2 := X2.grown g1 (by omega)))
            all_goals
              clear hF
              go_wp2_with fail
              go_roundw
              case rel => exact ⟨t + 1, by omega, by omega, by go_num, F1.eq (by rw [HSt.out, HG.out]), bel_map hbel g1 hbb hbel.size⟩
              case measure => simp [intOf]; omega
          · obtain rfl : t = c1 + 1 := by omega
            have hF2 := hF.eq HS.out.symm
            go_wp2_with fail
            go_roundw
            case rel => exact ⟨k + 1, by omega, by omega, by go_num, by rw [Nat.add_sub_cancel, ← HLk.out]; exact hF2, hbel⟩
            case measure => simp [intOf]; omega
      · obtain rfl : k = m := by omega
        have hF2 : FMap wr b 1000 (hN p L (k - 1)) := hF.mono (by
          have := corn_top HH.out (show k - 1 < L.length by rw [HM.out]; omega)
          rw [HLen.out] at this
          omega)
        go_wp2_with fail
        go_ret
        exact ⟨b, rfl, by rw [HLL.out, HM.out]; exact hF2, hb1.trans (hbel.mono hs1)⟩
theorem implTo_len (p : List Int) (f : MapF) : ∀ k, (implTo p f k).length ≤ k
  | 0 => by simp [implTo]
  | k + 1 => by
    have := implTo_len p f k
    rw [implTo]
    split
    · simp; exact this
    · omega
theorem qF_none {p : List Int} {f : MapF} {x : Nat} (h : f x = none) : qF p f x = false := by rw [qF, h]
theorem qF_some {p : List Int} {f : MapF} {x : Nat} {v : Int × Int} (h : f x = some v) : qF p f x = (p.getD x 0 == 1000000000 || !((p.getD x 0 == v.1) && ((1 : Int) == v.2))) := by
  rw [qF, h]
  rfl
set_option maxRecDepth 8192 in
set_option maxHeartbeats 8000000 in
theorem implNeedlessTerms_c (A : Option Addr) (n c : Nat) (p : List Int) (w : World) (h : Rd w w.heap.size A n p) (_hn : n ≤ 1048576) :
    Calls Try.prog 6 #[.slice A n c] w (RetOwnB 3 (pNeed p).1 (pNeed p).2 w) := by
  have HLen := Lib.hid h.len
  cases hp : isPol p
  · have HP : Hid (pNeed p = ([], false)) := Lib.hid (by rw [pNeed, hp]; rfl)
    have HV := Lib.hid hp
    clear hp
    go_enter Try.func6, Try.ntmps6
    go_wp2_with fail
    refine (isPoly_c _ _ _ _ _ _ h).mono ?_; rw [HV.out]; rintro e w' ⟨rfl, rfl⟩
    go_wp2_with fail
    go_ret2
    rw [HP.out]
    exact retOwnB_mk (Own.nil _ _ _) (Below.refl _ _) (by omega)
  have HP : Hid (pNeed p = (implTo p (hN p (corners p) ((corners p).length - 1)) p.length, true)) := Lib.hid (by rw [pNeed, hp, need_impl hp]; rfl)
  have hl := isPol_len hp
  rw [HLen.out] at hl
  have HA := Lib.hid (isPol_all hp)
  have HV := Lib.hid hp
  have CS := fun w h => sides_c A n c p w h hp
  clear hp
  obtain ⟨i0, hi, hz0, hz1, hz2⟩ := info_parts info_int
  have HI := Lib.hid hi
  have HZ0 := Lib.hid hz0
  have HZ1 := Lib.hid hz1
  have HZ2 := Lib.hid hz2
  clear hi hz0 hz1 hz2
  go_enter Try.func6, Try.ntmps6
  go_wp2_with fail
  refine (isPoly_c _ _ _ _ _ _ h).mono ?_; rw [HV.out]; rintro e w' ⟨rfl, rfl⟩
  go_wp2_with fail
  refine (CS _ h).mono ?_
  rintro e w1 ⟨b, rfl, hF, hb1⟩
  generalize hf : hN p (corners p) ((corners p).length - 1) = f at *
  have Hf := Lib.hid hf
  clear hf CS
  have hr1 := h.below hb1
  have hs1 := hb1.size
  have hlb := hF.lt
  have own0 := Own.empty w1 3 (Nat.le_refl w1.heap.size)
  have bel0 := bel_new w1 (.cells #[] 3)
  go_wp2_with fail
  go_loopw [5, 18] (fun v i wr => ∃ k M : Nat, k ≤ n ∧ i = .int .i64 k ∧ Own wr w1.heap.size 3 v M (implTo p f k) ∧ Below w1.heap.size w1 wr) (fun _ i _ => n - (intOf i).toNat)
  case atStart => exact ⟨0, 0, Nat.zero_le _, rfl, own0, bel0⟩
  case round =>
    clear own0 bel0
    obtain ⟨k, M, hk, rfl, hown, hbel⟩ := hrel
    have hr := hr1.go hbel hs1
    have hF := hF.go hbel
    have hml := hown.len
    have hil := implTo_len p f k
    by_cases hlt : k < n
    · have hsz := hbel.size
      have bk := isNum_bd (List.all_eq_true.1 HA.out _ (getD_mem (show k < p.length by rw [HLen.out]; exact hlt)))
      obtain ⟨ad, rfl, hab, hc⟩ := hr.at_ hlt
      have HSt : Hid (implTo p f (k + 1) = if qF p f k then implTo p f k ++ [(k : Int)] else implTo p f k) := Lib.hid rfl
      obtain ⟨x, y, hrun, hv⟩ := hF.look k (by omega)
      have hM : M ≤ 1000 := by omega
      clear hml hil hF
      have P := Bx.new wr [.int .i64 x, .int .i64 y] 32
      have bel := bel_alloc hbel (.cells #[.int .i64 x, .int .i64 y] 32)
      have hown := hown.new (.cells #[.int .i64 x, .int .i64 y] 32)
      cases hfk : f k with
      | none =>
        have HQ : Hid (implTo p f (k + 1) = implTo p f k) := Lib.hid (by rw [HSt.out, qF_none hfk]; rfl)
        rw [hfk] at hrun
        rw [← HQ.out] at hown
        rw [Option.isSome_none] at hrun
        clear hfk hv
        go_wp2_with fail
        go_quiet (fail)
        go_wp2_with fail
        go_roundw
        case rel => exact ⟨k + 1, M, by omega, by go_num, hown.drewN _, bel_drewN bel _⟩
        case measure => simp [intOf]; omega
      | some v =>
        have hq := qF_some (p := p) hfk
        obtain rfl := hv v hfk
        rw [hfk] at hrun
        rw [Option.isSome_some] at hrun
        clear hfk hv
        by_cases hinf : p.getD k 0 = 1000000000
        · have HQ : Hid (implTo p f (k + 1) = implTo p f k ++ [(k : Int)]) := Lib.hid (by rw [HSt.out, hq, hinf]; rfl)
          rw [hinf] at hc
          clear hinf bk hq hbel hr hsz
          go_wp2_with fail
          generalize wr.alloc (.cells #[.int .i64 x, .int .i64 y] 32) = wz at *
          generalize wr.heap.size = S at *
          have bz := bel.size
          go_quiet (fail)
          go_wp2_with (at_builtin; refine wp_app1 rfl _ _ 22 rfl w1.heap.size 3 i0 Try.underlying22 HI.out HZ0.out HZ1.out HZ2.out _ _ _ rfl (hown.drewN _) _ rfl (by omega) bz ?_)
          intro v' w2 h1 hb2 _
          have hbel' := (bel_drewN bel _).trans hb2
          rw [← HQ.out] at h1
          clear hown bel hb2
          go_wp2_with fail
          go_roundw
          case rel => exact ⟨k + 1, M + 1, by omega, by go_num, h1, hbel'⟩
          case measure => simp [intOf]; omega
        · have hzb : (p.getD k 0 == 1000000000) = false := by simpa using hinf
          rw [hzb, Bool.false_or] at hq
          clear hinf
          generalize p.getD k 0 = z at *
          by_cases hzx : z = x
          · by_cases h1y : (1 : Int) = y
            · have HQ : Hid (implTo p f (k + 1) = implTo p f k) := Lib.hid (by rw [HSt.out, hq, hzx, ← h1y]; simp)
              subst hzx
              subst h1y
              clear hq
              clear hbel hr hsz bk
              go_wp2_with fail
              generalize wr.alloc (.cells #[.int .i64 z, .int .i64 1] 32) = wz at *
              generalize wr.heap.size = S at *
              have hown := hown.drewN 1
              have P := P.drew
              have bel := bel.drew
              have bx0 := P.at0
              have bx1 := P.at1
              refine wp_region_any (by kernel_rfl) ?_
              try (change wpAny _ _ _ _ _ _ _ (World.drew _))
              refine wpAny_take (i := 0) (v := ?_) rfl (by kernel_rfl) (by kernel_rfl) (by kernel_rfl) (fun _ _ _ h => h) (Or.inl ⟨by rfl, ?_⟩) ?_
              rotate_left
              · intro w'; first | (go_simp; done) | (go_simp; with_reducible rfl)
              try simp only [Act.put, List.getElem_toArray, List.getElem_cons_zero, List.setIfInBounds_toArray, List.set_cons_zero, List.set_cons_succ]
              refine wpAny_take (i := 1) (v := ?_) rfl (by kernel_rfl) (by kernel_rfl) (by kernel_rfl) (fun _ _ _ h => h) (Or.inl ⟨by rfl, ?_⟩) ?_
              rotate_left
              · intro w'; first | (go_simp; done) | (go_simp; with_reducible rfl)
              try simp only [Act.put, List.getElem_toArray, List.getElem_cons_succ, List.getElem_cons_zero, List.setIfInBounds_toArray, List.set_cons_zero, List.set_cons_succ]
              refine wpAny_take (i := 2) (v := ?_) rfl (by kernel_rfl) (by kernel_rfl) (by kernel_rfl) (fun _ _ _ h => h) (Or.inl ⟨by rfl, ?_⟩) ?_
              rotate_left
              · intro w'; first | (go_simp; done) | (go_simp; with_reducible rfl)
              try simp only [Act.put, List.getElem_toArray, List.getElem_cons_succ, List.getElem_cons_zero, List.setIfInBounds_toArray, List.set_cons_zero, List.set_cons_succ]
              refine wpAny_take (i := 3) (v := ?_) rfl (by kernel_rfl) (by kernel_rfl) (by kernel_rfl) (fun _ _ _ h => h) (Or.inl ⟨by rfl, ?_⟩) ?_
              rotate_left
              · intro w'; first | (go_simp; done) | (go_simp; with_reducible rfl)
              try simp only [Act.put, List.getElem_toArray, List.getElem_cons_succ, List.getElem_cons_zero, List.setIfInBounds_toArray, List.set_cons_zero, List.set_cons_succ]
              refine wpAny_take (i := 4) (v := ?_) rfl (by kernel_rfl) (by kernel_rfl) (by kernel_rfl) (fun _ _ _ h => h) (Or.inl ⟨by rfl, ?_⟩) ?_
              rotate_left
              · intro w'; first | (go_simp; done) | (go_simp; with_reducible rfl)
              try simp only [Act.put, List.getElem_toArray, List.getElem_cons_succ, List.getElem_cons_zero, List.setIfInBounds_toArray, List.set_cons_zero, List.set_cons_succ]
              refine wpAny_take (i := 5) (v := ?_) rfl (by kernel_rfl) (by kernel_rfl) (by kernel_rfl) (fun _ _ _ h => h) (Or.inl ⟨by rfl, ?_⟩) ?_
              rotate_left
              · intro w'; first | (go_simp; done) | (go_simp; with_reducible rfl)
              try simp only [Act.put, List.getElem_toArray, List.getElem_cons_succ, List.getElem_cons_zero, List.setIfInBounds_toArray, List.set_cons_zero, List.set_cons_succ]
              refine wpAny_ready (rs := [6, 7]) (by kernel_rfl) (by simp) ?_
              refine AllReady.cons rfl (fun K hK => ?_) (AllReady.cons rfl (fun K hK => ?_) AllReady.nil)
              · go_simp
                refine (whole_c _ _).mono ?_; rintro e u1 ⟨rfl, hbu⟩
                have P := P.go hbu
                have hown := hown.go hbu
                have bel := bel.trans (hbu.mono bel.size)
                have cx0 := P.at0
                have cx1 := P.at1
                refine hK _ _ ?_
                clear hK K hbu bx0 bx1
                refine wpAny_ready (rs := [7]) (by kernel_rfl) (by simp) ?_
                refine AllReady.cons rfl (fun K hK => ?_) AllReady.nil
                go_simp
                refine hK _ _ ?_
                clear hK K
                refine wpAny_take (i := 8) (v := ?_) rfl (by kernel_rfl) (by kernel_rfl) (by kernel_rfl) (fun _ _ _ h => h) (Or.inl ⟨by rfl, ?_⟩) ?_
                rotate_left
                · intro w'; first | (go_simp; done) | (go_simp; with_reducible rfl)
                try simp only [Act.put, List.getElem_toArray, List.getElem_cons_succ, List.getElem_cons_zero, List.setIfInBounds_toArray, List.set_cons_zero, List.set_cons_succ]
                refine wpAny_take (i := 9) (v := ?_) rfl (by kernel_rfl) (by kernel_rfl) (by kernel_rfl) (fun _ _ _ h => h) (Or.inl ⟨by rfl, ?_⟩) ?_
                rotate_left
                · intro w'; first | (go_simp; done) | (go_simp; with_reducible rfl)
                try simp only [Act.put, List.getElem_toArray, List.getElem_cons_succ, List.getElem_cons_zero, List.setIfInBounds_toArray, List.set_cons_zero, List.set_cons_succ]
                refine wpAny_take (i := 10) (v := ?_) rfl (by kernel_rfl) (by kernel_rfl) (by kernel_rfl) (fun _ _ _ h => h) (Or.inl ⟨by rfl, ?_⟩) ?_
                rotate_left
                · intro w'; first | (go_simp; done) | (go_simp; with_reducible rfl)
                try simp only [Act.put, List.getElem_toArray, List.getElem_cons_succ, List.getElem_cons_zero, List.setIfInBounds_toArray, List.set_cons_zero, List.set_cons_succ]
                refine wpAny_done (by kernel_rfl) ?_ _
                go_wp2_with fail
                go_roundw
                case rel => exact ⟨k + 1, M, by omega, by go_num, by rw [HQ.out]; exact hown, bel⟩
                case measure => simp [intOf]; omega
              · go_simp
                refine hK _ _ ?_
                clear hK K
                refine wpAny_ready (rs := [6]) (by kernel_rfl) (by simp) ?_
                refine AllReady.cons rfl (fun K hK => ?_) AllReady.nil
                go_simp
                refine (whole_c _ _).mono ?_; rintro e u1 ⟨rfl, hbu⟩
                refine hK _ _ ?_
                clear hK K
                have hown := hown.go hbu
                have bel := bel.trans (hbu.mono bel.size)
                clear hbu bx0 bx1
                refine wpAny_take (i := 8) (v := ?_) rfl (by kernel_rfl) (by kernel_rfl) (by kernel_rfl) (fun _ _ _ h => h) (Or.inl ⟨by rfl, ?_⟩) ?_
                rotate_left
                · intro w'; first | (go_simp; done) | (go_simp; with_reducible rfl)
                try simp only [Act.put, List.getElem_toArray, List.getElem_cons_succ, List.getElem_cons_zero, List.setIfInBounds_toArray, List.set_cons_zero, List.set_cons_succ]
                refine wpAny_take (i := 9) (v := ?_) rfl (by kernel_rfl) (by kernel_rfl) (by kernel_rfl) (fun _ _ _ h => h) (Or.inl ⟨by rfl, ?_⟩) ?_
                rotate_left
                · intro w'; first | (go_simp; done) | (go_simp; with_reducible rfl)
                try simp only [Act.put, List.getElem_toArray, List.getElem_cons_succ, List.getElem_cons_zero, List.setIfInBounds_toArray, List.set_cons_zero, List.set_cons_succ]
                refine wpAny_take (i := 10) (v := ?_) rfl (by kernel_rfl) (by kernel_rfl) (by kernel_rfl) (fun _ _ _ h => h) (Or.inl ⟨by rfl, ?_⟩) ?_
                rotate_left
                · intro w'; first | (go_simp; done) | (go_simp; with_reducible rfl)
                try simp only [Act.put, List.getElem_toArray, List.getElem_cons_succ, List.getElem_cons_zero, List.setIfInBounds_toArray, List.set_cons_zero, List.set_cons_succ]
                refine wpAny_done (by kernel_rfl) ?_ _
                go_wp2_with fail
                go_roundw
                case rel => exact ⟨k + 1, M, by omega, by go_num, by rw [HQ.out]; exact hown, bel⟩
                case measure => simp [intOf]; omega
            · have HQ : Hid (implTo p f (k + 1) = implTo p f k ++ [(k : Int)]) := Lib.hid (by
                have hne : ((1 : Int) == y) = false := by simpa using h1y
                rw [HSt.out, hq, hne, Bool.and_false]; rfl)
              subst hzx
              clear hq
              clear hbel hr hsz bk
              go_wp2_with fail
              generalize wr.alloc (.cells #[.int .i64 z, .int .i64 y] 32) = wz at *
              generalize wr.heap.size = S at *
              have hown := hown.drewN 1
              have P := P.drew
              have bel := bel.drew
              have bx0 := P.at0
              have bx1 := P.at1
              refine wp_region_any (by kernel_rfl) ?_
              try (change wpAny _ _ _ _ _ _ _ (World.drew _))
              refine wpAny_take (i := 0) (v := ?_) rfl (by kernel_rfl) (by kernel_rfl) (by kernel_rfl) (fun _ _ _ h => h) (Or.inl ⟨by rfl, ?_⟩) ?_
              rotate_left
              · intro w'; first | (go_simp; done) | (go_simp; with_reducible rfl)
              try simp only [Act.put, List.getElem_toArray, List.getElem_cons_zero, List.setIfInBounds_toArray, List.set_cons_zero, List.set_cons_succ]
              refine wpAny_take (i := 1) (v := ?_) rfl (by kernel_rfl) (by kernel_rfl) (by kernel_rfl) (fun _ _ _ h => h) (Or.inl ⟨by rfl, ?_⟩) ?_
              rotate_left
              · intro w'; first | (go_simp; done) | (go_simp; with_reducible rfl)
              try simp only [Act.put, List.getElem_toArray, List.getElem_cons_succ, List.getElem_cons_zero, List.setIfInBounds_toArray, List.set_cons_zero, List.set_cons_succ]
              refine wpAny_take (i := 2) (v := ?_) rfl (by kernel_rfl) (by kernel_rfl) (by kernel_rfl) (fun _ _ _ h => h) (Or.inl ⟨by rfl, ?_⟩) ?_
              rotate_left
              · intro w'; first | (go_simp; done) | (go_simp; with_reducible rfl)
              try simp only [Act.put, List.getElem_toArray, List.getElem_cons_succ, List.getElem_cons_zero, List.setIfInBounds_toArray, List.set_cons_zero, List.set_cons_succ]
              refine wpAny_take (i := 3) (v := ?_) rfl (by kernel_rfl) (by kernel_rfl) (by kernel_rfl) (fun _ _ _ h => h) (Or.inl ⟨by rfl, ?_⟩) ?_
              rotate_left
              · intro w'; first | (go_simp; done) | (go_simp; with_reducible rfl)
              try simp only [Act.put, List.getElem_toArray, List.getElem_cons_succ, List.getElem_cons_zero, List.setIfInBounds_toArray, List.set_cons_zero, List.set_cons_succ]
              refine wpAny_take (i := 4) (v := ?_) rfl (by kernel_rfl) (by kernel_rfl) (by kernel_rfl) (fun _ _ _ h => h) (Or.inl ⟨by rfl, ?_⟩) ?_
              rotate_left
              · intro w'; first | (go_simp; done) | (go_simp; with_reducible rfl)
              try simp only [Act.put, List.getElem_toArray, List.getElem_cons_succ, List.getElem_cons_zero, List.setIfInBounds_toArray, List.set_cons_zero, List.set_cons_succ]
              refine wpAny_take (i := 5) (v := ?_) rfl (by kernel_rfl) (by kernel_rfl) (by kernel_rfl) (fun _ _ _ h => h) (Or.inl ⟨by rfl, ?_⟩) ?_
              rotate_left
              · intro w'; first | (go_simp; done) | (go_simp; with_reducible rfl)
              try simp only [Act.put, List.getElem_toArray, List.getElem_cons_succ, List.getElem_cons_zero, List.setIfInBounds_toArray, List.set_cons_zero, List.set_cons_succ]
              refine wpAny_ready (rs := [6, 7]) (by kernel_rfl) (by simp) ?_
              refine AllReady.cons rfl (fun K hK => ?_) (AllReady.cons rfl (fun K hK => ?_) AllReady.nil)
              · go_simp
                refine (whole_c _ _).mono ?_; rintro e u1 ⟨rfl, hbu⟩
                have P := P.go hbu
                have hown := hown.go hbu
                have bel := bel.trans (hbu.mono bel.size)
                have cx0 := P.at0
                have cx1 := P.at1
                refine hK _ _ ?_
                clear hK K hbu bx0 bx1
                refine wpAny_ready (rs := [7]) (by kernel_rfl) (by simp) ?_
                refine AllReady.cons rfl (fun K hK => ?_) AllReady.nil
                go_simp
                refine hK _ _ ?_
                clear hK K
                refine wpAny_take (i := 8) (v := ?_) rfl (by kernel_rfl) (by kernel_rfl) (by kernel_rfl) (fun _ _ _ h => h) (Or.inl ⟨by rfl, ?_⟩) ?_
                rotate_left
                · intro w'; first | (go_simp; done) | (go_simp; with_reducible rfl)
                try simp only [Act.put, List.getElem_toArray, List.getElem_cons_succ, List.getElem_cons_zero, List.setIfInBounds_toArray, List.set_cons_zero, List.set_cons_succ]
                refine wpAny_take (i := 9) (v := ?_) rfl (by kernel_rfl) (by kernel_rfl) (by kernel_rfl) (fun _ _ _ h => h) (Or.inl ⟨by rfl, ?_⟩) ?_
                rotate_left
                · intro w'; first | (go_simp; done) | (go_simp; with_reducible rfl)
                try simp only [Act.put, List.getElem_toArray, List.getElem_cons_succ, List.getElem_cons_zero, List.setIfInBounds_toArray, List.set_cons_zero, List.set_cons_succ]
                refine wpAny_take (i := 10) (v := ?_) rfl (by kernel_rfl) (by kernel_rfl) (by kernel_rfl) (fun _ _ _ h => h) (Or.inl ⟨by rfl, ?_⟩) ?_
                rotate_left
                · intro w'; first | (go_simp; done) | (go_simp; with_reducible rfl)
                try simp only [Act.put, List.getElem_toArray, List.getElem_cons_succ, List.getElem_cons_zero, List.setIfInBounds_toArray, List.set_cons_zero, List.set_cons_succ]
                refine wpAny_done (by kernel_rfl) ?_ _
                go_wp2_with (at_builtin; refine wp_app1 rfl _ _ 22 rfl w1.heap.size 3 i0 Try.underlying22 HI.out HZ0.out HZ1.out HZ2.out _ _ _ rfl hown _ rfl (by omega) bel.size ?_)
                intro v' w2 h1 hb2 _
                rw [← HQ.out] at h1
                have bel := bel.trans hb2
                clear hown hb2
                go_wp2_with fail
                go_roundw
                case rel => exact ⟨k + 1, M + 1, by omega, by go_num, h1, bel⟩
                case measure => simp [intOf]; omega
              · go_simp
                refine hK _ _ ?_
                clear hK K
                refine wpAny_ready (rs := [6]) (by kernel_rfl) (by simp) ?_
                refine AllReady.cons rfl (fun K hK => ?_) AllReady.nil
                go_simp
                refine (whole_c _ _).mono ?_; rintro e u1 ⟨rfl, hbu⟩
                refine hK _ _ ?_
                clear hK K
                have hown := hown.go hbu
                have bel := bel.trans (hbu.mono bel.size)
                clear hbu bx0 bx1
                refine wpAny_take (i := 8) (v := ?_) rfl (by kernel_rfl) (by kernel_rfl) (by kernel_rfl) (fun _ _ _ h => h) (Or.inl ⟨by rfl, ?_⟩) ?_
                rotate_left
                · intro w'; first | (go_simp; done) | (go_simp; with_reducible rfl)
                try simp only [Act.put, List.getElem_toArray, List.getElem_cons_succ, List.getElem_cons_zero, List.setIfInBounds_toArray, List.set_cons_zero, List.set_cons_succ]
                refine wpAny_take (i := 9) (v := ?_) rfl (by kernel_rfl) (by kernel_rfl) (by kernel_rfl) (fun _ _ _ h => h) (Or.inl ⟨by rfl, ?_⟩) ?_
                rotate_left
                · intro w'; first | (go_simp; done) | (go_simp; with_reducible rfl)
                try simp only [Act.put, List.getElem_toArray, List.getElem_cons_succ, List.getElem_cons_zero, List.setIfInBounds_toArray, List.set_cons_zero, List.set_cons_succ]
                refine wpAny_take (i := 10) (v := ?_) rfl (by kernel_rfl) (by kernel_rfl) (by kernel_rfl) (fun _ _ _ h => h) (Or.inl ⟨by rfl, ?_⟩) ?_
                rotate_left
                · intro w'; first | (go_simp; done) | (go_simp; with_reducible rfl)
                try simp only [Act.put, List.getElem_toArray, List.getElem_cons_succ, List.getElem_cons_zero, List.setIfInBounds_toArray, List.set_cons_zero, List.set_cons_succ]
                refine wpAny_done (by kernel_rfl) ?_ _
                go_wp2_with (at_builtin; refine wp_app1 rfl _ _ 22 rfl w1.heap.size 3 i0 Try.underlying22 HI.out HZ0.out HZ1.out HZ2.out _ _ _ rfl hown _ rfl (by omega) bel.size ?_)
                intro v' w2 h1 hb2 _
                rw [← HQ.out] at h1
                have bel := bel.trans hb2
                clear hown hb2
                go_wp2_with fail
                go_roundw
                case rel => exact ⟨k + 1, M + 1, by omega, by go_num, h1, bel⟩
                case measure => simp [intOf]; omega
          · have HQ : Hid (implTo p f (k + 1) = implTo p f k ++ [(k : Int)]) := Lib.hid (by
              have hne : (z == x) = false := by simpa using hzx
              rw [HSt.out, hq, hne, Bool.false_and]; rfl)
            clear hq
            clear hbel hr hsz bk
            go_wp2_with fail
            generalize wr.alloc (.cells #[.int .i64 x, .int .i64 y] 32) = wz at *
            generalize wr.heap.size = S at *
            have hown := hown.drewN 1
            have P := P.drew
            have bel := bel.drew
            have bx0 := P.at0
            have bx1 := P.at1
            refine wp_region_any (by kernel_rfl) ?_
            try (change wpAny _ _ _ _ _ _ _ (World.drew _))
            refine wpAny_take (i := 0) (v := ?_) rfl (by kernel_rfl) (by kernel_rfl) (by kernel_rfl) (fun _ _ _ h => h) (Or.inl ⟨by rfl, ?_⟩) ?_
            rotate_left
            · intro w'; first | (go_simp; done) | (go_simp; with_reducible rfl)
            try simp only [Act.put, List.getElem_toArray, List.getElem_cons_zero, List.setIfInBounds_toArray, List.set_cons_zero, List.set_cons_succ]
            refine wpAny_take (i := 1) (v := ?_) rfl (by kernel_rfl) (by kernel_rfl) (by kernel_rfl) (fun _ _ _ h => h) (Or.inl ⟨by rfl, ?_⟩) ?_
            rotate_left
            · intro w'; first | (go_simp; done) | (go_simp; with_reducible rfl)
            try simp only [Act.put, List.getElem_toArray, List.getElem_cons_succ, List.getElem_cons_zero, List.setIfInBounds_toArray, List.set_cons_zero, List.set_cons_succ]
            refine wpAny_take (i := 2) (v := ?_) rfl (by kernel_rfl) (by kernel_rfl) (by kernel_rfl) (fun _ _ _ h => h) (Or.inl ⟨by rfl, ?_⟩) ?_
            rotate_left
            · intro w'; first | (go_simp; done) | (go_simp; with_reducible rfl)
            try simp only [Act.put, List.getElem_toArray, List.getElem_cons_succ, List.getElem_cons_zero, List.setIfInBounds_toArray, List.set_cons_zero, List.set_cons_succ]
            refine wpAny_take (i := 3) (v := ?_) rfl (by kernel_rfl) (by kernel_rfl) (by kernel_rfl) (fun _ _ _ h => h) (Or.inl ⟨by rfl, ?_⟩) ?_
            rotate_left
            · intro w'; first | (go_simp; done) | (go_simp; with_reducible rfl)
            try simp only [Act.put, List.getElem_toArray, List.getElem_cons_succ, List.getElem_cons_zero, List.setIfInBounds_toArray, List.set_cons_zero, List.set_cons_succ]
            refine wpAny_take (i := 4) (v := ?_) rfl (by kernel_rfl) (by kernel_rfl) (by kernel_rfl) (fun _ _ _ h => h) (Or.inl ⟨by rfl, ?_⟩) ?_
            rotate_left
            · intro w'; first | (go_simp; done) | (go_simp; with_reducible rfl)
            try simp only [Act.put, List.getElem_toArray, List.getElem_cons_succ, List.getElem_cons_zero, List.setIfInBounds_toArray, List.set_cons_zero, List.set_cons_succ]
            refine wpAny_take (i := 5) (v := ?_) rfl (by kernel_rfl) (by kernel_rfl) (by kernel_rfl) (fun _ _ _ h => h) (Or.inl ⟨by rfl, ?_⟩) ?_
            rotate_left
            · intro w'; first | (go_simp; done) | (go_simp; with_reducible rfl)
            try simp only [Act.put, List.getElem_toArray, List.getElem_cons_succ, List.getElem_cons_zero, List.setIfInBounds_toArray, List.set_cons_zero, List.set_cons_succ]
            refine wpAny_ready (rs := [6, 7]) (by kernel_rfl) (by simp) ?_
            refine AllReady.cons rfl (fun K hK => ?_) (AllReady.cons rfl (fun K hK => ?_) AllReady.nil)
            · go_simp
              refine (whole_c _ _).mono ?_; rintro e u1 ⟨rfl, hbu⟩
              have P := P.go hbu
              have hown := hown.go hbu
              have bel := bel.trans (hbu.mono bel.size)
              have cx0 := P.at0
              have cx1 := P.at1
              refine hK _ _ ?_
              clear hK K hbu bx0 bx1
              refine wpAny_ready (rs := [7]) (by kernel_rfl) (by simp) ?_
              refine AllReady.cons rfl (fun K hK => ?_) AllReady.nil
              go_simp
              refine hK _ _ ?_
              clear hK K
              refine wpAny_take (i := 8) (v := ?_) rfl (by kernel_rfl) (by kernel_rfl) (by kernel_rfl) (fun _ _ _ h => h) (Or.inl ⟨by rfl, ?_⟩) ?_
              rotate_left
              · intro w'; first | (go_simp; done) | (go_simp; with_reducible rfl)
              try simp only [Act.put, List.getElem_toArray, List.getElem_cons_succ, List.getElem_cons_zero, List.setIfInBounds_toArray, List.set_cons_zero, List.set_cons_succ]
              refine wpAny_take (i := 9) (v := ?_) rfl (by kernel_rfl) (by kernel_rfl) (by kernel_rfl) (fun _ _ _ h => h) (Or.inl ⟨by rfl, ?_⟩) ?_
              rotate_left
              · intro w'; first | (go_simp; done) | (go_simp; with_reducible rfl)
              try simp only [Act.put, List.getElem_toArray, List.getElem_cons_succ, List.getElem_cons_zero, List.setIfInBounds_toArray, List.set_cons_zero, List.set_cons_succ]
              refine wpAny_take (i := 10) (v := ?_) rfl (by kernel_rfl) (by kernel_rfl) (by kernel_rfl) (fun _ _ _ h => h) (Or.inl ⟨by rfl, ?_⟩) ?_
              rotate_left
              · intro w'; first | (go_simp; done) | (go_simp; with_reducible rfl)
              try simp only [Act.put, List.getElem_toArray, List.getElem_cons_succ, List.getElem_cons_zero, List.setIfInBounds_toArray, List.set_cons_zero, List.set_cons_succ]
              refine wpAny_done (by kernel_rfl) ?_ _
              go_wp2_with (at_builtin; refine wp_app1 rfl _ _ 22 rfl w1.heap.size 3 i0 Try.underlying22 HI.out HZ0.out HZ1.out HZ2.out _ _ _ rfl hown _ rfl (by omega) bel.size ?_)
              intro v' w2 h1 hb2 _
              rw [← HQ.out] at h1
              have bel := bel.trans hb2
              clear hown hb2
              go_wp2_with fail
              go_roundw
              case rel => exact ⟨k + 1, M + 1, by omega, by go_num, h1, bel⟩
              case measure => simp [intOf]; omega
            · go_simp
              refine hK _ _ ?_
              clear hK K
              refine wpAny_ready (rs := [6]) (by kernel_rfl) (by simp) ?_
              refine AllReady.cons rfl (fun K hK => ?_) AllReady.nil
              go_simp
              refine (whole_c _ _).mono ?_; rintro e u1 ⟨rfl, hbu⟩
              refine hK _ _ ?_
              clear hK K
              have hown := hown.go hbu
              have bel := bel.trans (hbu.mono bel.size)
              clear hbu bx0 bx1
              refine wpAny_take (i := 8) (v := ?_) rfl (by kernel_rfl) (by kernel_rfl) (by kernel_rfl) (fun _ _ _ h => h) (Or.inl ⟨by rfl, ?_⟩) ?_
              rotate_left
              · intro w'; first | (go_simp; done) | (go_simp; with_reducible rfl)
              try simp only [Act.put, List.getElem_toArray, List.getElem_cons_succ, List.getElem_cons_zero, List.setIfInBounds_toArray, List.set_cons_zero, List.set_cons_succ]
              refine wpAny_take (i := 9) (v := ?_) rfl (by kernel_rfl) (by kernel_rfl) (by kernel_rfl) (fun _ _ _ h => h) (Or.inl ⟨by rfl, ?_⟩) ?_
              rotate_left
              · intro w'; first | (go_simp; done) | (go_simp; with_reducible rfl)
              try simp only [Act.put, List.getElem_toArray, List.getElem_cons_succ, List.getElem_cons_zero, List.setIfInBounds_toArray, List.set_cons_zero, List.set_cons_succ]
              refine wpAny_take (i := 10) (v := ?_) rfl (by kernel_rfl) (by kernel_rfl) (by kernel_rfl) (fun _ _ _ h => h) (Or.inl ⟨by rfl, ?_⟩) ?_
              rotate_left
              · intro w'; first | (go_simp; done) | (go_simp; with_reducible rfl)
              try simp only [Act.put, List.getElem_toArray, List.getElem_cons_succ, List.getElem_cons_zero, List.setIfInBounds_toArray, List.set_cons_zero, List.set_cons_succ]
              refine wpAny_done (by kernel_rfl) ?_ _
              go_wp2_with (at_builtin; refine wp_app1 rfl _ _ 22 rfl w1.heap.size 3 i0 Try.underlying22 HI.out HZ0.out HZ1.out HZ2.out _ _ _ rfl hown _ rfl (by omega) bel.size ?_)
              intro v' w2 h1 hb2 _
              rw [← HQ.out] at h1
              have bel := bel.trans hb2
              clear hown hb2
              go_wp2_with fail
              go_roundw
              case rel => exact ⟨k + 1, M + 1, by omega, by go_num, h1, bel⟩
              case measure => simp [intOf]; omega
    · have HE : Hid (implTo p f k = (pNeed p).1) := Lib.hid (by rw [HP.out, HLen.out, show k = n from by omega])
      have HE2 : Hid ((pNeed p).2 = true) := Lib.hid (by rw [HP.out])
      rw [HE.out] at hown
      go_wp2_with fail
      go_ret2
      rw [HE2.out]
      exact retOwnB_mk (hown.more hs1) (hb1.trans (hbel.mono hs1)) (by omega)
theorem walk_FnExactNeedlessTerms (A0 : Option Addr) (n0 c0 : Nat) (z0 : List Int) (w : World) (r0 : Rd w w.heap.size A0 n0 z0) :
  Calls Try.prog 3 #[.slice A0 n0 c0] w fun e w' => e = .returned (.bool true) ∧ Below w.heap.size w w' := by
  have l0 := r0.le
  by_cases s0 : n0 ≤ 1048576
  rotate_left
  · go_enter Try.func3, Try.ntmps3
    go_wp2_with fail
    go_ret
    exact ⟨rfl, Below.refl _ _⟩
  go_enter Try.func3, Try.ntmps3
  have bel : Below w.heap.size w w := Below.refl _ _
  go_wp2_with fail
  refine (toIntS_c _ _ _ _ _ _ (r0.below bel) bel.size (by omega)).mono ?_
  rintro e u1 ⟨AT0, nT0, cT0, rfl, T0, hb1, qT0⟩
  have bel := bel_step bel hb1
  have sz1 := hb1.size
  have T00 := T0
  have eT0 : nT0 ≤ 1048576 := by have := T0.len; have := r0.len; omega
  go_wp2_with fail
  refine (specNeedlessTerms_c _ _ _ _ _ T0.rd eT0).mono ?_
  rintro e u2 ⟨AWr, nWr, cWr, rfl, Wr, hb2, qWr⟩
  have bel := bel_step bel hb2
  have sz2 := hb2.size
  have T0 := T0.go hb2
  have Wr0 := Wr
  go_wp2_with fail
  refine (toIntS_c _ _ _ _ _ _ (r0.below bel) bel.size (by omega)).mono ?_
  rintro e u3 ⟨AX0, nX0, cX0, rfl, X0, hb3, qX0⟩
  have bel := bel_step bel hb3
  have sz3 := hb3.size
  have Wr := Wr.go hb3
  have X00 := X0
  have eX0 : nX0 ≤ 1048576 := by have := X0.len; have := r0.len; omega
  go_wp2_with fail
  refine (implNeedlessTerms_c _ _ _ _ _ X0.rd eX0).mono ?_
  rintro e u4 ⟨AGr, nGr, cGr, rfl, Gr, hb4, qGr⟩
  have bel := bel_step bel hb4
  have sz4 := hb4.size
  have Wr := Wr.go hb4
  have X0 := X0.go hb4
  have Gr0 := Gr
  go_wp2_with fail
  refine (eqIntS_c _ _ _ _ _ _ _ _ _ _ Gr.rd Wr.rd).mono ?_
  rintro e u5 ⟨rfl, hb5⟩
  have bel := bel_step bel hb5
  have sz5 := hb5.size
  have Wr := Wr.go hb5
  have X0 := X0.go hb5
  have Gr := Gr.go hb5
  go_wp2_with fail
  refine (toIntS_c _ _ _ _ _ _ (r0.below bel) bel.size (by omega)).mono ?_
  rintro e u6 ⟨AY0, nY0, cY0, rfl, Y0, hb6, qY0⟩
  have bel := bel_step bel hb6
  have sz6 := hb6.size
  have Wr := Wr.go hb6
  have X0 := X0.go hb6
  have Gr := Gr.go hb6
  have Y00 := Y0
  have eY0 : nY0 ≤ 1048576 := by have := Y0.len; have := r0.len; omega
  go_wp2_with fail
  refine (eqIntS_c _ _ _ _ _ _ _ _ _ _ X0.rd Y0.rd).mono ?_
  rintro e u7 ⟨rfl, hb7⟩
  have bel := bel_step bel hb7
  have sz7 := hb7.size
  have Wr := Wr.go hb7
  have X0 := X0.go hb7
  have Gr := Gr.go hb7
  have Y0 := Y0.go hb7
  go_wp2_with fail
  refine (markIntS_c _ _ _ _ _ _ _ X0 (by omega) (by omega) (by omega)).mono ?_
  rintro e u8 ⟨rfl, X0, hg8⟩
  have bel := bel.grown hg8 bel.size fun g hg => by have := (X00.lt g hg).1; omega
  have sz8 := hg8.size
  have Wr := Wr.kept hg8 (blk_ne Wr0.lt X00.lt (by omega))
  have Gr := Gr.kept hg8 (blk_ne' X00.lt Gr0.lt (by omega))
  go_wp2_with fail
  refine (eqIntS_c _ _ _ _ _ _ _ _ _ _ Gr.rd Wr.rd).mono ?_
  rintro e u9 ⟨rfl, hb9⟩
  have bel := bel_step bel hb9
  have sz9 := hb9.size
  have Wr := Wr.go hb9
  have X0 := X0.go hb9
  have Gr := Gr.go hb9
  go_wp2_with fail
  refine (markIntS_c _ _ _ _ _ _ _ Gr (by omega) (by omega) (by omega)).mono ?_
  rintro e u10 ⟨rfl, Gr, hg10⟩
  have bel := bel.grown hg10 bel.size fun g hg => by have := (Gr0.lt g hg).1; omega
  have sz10 := hg10.size
  have Wr := Wr.kept hg10 (blk_ne Wr0.lt Gr0.lt (by omega))
  go_wp2_with fail
  refine (heldIntS_c _ _ _ _ _ _ Gr.rd (by omega) (by omega) (by omega)).mono ?_
  rintro e u11 ⟨rfl, hb11⟩
  have bel := bel_step bel hb11
  have sz11 := hb11.size
  have Wr := Wr.go hb11
  have Gr := Gr.go hb11
  go_wp2_with fail
  refine (toIntS_c _ _ _ _ _ _ (r0.below bel) bel.size (by omega)).mono ?_
  rintro e u12 ⟨AZ0, nZ0, cZ0, rfl, Z0, hb12, qZ0⟩
  have bel := bel_step bel hb12
  have sz12 := hb12.size
  have Wr := Wr.go hb12
  have Gr := Gr.go hb12
  have Z00 := Z0
  have eZ0 : nZ0 ≤ 1048576 := by have := Z0.len; have := r0.len; omega
  go_wp2_with fail
  refine (implNeedlessTerms_c _ _ _ _ _ Z0.rd eZ0).mono ?_
  rintro e u13 ⟨AHr, nHr, cHr, rfl, Hr, hb13, qHr⟩
  have bel := bel_step bel hb13
  have sz13 := hb13.size
  have Wr := Wr.go hb13
  have Gr := Gr.go hb13
  have Z0 := Z0.go hb13
  have Hr0 := Hr
  go_wp2_with fail
  refine (eqIntS_c _ _ _ _ _ _ _ _ _ _ Hr.rd Wr.rd).mono ?_
  rintro e u14 ⟨rfl, hb14⟩
  have bel := bel_step bel hb14
  have sz14 := hb14.size
  have Wr := Wr.go hb14
  have Gr := Gr.go hb14
  have Hr := Hr.go hb14
  go_wp2_with fail
  refine (heldIntS_c _ _ _ _ _ _ Gr.rd (by omega) (by omega) (by omega)).mono ?_
  rintro e u15 ⟨rfl, hb15⟩
  have bel := bel_step bel hb15
  have sz15 := hb15.size
  have Wr := Wr.go hb15
  have Gr := Gr.go hb15
  have Hr := Hr.go hb15
  go_wp2_with fail
  go_ret
  exact ⟨rfl, bel⟩
end Go.Proofs.Yteadfobnoapdhaa
