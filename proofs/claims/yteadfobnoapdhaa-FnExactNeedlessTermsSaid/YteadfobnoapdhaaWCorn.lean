/- The law on a polynomial's corners: both packages' functions against a plain one, and the walk of the law. -/
import Derived.Test.YteadfobnoapdhaaWProd
import Derived.Test.YteadfobnoapdhaaPureCorn
import Derived.WalkSmall
namespace Go.Proofs.Yteadfobnoapdhaa
open Go.RowKit
theorem Own.pop {w : World} {B g n c : Nat} {E : TypeId} {zs : List Int} {z : Int} (h : Own w B E (.slice (some ⟨g, 0, none⟩) (n + 1) c) (n + 1) (zs ++ [z])) : Own w B E (.slice (some ⟨g, 0, none⟩) n c) n zs := by
  have hl : zs.length = n := by have := h.len; simpa using this
  unfold Own at h ⊢
  rw [List.map_append] at h
  exact ownsRow_pop (by simp [hl]) h
theorem asRow_at1 (b : Nat) (s : List Nat) : (asRow (b :: s)).getD s.length 0 = (b : Int) := by
  rw [asRow_cons, List.getD, List.getElem?_append_right (by rw [asRow_len]; exact Nat.le_refl _), asRow_len, Nat.sub_self]
  rfl
theorem asRow_at2 (b a : Nat) (s : List Nat) : (asRow (b :: a :: s)).getD s.length 0 = (a : Int) := by
  rw [asRow_cons, List.getD, List.getElem?_append_left (by rw [asRow_len]; simp), ← List.getD, asRow_at1]
theorem mulBd {x y A B : Int} (hx : -A ≤ x) (hx' : x ≤ A) (hy : -B ≤ y) (hy' : y ≤ B) : -(A * B) ≤ x * y ∧ x * y ≤ A * B := by
  have h1 : (x * y).natAbs ≤ A.natAbs * B.natAbs := by
    rw [Int.natAbs_mul]
    exact Nat.mul_le_mul (by omega) (by omega)
  have h2 : ((A.natAbs * B.natAbs : Nat) : Int) = A * B := by
    rw [Int.natCast_mul, Int.natAbs_of_nonneg (by omega), Int.natAbs_of_nonneg (by omega)]
  omega
theorem Own.capAt {w : World} {B n c : Nat} {A : Option Addr} {E : TypeId} {zs : List Int} (h : Own w B E (.slice A n c) n zs) (hn : 0 < n) : n ≤ c ∧ c ≤ maxLen := by
  rcases h.2 with ⟨hv, h0⟩ | ⟨g', cap', cur, hv, _, hg, hnc, hcm, _⟩
  · omega
  · cases hv
    exact ⟨hnc, hcm⟩
theorem bel_drewN {a b : World} {B : Nat} (h : Below B a b) (k : Nat) : Below B a (b.drewN k) := by
  induction k generalizing b with
  | zero => exact h
  | succ k ih => exact (ih h).drew
def lenOf : Value → Nat
  | .slice _ n _ => n
  | _ => 0
set_option maxHeartbeats 4000000 in
theorem corners_c (A : Option Addr) (n c : Nat) (p : List Int) (B : Nat) (w : World) (h : Rd w B A n p) (hB : B ≤ w.heap.size) (hp : p.all isNum = true) (hn2 : n ≤ 1000) :
    Calls Try.prog 20 #[.slice A n c] w (RetOwn 3 (asRow (cornTo p p.length)) w) := by
  have HL := Lib.hid h.len
  have HA := Lib.hid hp
  clear hp
  obtain ⟨i0, hi, hz0, hz1, hz2⟩ := info_parts info_int
  have HI := Lib.hid hi
  have HZ0 := Lib.hid hz0
  have HZ1 := Lib.hid hz1
  have HZ2 := Lib.hid hz2
  clear hi hz0 hz1 hz2
  have own0 := Own.empty w 3 (Nat.le_refl w.heap.size)
  have bel0 := bel_new w (.cells #[] 3)
  go_enter Try.func20, Try.ntmps20
  go_wp2_with fail
  go_loopw [3, 11] (fun v i wr => ∃ k : Nat, k ≤ n ∧ i = .int .i64 k ∧ Own wr w.heap.size 3 v (cornTo p k).length (asRow (cornTo p k)) ∧ Below w.heap.size w wr) (fun _ i _ => n - (intOf i).toNat)
  case atStart => exact ⟨0, Nat.zero_le _, rfl, own0, bel0⟩
  case round =>
    clear own0 bel0
    obtain ⟨k, hk, rfl, hown, hbel⟩ := hrel
    have hsz := hbel.size
    have hr := h.below (hbel.mono hB)
    by_cases hlt : k < n
    · have hkp : k < p.length := by rw [HL.out]; exact hlt
      have bk := isNum_bd (List.all_eq_true.1 HA.out _ (getD_mem hkp))
      obtain ⟨ad, rfl, hab, hc⟩ := hr.at_ hlt
      by_cases hinf : p.getD k 0 = 1000000000
      · have HC : Hid (cornTo p (k + 1) = cornTo p k) := Lib.hid (by rw [cornTo, if_pos hinf])
        rw [hinf] at hc
        rw [← HC.out] at hown
        clear hinf bk
        go_wp2_with fail
        go_roundw
        case rel => exact ⟨k + 1, by omega, by go_num, hown, hbel⟩
        case measure => simp [intOf]; omega
      · have HC : Hid (cornTo p (k + 1) = k :: popTo p k (cornTo p k)) := Lib.hid (by rw [cornTo, if_neg hinf])
        have hck := cornTo_lt p k
        have hcl := cornTo_len p k
        generalize hs0 : cornTo p k = s0 at *
        have HP0 := Lib.hid hs0
        clear hs0
        generalize hz : p.getD k 0 = z at *
        have HZ := Lib.hid hz
        clear hz
        have hzb : (z == 1000000000) = false := by simpa using hinf
        go_wp2_with fail
        go_loopw [3] (fun v wx => ∃ s : List Nat, Hid (popTo p k s = popTo p k s0) ∧ (∀ i ∈ s, i < k) ∧ s.length ≤ k ∧ Own wx w.heap.size 3 v s.length (asRow s) ∧ Below w.heap.size w wx) (fun v _ => lenOf v)
        case atStart => exact ⟨s0, Lib.hid rfl, hck, hcl, hown, hbel⟩
        case round =>
          clear hown hbel hr hc hck hcl
          obtain ⟨s, HS, hsk, hsl, hown, hbel⟩ := hrel
          have hsz := hbel.size
          have hr := h.below (hbel.mono hB)
          obtain ⟨A1, c1, rfl⟩ := hown.shape
          match s with
          | [] =>
            have HN : Hid (asRow (cornTo p (k + 1)) = asRow [] ++ [(k : Int)]) := Lib.hid (by rw [HC.out, ← HS.out]; rfl)
            have HM : Hid ((cornTo p (k + 1)).length = 1) := Lib.hid (by rw [HC.out, ← HS.out]; rfl)
            dsimp only [List.length_nil, List.length_cons] at hown hsl
            go_wp2_with (at_builtin; refine wp_app1 rfl _ _ 22 rfl w.heap.size 3 i0 Try.underlying22 HI.out HZ0.out HZ1.out HZ2.out _ _ _ rfl hown _ rfl (by omega) hsz ?_)
            intro v' w1 h1 hb1 _
            have hbel' := hbel.trans hb1
            rw [← HN.out] at h1
            have h1 : Own w1 w.heap.size 3 v' (cornTo p (k + 1)).length (asRow (cornTo p (k + 1))) := by rw [HM.out]; exact h1
            clear hown hbel hb1 hr
            go_wp2_with fail
            go_roundw
            case rel => exact ⟨k + 1, by omega, by go_num, h1, hbel'⟩
            case measure => simp [intOf]; omega
          | [b] =>
            have HN : Hid (asRow (cornTo p (k + 1)) = asRow [b] ++ [(k : Int)]) := Lib.hid (by rw [HC.out, ← HS.out]; exact asRow_cons _ _)
            have HM : Hid ((cornTo p (k + 1)).length = 2) := Lib.hid (by rw [HC.out, ← HS.out]; rfl)
            dsimp only [List.length_nil, List.length_cons] at hown hsl
            go_wp2_with (at_builtin; refine wp_app1 rfl _ _ 22 rfl w.heap.size 3 i0 Try.underlying22 HI.out HZ0.out HZ1.out HZ2.out _ _ _ rfl hown _ rfl (by omega) hsz ?_)
            intro v' w1 h1 hb1 _
            have hbel' := hbel.trans hb1
            rw [← HN.out] at h1
            have h1 : Own w1 w.heap.size 3 v' (cornTo p (k + 1)).length (asRow (cornTo p (k + 1))) := by rw [HM.out]; exact h1
            clear hown hbel hb1 hr
            go_wp2_with fail
            go_roundw
            case rel => exact ⟨k + 1, by omega, by go_num, h1, hbel'⟩
            case measure => simp [intOf]; omega
          | b :: a :: s =>
            have hbk := hsk b (by simp)
            have hak := hsk a (by simp)
            have hsk' : ∀ i ∈ a :: s, i < k := fun i hi => hsk i (List.mem_cons_of_mem _ hi)
            have hbn : b < n := by omega
            have han : a < n := by omega
            have HSt : Hid (popTo p k (b :: a :: s) = if stays p a b k then b :: a :: s else popTo p k (a :: s)) := Lib.hid rfl
            obtain ⟨M, hM⟩ : ∃ M : Nat, M = s.length + 1 + 1 := ⟨_, rfl⟩
            dsimp only [List.length_cons] at hown hsl
            obtain ⟨g, rfl⟩ := hown.head (by omega)
            have ca := hown.getAt s.length (by omega)
            rw [asRow_at2] at ca
            have cb := hown.getAt (s.length + 1) (by omega)
            rw [show (asRow (b :: a :: s)).getD (s.length + 1) 0 = (b : Int) from asRow_at1 b (a :: s)] at cb
            rw [← hM] at hown hsl
            simp only [List.length_cons]
            rw [← hM]
            rw [show s.length = M - 2 from by omega] at ca
            rw [show s.length + 1 = M - 1 from by omega] at cb
            have e1 : ((M : Int) - 2).toNat = M - 2 := by omega
            have e2 : ((M : Int) - 1).toNat = M - 1 := by omega
            have e3 : (0 : Int) ≤ (M : Int) - 2 := by omega
            have e4 : (0 : Int) ≤ (M : Int) - 1 := by omega
            have e5 : (M : Int) - 2 < (M : Int) := by omega
            have e6 : (M : Int) - 1 < (M : Int) := by omega
            have e7 : (1 : Int) < (M : Int) := by omega
            have e8 : IntKind.i64.wrap ((M : Int) - 1) = (M : Int) - 1 := IntWalk.i64_in _ (by omega)
            have e9 : IntKind.i64.wrap ((M : Int) - 2) = (M : Int) - 2 := IntWalk.i64_in _ (by omega)
            have k0 : (2 : Int) ≤ (M : Int) := by omega
            have k1 : (1 : Int) ≤ (M : Int) := by omega
            have k2 : ¬ (M : Int) - 1 < 0 := by omega
            have k3 : ¬ (M : Int) - 2 < 0 := by omega
            have k4 : ¬ (M : Int) ≤ (M : Int) - 1 := by omega
            have k5 : ¬ (M : Int) ≤ (M : Int) - 2 := by omega
            have k6 : 0 < M := by omega
            have k7 : 1 < M := by omega
            obtain ⟨ad1, q1, _, pb⟩ := hr.at_ hbn
            cases q1
            obtain ⟨ad2, q2, _, pa⟩ := hr.at_ han
            cases q2
            have bb := isNum_bd (List.all_eq_true.1 HA.out _ (getD_mem (show b < p.length by rw [HL.out]; exact hbn)))
            have ba := isNum_bd (List.all_eq_true.1 HA.out _ (getD_mem (show a < p.length by rw [HL.out]; exact han)))
            have HD : Hid (stays p a b k = decide ((p.getD b 0 - p.getD a 0) * ((k : Int) - (a : Int)) < (z - p.getD a 0) * ((b : Int) - (a : Int)))) := Lib.hid (by rw [stays, HZ.out])
            generalize p.getD b 0 = y at *
            generalize p.getD a 0 = x at *
            have m1 := mulBd (x := y - x) (y := (k : Int) - (a : Int)) (A := 2000000000) (B := 1000) (by omega) (by omega) (by omega) (by omega)
            have m2 := mulBd (x := z - x) (y := (b : Int) - (a : Int)) (A := 2000000000) (B := 1000) (by omega) (by omega) (by omega) (by omega)
            have w1 : IntKind.i64.wrap ((y - x) * ((k : Int) - (a : Int))) = (y - x) * ((k : Int) - (a : Int)) := IntWalk.i64_in _ (by omega)
            have w2 : IntKind.i64.wrap ((z - x) * ((b : Int) - (a : Int))) = (z - x) * ((b : Int) - (a : Int)) := IntWalk.i64_in _ (by omega)
            have HM2 := Lib.hid hM
            clear hM hsk
            have hM' : M = s.length + 1 + 1 := HM2.out
            obtain ⟨q1, q2⟩ := hown.capAt (by omega)
            have q3 : (M : Int) - 1 ≤ (c1 : Int) := by omega
            have q4 : M - 1 ≤ c1 := by omega
            have q5 : 0 ≤ M - 1 := by omega
            have q6 : ¬ (c1 : Int) < (M : Int) - 1 := by omega
            by_cases hst : (y - x) * ((k : Int) - (a : Int)) < (z - x) * ((b : Int) - (a : Int))
            · have HQ : Hid (popTo p k (b :: a :: s) = b :: a :: s) := Lib.hid (by rw [HSt.out, HD.out, decide_eq_true hst]; rfl)
              have HN : Hid (asRow (cornTo p (k + 1)) = asRow (b :: a :: s) ++ [(k : Int)]) := Lib.hid (by rw [HC.out, ← HS.out, HQ.out]; exact asRow_cons _ _)
              have HM : Hid ((cornTo p (k + 1)).length = M + 1) := Lib.hid (by rw [HC.out, ← HS.out, HQ.out, HM2.out]; rfl)
              clear hM'
              go_wp2_with fail
              go_quiet (fail)
              go_wp2_with fail
              go_quiet (fail)
              clear w1 w2 m1 m2 hst
              go_wp2_with (at_builtin; refine wp_app1 rfl _ _ 22 rfl w.heap.size 3 i0 Try.underlying22 HI.out HZ0.out HZ1.out HZ2.out _ _ _ rfl (hown.drewN _) _ rfl (by omega) hsz ?_)
              intro v' w1 h1 hb1 _
              have hbel' := (bel_drewN hbel _).trans hb1
              rw [← HN.out, ← HM.out] at h1
              clear hown hbel hb1 hr
              go_wp2_with fail
              go_roundw
              case rel => exact ⟨k + 1, by omega, by go_num, h1, hbel'⟩
              case measure => simp [intOf]; omega
            · have HQ : Hid (popTo p k (a :: s) = popTo p k s0) := Lib.hid (by rw [← HS.out, HSt.out, HD.out, decide_eq_false hst]; rfl)
              have hpop : Own wr w.heap.size 3 (.slice (some ⟨g, 0, none⟩) (M - 1) c1) (a :: s).length (asRow (a :: s)) := by
                have := hown
                rw [asRow_cons, show M = (M - 1) + 1 from by omega] at this
                have := this.pop
                rwa [show (a :: s).length = M - 1 from by simp only [List.length_cons]; omega]
              clear hM'
              go_wp2_with fail
              go_quiet (fail)
              go_wp2_with fail
              go_quiet (fail)
              clear m1 m2
              go_wp2_with fail
              go_roundw
              case rel => exact ⟨a :: s, HQ, hsk', by have := HM2.out; simp only [List.length_cons]; omega, hpop.drewN _, bel_drewN hbel _⟩
              case measure => simp [lenOf]; omega
    · have HE : Hid (cornTo p k = cornTo p p.length) := Lib.hid (by rw [HL.out, show k = n from by omega])
      have hcl := cornTo_len p k
      rw [HE.out] at hown hcl
      go_wp2_with fail
      go_ret
      exact retOwn_mk hown hbel (by omega)
theorem rtPoints_c (A : Option Addr) (n c : Nat) (p : List Int) (B : Nat) (w : World) (h : Rd w B A n p) (hB : B ≤ w.heap.size) (hn2 : n ≤ 1000) :
    Calls Try.prog 17 #[.slice A n c] w (RetOwn 3 ((finTo p p.length).map Int.ofNat) w) := by
  have HL := Lib.hid h.len
  obtain ⟨i0, hi, hz0, hz1, hz2⟩ := info_parts info_int
  have HI := Lib.hid hi
  have HZ0 := Lib.hid hz0
  have HZ1 := Lib.hid hz1
  have HZ2 := Lib.hid hz2
  clear hi hz0 hz1 hz2
  go_enter Try.func17, Try.ntmps17
  go_wp2_with fail
  go_loopw [3, 8] (fun v i wr => ∃ k : Nat, k ≤ n ∧ i = .int .i64 k ∧ Own wr w.heap.size 3 v (finTo p k).length ((finTo p k).map Int.ofNat) ∧ Below w.heap.size w wr) (fun _ i _ => n - (intOf i).toNat)
  case atStart => exact ⟨0, Nat.zero_le _, rfl, Own.nil _ _ _, Below.refl _ _⟩
  case round =>
    obtain ⟨k, hk, rfl, hown, hbel⟩ := hrel
    have hsz := hbel.size
    have hr := h.below (hbel.mono hB)
    by_cases hlt : k < n
    · obtain ⟨ad, rfl, hab, hc⟩ := hr.at_ hlt
      have hfl := finTo_len p k
      by_cases hinf : p.getD k 0 = 1000000000
      · have HC : Hid (finTo p (k + 1) = finTo p k) := Lib.hid (by rw [finTo, if_pos hinf])
        rw [hinf] at hc
        rw [← HC.out] at hown
        clear hinf
        go_wp2_with fail
        go_roundw
        case rel => exact ⟨k + 1, by omega, by go_num, hown, hbel⟩
        case measure => simp [intOf]; omega
      · have HC : Hid (finTo p (k + 1) = finTo p k ++ [k]) := Lib.hid (by rw [finTo, if_neg hinf])
        generalize p.getD k 0 = z at *
        have hzb : (z != 1000000000) = true := by simpa using hinf
        go_wp2_with (at_builtin; refine wp_app1 rfl _ _ 22 rfl w.heap.size 3 i0 Try.underlying22 HI.out HZ0.out HZ1.out HZ2.out _ _ _ rfl hown _ rfl (by omega) hsz ?_)
        intro v' w1 h1 hb1 _
        have hbel' := hbel.trans hb1
        have h2 : Own w1 w.heap.size 3 v' (finTo p (k + 1)).length ((finTo p (k + 1)).map Int.ofNat) := by
          rw [HC.out, List.map_append, List.length_append]
          exact h1
        clear hown hbel hb1 hr h1
        go_wp2_with fail
        go_roundw
        case rel => exact ⟨k + 1, by omega, by go_num, h2, hbel'⟩
        case measure => simp [intOf]; omega
    · have HE : Hid (finTo p k = finTo p p.length) := Lib.hid (by rw [HL.out, show k = n from by omega])
      have hfl := finTo_len p k
      rw [HE.out] at hown hfl
      go_wp2_with fail
      go_ret
      exact retOwn_mk hown hbel (by omega)
set_option maxHeartbeats 4000000 in
theorem rtCorners_c (A : Option Addr) (n c : Nat) (p : List Int) (B : Nat) (w : World) (h : Rd w B A n p) (hB : B ≤ w.heap.size) (hp : p.all isNum = true) (hn2 : n ≤ 1000) :
    Calls Try.prog 11 #[.slice A n c] w (RetOwn 3 (asRow (cornTo p p.length)) w) := by
  have HL := Lib.hid h.len
  have HA := Lib.hid hp
  clear hp
  obtain ⟨i0, hi, hz0, hz1, hz2⟩ := info_parts info_int
  have HI := Lib.hid hi
  have HZ0 := Lib.hid hz0
  have HZ1 := Lib.hid hz1
  have HZ2 := Lib.hid hz2
  clear hi hz0 hz1 hz2
  have HF := Lib.hid (cornTo_fold p p.length)
  have hLlt := finTo_lt p p.length
  have hLn := finTo_len p p.length
  go_enter Try.func11, Try.ntmps11
  go_wp2_with fail
  refine (rtPoints_c _ _ _ _ _ _ h hB hn2).mono ?_; rintro e w0 ⟨A0, m, c0, rfl, own0, bel0, hm0⟩
  generalize finTo p p.length = L at *
  rw [HL.out] at hLlt hLn
  have hLm : L.length = m := by have := own0.len; simpa using this
  have hmn : m ≤ n := by omega
  have HM := Lib.hid hLm
  have HLt := Lib.hid hLlt
  clear hLm hLlt hLn
  have rd0 := own0.rd
  have hbz := bel0.size
  have bel0' : Below w.heap.size w w0 := bel0
  go_wp2_with fail
  go_loopw [3, 11] (fun v i wr => ∃ j : Nat, j ≤ m ∧ i = .int .i64 j ∧ Own wr w0.heap.size 3 v (stackC p L j).length (asRow (stackC p L j)) ∧ Below w0.heap.size w0 wr) (fun _ i _ => m - (intOf i).toNat)
  case atStart => exact ⟨0, Nat.zero_le _, rfl, Own.nil _ _ _, Below.refl _ _⟩
  case round =>
    obtain ⟨j, hj, rfl, hown, hbel⟩ := hrel
    have hsz := hbel.size
    have hr := h.below (B := B) ((bel0.mono hB).trans (hbel.mono (by omega)))
    have hrL := rd0.below hbel
    by_cases hlt : j < m
    · have hjL : j < L.length := by rw [HM.out]; exact hlt
      have HC : Hid (stackC p L (j + 1) = L.getD j 0 :: popTo p (L.getD j 0) (stackC p L j)) := Lib.hid (stackC_step hjL)
      have hck := stackC_lt (p := p) HLt.out j
      have hcl := stackC_len p L j
      obtain ⟨adL, rfl, habL, hcL⟩ := hrL.at_ hlt
      have hkn : L.getD j 0 < n := HLt.out _ (by simp [List.getD, List.getElem?_eq_getElem hjL])
      rw [show (L.map Int.ofNat).getD j 0 = ((L.getD j 0 : Nat) : Int) from by simp [List.getD, List.getElem?_eq_getElem hjL]] at hcL
      generalize L.getD j 0 = k at *
      obtain ⟨ad, rfl, hab, hc⟩ := hr.at_ hkn
      have bk := isNum_bd (List.all_eq_true.1 HA.out _ (getD_mem (show k < p.length by rw [HL.out]; exact hkn)))
      generalize hs0 : stackC p L j = s0 at *
      have HP0 := Lib.hid hs0
      clear hs0
      generalize hz : p.getD k 0 = z at *
      have HZ := Lib.hid hz
      clear hz
      go_wp2_with fail
      go_loopw [3] (fun v wx => ∃ s : List Nat, Hid (popTo p k s = popTo p k s0) ∧ (∀ i ∈ s, i < n) ∧ s.length ≤ j ∧ Own wx w0.heap.size 3 v s.length (asRow s) ∧ Below w0.heap.size w0 wx) (fun v _ => lenOf v)
      case atStart => exact ⟨s0, Lib.hid rfl, hck, hcl, hown, hbel⟩
      case round =>
        clear hown hbel hr hc hck hcl hrL
        obtain ⟨s, HS, hsk, hsl, hown, hbel⟩ := hrel
        have hsz := hbel.size
        have hr := h.below (B := B) ((bel0.mono hB).trans (hbel.mono (by omega)))
        obtain ⟨A1, c1, rfl⟩ := hown.shape
        match s with
        | [] =>
          have HN : Hid (asRow (stackC p L (j + 1)) = asRow [] ++ [(k : Int)]) := Lib.hid (by rw [HC.out, ← HS.out]; rfl)
          have HM : Hid ((stackC p L (j + 1)).length = 1) := Lib.hid (by rw [HC.out, ← HS.out]; rfl)
          dsimp only [List.length_nil, List.length_cons] at hown hsl
          go_wp2_with (at_builtin; refine wp_app1 rfl _ _ 22 rfl w0.heap.size 3 i0 Try.underlying22 HI.out HZ0.out HZ1.out HZ2.out _ _ _ rfl hown _ rfl (by omega) hsz ?_)
          intro v' w1 h1 hb1 _
          have hbel' := hbel.trans hb1
          rw [← HN.out] at h1
          have h1 : Own w1 w0.heap.size 3 v' (stackC p L (j + 1)).length (asRow (stackC p L (j + 1))) := by rw [HM.out]; exact h1
          clear hown hbel hb1 hr
          go_wp2_with fail
          go_roundw
          case rel => exact ⟨j + 1, by omega, by go_num, h1, hbel'⟩
          case measure => simp [intOf]; omega
        | [b] =>
          have HN : Hid (asRow (stackC p L (j + 1)) = asRow [b] ++ [(k : Int)]) := Lib.hid (by rw [HC.out, ← HS.out]; exact asRow_cons _ _)
          have HM : Hid ((stackC p L (j + 1)).length = 2) := Lib.hid (by rw [HC.out, ← HS.out]; rfl)
          dsimp only [List.length_nil, List.length_cons] at hown hsl
          go_wp2_with (at_builtin; refine wp_app1 rfl _ _ 22 rfl w0.heap.size 3 i0 Try.underlying22 HI.out HZ0.out HZ1.out HZ2.out _ _ _ rfl hown _ rfl (by omega) hsz ?_)
          intro v' w1 h1 hb1 _
          have hbel' := hbel.trans hb1
          rw [← HN.out] at h1
          have h1 : Own w1 w0.heap.size 3 v' (stackC p L (j + 1)).length (asRow (stackC p L (j + 1))) := by rw [HM.out]; exact h1
          clear hown hbel hb1 hr
          go_wp2_with fail
          go_roundw
          case rel => exact ⟨j + 1, by omega, by go_num, h1, hbel'⟩
          case measure => simp [intOf]; omega
        | b :: a :: s =>
          have hbk := hsk b (by simp)
          have hak := hsk a (by simp)
          have hsk' : ∀ i ∈ a :: s, i < n := fun i hi => hsk i (List.mem_cons_of_mem _ hi)
          have hbn : b < n := by omega
          have han : a < n := by omega
          have HSt : Hid (popTo p k (b :: a :: s) = if stays p a b k then b :: a :: s else popTo p k (a :: s)) := Lib.hid rfl
          obtain ⟨M, hM⟩ : ∃ M : Nat, M = s.length + 1 + 1 := ⟨_, rfl⟩
          dsimp only [List.length_cons] at hown hsl
          obtain ⟨g, rfl⟩ := hown.head (by omega)
          have ca := hown.getAt s.length (by omega)
          rw [asRow_at2] at ca
          have cb := hown.getAt (s.length + 1) (by omega)
          rw [show (asRow (b :: a :: s)).getD (s.length + 1) 0 = (b : Int) from asRow_at1 b (a :: s)] at cb
          rw [← hM] at hown hsl
          simp only [List.length_cons]
          rw [← hM]
          rw [show s.length = M - 2 from by omega] at ca
          rw [show s.length + 1 = M - 1 from by omega] at cb
          have e1 : ((M : Int) - 2).toNat = M - 2 := by omega
          have e2 : ((M : Int) - 1).toNat = M - 1 := by omega
          have e3 : (0 : Int) ≤ (M : Int) - 2 := by omega
          have e4 : (0 : Int) ≤ (M : Int) - 1 := by omega
          have e5 : (M : Int) - 2 < (M : Int) := by omega
          have e6 : (M : Int) - 1 < (M : Int) := by omega
          have e7 : (1 : Int) < (M : Int) := by omega
          have e8 : IntKind.i64.wrap ((M : Int) - 1) = (M : Int) - 1 := IntWalk.i64_in _ (by omega)
          have e9 : IntKind.i64.wrap ((M : Int) - 2) = (M : Int) - 2 := IntWalk.i64_in _ (by omega)
          have k0 : (2 : Int) ≤ (M : Int) := by omega
          have k1 : (1 : Int) ≤ (M : Int) := by omega
          have k2 : ¬ (M : Int) - 1 < 0 := by omega
          have k3 : ¬ (M : Int) - 2 < 0 := by omega
          have k4 : ¬ (M : Int) ≤ (M : Int) - 1 := by omega
          have k5 : ¬ (M : Int) ≤ (M : Int) - 2 := by omega
          have k6 : 0 < M := by omega
          have k7 : 1 < M := by omega
          obtain ⟨ad1, q1, _, pb⟩ := hr.at_ hbn
          cases q1
          obtain ⟨ad2, q2, _, pa⟩ := hr.at_ han
          cases q2
          obtain ⟨ad3, q3, _, pk⟩ := hr.at_ hkn
          cases q3
          rw [HZ.out] at pk
          have bb := isNum_bd (List.all_eq_true.1 HA.out _ (getD_mem (show b < p.length by rw [HL.out]; exact hbn)))
          have ba := isNum_bd (List.all_eq_true.1 HA.out _ (getD_mem (show a < p.length by rw [HL.out]; exact han)))
          have HD : Hid (stays p a b k = decide ((p.getD b 0 - p.getD a 0) * ((k : Int) - (a : Int)) < (z - p.getD a 0) * ((b : Int) - (a : Int)))) := Lib.hid (by rw [stays, HZ.out])
          generalize p.getD b 0 = y at *
          generalize p.getD a 0 = x at *
          have m1 := mulBd (x := y - x) (y := (k : Int) - (a : Int)) (A := 2000000000) (B := 1000) (by omega) (by omega) (by omega) (by omega)
          have m2 := mulBd (x := z - x) (y := (b : Int) - (a : Int)) (A := 2000000000) (B := 1000) (by omega) (by omega) (by omega) (by omega)
          have w1 : IntKind.i64.wrap ((y - x) * ((k : Int) - (a : Int))) = (y - x) * ((k : Int) - (a : Int)) := IntWalk.i64_in _ (by omega)
          have w2 : IntKind.i64.wrap ((z - x) * ((b : Int) - (a : Int))) = (z - x) * ((b : Int) - (a : Int)) := IntWalk.i64_in _ (by omega)
          have HM2 := Lib.hid hM
          clear hM hsk
          have hM' : M = s.length + 1 + 1 := HM2.out
          obtain ⟨q1, q2⟩ := hown.capAt (by omega)
          have q3 : (M : Int) - 1 ≤ (c1 : Int) := by omega
          have q4 : M - 1 ≤ c1 := by omega
          have q5 : 0 ≤ M - 1 := by omega
          have q6 : ¬ (c1 : Int) < (M : Int) - 1 := by omega
          by_cases hst : (y - x) * ((k : Int) - (a : Int)) < (z - x) * ((b : Int) - (a : Int))
          · have HQ : Hid (popTo p k (b :: a :: s) = b :: a :: s) := Lib.hid (by rw [HSt.out, HD.out, decide_eq_true hst]; rfl)
            have HN : Hid (asRow (stackC p L (j + 1)) = asRow (b :: a :: s) ++ [(k : Int)]) := Lib.hid (by rw [HC.out, ← HS.out, HQ.out]; exact asRow_cons _ _)
            have HM : Hid ((stackC p L (j + 1)).length = M + 1) := Lib.hid (by rw [HC.out, ← HS.out, HQ.out, HM2.out]; rfl)
            clear hM'
            go_wp2_with fail
            go_quiet (fail)
            go_wp2_with fail
            go_quiet (fail)
            clear w1 w2 m1 m2 hst
            go_wp2_with (at_builtin; refine wp_app1 rfl _ _ 22 rfl w0.heap.size 3 i0 Try.underlying22 HI.out HZ0.out HZ1.out HZ2.out _ _ _ rfl (hown.drewN _) _ rfl (by omega) hsz ?_)
            intro v' w1 h1 hb1 _
            have hbel' := (bel_drewN hbel _).trans hb1
            rw [← HN.out, ← HM.out] at h1
            clear hown hbel hb1 hr
            go_wp2_with fail
            go_roundw
            case rel => exact ⟨j + 1, by omega, by go_num, h1, hbel'⟩
            case measure => simp [intOf]; omega
          · have HQ : Hid (popTo p k (a :: s) = popTo p k s0) := Lib.hid (by rw [← HS.out, HSt.out, HD.out, decide_eq_false hst]; rfl)
            have hpop : Own wr w0.heap.size 3 (.slice (some ⟨g, 0, none⟩) (M - 1) c1) (a :: s).length (asRow (a :: s)) := by
              have := hown
              rw [asRow_cons, show M = (M - 1) + 1 from by omega] at this
              have := this.pop
              rwa [show (a :: s).length = M - 1 from by simp only [List.length_cons]; omega]
            clear hM'
            go_wp2_with fail
            go_quiet (fail)
            go_wp2_with fail
            go_quiet (fail)
            clear m1 m2
            go_wp2_with fail
            go_roundw
            case rel => exact ⟨a :: s, HQ, hsk', by have := HM2.out; simp only [List.length_cons]; omega, hpop.drewN _, bel_drewN hbel _⟩
            case measure => simp [lenOf]; omega
    · have HE : Hid (stackC p L j = cornTo p p.length) := Lib.hid (by rw [HF.out, stackC, List.take_of_length_le (by rw [HM.out]; omega)])
      have hcl := stackC_len p L j
      rw [HE.out] at hown hcl
      go_wp2_with fail
      go_ret
      exact retOwn_mk (hown.more hbz) (bel_step bel0 hbel) (by omega)
end Go.Proofs.Yteadfobnoapdhaa
