/- A number read of a text: both packages' functions, and the walk of the law. -/
import Derived.Test.YtkblommonimpfaaDoorWRd
import Derived.Test.YtkblommonimpfaaDoorBsEq
import Derived.Test.YtkblommonimpfaaDoorWAto
import Derived.Test.YtkblommonimpfaaDoorWNtx
namespace Go.Proofs.YtkblommonimpfaaDoor
open Go.RowKit
def pNum (l : Bs) : Int × Bool := match canN l with
  | some n => (n, true)
  | none => (0, false)
theorem nText_txt (n : Int) : nText n = txt (nTxt n) := by
  unfold nText nTxt
  split
  · rfl
  · rfl
theorem txt_toList (l : Bs) : (txt l).toList = l := Lib.toList_data _
theorem txt_data (s : ByteArray) : txt s.data.toList = s := by
  apply ByteArray.ext
  apply Array.ext'
  simp
theorem str_eq {s : ByteArray} {l : Bs} (h : s.data.toList = l) : s = txt l := by rw [← h, txt_data]
theorem neq_inf {s : ByteArray} (h : s.data.toList ≠ [105, 110, 102]) : (s.toList == [105, 110, 102]) = false := by
  rw [Lib.toList_data, beq_eq_false_iff_ne]
  exact h
theorem nText_data (n : Int) : (nText n).data.toList = nTxt n := by rw [nText_txt]
theorem itoT_data (n : Int) : (itoT n).data.toList = Lib.itoa n := rfl
set_option maxHeartbeats 2000000 in
theorem nuParse_c (s : ByteArray) (hs : s.size ≤ 1048576) (w : World) : Calls Tryd.prog 10 #[.string s] w fun e w' => e = .returned (.tuple #[.int .i64 (pNum s.data.toList).1, .bool (pNum s.data.toList).2]) ∧ Below w.heap.size w w' := by
  have HC := Lib.hid (nu_can s.data.toList)
  have HSz := Lib.hid (Lib.size_eq s)
  have hR := fun w => nuRead_c s hs w
  by_cases hinf : s.data.toList = [105, 110, 102]
  · have HQ : Hid (pNum s.data.toList = (1000000000, true)) := Lib.hid (by rw [pNum, canN, if_pos hinf])
    have hn := Lib.hid (show isNum 1000000000 = true from rfl)
    have C := fun w => nuText_c 1000000000 hn.out w
    have HB : Hid (((nText 1000000000).toList == [105, 110, 102]) = true) := Lib.hid (by rw [Lib.toList_data, nText_data]; rfl)
    obtain rfl := str_eq hinf
    clear hinf hR
    have hb := HB.out
    generalize nText 1000000000 = X at *
    go_enter Tryd.func10, Tryd.ntmps10
    go_wp2_with fail
    refine (nuGood_c _ _).mono ?_; rw [hn.out]; rintro e w1 ⟨rfl, rfl⟩
    go_wp2_with fail
    refine (C _).mono ?_; rintro e w2 ⟨rfl, hb2⟩
    go_wp2_with fail
    go_ret2
    exact ⟨by rw [HQ.out]; rfl, hb2⟩
  have hni := neq_inf hinf
  have HV : Hid (nuVal s.data.toList = if 1 < s.data.toList.length ∧ s.data.toList.head? = some 45 then - rdU 10 s.data.toList.tail else rdU 10 s.data.toList) := Lib.hid (by rw [nuVal, if_neg hinf])
  clear hinf
  have hcase : (1 < s.size ∧ s.data.toList.getD 0 0 = 45) ∧ nuVal s.data.toList = - rdU 10 s.data.toList.tail ∨ (¬ (1 : Int) < (s.size : Int)) ∧ nuVal s.data.toList = rdU 10 s.data.toList ∨ ((1 : Int) < (s.size : Int) ∧ (((s.data.toList.getD 0 0).toNat : Int) == 45) = false) ∧ nuVal s.data.toList = rdU 10 s.data.toList := by
    have hsz := HSz.out
    rw [HV.out]
    by_cases h1 : 1 < s.size
    · cases hl : s.data.toList with
      | nil =>
        have h3 : s.size = 0 := by rw [hsz, hl]; rfl
        omega
      | cons c r =>
        rw [hl] at hsz
        by_cases h2 : c = 45
        · left
          subst h2
          refine ⟨⟨h1, rfl⟩, ?_⟩
          rw [if_pos ⟨by omega, rfl⟩]
        · right; right
          refine ⟨⟨by omega, ?_⟩, ?_⟩
          · rw [beq_eq_false_iff_ne]
            intro e
            apply h2
            apply UInt8.toNat_inj.1
            have : (45 : UInt8).toNat = 45 := rfl
            simp at e
            omega
          · rw [if_neg]
            rintro ⟨_, e⟩
            apply h2
            simpa using e
    · right; left
      refine ⟨by omega, ?_⟩
      rw [if_neg]
      rintro ⟨e, _⟩
      omega
  have hR2 := fun w => nuRead_c (s.extract 1 s.size) (by
    have : (s.extract 1 s.size).size = s.size - 1 := by
      rw [Lib.size_eq, ext_tail, List.length_tail, ← HSz.out]
    omega) w
  rw [ext_tail] at hR2
  have b1 := rdU_ge 10 s.data.toList.tail
  have b2 := rdU_lt 10 s.data.toList.tail
  have hpow : (10 : Int) ^ 10 = 10000000000 := rfl
  rw [hpow] at b2
  have HQ : Hid (pNum s.data.toList = if isNum (nuVal s.data.toList) = true ∧ nTxt (nuVal s.data.toList) = s.data.toList then (nuVal s.data.toList, true) else (0, false)) := Lib.hid (by
    rw [pNum, ← HC.out]
    split <;> rename_i h
    · split at h
      · rename_i hh
        injection h with h
        rw [← h, if_pos hh]
      · cases h
    · split at h
      · cases h
      · rename_i hh
        rw [if_neg hh])
  clear HV HC hpow
  rcases hcase with ⟨⟨hs1, h45⟩, HV⟩ | ⟨hs1, HV⟩ | ⟨⟨hs1, h45⟩, HV⟩
  · have hs0 : 0 < s.size := by omega
    have hi0 := at_data s 0 hs0
    have hj0 := at_idx s 0 hs0
    rw [h45] at hi0 hj0
    have hs2 : (1 : Int) < (s.size : Int) := by omega
    have g1 : IntKind.i64.wrap (- rdU 10 s.data.toList.tail) = - rdU 10 s.data.toList.tail := IntWalk.i64_in _ (by omega)
    rw [HV] at HQ
    clear HV h45
    generalize rdU 10 s.data.toList = R0 at *
    generalize rdU 10 s.data.toList.tail = R at *
    go_enter Tryd.func10, Tryd.ntmps10
    go_wp2_with fail
    refine (hR _).mono ?_; rintro e w1 ⟨rfl, rfl⟩
    go_wp2_with fail
    refine (hR2 _).mono ?_; rintro e w1 ⟨rfl, rfl⟩
    clear hi0 hj0 hs2 hs1
    go_wp2_with fail
    clear g1 b1 b2 hR hR2
    generalize -R = v at *
    cases hp : isNum v
    · have HZ : Hid (pNum s.data.toList = (0, false)) := Lib.hid (by rw [HQ.out, if_neg (by rw [hp]; simp)])
      have HP := Lib.hid hp
      clear hp
      refine (nuGood_c _ _).mono ?_; rw [HP.out]; rintro e w1 ⟨rfl, rfl⟩
      go_wp2_with fail
      go_ret2
      exact ⟨by rw [HZ.out]; rfl, Below.refl _ _⟩
    · have HP := Lib.hid hp
      have C := fun w => nuText_c v HP.out w
      have HD := Lib.hid (nText_data v)
      by_cases he : nTxt v = s.data.toList
      · have HZ : Hid (pNum s.data.toList = (v, true)) := Lib.hid (by rw [HQ.out, if_pos ⟨hp, he⟩])
        have hbs := bs_same (X := nText v) (s := s) (by rw [HD.out, he])
        clear hp he HD
        generalize nText v = X at *
        refine (nuGood_c _ _).mono ?_; rw [HP.out]; rintro e w1 ⟨rfl, rfl⟩
        go_wp2_with fail
        refine (C _).mono ?_; rintro e w2 ⟨rfl, hb2⟩
        go_wp2_with fail
        go_ret2
        exact ⟨by rw [HZ.out]; rfl, hb2⟩
      · have HZ : Hid (pNum s.data.toList = (0, false)) := Lib.hid (by rw [HQ.out, if_neg (fun h => he h.2)])
        have hbs := bs_other (X := nText v) (s := s) (by rw [HD.out]; exact he)
        clear hp he HD
        generalize nText v = X at *
        refine (nuGood_c _ _).mono ?_; rw [HP.out]; rintro e w1 ⟨rfl, rfl⟩
        go_wp2_with fail
        refine (C _).mono ?_; rintro e w2 ⟨rfl, hb2⟩
        go_wp2_with fail
        go_ret2
        exact ⟨by rw [HZ.out]; rfl, hb2⟩
  · rw [HV] at HQ
    clear HV hR2 b1 b2
    generalize rdU 10 s.data.toList = v at *
    go_enter Tryd.func10, Tryd.ntmps10
    go_wp2_with fail
    refine (hR _).mono ?_; rintro e w1 ⟨rfl, rfl⟩
    go_wp2_with fail
    clear hs1
    cases hp : isNum v
    · have HZ : Hid (pNum s.data.toList = (0, false)) := Lib.hid (by rw [HQ.out, if_neg (by rw [hp]; simp)])
      have HP := Lib.hid hp
      clear hp
      refine (nuGood_c _ _).mono ?_; rw [HP.out]; rintro e w1 ⟨rfl, rfl⟩
      go_wp2_with fail
      go_ret2
      exact ⟨by rw [HZ.out]; rfl, Below.refl _ _⟩
    · have HP := Lib.hid hp
      have C := fun w => nuText_c v HP.out w
      have HD := Lib.hid (nText_data v)
      by_cases he : nTxt v = s.data.toList
      · have HZ : Hid (pNum s.data.toList = (v, true)) := Lib.hid (by rw [HQ.out, if_pos ⟨hp, he⟩])
        have hbs := bs_same (X := nText v) (s := s) (by rw [HD.out, he])
        clear hp he HD
        generalize nText v = X at *
        refine (nuGood_c _ _).mono ?_; rw [HP.out]; rintro e w1 ⟨rfl, rfl⟩
        go_wp2_with fail
        refine (C _).mono ?_; rintro e w2 ⟨rfl, hb2⟩
        go_wp2_with fail
        go_ret2
        exact ⟨by rw [HZ.out]; rfl, hb2⟩
      · have HZ : Hid (pNum s.data.toList = (0, false)) := Lib.hid (by rw [HQ.out, if_neg (fun h => he h.2)])
        have hbs := bs_other (X := nText v) (s := s) (by rw [HD.out]; exact he)
        clear hp he HD
        generalize nText v = X at *
        refine (nuGood_c _ _).mono ?_; rw [HP.out]; rintro e w1 ⟨rfl, rfl⟩
        go_wp2_with fail
        refine (C _).mono ?_; rintro e w2 ⟨rfl, hb2⟩
        go_wp2_with fail
        go_ret2
        exact ⟨by rw [HZ.out]; rfl, hb2⟩
  · have hs0 : 0 < s.size := by omega
    have hi0 := at_data s 0 hs0
    have hj0 := at_idx s 0 hs0
    rw [HV] at HQ
    clear HV hR2 b1 b2
    generalize rdU 10 s.data.toList = v at *
    generalize s.data.toList.getD 0 0 = b0 at *
    go_enter Tryd.func10, Tryd.ntmps10
    go_wp2_with fail
    refine (hR _).mono ?_; rintro e w1 ⟨rfl, rfl⟩
    go_wp2_with fail
    clear hs1 hi0 hj0 h45
    cases hp : isNum v
    · have HZ : Hid (pNum s.data.toList = (0, false)) := Lib.hid (by rw [HQ.out, if_neg (by rw [hp]; simp)])
      have HP := Lib.hid hp
      clear hp
      refine (nuGood_c _ _).mono ?_; rw [HP.out]; rintro e w1 ⟨rfl, rfl⟩
      go_wp2_with fail
      go_ret2
      exact ⟨by rw [HZ.out]; rfl, Below.refl _ _⟩
    · have HP := Lib.hid hp
      have C := fun w => nuText_c v HP.out w
      have HD := Lib.hid (nText_data v)
      by_cases he : nTxt v = s.data.toList
      · have HZ : Hid (pNum s.data.toList = (v, true)) := Lib.hid (by rw [HQ.out, if_pos ⟨hp, he⟩])
        have hbs := bs_same (X := nText v) (s := s) (by rw [HD.out, he])
        clear hp he HD
        generalize nText v = X at *
        refine (nuGood_c _ _).mono ?_; rw [HP.out]; rintro e w1 ⟨rfl, rfl⟩
        go_wp2_with fail
        refine (C _).mono ?_; rintro e w2 ⟨rfl, hb2⟩
        go_wp2_with fail
        go_ret2
        exact ⟨by rw [HZ.out]; rfl, hb2⟩
      · have HZ : Hid (pNum s.data.toList = (0, false)) := Lib.hid (by rw [HQ.out, if_neg (fun h => he h.2)])
        have hbs := bs_other (X := nText v) (s := s) (by rw [HD.out]; exact he)
        clear hp he HD
        generalize nText v = X at *
        refine (nuGood_c _ _).mono ?_; rw [HP.out]; rintro e w1 ⟨rfl, rfl⟩
        go_wp2_with fail
        refine (C _).mono ?_; rintro e w2 ⟨rfl, hb2⟩
        go_wp2_with fail
        go_ret2
        exact ⟨by rw [HZ.out]; rfl, hb2⟩
set_option maxHeartbeats 2000000 in
theorem parseNumber_c (s : ByteArray) (hs : s.size ≤ 1048576) (w : World) (ht : TabOk w) (hE : ErrOk w) : Calls Tryd.prog 19 #[.string s] w fun e w' => e = .returned (.tuple #[.int .i64 (pNum s.data.toList).1, .bool (pNum s.data.toList).2]) ∧ Below w.heap.size w w' := by
  by_cases hinf : s.data.toList = [105, 110, 102]
  · have HQ : Hid (pNum s.data.toList = (1000000000, true)) := Lib.hid (by rw [pNum, canN, if_pos hinf])
    obtain rfl := str_eq hinf
    clear hinf
    go_enter Tryd.func19, Tryd.ntmps19
    go_wp2_with fail
    go_ret2
    exact ⟨by rw [HQ.out]; rfl, Below.refl _ _⟩
  have hni := neq_inf hinf
  have HV : Hid (pNum s.data.toList = match (match Lib.atoiAll s.data.toList with
    | .ok n => if isFin n = true ∧ Lib.itoa n = s.data.toList then some n else none
    | _ => none) with
    | some n => (n, true)
    | none => (0, false)) := Lib.hid (by rw [pNum, canN, if_neg hinf]; rfl)
  clear hinf
  cases ha : Lib.atoiAll s.data.toList
  · rename_i v
    have C := fun w => atoi_ok s hs v ha w
    cases hf : isFin v
    · have HQ : Hid (pNum s.data.toList = (0, false)) := Lib.hid (by rw [HV.out, ha]; dsimp only; rw [if_neg (by rw [hf]; simp)])
      have HF := Lib.hid hf
      clear hf ha
      go_enter Tryd.func19, Tryd.ntmps19
      go_wp2_with fail
      refine (C _).mono ?_; rintro e w1 ⟨rfl, hb1⟩
      go_wp2_with fail
      refine (isFinite_c _ _).mono ?_; rw [HF.out]; rintro e w2 ⟨rfl, rfl⟩
      go_wp2_with fail
      go_ret2
      exact ⟨by rw [HQ.out]; rfl, hb1⟩
    · have hb := (isFin_iff v).1 hf
      have CI := fun w ht => itoa_c v (by omega) (by omega) w ht
      have HF := Lib.hid hf
      have HD := Lib.hid (itoT_data v)
      by_cases he : Lib.itoa v = s.data.toList
      · have HQ : Hid (pNum s.data.toList = (v, true)) := Lib.hid (by rw [HV.out, ha]; dsimp only; rw [if_pos ⟨hf, he⟩])
        have hbs := bs_same (X := itoT v) (s := s) (by rw [HD.out, he])
        clear hf ha he hb HD
        generalize itoT v = X at *
        go_enter Tryd.func19, Tryd.ntmps19
        go_wp2_with fail
        refine (C _).mono ?_; rintro e w1 ⟨rfl, hb1⟩
        go_wp2_with fail
        refine (isFinite_c _ _).mono ?_; rw [HF.out]; rintro e w2 ⟨rfl, rfl⟩
        go_wp2_with fail
        refine (CI _ (ht.go hb1)).mono ?_; rintro e w2 ⟨rfl, hb2⟩
        go_wp2_with fail
        go_ret2
        exact ⟨by rw [HQ.out]; rfl, bel_step hb1 hb2⟩
      · have HQ : Hid (pNum s.data.toList = (0, false)) := Lib.hid (by rw [HV.out, ha]; dsimp only; rw [if_neg (fun h => he h.2)])
        have hbs := bs_other (X := itoT v) (s := s) (by rw [HD.out]; exact he)
        clear hf ha he hb HD
        generalize itoT v = X at *
        go_enter Tryd.func19, Tryd.ntmps19
        go_wp2_with fail
        refine (C _).mono ?_; rintro e w1 ⟨rfl, hb1⟩
        go_wp2_with fail
        refine (isFinite_c _ _).mono ?_; rw [HF.out]; rintro e w2 ⟨rfl, rfl⟩
        go_wp2_with fail
        refine (CI _ (ht.go hb1)).mono ?_; rintro e w2 ⟨rfl, hb2⟩
        go_wp2_with fail
        go_ret2
        exact ⟨by rw [HQ.out]; rfl, bel_step hb1 hb2⟩
  all_goals
    have HQ : Hid (pNum s.data.toList = (0, false)) := Lib.hid (by rw [HV.out, ha])
    have hno : ∀ v, Lib.atoiAll s.data.toList ≠ .ok v := by
      intro v h
      rw [ha] at h
      cases h
    have C := fun w hE => atoi_no s hs hno w hE
    clear ha hno
    go_enter Tryd.func19, Tryd.ntmps19
    go_wp2_with fail
    refine (C _ hE).mono ?_; rintro e w1 ⟨v, t, q, rfl, hb1⟩
    go_wp2_with fail
    go_ret2
    exact ⟨by rw [HQ.out]; rfl, hb1⟩
end Go.Proofs.YtkblommonimpfaaDoor
