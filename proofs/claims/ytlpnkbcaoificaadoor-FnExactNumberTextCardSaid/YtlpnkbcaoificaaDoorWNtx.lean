/- The text of a number: both packages' functions, and the walk of its law. -/
import Derived.Test.YtlpnkbcaoificaaDoorNum
import Derived.Test.YtlpnkbcaoificaaDoorWTxt
namespace Go.Proofs.YtlpnkbcaoificaaDoor
open Go.RowKit
def infT : ByteArray := ⟨#[105, 110, 102]⟩
def nText (n : Int) : ByteArray := if n = 1000000000 then infT else itoT n
def nTextOf (n : Int) : ByteArray × Bool := if isNum n then (nText n, true) else (⟨#[]⟩, false)
theorem nText_size {n : Int} (h : isNum n = true) : (nText n).size ≤ 1000002 := by
  rw [isNum_iff] at h
  unfold nText
  by_cases hn : n = 1000000000
  · rw [if_pos hn]; decide
  · rw [if_neg hn]
    have := itoT_size n
    omega
theorem nuText_c (n : Int) (h : isNum n = true) (w : World) : Calls Tryd.prog 7 #[.int .i64 n] w fun e w' => e = .returned (.string (nText n)) ∧ Below w.heap.size w w' := by
  by_cases hn : n = 1000000000
  · have H : Hid (nText n = infT) := Lib.hid (by rw [nText, if_pos hn])
    subst hn
    clear h
    go_enter Tryd.func7, Tryd.ntmps7
    go_wp2_with fail
    go_ret
    exact ⟨by rw [H.out]; rfl, Below.refl _ _⟩
  · have H : Hid (nText n = itoT n) := Lib.hid (by rw [nText, if_neg hn])
    have hb : -1000000 ≤ n ∧ n ≤ 1000000 := by rw [isNum_iff] at h; omega
    clear h
    have C := fun w => l1Int_c n (by omega) (by omega) w
    go_enter Tryd.func7, Tryd.ntmps7
    go_wp2_with fail
    refine (C _).mono ?_; rintro e u1 ⟨rfl, hb1⟩
    go_wp2_with fail
    go_ret
    exact ⟨by rw [H.out]; try rfl, hb1⟩
theorem numberText_c (n : Int) (h : isNum n = true) (w : World) (ht : TabOk w) : Calls Tryd.prog 9 #[.int .i64 n] w fun e w' => e = .returned (.string (nText n)) ∧ Below w.heap.size w w' := by
  by_cases hn : n = 1000000000
  · have H : Hid (nText n = infT) := Lib.hid (by rw [nText, if_pos hn])
    subst hn
    clear h
    go_enter Tryd.func9, Tryd.ntmps9
    go_wp2_with fail
    go_ret
    exact ⟨by rw [H.out]; rfl, Below.refl _ _⟩
  · have H : Hid (nText n = itoT n) := Lib.hid (by rw [nText, if_neg hn])
    have hb : -1000000 ≤ n ∧ n ≤ 1000000 := by rw [isNum_iff] at h; omega
    clear h
    have C := fun w ht => itoa_c n (by omega) (by omega) w ht
    go_enter Tryd.func9, Tryd.ntmps9
    go_wp2_with fail
    refine (C _ ht).mono ?_; rintro e u1 ⟨rfl, hb1⟩
    go_wp2_with fail
    go_ret
    exact ⟨by rw [H.out]; try rfl, hb1⟩
theorem specNumberText_c (n : Int) (w : World) : Calls Tryd.prog 4 #[.int .i64 n] w fun e w' => e = .returned (.tuple #[.string (nTextOf n).1, .bool (nTextOf n).2]) ∧ Below w.heap.size w w' := by
  cases hp : isNum n
  · have H : Hid (nTextOf n = (⟨#[]⟩, false)) := Lib.hid (by rw [nTextOf, hp]; rfl)
    have HP := Lib.hid hp
    clear hp
    go_enter Tryd.func4, Tryd.ntmps4
    go_wp2_with fail
    refine (nuGood_c _ _).mono ?_; rw [HP.out]; rintro e w1 ⟨rfl, rfl⟩
    go_wp2_with fail
    go_ret2
    exact ⟨by rw [H.out]; rfl, Below.refl _ _⟩
  · have H : Hid (nTextOf n = (nText n, true)) := Lib.hid (by rw [nTextOf, hp]; rfl)
    have HP := Lib.hid hp
    clear hp
    go_enter Tryd.func4, Tryd.ntmps4
    go_wp2_with fail
    refine (nuGood_c _ _).mono ?_; rw [HP.out]; rintro e w1 ⟨rfl, rfl⟩
    go_wp2_with fail
    refine (nuText_c _ HP.out _).mono ?_; rintro e w2 ⟨rfl, hb2⟩
    go_wp2_with fail
    go_ret2
    exact ⟨by rw [H.out]; rfl, hb2⟩
theorem implNumberText_c (n : Int) (w : World) (ht : TabOk w) : Calls Tryd.prog 5 #[.int .i64 n] w fun e w' => e = .returned (.tuple #[.string (nTextOf n).1, .bool (nTextOf n).2]) ∧ Below w.heap.size w w' := by
  cases hp : isNum n
  · have H : Hid (nTextOf n = (⟨#[]⟩, false)) := Lib.hid (by rw [nTextOf, hp]; rfl)
    have HP := Lib.hid hp
    clear hp
    go_enter Tryd.func5, Tryd.ntmps5
    go_wp2_with fail
    refine (isNumber_c _ _).mono ?_; rw [HP.out]; rintro e w1 ⟨rfl, rfl⟩
    go_wp2_with fail
    go_ret2
    exact ⟨by rw [H.out]; rfl, Below.refl _ _⟩
  · have H : Hid (nTextOf n = (nText n, true)) := Lib.hid (by rw [nTextOf, hp]; rfl)
    have HP := Lib.hid hp
    clear hp
    go_enter Tryd.func5, Tryd.ntmps5
    go_wp2_with fail
    refine (isNumber_c _ _).mono ?_; rw [HP.out]; rintro e w1 ⟨rfl, rfl⟩
    go_wp2_with fail
    refine (numberText_c _ HP.out _ ht).mono ?_; rintro e w2 ⟨rfl, hb2⟩
    go_wp2_with fail
    go_ret2
    exact ⟨by rw [H.out]; rfl, hb2⟩
theorem walk_FnExactNumberText (n : Int) (w : World) (_w0 : (Lit.int .i64 n).wf = true) (ht : TabOk w) : Calls Tryd.prog 3 #[.int .i64 n] w fun e w' => e = .returned (.bool true) ∧ Below w.heap.size w w' := by
  have CS := fun w => specNumberText_c n w
  have CI := fun w ht => implNumberText_c n w ht
  generalize nTextOf n = V at CS CI
  obtain ⟨V1, V2⟩ := V
  dsimp only at CS CI
  go_enter Tryd.func3, Tryd.ntmps3
  go_wp2_with fail
  refine (CS _).mono ?_; rintro e u1 ⟨rfl, hb1⟩
  go_wp2_with fail
  refine (CI _ (ht.go hb1)).mono ?_; rintro e u2 ⟨rfl, hb2⟩
  go_wp2_with fail
  go_ret
  exact ⟨rfl, bel_step hb1 hb2⟩
end Go.Proofs.YtlpnkbcaoificaaDoor
