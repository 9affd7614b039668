/- The law on a polynomial's text: both packages' functions, and the walk of the law. -/
import Derived.Test.YtddoefjobboniaaDoorPoly
import Derived.Test.YtddoefjobboniaaDoorWNtx
import Derived.Test.YtddoefjobboniaaDoorStrs
import Derived.Test.YtddoefjobboniaaDoorMem
import Derived.Shelf.Strings.OnBuilder
namespace Go.Proofs.YtddoefjobboniaaDoor
open Go.RowKit
def pTextTo (p : List Int) : Nat → ByteArray
  | 0 => ⟨#[]⟩
  | k + 1 => (if 0 < k then pTextTo p k ++ ⟨#[44]⟩ else pTextTo p k) ++ nText (p.getD k 0)
def pText (p : List Int) : ByteArray := pTextTo p p.length
def pTextOf (p : List Int) : ByteArray × Bool := if isPol p then (pText p, true) else (⟨#[]⟩, false)
def wordsTo (p : List Int) : Nat → List ByteArray
  | 0 => []
  | k + 1 => wordsTo p k ++ [nText (p.getD k 0)]
theorem wordsTo_len (p : List Int) : ∀ k, (wordsTo p k).length = k
  | 0 => rfl
  | k + 1 => by rw [wordsTo, List.length_append, wordsTo_len p k]; rfl
theorem join_snoc {l : List (List UInt8)} (h : l ≠ []) (y sep : List UInt8) : Lib.join (l ++ [y]) sep = Lib.join l sep ++ sep ++ y := by
  cases l with
  | nil => exact absurd rfl h
  | cons x r =>
    rw [List.cons_append, Lib.join_cons, Lib.join_cons]
    simp [Lib.joinTail, List.append_assoc]
theorem words_join (p : List Int) : ∀ k, (pTextTo p k).data.toList = Lib.join ((wordsTo p k).map (·.data.toList)) [44]
  | 0 => rfl
  | k + 1 => by
    have ih := words_join p k
    rw [pTextTo, wordsTo, List.map_append]
    by_cases hk : 0 < k
    · rw [if_pos hk, List.map_cons, List.map_nil, join_snoc (by
        intro e
        have := congrArg List.length e
        rw [List.length_map, wordsTo_len] at this
        simp at this
        omega), ← ih]
      simp [ByteArray.data_append]
    · obtain rfl : k = 0 := by omega
      rw [if_neg (by omega)]
      simp only [wordsTo, List.map_nil, List.nil_append, List.map_cons, Lib.join_one]
      simp [pTextTo, ByteArray.data_append]
theorem pTextTo_size {p : List Int} (h : p.all isNum = true) : ∀ k, k ≤ p.length → (pTextTo p k).size ≤ 1000003 * k
  | 0, _ => by show (0 : Nat) ≤ _; omega
  | k + 1, hk => by
    have ih := pTextTo_size h k (by omega)
    have hx := nText_size (List.all_eq_true.1 h _ (getD_mem (show k < p.length by omega)))
    rw [pTextTo]
    have e1 : (⟨#[44]⟩ : ByteArray).size = 1 := rfl
    split
    · simp only [ByteArray.size_append]
      omega
    · simp only [ByteArray.size_append]
      omega
theorem info_str : (Tryd.prog.info? 9).map (fun i => (i.zero, i.size, i.bytes)) = some (some (.string ByteArray.empty), 1, 16) := by kernel_rfl
set_option maxHeartbeats 1000000 in
theorem poText_c (A : Option Addr) (n c : Nat) (p : List Int) (B : Nat) (w : World) (h : Rd w B A n p) (hB : B ≤ w.heap.size) (hp : p.all isNum = true) (hn2 : n ≤ 1000) :
    Calls Tryd.prog 9 #[.slice A n c] w fun e w' => e = .returned (.string (pText p)) ∧ Below w.heap.size w w' := by
  have HL := Lib.hid h.len
  have HA := Lib.hid hp
  clear hp
  go_enter Tryd.func9, Tryd.ntmps9
  go_wp2_with fail
  go_loopw [3, 8] (fun s i wr => ∃ k : Nat, k ≤ n ∧ i = .int .i64 k ∧ s = .string (pTextTo p k) ∧ Below w.heap.size w wr) (fun _ i _ => n - (intOf i).toNat)
  case atStart => exact ⟨0, Nat.zero_le _, rfl, rfl, Below.refl _ _⟩
  case round =>
    obtain ⟨k, hk, rfl, rfl, hbel⟩ := hrel
    by_cases hlt : k < n
    · have hnum := List.all_eq_true.1 HA.out _ (getD_mem (show k < p.length by rw [HL.out]; exact hlt))
      have hts := pTextTo_size HA.out k (by rw [HL.out]; omega)
      have hxs := nText_size hnum
      obtain ⟨ad, rfl, _, hc⟩ := (h.below (hbel.mono hB)).at_ hlt
      have HN := Lib.hid hnum
      clear hnum
      have hts : (pTextTo p k).size ≤ 2000000000 := by omega
      by_cases h0 : 0 < k
      · have HS : Hid (pTextTo p (k + 1) = (pTextTo p k ++ ⟨#[44]⟩) ++ nText (p.getD k 0)) := Lib.hid (by rw [pTextTo, if_pos h0])
        have C := fun w => nuText_c (p.getD k 0) HN.out w
        generalize p.getD k 0 = z at *
        generalize nText z = X at *
        generalize pTextTo p k = T at *
        go_wp2_with fail
        refine (C _).mono ?_; rintro e w1 ⟨rfl, hb1⟩
        have bel := bel_step hbel hb1
        go_wp2_with fail
        go_roundw
        case rel => exact ⟨k + 1, by omega, by go_num, by rw [HS.out]; first | done | rfl, bel⟩
        case measure => simp [intOf]; omega
      · obtain rfl : k = 0 := by omega
        rw [ad_add0] at hc
        have HS : Hid (pTextTo p (0 + 1) = nText (p.getD 0 0)) := Lib.hid (by
          show (⟨#[]⟩ : ByteArray) ++ nText (p.getD 0 0) = _
          apply ByteArray.ext
          simp [ByteArray.data_append])
        have C := fun w => nuText_c (p.getD 0 0) HN.out w
        generalize p.getD 0 0 = z at *
        generalize nText z = X at *
        go_wp2_with fail
        refine (C _).mono ?_; rintro e w1 ⟨rfl, hb1⟩
        have bel := bel_step hbel hb1
        go_wp2_with fail
        go_roundw
        case rel => exact ⟨0 + 1, by omega, by go_num, by rw [HS.out]; first | done | rfl | simp, bel⟩
        case measure => simp [intOf]; omega
    · have HE : Hid (pTextTo p k = pText p) := Lib.hid (by rw [pText, HL.out, show n = k from by omega])
      rw [HE.out]
      go_wp2_with fail
      go_ret
      exact ⟨rfl, hbel⟩
theorem joinX : Builder.Extra Tryd.prog Tryd.join_ren := {
  sizeBuilder := by kernel_rfl
  liesBuilder := by kernel_rfl
  t5 := Tryd.underlying5
  a5 := Tryd.isAgg5
  z5 := Tryd.sizeOf5
  v5 := Tryd.zeroValue5
  infoByte := by kernel_rfl
  cellsByte := by kernel_rfl
  sizeByte := by kernel_rfl
  neB5 := by decide }
theorem join_c (A : Option Addr) (n c B : Nat) (E : TypeId) (xs : List ByteArray) (sep : ByteArray) (w : World) (h : OwnS w B E (.slice A n c) n xs) (hN : n ≤ 1000) (hlen : (Lib.join (xs.map (·.data.toList)) sep.data.toList).length ≤ 140737488355328) :
    Calls Tryd.prog 18 #[.slice A n c, .string sep] w fun e w' => e = .returned (.string ⟨(Lib.join (xs.map (·.data.toList)) sep.data.toList).toArray⟩) ∧ Below w.heap.size w w' := by
  have hl := h.len
  have hcap := h.capAt
  by_cases h0 : 0 < n
  · obtain ⟨g, rfl⟩ := h.head h0
    obtain ⟨ad, e, hb, hc⟩ := h.rd.2.2 h0
    injection e with e
    subst e
    subst hl
    exact Any.strings_Join Tryd.join joinX g 0 c xs sep w (fun j x hx => by
      have := hc j x hx
      rwa [Addr.add_lit] at this) hb (by omega) hcap hlen
  · obtain rfl : n = 0 := by omega
    obtain rfl : xs = [] := List.eq_nil_of_length_eq_zero hl
    exact (Any.strings_Join_none Tryd.join joinX A c sep w).mono fun e w' ⟨he, hw⟩ => ⟨he, hw ▸ Below.refl _ _⟩
set_option maxHeartbeats 1000000 in
theorem numbersText_c (A : Option Addr) (n c : Nat) (p : List Int) (B : Nat) (w : World) (h : Rd w B A n p) (hB : B ≤ w.heap.size) (hp : p.all isNum = true) (hn2 : n ≤ 1000) (ht : TabOk w) :
    Calls Tryd.prog 11 #[.slice A n c, .string ⟨#[44]⟩] w fun e w' => e = .returned (.string (pText p)) ∧ Below w.heap.size w w' := by
  have HL := Lib.hid h.len
  have HA := Lib.hid hp
  clear hp
  obtain ⟨i0, hi, hz0, hz1, hz2⟩ := info_parts info_str
  have HI := Lib.hid hi
  have HZ0 := Lib.hid hz0
  have HZ1 := Lib.hid hz1
  have HZ2 := Lib.hid hz2
  clear hi hz0 hz1 hz2
  have own0 := OwnS.empty w 9 (Nat.le_refl w.heap.size)
  have bel0 := bel_new w (.cells #[] 9)
  go_enter Tryd.func11, Tryd.ntmps11
  go_wp2_with fail
  go_loopw [5, 11] (fun v i wr => ∃ k : Nat, k ≤ n ∧ i = .int .i64 k ∧ OwnS wr w.heap.size 9 v k (wordsTo p k) ∧ Below w.heap.size w wr) (fun _ i _ => n - (intOf i).toNat)
  case atStart => exact ⟨0, Nat.zero_le _, rfl, own0, bel0⟩
  case round =>
    clear own0 bel0
    obtain ⟨k, hk, rfl, hown, hbel⟩ := hrel
    by_cases hlt : k < n
    · have hnum := List.all_eq_true.1 HA.out _ (getD_mem (show k < p.length by rw [HL.out]; exact hlt))
      obtain ⟨ad, rfl, _, hc⟩ := (h.below (hbel.mono hB)).at_ hlt
      have HW : Hid (wordsTo p (k + 1) = wordsTo p k ++ [nText (p.getD k 0)]) := Lib.hid rfl
      have C := fun w ht => numberText_c (p.getD k 0) hnum w ht
      clear hnum
      generalize p.getD k 0 = z at *
      generalize nText z = X at *
      generalize wordsTo p k = W at *
      go_wp2_with fail
      refine (C _ (ht.go hbel)).mono ?_; rintro e w1 ⟨rfl, hb1⟩
      have bel := bel_step hbel hb1
      have hown := hown.go hb1
      have hsz := bel.size
      clear hbel hb1
      go_wp2_with (at_builtin; refine wp_appStr rfl _ _ 34 rfl w.heap.size 9 i0 Tryd.underlying34 HI.out HZ0.out HZ1.out HZ2.out _ _ _ rfl hown _ rfl (by omega) hsz ?_)
      intro v' w2 h1 hb2
      rw [← HW.out] at h1
      have bel := bel.trans hb2
      clear hown hb2
      go_wp2_with fail
      go_roundw
      case rel => exact ⟨k + 1, by omega, by go_num, h1, bel⟩
      case measure => simp [intOf]; omega
    · obtain rfl : k = n := by omega
      have hj := words_join p k
      have hts := pTextTo_size HA.out k (by rw [HL.out]; omega)
      have hjl : (Lib.join ((wordsTo p k).map (·.data.toList)) (⟨#[44]⟩ : ByteArray).data.toList).length ≤ 140737488355328 := by
        show (Lib.join _ [44]).length ≤ _
        rw [← hj, Array.length_toList]
        have : (pTextTo p k).data.size ≤ 1000003 * k := hts
        omega
      have HV : Hid ((⟨(Lib.join ((wordsTo p k).map (·.data.toList)) (⟨#[44]⟩ : ByteArray).data.toList).toArray⟩ : ByteArray) = pText p) := Lib.hid (by
        apply ByteArray.ext
        apply Array.ext'
        show (Lib.join _ [44]).toArray.toList = _
        rw [List.toList_toArray, ← hj, pText, HL.out])
      obtain ⟨A2, c2, rfl⟩ := hown.shape
      have C := join_c A2 k c2 w.heap.size 9 (wordsTo p k) ⟨#[44]⟩ wr hown (by omega) hjl
      rw [HV.out] at C
      clear hj hts hjl HV
      go_wp2_with fail
      refine C.mono ?_
      rintro e w1 ⟨rfl, hb1⟩
      go_wp2_with fail
      go_ret
      exact ⟨rfl, bel_step hbel hb1⟩
theorem specPolyText_c (A : Option Addr) (n c : Nat) (l : List Int) (w : World) (h : Rd w w.heap.size A n l) (_hn : n ≤ 1048576) :
    Calls Tryd.prog 4 #[.slice A n c] w fun e w' => e = .returned (.tuple #[.string (pTextOf l).1, .bool (pTextOf l).2]) ∧ Below w.heap.size w w' := by
  have HL := Lib.hid h.len
  cases hp : isPol l
  · have H : Hid (pTextOf l = (⟨#[]⟩, false)) := Lib.hid (by rw [pTextOf, hp]; rfl)
    have HP := Lib.hid hp
    clear hp
    go_enter Tryd.func4, Tryd.ntmps4
    go_wp2_with fail
    refine (poGood_c _ _ _ _ _ _ h).mono ?_; rw [HP.out]; rintro e w1 ⟨rfl, rfl⟩
    go_wp2_with fail
    go_ret2
    exact ⟨by rw [H.out]; rfl, Below.refl _ _⟩
  · have H : Hid (pTextOf l = (pText l, true)) := Lib.hid (by rw [pTextOf, hp]; rfl)
    have HA := Lib.hid (isPol_all hp)
    have hl := isPol_len hp
    rw [HL.out] at hl
    have HP := Lib.hid hp
    clear hp
    go_enter Tryd.func4, Tryd.ntmps4
    go_wp2_with fail
    refine (poGood_c _ _ _ _ _ _ h).mono ?_; rw [HP.out]; rintro e w1 ⟨rfl, rfl⟩
    go_wp2_with fail
    refine (poText_c _ _ _ _ _ _ h (Nat.le_refl _) HA.out (by omega)).mono ?_; rintro e w2 ⟨rfl, hb2⟩
    go_wp2_with fail
    go_ret2
    exact ⟨by rw [H.out]; rfl, hb2⟩
theorem implPolyText_c (A : Option Addr) (n c : Nat) (l : List Int) (w : World) (h : Rd w w.heap.size A n l) (_hn : n ≤ 1048576) (ht : TabOk w) :
    Calls Tryd.prog 6 #[.slice A n c] w fun e w' => e = .returned (.tuple #[.string (pTextOf l).1, .bool (pTextOf l).2]) ∧ Below w.heap.size w w' := by
  have HL := Lib.hid h.len
  cases hp : isPol l
  · have H : Hid (pTextOf l = (⟨#[]⟩, false)) := Lib.hid (by rw [pTextOf, hp]; rfl)
    have HP := Lib.hid hp
    clear hp
    go_enter Tryd.func6, Tryd.ntmps6
    go_wp2_with fail
    refine (isPoly_c _ _ _ _ _ _ h).mono ?_; rw [HP.out]; rintro e w1 ⟨rfl, rfl⟩
    go_wp2_with fail
    go_ret2
    exact ⟨by rw [H.out]; rfl, Below.refl _ _⟩
  · have H : Hid (pTextOf l = (pText l, true)) := Lib.hid (by rw [pTextOf, hp]; rfl)
    have HA := Lib.hid (isPol_all hp)
    have hl := isPol_len hp
    rw [HL.out] at hl
    have HP := Lib.hid hp
    clear hp
    go_enter Tryd.func6, Tryd.ntmps6
    go_wp2_with fail
    refine (isPoly_c _ _ _ _ _ _ h).mono ?_; rw [HP.out]; rintro e w1 ⟨rfl, rfl⟩
    go_wp2_with fail
    refine (numbersText_c _ _ _ _ _ _ h (Nat.le_refl _) HA.out (by omega) ht).mono ?_; rintro e w2 ⟨rfl, hb2⟩
    go_wp2_with fail
    go_ret2
    exact ⟨by rw [H.out]; rfl, hb2⟩
set_option maxHeartbeats 1000000 in
theorem walk_FnExactPolyText (A0 : Option Addr) (n0 c0 : Nat) (z0 : List Int) (w : World) (r0 : Rd w w.heap.size A0 n0 z0) (ht : TabOk w) :
    Calls Tryd.prog 3 #[.slice A0 n0 c0] w fun e w' => e = .returned (.bool true) ∧ Below w.heap.size w w' := by
  have l0 := r0.le
  by_cases s0 : n0 ≤ 1048576
  rotate_left
  · go_enter Tryd.func3, Tryd.ntmps3
    go_wp2_with fail
    go_ret
    exact ⟨rfl, Below.refl _ _⟩
  have bel := Below.refl w.heap.size w
  go_enter Tryd.func3, Tryd.ntmps3
  go_wp2_with fail
  refine (toIntS_c _ _ _ _ _ _ (r0.below bel) bel.size (by omega)).mono ?_; rintro e u1 ⟨A1, n1, c1, rfl, T, hb1, _⟩
  have bel := bel_step bel hb1
  have hn1 : n1 ≤ 1048576 := by have := T.len; have := r0.len; omega
  have CS := fun A n c w h hn => specPolyText_c A n c z0 w h hn
  have CI := fun A n c w h hn ht => implPolyText_c A n c z0 w h hn ht
  generalize pTextOf z0 = V at CS CI
  obtain ⟨V1, V2⟩ := V
  dsimp only at CS CI
  go_wp2_with fail
  refine (CS _ _ _ _ T.rd hn1).mono ?_; rintro e u2 ⟨rfl, hb2⟩
  have bel := bel_step bel hb2
  go_wp2_with fail
  refine (toIntS_c _ _ _ _ _ _ (r0.below bel) bel.size (by omega)).mono ?_; rintro e u3 ⟨A3, n3, c3, rfl, X, hb3, _⟩
  have bel := bel_step bel hb3
  have hn3 : n3 ≤ 1048576 := by have := X.len; have := r0.len; omega
  go_wp2_with fail
  refine (CI _ _ _ _ X.rd hn3 (ht.go bel)).mono ?_; rintro e u4 ⟨rfl, hb4⟩
  have bel := bel_step bel hb4
  have X := X.go hb4
  go_wp2_with fail
  refine (toIntS_c _ _ _ _ _ _ (r0.below bel) bel.size (by omega)).mono ?_; rintro e u5 ⟨A5, n5, c5, rfl, Y, hb5, _⟩
  have bel := bel_step bel hb5
  have X := X.go hb5
  go_wp2_with fail
  refine (eqIntS_c _ _ _ _ _ _ _ _ _ _ X.rd Y.rd).mono ?_; rintro e u6 ⟨rfl, hb6⟩
  have bel := bel_step bel hb6
  go_wp2_with fail
  go_ret
  exact ⟨rfl, bel⟩
end Go.Proofs.YtddoefjobboniaaDoor
