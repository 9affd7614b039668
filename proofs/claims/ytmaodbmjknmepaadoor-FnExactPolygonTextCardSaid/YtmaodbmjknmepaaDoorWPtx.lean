/- The law on a polygon's text: both packages' functions, and the walk of the law. -/
import Derived.Test.YtmaodbmjknmepaaDoorWGood
import Derived.Test.YtmaodbmjknmepaaDoorWTxt
import Derived.Test.YtmaodbmjknmepaaDoorMemP
import Derived.Deep.RegionWith
namespace Go.Proofs.YtmaodbmjknmepaaDoor
open Go.RowKit
def pTextTo (l : List Pnt) : Nat → ByteArray
  | 0 => ⟨#[]⟩
  | k + 1 => pTextTo l k ++ (((itoT (l.getD k (0, 0)).1 ++ ⟨#[44]⟩) ++ itoT (l.getD k (0, 0)).2) ++ ⟨#[59]⟩)
def pText (l : List Pnt) : ByteArray := pTextTo l l.length
def pTextOf (l : List Pnt) : ByteArray × Bool := if isPgn l then (pText l, true) else (⟨#[]⟩, false)
theorem pTextTo_size {l : List Pnt} (h : ∀ t ∈ l, bdP t) : ∀ k, k ≤ l.length → (pTextTo l k).size ≤ 3000 * k
  | 0, _ => by show (0 : Nat) ≤ _; omega
  | k + 1, hk => by
    have ih := pTextTo_size h k (by omega)
    obtain ⟨⟨b0, b1⟩, b2, b3⟩ := bdP_at h (show k < l.length by omega)
    have hx := itoT_size (l.getD k (0, 0)).1
    have hy := itoT_size (l.getD k (0, 0)).2
    rw [pTextTo]
    simp only [ByteArray.size_append]
    have e1 : (⟨#[44]⟩ : ByteArray).size = 1 := rfl
    have e2 : (⟨#[59]⟩ : ByteArray).size = 1 := rfl
    omega
set_option maxHeartbeats 4000000 in
set_option maxRecDepth 8192 in
theorem pyText_c (A : Option Addr) (n c : Nat) (l : List Pnt) (B : Nat) (w : World) (h : RdP w B A n l) (hB : B ≤ w.heap.size) (hb : ∀ t ∈ l, bdP t) (hn : n ≤ 3000) :
    Calls Tryd.prog 10 #[.slice A n c] w fun e w' => e = .returned (.string (pText l)) ∧ Below w.heap.size w w' := by
  have HL := Lib.hid h.len
  have HB := Lib.hid hb
  clear hb
  go_enter Tryd.func10, Tryd.ntmps10
  go_wp2_with fail
  go_loopw [3, 8] (fun s i wr => ∃ k : Nat, k ≤ n ∧ i = .int .i64 k ∧ s = .string (pTextTo l k) ∧ Below w.heap.size w wr) (fun _ i _ => n - (intOf i).toNat)
  case atStart => exact ⟨0, Nat.zero_le _, rfl, rfl, Below.refl _ _⟩
  case round =>
    obtain ⟨k, hk, rfl, rfl, hbel⟩ := hrel
    by_cases hlt : k < n
    · have hkL : k < l.length := by rw [HL.out]; exact hlt
      obtain ⟨⟨b0, b1⟩, b2, b3⟩ := bdP_at HB.out hkL
      have HS : Hid (pTextTo l (k + 1) = pTextTo l k ++ (((itoT (l.getD k (0, 0)).1 ++ ⟨#[44]⟩) ++ itoT (l.getD k (0, 0)).2) ++ ⟨#[59]⟩)) := Lib.hid rfl
      have hz := pTextTo_size HB.out k (by omega)
      obtain ⟨b, o, rfl, _, c0, c1⟩ := (h.below (hbel.mono hB)).at_ hlt
      generalize (l.getD k (0, 0)).1 = x at *
      generalize (l.getD k (0, 0)).2 = y at *
      have hx := itoT_size x
      have hy := itoT_size y
      have hx2 : (itoT x).size ≤ 1002 := by omega
      have hy2 : (itoT y).size ≤ 1002 := by omega
      have hz2 : (pTextTo l k).size ≤ 9000000 := by omega
      clear hx hy hz
      have CX := fun w => l1Int_c x (by omega) (by omega) w
      have CY := fun w => l1Int_c y (by omega) (by omega) w
      have P := Bx.new wr [.int .i64 x, .int .i64 y] 33
      have bel := bel_alloc hbel (.cells #[.int .i64 x, .int .i64 y] 33)
      generalize itoT x = X at *
      generalize itoT y = Y at *
      generalize pTextTo l k = T at *
      clear hbel
      go_wp2_with fail
      generalize wr.alloc (.cells #[.int .i64 x, .int .i64 y] 33) = wz at *
      generalize wr.heap.size = S at *
      have P := P.drew
      have bel := bel.drew
      clear c0 c1
      have p0 := P.at0
      have p1 := P.at1
      go_region_with
        (first
        | (go_at_call 18; (with_reducible refine Calls.mono (CX _) ?_); rintro e v1 ⟨rfl, hb1⟩; have P := P.go hb1; have bel := bel_step bel hb1; have p0 := P.at0; have p1 := P.at1)
        | (go_at_call 18; (with_reducible refine Calls.mono (CY _) ?_); rintro e v1 ⟨rfl, hb1⟩; have P := P.go hb1; have bel := bel_step bel hb1; have p0 := P.at0; have p1 := P.at1))
      all_goals
        go_wp2_with fail
        go_roundw
        case rel => exact ⟨k + 1, by omega, by go_num, by rw [HS.out]; first | done | rfl, bel⟩
        case measure => simp [intOf]; omega
    · have HE : Hid (pTextTo l k = pText l) := Lib.hid (by rw [pText, HL.out, show n = k from by omega])
      rw [HE.out]
      go_wp2_with fail
      go_ret
      exact ⟨rfl, hbel⟩
set_option maxHeartbeats 4000000 in
set_option maxRecDepth 8192 in
theorem polygonText_c (A : Option Addr) (n c : Nat) (l : List Pnt) (B : Nat) (w : World) (h : RdP w B A n l) (hB : B ≤ w.heap.size) (hb : ∀ t ∈ l, bdP t) (hn : n ≤ 3000) (ht : TabOk w) :
    Calls Tryd.prog 13 #[.slice A n c] w fun e w' => e = .returned (.string (pText l)) ∧ Below w.heap.size w w' := by
  have HL := Lib.hid h.len
  have HB := Lib.hid hb
  clear hb
  go_enter Tryd.func13, Tryd.ntmps13
  go_wp2_with fail
  go_loopw [3, 8] (fun s i wr => ∃ k : Nat, k ≤ n ∧ i = .int .i64 k ∧ s = .string (pTextTo l k) ∧ Below w.heap.size w wr) (fun _ i _ => n - (intOf i).toNat)
  case atStart => exact ⟨0, Nat.zero_le _, rfl, rfl, Below.refl _ _⟩
  case round =>
    obtain ⟨k, hk, rfl, rfl, hbel⟩ := hrel
    by_cases hlt : k < n
    · have hkL : k < l.length := by rw [HL.out]; exact hlt
      obtain ⟨⟨b0, b1⟩, b2, b3⟩ := bdP_at HB.out hkL
      have HS : Hid (pTextTo l (k + 1) = pTextTo l k ++ (((itoT (l.getD k (0, 0)).1 ++ ⟨#[44]⟩) ++ itoT (l.getD k (0, 0)).2) ++ ⟨#[59]⟩)) := Lib.hid rfl
      have hz := pTextTo_size HB.out k (by omega)
      obtain ⟨b, o, rfl, _, c0, c1⟩ := (h.below (hbel.mono hB)).at_ hlt
      generalize (l.getD k (0, 0)).1 = x at *
      generalize (l.getD k (0, 0)).2 = y at *
      have hx := itoT_size x
      have hy := itoT_size y
      have hx2 : (itoT x).size ≤ 1002 := by omega
      have hy2 : (itoT y).size ≤ 1002 := by omega
      have hz2 : (pTextTo l k).size ≤ 9000000 := by omega
      clear hx hy hz
      have CX := fun w ht => itoa_c x (by omega) (by omega) w ht
      have CY := fun w ht => itoa_c y (by omega) (by omega) w ht
      have P := Bx.new wr [.int .i64 x, .int .i64 y] 33
      have bel := bel_alloc hbel (.cells #[.int .i64 x, .int .i64 y] 33)
      generalize itoT x = X at *
      generalize itoT y = Y at *
      generalize pTextTo l k = T at *
      clear hbel
      go_wp2_with fail
      generalize wr.alloc (.cells #[.int .i64 x, .int .i64 y] 33) = wz at *
      generalize wr.heap.size = S at *
      have P := P.drew
      have bel := bel.drew
      clear c0 c1
      have p0 := P.at0
      have p1 := P.at1
      go_region_with
        (first
        | (go_at_call 22; (with_reducible refine Calls.mono (CX _ (ht.go bel)) ?_); rintro e v1 ⟨rfl, hb1⟩; have P := P.go hb1; have bel := bel_step bel hb1; have p0 := P.at0; have p1 := P.at1)
        | (go_at_call 22; (with_reducible refine Calls.mono (CY _ (ht.go bel)) ?_); rintro e v1 ⟨rfl, hb1⟩; have P := P.go hb1; have bel := bel_step bel hb1; have p0 := P.at0; have p1 := P.at1))
      all_goals
        go_wp2_with fail
        go_roundw
        case rel => exact ⟨k + 1, by omega, by go_num, by rw [HS.out]; first | done | rfl, bel⟩
        case measure => simp [intOf]; omega
    · have HE : Hid (pTextTo l k = pText l) := Lib.hid (by rw [pText, HL.out, show n = k from by omega])
      rw [HE.out]
      go_wp2_with fail
      go_ret
      exact ⟨rfl, hbel⟩
theorem specPolygonText_c (A : Option Addr) (n c : Nat) (l : List Pnt) (w : World) (h : RdP w w.heap.size A n l) (_hn : n ≤ 1048576) :
    Calls Tryd.prog 5 #[.slice A n c] w fun e w' => e = .returned (.tuple #[.string (pTextOf l).1, .bool (pTextOf l).2]) ∧ Below w.heap.size w w' := by
  have HL := Lib.hid h.len
  cases hp : isPgn l
  · have H : Hid (pTextOf l = (⟨#[]⟩, false)) := Lib.hid (by rw [pTextOf, hp]; rfl)
    have HP := Lib.hid hp
    clear hp
    go_enter Tryd.func5, Tryd.ntmps5
    go_wp2_with fail
    refine (pyGood_c _ _ _ _ _ _ h (Nat.le_refl _)).mono ?_; rw [HP.out]; rintro e w1 ⟨rfl, hb1⟩
    go_wp2_with fail
    go_ret2
    exact ⟨by rw [H.out]; rfl, hb1⟩
  · have H : Hid (pTextOf l = (pText l, true)) := Lib.hid (by rw [pTextOf, hp]; rfl)
    have hpts : arePts l = true := by unfold isPgn at hp; rw [Bool.and_eq_true] at hp; exact hp.1
    have hn := arePts_len hpts
    rw [HL.out] at hn
    have HB := Lib.hid (arePts_bd hpts)
    have HP := Lib.hid hp
    clear hp hpts
    go_enter Tryd.func5, Tryd.ntmps5
    go_wp2_with fail
    refine (pyGood_c _ _ _ _ _ _ h (Nat.le_refl _)).mono ?_; rw [HP.out]; rintro e w1 ⟨rfl, hb1⟩
    go_wp2_with fail
    refine (pyText_c _ _ _ _ _ _ (h.below hb1) hb1.size HB.out (by omega)).mono ?_; rintro e w2 ⟨rfl, hb2⟩
    go_wp2_with fail
    go_ret2
    exact ⟨by rw [H.out]; rfl, bel_step hb1 hb2⟩
theorem implPolygonText_c (A : Option Addr) (n c : Nat) (l : List Pnt) (w : World) (h : RdP w w.heap.size A n l) (_hn : n ≤ 1048576) (ht : TabOk w) :
    Calls Tryd.prog 7 #[.slice A n c] w fun e w' => e = .returned (.tuple #[.string (pTextOf l).1, .bool (pTextOf l).2]) ∧ Below w.heap.size w w' := by
  have HL := Lib.hid h.len
  cases hp : isPgn l
  · have H : Hid (pTextOf l = (⟨#[]⟩, false)) := Lib.hid (by rw [pTextOf, hp]; rfl)
    have HP := Lib.hid hp
    clear hp
    go_enter Tryd.func7, Tryd.ntmps7
    go_wp2_with fail
    refine (isPolygon_c _ _ _ _ _ _ h (Nat.le_refl _)).mono ?_; rw [HP.out]; rintro e w1 ⟨rfl, hb1⟩
    go_wp2_with fail
    go_ret2
    exact ⟨by rw [H.out]; rfl, hb1⟩
  · have H : Hid (pTextOf l = (pText l, true)) := Lib.hid (by rw [pTextOf, hp]; rfl)
    have hpts : arePts l = true := by unfold isPgn at hp; rw [Bool.and_eq_true] at hp; exact hp.1
    have hn := arePts_len hpts
    rw [HL.out] at hn
    have HB := Lib.hid (arePts_bd hpts)
    have HP := Lib.hid hp
    clear hp hpts
    go_enter Tryd.func7, Tryd.ntmps7
    go_wp2_with fail
    refine (isPolygon_c _ _ _ _ _ _ h (Nat.le_refl _)).mono ?_; rw [HP.out]; rintro e w1 ⟨rfl, hb1⟩
    go_wp2_with fail
    refine (polygonText_c _ _ _ _ _ _ (h.below hb1) hb1.size HB.out (by omega) (ht.go hb1)).mono ?_; rintro e w2 ⟨rfl, hb2⟩
    go_wp2_with fail
    go_ret2
    exact ⟨by rw [H.out]; rfl, bel_step hb1 hb2⟩
set_option maxHeartbeats 1000000 in
theorem walk_FnExactPolygonText (A0 : Option Addr) (n0 c0 : Nat) (z0 : List Pnt) (w : World) (r0 : RdP w w.heap.size A0 n0 z0) (ht : TabOk w) :
    Calls Tryd.prog 3 #[.slice A0 n0 c0] w fun e w' => e = .returned (.bool true) ∧ Below w.heap.size w w' := by
  have l0 := r0.le
  by_cases s0 : (n0 : Int) ≤ 1048576
  rotate_left
  · go_enter Tryd.func3, Tryd.ntmps3
    go_wp2_with fail
    refine (szPointS_no _ _ _ _ _ (by omega) (by omega) (by omega)).mono ?_; rintro e w' ⟨rfl, rfl⟩
    go_wp2_with fail
    go_ret
    exact ⟨rfl, Below.refl _ _⟩
  have bel := Below.refl w.heap.size w
  go_enter Tryd.func3, Tryd.ntmps3
  go_wp2_with fail
  refine (szPointS_yes _ _ _ _ _ (by omega) (by omega)).mono ?_; rintro e w' ⟨rfl, rfl⟩
  go_wp2_with fail
  refine (toPointS_c _ _ _ _ _ _ (r0.below bel) bel.size (by omega)).mono ?_; rintro e u1 ⟨A1, n1, c1, rfl, T, hb1, _⟩
  have bel := bel_step bel hb1
  have hn1 : n1 ≤ 1048576 := by have := T.len; have := r0.len; omega
  have CS := fun A n c w h hn => specPolygonText_c A n c z0 w h hn
  have CI := fun A n c w h hn ht => implPolygonText_c A n c z0 w h hn ht
  generalize pTextOf z0 = V at CS CI
  obtain ⟨V1, V2⟩ := V
  dsimp only at CS CI
  go_wp2_with fail
  refine (CS _ _ _ _ T.rd hn1).mono ?_; rintro e u2 ⟨rfl, hb2⟩
  have bel := bel_step bel hb2
  go_wp2_with fail
  refine (toPointS_c _ _ _ _ _ _ (r0.below bel) bel.size (by omega)).mono ?_; rintro e u3 ⟨A3, n3, c3, rfl, X, hb3, _⟩
  have bel := bel_step bel hb3
  have hn3 : n3 ≤ 1048576 := by have := X.len; have := r0.len; omega
  go_wp2_with fail
  refine (CI _ _ _ _ X.rd hn3 (ht.go bel)).mono ?_; rintro e u4 ⟨rfl, hb4⟩
  have bel := bel_step bel hb4
  have X := X.go hb4
  go_wp2_with fail
  refine (toPointS_c _ _ _ _ _ _ (r0.below bel) bel.size (by omega)).mono ?_; rintro e u5 ⟨A5, n5, c5, rfl, Y, hb5, _⟩
  have bel := bel_step bel hb5
  have X := X.go hb5
  go_wp2_with fail
  refine (eqPointS_c _ _ _ _ _ _ _ _ _ _ X.rd Y.rd (Nat.le_refl _) (Nat.le_refl _)).mono ?_; rintro e u6 ⟨rfl, hb6⟩
  have bel := bel_step bel hb6
  go_wp2_with fail
  go_ret
  exact ⟨rfl, bel⟩
end Go.Proofs.YtmaodbmjknmepaaDoor
