/- The law on a plane polynomial's text: both packages' functions, and the walk of the law. -/
import Derived.Test.YtmhbkljnilonkaaDoorPlane2
import Derived.Test.YtmhbkljnilonkaaDoorWTxt
import Derived.Test.YtmhbkljnilonkaaDoorPlane
import Derived.Test.YtmhbkljnilonkaaDoorMemT
import Derived.Deep.RegionHeld3
namespace Go.Proofs.YtmhbkljnilonkaaDoor
open Go.RowKit
def tTextTo (l : List Trm) : Nat → ByteArray
  | 0 => ⟨#[]⟩
  | k + 1 => tTextTo l k ++ (((((itoT (l.getD k (0, 0, 0)).2.2 ++ ⟨#[58]⟩) ++ itoT (l.getD k (0, 0, 0)).1) ++ ⟨#[44]⟩) ++ itoT (l.getD k (0, 0, 0)).2.1) ++ ⟨#[59]⟩)
def tText (l : List Trm) : ByteArray := tTextTo l l.length
def tTextOf (l : List Trm) : ByteArray × Bool := if isPlane l then (tText l, true) else (⟨#[]⟩, false)
theorem tTextTo_size {l : List Trm} (h : isPlane l = true) : ∀ k, k ≤ l.length → (tTextTo l k).size ≤ 2000000 * k
  | 0, _ => by show (0 : Nat) ≤ _; omega
  | k + 1, hk => by
    have ih := tTextTo_size h k (by omega)
    obtain ⟨⟨b0, b1⟩, ⟨b2, b3⟩, b4, b5⟩ := isPlane_trm h (show k < l.length by omega)
    have hx := itoT_size (l.getD k (0, 0, 0)).1
    have hy := itoT_size (l.getD k (0, 0, 0)).2.1
    have hz := itoT_size (l.getD k (0, 0, 0)).2.2
    rw [tTextTo]
    simp only [ByteArray.size_append]
    have e1 : (⟨#[44]⟩ : ByteArray).size = 1 := rfl
    have e2 : (⟨#[59]⟩ : ByteArray).size = 1 := rfl
    have e3 : (⟨#[58]⟩ : ByteArray).size = 1 := rfl
    omega
theorem l1NumI_c (n : Int) (h0 : 0 ≤ n) (h1 : n ≤ 1000000000) (w : World) : Calls Tryd.prog 35 #[.int .i64 n] w fun e w' => e = .returned (.string (itoT n)) ∧ Below w.heap.size w w' := by
  have h := l1Num_c n.toNat (by omega) w
  rw [itoT_pos (by omega)]
  rw [show ((n.toNat : Nat) : Int) = n from by omega] at h
  exact h
set_option maxHeartbeats 4000000 in
set_option maxRecDepth 8192 in
theorem plText_c (A : Option Addr) (n c : Nat) (l : List Trm) (B : Nat) (w : World) (h : RdT w B A n l) (hB : B ≤ w.heap.size) (hb : isPlane l = true) :
    Calls Tryd.prog 19 #[.slice A n c] w fun e w' => e = .returned (.string (tText l)) ∧ Below w.heap.size w w' := by
  have HL := Lib.hid h.len
  have HB := Lib.hid hb
  clear hb
  go_enter Tryd.func19, Tryd.ntmps19
  go_wp2_with fail
  go_loopw [3, 8] (fun s i wr => ∃ k : Nat, k ≤ n ∧ i = .int .i64 k ∧ s = .string (tTextTo l k) ∧ Below w.heap.size w wr) (fun _ i _ => n - (intOf i).toNat)
  case atStart => exact ⟨0, Nat.zero_le _, rfl, rfl, Below.refl _ _⟩
  case round =>
    obtain ⟨k, hk, rfl, rfl, hbel⟩ := hrel
    by_cases hlt : k < n
    · have hkL : k < l.length := by rw [HL.out]; exact hlt
      obtain ⟨⟨b0, b1⟩, ⟨b2, b3⟩, b4, b5⟩ := isPlane_trm HB.out hkL
      have hl12 := (isPlane_len HB.out).2
      have HS : Hid (tTextTo l (k + 1) = tTextTo l k ++ (((((itoT (l.getD k (0, 0, 0)).2.2 ++ ⟨#[58]⟩) ++ itoT (l.getD k (0, 0, 0)).1) ++ ⟨#[44]⟩) ++ itoT (l.getD k (0, 0, 0)).2.1) ++ ⟨#[59]⟩)) := Lib.hid rfl
      have hz := tTextTo_size HB.out k (by omega)
      obtain ⟨b, o, rfl, _, c0, c1, c2⟩ := (h.below (hbel.mono hB)).at_ hlt
      generalize (l.getD k (0, 0, 0)).1 = x at *
      generalize (l.getD k (0, 0, 0)).2.1 = y at *
      generalize (l.getD k (0, 0, 0)).2.2 = z at *
      have hx := itoT_size x
      have hy := itoT_size y
      have hw := itoT_size z
      have hx2 : (itoT x).size ≤ 1002 := by omega
      have hy2 : (itoT y).size ≤ 1002 := by omega
      have hw2 : (itoT z).size ≤ 1000002 := by omega
      have hz2 : (tTextTo l k).size ≤ 24000000 := by omega
      clear hx hy hz hw
      have CX := fun w => l1NumI_c x (by omega) (by omega) w
      have CY := fun w => l1NumI_c y (by omega) (by omega) w
      have CZ := fun w => l1Int_c z (by omega) (by omega) w
      have P := Bx.new wr [.int .i64 x, .int .i64 y, .int .i64 z] 35
      have bel := bel_alloc hbel (.cells #[.int .i64 x, .int .i64 y, .int .i64 z] 35)
      generalize itoT x = X at *
      generalize itoT y = Y at *
      generalize itoT z = Z at *
      generalize tTextTo l k = T at *
      clear hbel
      go_wp2_with fail
      generalize wr.alloc (.cells #[.int .i64 x, .int .i64 y, .int .i64 z] 35) = wz at *
      generalize wr.heap.size = S at *
      have P := P.drew
      have bel := bel.drew
      clear c0 c1 c2
      have p0 := P.at0
      have p1 := P.at1
      have p2 := P.at2
      have n1 : ¬ 9223372036854775807 < Z.size + 1 := by omega
      have n2 : ¬ 9223372036854775807 < Z.size + 1 + X.size := by omega
      have n3 : ¬ 9223372036854775807 < Z.size + 1 + X.size + 1 := by omega
      have n4 : ¬ 9223372036854775807 < Z.size + 1 + X.size + 1 + Y.size := by omega
      have n5 : ¬ 9223372036854775807 < Z.size + 1 + X.size + 1 + Y.size + 1 := by omega
      have n6 : ¬ 9223372036854775807 < T.size + (Z.size + 1 + X.size + 1 + Y.size + 1) := by omega
      go_region_held3 (fun w' => w'.cell? ⟨S, 0, none⟩ = some (.int .i64 x) ∧ w'.cell? ⟨S, 1, none⟩ = some (.int .i64 y) ∧ w'.cell? ⟨S, 2, none⟩ = some (.int .i64 z)) (exact ⟨P.at0, P.at1, P.at2⟩)
        (first
        | (go_at_call 35; (with_reducible refine Calls.mono (CX _) ?_); rintro e v1 ⟨rfl, hb1⟩; have P := P.go hb1; have bel := bel_step bel hb1; have p0 := P.at0; have p1 := P.at1; have p2 := P.at2)
        | (go_at_call 35; (with_reducible refine Calls.mono (CY _) ?_); rintro e v1 ⟨rfl, hb1⟩; have P := P.go hb1; have bel := bel_step bel hb1; have p0 := P.at0; have p1 := P.at1; have p2 := P.at2)
        | (go_at_call 34; (with_reducible refine Calls.mono (CZ _) ?_); rintro e v1 ⟨rfl, hb1⟩; have P := P.go hb1; have bel := bel_step bel hb1; have p0 := P.at0; have p1 := P.at1; have p2 := P.at2))
      all_goals
        go_wp2_with fail
        go_roundw
        case rel => exact ⟨k + 1, by omega, by go_num, by rw [HS.out]; first | done | rfl, bel⟩
        case measure => simp [intOf]; omega
    · have HE : Hid (tTextTo l k = tText l) := Lib.hid (by rw [tText, HL.out, show n = k from by omega])
      rw [HE.out]
      go_wp2_with fail
      go_ret
      exact ⟨rfl, hbel⟩
set_option maxHeartbeats 4000000 in
set_option maxRecDepth 8192 in
theorem planeText_c (A : Option Addr) (n c : Nat) (l : List Trm) (B : Nat) (w : World) (h : RdT w B A n l) (hB : B ≤ w.heap.size) (hb : isPlane l = true) (ht : TabOk w) :
    Calls Tryd.prog 13 #[.slice A n c] w fun e w' => e = .returned (.string (tText l)) ∧ Below w.heap.size w w' := by
  have HL := Lib.hid h.len
  have HB := Lib.hid hb
  clear hb
  go_enter Tryd.func13, Tryd.ntmps13
  go_wp2_with fail
  go_loopw [3, 8] (fun s i wr => ∃ k : Nat, k ≤ n ∧ i = .int .i64 k ∧ s = .string (tTextTo l k) ∧ Below w.heap.size w wr) (fun _ i _ => n - (intOf i).toNat)
  case atStart => exact ⟨0, Nat.zero_le _, rfl, rfl, Below.refl _ _⟩
  case round =>
    obtain ⟨k, hk, rfl, rfl, hbel⟩ := hrel
    by_cases hlt : k < n
    · have hkL : k < l.length := by rw [HL.out]; exact hlt
      obtain ⟨⟨b0, b1⟩, ⟨b2, b3⟩, b4, b5⟩ := isPlane_trm HB.out hkL
      have hl12 := (isPlane_len HB.out).2
      have HS : Hid (tTextTo l (k + 1) = tTextTo l k ++ (((((itoT (l.getD k (0, 0, 0)).2.2 ++ ⟨#[58]⟩) ++ itoT (l.getD k (0, 0, 0)).1) ++ ⟨#[44]⟩) ++ itoT (l.getD k (0, 0, 0)).2.1) ++ ⟨#[59]⟩)) := Lib.hid rfl
      have hz := tTextTo_size HB.out k (by omega)
      obtain ⟨b, o, rfl, _, c0, c1, c2⟩ := (h.below (hbel.mono hB)).at_ hlt
      generalize (l.getD k (0, 0, 0)).1 = x at *
      generalize (l.getD k (0, 0, 0)).2.1 = y at *
      generalize (l.getD k (0, 0, 0)).2.2 = z at *
      have hx := itoT_size x
      have hy := itoT_size y
      have hw := itoT_size z
      have hx2 : (itoT x).size ≤ 1002 := by omega
      have hy2 : (itoT y).size ≤ 1002 := by omega
      have hw2 : (itoT z).size ≤ 1000002 := by omega
      have hz2 : (tTextTo l k).size ≤ 24000000 := by omega
      clear hx hy hz hw
      have CX := fun w ht => itoa_c x (by omega) (by omega) w ht
      have CY := fun w ht => itoa_c y (by omega) (by omega) w ht
      have CZ := fun w ht => itoa_c z (by omega) (by omega) w ht
      have P := Bx.new wr [.int .i64 x, .int .i64 y, .int .i64 z] 35
      have bel := bel_alloc hbel (.cells #[.int .i64 x, .int .i64 y, .int .i64 z] 35)
      generalize itoT x = X at *
      generalize itoT y = Y at *
      generalize itoT z = Z at *
      generalize tTextTo l k = T at *
      clear hbel
      go_wp2_with fail
      generalize wr.alloc (.cells #[.int .i64 x, .int .i64 y, .int .i64 z] 35) = wz at *
      generalize wr.heap.size = S at *
      have P := P.drew
      have bel := bel.drew
      clear c0 c1 c2
      have p0 := P.at0
      have p1 := P.at1
      have p2 := P.at2
      have n1 : ¬ 9223372036854775807 < Z.size + 1 := by omega
      have n2 : ¬ 9223372036854775807 < Z.size + 1 + X.size := by omega
      have n3 : ¬ 9223372036854775807 < Z.size + 1 + X.size + 1 := by omega
      have n4 : ¬ 9223372036854775807 < Z.size + 1 + X.size + 1 + Y.size := by omega
      have n5 : ¬ 9223372036854775807 < Z.size + 1 + X.size + 1 + Y.size + 1 := by omega
      have n6 : ¬ 9223372036854775807 < T.size + (Z.size + 1 + X.size + 1 + Y.size + 1) := by omega
      go_region_held3 (fun w' => w'.cell? ⟨S, 0, none⟩ = some (.int .i64 x) ∧ w'.cell? ⟨S, 1, none⟩ = some (.int .i64 y) ∧ w'.cell? ⟨S, 2, none⟩ = some (.int .i64 z)) (exact ⟨P.at0, P.at1, P.at2⟩)
        (first
        | (go_at_call 27; (with_reducible refine Calls.mono (CX _ (ht.go bel)) ?_); rintro e v1 ⟨rfl, hb1⟩; have P := P.go hb1; have bel := bel_step bel hb1; have p0 := P.at0; have p1 := P.at1; have p2 := P.at2)
        | (go_at_call 27; (with_reducible refine Calls.mono (CY _ (ht.go bel)) ?_); rintro e v1 ⟨rfl, hb1⟩; have P := P.go hb1; have bel := bel_step bel hb1; have p0 := P.at0; have p1 := P.at1; have p2 := P.at2)
        | (go_at_call 27; (with_reducible refine Calls.mono (CZ _ (ht.go bel)) ?_); rintro e v1 ⟨rfl, hb1⟩; have P := P.go hb1; have bel := bel_step bel hb1; have p0 := P.at0; have p1 := P.at1; have p2 := P.at2))
      all_goals
        go_wp2_with fail
        go_roundw
        case rel => exact ⟨k + 1, by omega, by go_num, by rw [HS.out]; first | done | rfl, bel⟩
        case measure => simp [intOf]; omega
    · have HE : Hid (tTextTo l k = tText l) := Lib.hid (by rw [tText, HL.out, show n = k from by omega])
      rw [HE.out]
      go_wp2_with fail
      go_ret
      exact ⟨rfl, hbel⟩
end Go.Proofs.YtmhbkljnilonkaaDoor
