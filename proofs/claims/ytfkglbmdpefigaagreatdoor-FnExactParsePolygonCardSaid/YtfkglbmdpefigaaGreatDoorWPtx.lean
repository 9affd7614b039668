/- The law on a polygon's text: both packages' functions, and the walk of the law. -/
import Derived.Test.YtfkglbmdpefigaaGreatDoorWGood
import Derived.Test.YtfkglbmdpefigaaGreatDoorWTxt
import Derived.Test.YtfkglbmdpefigaaGreatDoorMemP
import Derived.Deep.RegionWith
namespace Go.Proofs.YtfkglbmdpefigaaGreatDoor
open Go.RowKit
def pTextTo (l : List Pnt) : Nat → ByteArray
  | 0 => ⟨#[]⟩
  | k + 1 => pTextTo l k ++ (((itoT (l.getD k (0, 0)).1 ++ ⟨#[44]⟩) ++ itoT (l.getD k (0, 0)).2) ++ ⟨#[59]⟩)
def pText (l : List Pnt) : ByteArray := pTextTo l l.length
def pTextOf (l : List Pnt) : ByteArray × Bool := if isPgn l then (pText l, true) else (⟨#[]⟩, false)
theorem pTextTo_size {l : List Pnt} (h : ∀ t ∈ l, bdP t) : ∀ k, k ≤ l.length → (pTextTo l k).size ≤ 3000 * k
  | 0, _ => by show (0 : Nat) ≤ _; omega
  | k + 1, hk => by
    have ih := pTextTo_size h k (by omega)
    obtain ⟨⟨b0, b1⟩, b2, b3⟩ := bdP_at h (show k < l.length by omega)
    have hx := itoT_size (l.getD k (0, 0)).1
    have hy := itoT_size (l.getD k (0, 0)).2
    rw [pTextTo]
    simp only [ByteArray.size_append]
    have e1 : (⟨#[44]⟩ : ByteArray).size = 1 := rfl
    have e2 : (⟨#[59]⟩ : ByteArray).size = 1 := rfl
    omega
set_option maxHeartbeats 4000000 in
set_option maxRecDepth 8192 in
theorem pyText_c (A : Option Addr) (n c : Nat) (l : List Pnt) (B : Nat) (w : World) (h : RdP w B A n l) (hB : B ≤ w.heap.size) (hb : ∀ t ∈ l, bdP t) (hn : n ≤ 3000) :
    Calls Tryz.prog 12 #[.slice A n c] w fun e w' => e = .returned (.string (pText l)) ∧ Below w.heap.size w w' := by
  have HL := Lib.hid h.len
  have HB := Lib.hid hb
  clear hb
  go_enter Tryz.func12, Tryz.ntmps12
  go_wp2_with fail
  go_loopw [3, 8] (fun s i wr => ∃ k : Nat, k ≤ n ∧ i = .int .i64 k ∧ s = .string (pTextTo l k) ∧ Below w.heap.size w wr) (fun _ i _ => n - (intOf i).toNat)
  case atStart => exact ⟨0, Nat.zero_le _, rfl, rfl, Below.refl _ _⟩
  case round =>
    obtain ⟨k, hk, rfl, rfl, hbel⟩ := hrel
    by_cases hlt : k < n
    · have hkL : k < l.length := by rw [HL.out]; exact hlt
      obtain ⟨⟨b0, b1⟩, b2, b3⟩ := bdP_at HB.out hkL
      have HS : Hid (pTextTo l (k + 1) = pTextTo l k ++ (((itoT (l.getD k (0, 0)).1 ++ ⟨#[44]⟩) ++ itoT (l.getD k (0, 0)).2) ++ ⟨#[59]⟩)) := Lib.hid rfl
      have hz := pTextTo_size HB.out k (by omega)
      obtain ⟨b, o, rfl, _, c0, c1⟩ := (h.below (hbel.mono hB)).at_ hlt
      generalize (l.getD k (0, 0)).1 = x at *
      generalize (l.getD k (0, 0)).2 = y at *
      have hx := itoT_size x
      have hy := itoT_size y
      have hx2 : (itoT x).size ≤ 1002 := by omega
      have hy2 : (itoT y).size ≤ 1002 := by omega
      have hz2 : (pTextTo l k).size ≤ 9000000 := by omega
      clear hx hy hz
      have CX := fun w => l1Int_c x (by omega) (by omega) w
      have CY := fun w => l1Int_c y (by omega) (by omega) w
      have P := Bx.new wr [.int .i64 x, .int .i64 y] 32
      have bel := bel_alloc hbel (.cells #[.int .i64 x, .int .i64 y] 32)
      generalize itoT x = X at *
      generalize itoT y = Y at *
      generalize pTextTo l k = T at *
      clear hbel
      go_wp2_with fail
      generalize wr.alloc (.cells #[.int .i64 x, .int .i64 y] 32) = wz at *
      generalize wr.heap.size = S at *
      have P := P.drew
      have bel := bel.drew
      clear c0 c1
      have p0 := P.at0
      have p1 := P.at1
      go_region_with
        (first
        | (go_at_call 22; (with_reducible refine Calls.mono (CX _) ?_); rintro e v1 ⟨rfl, hb1⟩; have P := P.go hb1; have bel := bel_step bel hb1; have p0 := P.at0; have p1 := P.at1)
        | (go_at_call 22; (with_reducible refine Calls.mono (CY _) ?_); rintro e v1 ⟨rfl, hb1⟩; have P := P.go hb1; have bel := bel_step bel hb1; have p0 := P.at0; have p1 := P.at1))
      all_goals
        go_wp2_with fail
        go_roundw
        case rel => exact ⟨k + 1, by omega, by go_num, by rw [HS.out]; first | done | rfl, bel⟩
        case measure => simp [intOf]; omega
    · have HE : Hid (pTextTo l k = pText l) := Lib.hid (by rw [pText, HL.out, show n = k from by omega])
      rw [HE.out]
      go_wp2_with fail
      go_ret
      exact ⟨rfl, hbel⟩
set_option maxHeartbeats 4000000 in
set_option maxRecDepth 8192 in
theorem polygonText_c (A : Option Addr) (n c : Nat) (l : List Pnt) (B : Nat) (w : World) (h : RdP w B A n l) (hB : B ≤ w.heap.size) (hb : ∀ t ∈ l, bdP t) (hn : n ≤ 3000) (ht : TabOk w) :
    Calls Tryz.prog 16 #[.slice A n c] w fun e w' => e = .returned (.string (pText l)) ∧ Below w.heap.size w w' := by
  have HL := Lib.hid h.len
  have HB := Lib.hid hb
  clear hb
  go_enter Tryz.func16, Tryz.ntmps16
  go_wp2_with fail
  go_loopw [3, 8] (fun s i wr => ∃ k : Nat, k ≤ n ∧ i = .int .i64 k ∧ s = .string (pTextTo l k) ∧ Below w.heap.size w wr) (fun _ i _ => n - (intOf i).toNat)
  case atStart => exact ⟨0, Nat.zero_le _, rfl, rfl, Below.refl _ _⟩
  case round =>
    obtain ⟨k, hk, rfl, rfl, hbel⟩ := hrel
    by_cases hlt : k < n
    · have hkL : k < l.length := by rw [HL.out]; exact hlt
      obtain ⟨⟨b0, b1⟩, b2, b3⟩ := bdP_at HB.out hkL
      have HS : Hid (pTextTo l (k + 1) = pTextTo l k ++ (((itoT (l.getD k (0, 0)).1 ++ ⟨#[44]⟩) ++ itoT (l.getD k (0, 0)).2) ++ ⟨#[59]⟩)) := Lib.hid rfl
      have hz := pTextTo_size HB.out k (by omega)
      obtain ⟨b, o, rfl, _, c0, c1⟩ := (h.below (hbel.mono hB)).at_ hlt
      generalize (l.getD k (0, 0)).1 = x at *
      generalize (l.getD k (0, 0)).2 = y at *
      have hx := itoT_size x
      have hy := itoT_size y
      have hx2 : (itoT x).size ≤ 1002 := by omega
      have hy2 : (itoT y).size ≤ 1002 := by omega
      have hz2 : (pTextTo l k).size ≤ 9000000 := by omega
      clear hx hy hz
      have CX := fun w ht => itoa_c x (by omega) (by omega) w ht
      have CY := fun w ht => itoa_c y (by omega) (by omega) w ht
      have P := Bx.new wr [.int .i64 x, .int .i64 y] 32
      have bel := bel_alloc hbel (.cells #[.int .i64 x, .int .i64 y] 32)
      generalize itoT x = X at *
      generalize itoT y = Y at *
      generalize pTextTo l k = T at *
      clear hbel
      go_wp2_with fail
      generalize wr.alloc (.cells #[.int .i64 x, .int .i64 y] 32) = wz at *
      generalize wr.heap.size = S at *
      have P := P.drew
      have bel := bel.drew
      clear c0 c1
      have p0 := P.at0
      have p1 := P.at1
      go_region_with
        (first
        | (go_at_call 30; (with_reducible refine Calls.mono (CX _ (ht.go bel)) ?_); rintro e v1 ⟨rfl, hb1⟩; have P := P.go hb1; have bel := bel_step bel hb1; have p0 := P.at0; have p1 := P.at1)
        | (go_at_call 30; (with_reducible refine Calls.mono (CY _ (ht.go bel)) ?_); rintro e v1 ⟨rfl, hb1⟩; have P := P.go hb1; have bel := bel_step bel hb1; have p0 := P.at0; have p1 := P.at1))
      all_goals
        go_wp2_with fail
        go_roundw
        case rel => exact ⟨k + 1, by omega, by go_num, by rw [HS.out]; first | done | rfl, bel⟩
        case measure => simp [intOf]; omega
    · have HE : Hid (pTextTo l k = pText l) := Lib.hid (by rw [pText, HL.out, show n = k from by omega])
      rw [HE.out]
      go_wp2_with fail
      go_ret
      exact ⟨rfl, hbel⟩
end Go.Proofs.YtfkglbmdpefigaaGreatDoor
