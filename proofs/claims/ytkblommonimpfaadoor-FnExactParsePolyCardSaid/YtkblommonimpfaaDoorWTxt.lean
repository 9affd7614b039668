/- Decimal texts: the reference's digits, the library's Itoa, against the plain digits. -/
import Derived.Test.YtkblommonimpfaaDoorNum
import Derived.Test.YtkblommonimpfaaDoorSort
import Derived.Lib.ItoaNum
import Derived.Laws.IdiomStrings
import Derived.StillTailTactics
import Derived.Deep.RegionHeld3
import Derived.Deep.RegionWith
namespace Go.Proofs.YtkblommonimpfaaDoor
open Go.RowKit Go.Shelf Go.Sort
/-- A text of bytes. -/
abbrev txt (l : List UInt8) : ByteArray := ⟨l.toArray⟩
theorem txt_app (l m : List UInt8) : txt l ++ txt m = txt (l ++ m) := by
  apply ByteArray.ext
  simp
def dig (u : Nat) : ByteArray := txt [UInt8.ofNat (48 + u)]
/-- The digits of u; the text of n. -/
def numT (u : Nat) : ByteArray := txt (Lib.decDigits u)
def itoT (n : Int) : ByteArray := txt (Lib.itoa n)
theorem decDigits_low {u : Nat} (h : u < 10) : Lib.decDigits u = [UInt8.ofNat (48 + u)] := by rw [Lib.decDigits, dif_pos h]
theorem decDigits_high {u : Nat} (h : ¬ u < 10) : Lib.decDigits u = Lib.decDigits (u / 10) ++ [UInt8.ofNat (48 + u % 10)] := by rw [Lib.decDigits, dif_neg h]
theorem digits_len (u : Nat) : (Lib.decDigits u).length ≤ u + 1 := by
  induction u using Nat.strongRecOn with
  | _ u ih =>
    by_cases h : u < 10
    · rw [decDigits_low h]; simp
    · rw [decDigits_high h, List.length_append]
      have := ih (u / 10) (by omega)
      simp
      omega
theorem conv1 (b u : Nat) (hu : u < 10) (w : World) (h : w.cell? ⟨b, 0, none⟩ = some (.int .u8 (48 + (u : Int)))) : (convert 52 9 (.slice (some ⟨b, 0, none⟩) 1 1)).run Tryd.prog w = .ok (.string (dig u)) w := by
  have := run_convert_bytes_back (P := Tryd.prog) w 52 9 _ ⟨b, 0, none⟩ 1 [UInt8.ofNat (48 + u)] Tryd.underlying52 (by exact Tryd.underlying5) Tryd.underlying9 (fun j hj => by
    obtain rfl : j = 0 := by simpa using hj
    rw [show (⟨b, 0, none⟩ : Addr).add 0 = ⟨b, 0, none⟩ from rfl, h]
    have h5 : (UInt8.ofNat (48 + u)).toNat = 48 + u := by simp; omega
    have h6 : ((([UInt8.ofNat (48 + u)] : List UInt8)[0]).toNat : Int) = 48 + (u : Int) := by
      show (((UInt8.ofNat (48 + u)).toNat : Nat) : Int) = _
      rw [h5]; omega
    rw [h6])
  exact this
set_option maxRecDepth 8192 in
theorem l1Num_low (N : Nat) (h : N < 10) (w : World) : Calls Tryd.prog 28 #[.int .i64 (N : Int)] w fun e w' => e = .returned (.string (numT N)) ∧ Below w.heap.size w w' := by
  have H : Hid (numT N = dig N) := Lib.hid (by rw [numT, decDigits_low h]; rfl)
  have h1 : (N : Int) < 10 := by omega
  have hc := conv1 w.heap.size N h
  go_enter Tryd.func28, Tryd.ntmps28
  go_wp2_with fail
  go_ret
  exact ⟨by rw [H.out]; rfl, bel_new _ _⟩
set_option maxRecDepth 8192 in
theorem l1Num_c (N : Nat) : N ≤ 4611686018427387904 → ∀ w, Calls Tryd.prog 28 #[.int .i64 (N : Int)] w fun e w' => e = .returned (.string (numT N)) ∧ Below w.heap.size w w' := by
  induction N using Nat.strongRecOn with
  | _ N ih =>
    intro hN w
    by_cases h : N < 10
    · exact l1Num_low N h w
    · have H : Hid (numT N = numT (N / 10) ++ dig (N % 10)) := Lib.hid (by rw [numT, numT, dig, txt_app, ← decDigits_high h])
      have hlen := digits_len (N / 10)
      have hsz : (numT (N / 10)).size ≤ 4611686018427387904 := by show (Lib.decDigits (N / 10)).toArray.size ≤ _; simp; omega
      have hs1 : (dig (N % 10)).size = 1 := rfl
      have C := fun w => ih (N / 10) (by omega) (by omega) w
      clear ih
      have h1 : ¬ (N : Int) < 10 := by omega
      have e1 : (N : Int).tdiv 10 = ((N / 10 : Nat) : Int) := by rw [Int.tdiv_eq_ediv_of_nonneg (by omega)]; omega
      have e2 : (N : Int).tmod 10 = ((N % 10 : Nat) : Int) := by rw [Int.tmod_eq_emod_of_nonneg (by omega)]; omega
      have hm : N % 10 < 10 := by omega
      clear hlen
      have e5 : IntKind.i64.wrap ((N / 10 : Nat) : Int) = ((N / 10 : Nat) : Int) := IntWalk.i64_in _ (by omega)
      have e6 : IntKind.i64.wrap ((N % 10 : Nat) : Int) = ((N % 10 : Nat) : Int) := IntWalk.i64_in _ (by omega)
      have e7 : IntKind.i64.wrap (48 + ((N % 10 : Nat) : Int)) = 48 + ((N % 10 : Nat) : Int) := IntWalk.i64_in _ (by omega)
      have e8 : IntKind.u8.wrap (48 + ((N % 10 : Nat) : Int)) = 48 + ((N % 10 : Nat) : Int) := wraps_u8 _ (by omega) (by have : (2 : Int) ^ 8 = 256 := rfl; omega)
      have e3 : (N : Int) / 10 = ((N / 10 : Nat) : Int) := by omega
      have e4 : (N : Int) % 10 = ((N % 10 : Nat) : Int) := by omega
      generalize N / 10 = Q at *
      generalize numT Q = D at *
      generalize N % 10 = r at *
      have hc := fun b w => conv1 b r hm w
      go_enter Tryd.func28, Tryd.ntmps28
      go_wp2_with fail
      have bel := (Below.refl w.heap.size w).drew
      go_region_with
        (first
        | (go_at_call 28; (with_reducible refine Calls.mono (C _) ?_); rintro e v1 ⟨rfl, hb1⟩; have bel : Below w.heap.size w v1 := (by first | exact bel_step bel hb1 | exact bel_step (bel_alloc bel _) hb1); (first | have Z := (Bx.new _ [.int .u8 (48 + (r : Int))] _).go hb1 | have Z := (Bx.new _ [.int .u8 (48 + (r : Int))] _).drew.go hb1 | skip); (try change Bx v1 w.heap.size [.int .u8 (48 + (r : Int))] at Z); (try have z0 := Z.at0)))
      all_goals
        go_wp2_with fail
        go_ret
        refine ⟨by rw [H.out]; rfl, ?_⟩
        repeat (first | exact bel | refine bel_alloc ?_ _)
theorem itoT_neg {n : Int} (h : n < 0) : itoT n = ⟨#[45]⟩ ++ numT n.natAbs := by
  rw [itoT, Lib.itoa, if_pos h, numT]
  apply ByteArray.ext
  simp
theorem itoT_pos {n : Int} (h : ¬ n < 0) : itoT n = numT n.toNat := by rw [itoT, Lib.itoa, if_neg h, numT]
theorem numT_size (u : Nat) : (numT u).size ≤ u + 1 := by
  have := digits_len u
  show (Lib.decDigits u).toArray.size ≤ _
  simpa using this
theorem itoT_size (n : Int) : (itoT n).size ≤ n.natAbs + 2 := by
  by_cases h : n < 0
  · rw [itoT_neg h]
    have := numT_size n.natAbs
    have e : (⟨#[45]⟩ ++ numT n.natAbs : ByteArray).size = 1 + (numT n.natAbs).size := by rw [ByteArray.size_append]; rfl
    omega
  · rw [itoT_pos h]
    have := numT_size n.toNat
    omega
theorem l1Int_c (n : Int) (h1 : -1000000000 ≤ n) (h2 : n ≤ 1000000000) (w : World) : Calls Tryd.prog 21 #[.int .i64 n] w fun e w' => e = .returned (.string (itoT n)) ∧ Below w.heap.size w w' := by
  by_cases hn : n < 0
  · have H := Lib.hid (itoT_neg hn)
    have hs := numT_size n.natAbs
    have e1 : IntKind.i64.wrap (-n) = ((n.natAbs : Nat) : Int) := by rw [IntWalk.i64_in _ (by omega)]; omega
    have e2 : -n = ((n.natAbs : Nat) : Int) := by omega
    have C := fun w => l1Num_c n.natAbs (by omega) w
    have hb : n.natAbs ≤ 1000000000 := by omega
    generalize n.natAbs = U at *
    have hb2 : (numT U).size ≤ 1000000001 := by omega
    clear hs
    generalize numT U = D at *
    go_enter Tryd.func21, Tryd.ntmps21
    go_wp2_with fail
    refine (C _).mono ?_; rintro e u1 ⟨rfl, hb1⟩
    go_wp2_with fail
    go_ret
    exact ⟨by rw [H.out]; rfl, hb1⟩
  · have H := Lib.hid (itoT_pos hn)
    have e2 : n = ((n.toNat : Nat) : Int) := by omega
    have C := fun w => l1Num_c n.toNat (by omega) w
    rw [← e2] at C
    clear e2
    go_enter Tryd.func21, Tryd.ntmps21
    go_wp2_with fail
    refine (C _).mono ?_; rintro e u1 ⟨rfl, hb1⟩
    go_wp2_with fail
    go_ret
    exact ⟨by rw [H.out]; rfl, hb1⟩
/-- The library's table of powers reads as it is listed. -/
def TabOk (w : World) : Prop := Lib.TabIs Tryd.prog w "internal/strconv.uint64pow10" .u64 Lib.pow10Tab
theorem TabOk.go {w w' : World} (h : TabOk w) (hb : Below w.heap.size w w') : TabOk w' := by
  unfold TabOk Lib.TabIs World.var? at *
  cases hg : Tryd.prog.globalNamed "internal/strconv.uint64pow10" with
  | none => rw [hg] at h; cases h
  | some g =>
    rw [hg] at h
    simp only [Option.bind_some] at h ⊢
    have hlt : g < w.heap.size := by
      apply Decidable.byContradiction
      intro hc
      rw [Array.getElem?_eq_none (by omega)] at h
      cases h
    rw [hb.block g hlt]
    exact h
theorem bel_grow (w : World) (k : Nat) (os : Array Obj) : Below w.heap.size w (grow (w.drewN k) os) :=
  ⟨rfl, rfl, rfl, by simp [grow], fun g hg => heap_grow_old _ _ hg⟩
theorem itoa_c (n : Int) (h1 : -1000000000 ≤ n) (h2 : n ≤ 1000000000) (w : World) (ht : TabOk w) : Calls Tryd.prog 25 #[.int .i64 n] w fun e w' => e = .returned (.string (itoT n)) ∧ Below w.heap.size w w' :=
  Calls.mono (Any.strconv_Itoa Tryd.itoa n (by omega) (by omega) w ht) (by rintro e w' ⟨rfl, k, os, rfl⟩; exact ⟨rfl, bel_grow w k os⟩)
end Go.Proofs.YtkblommonimpfaaDoor
