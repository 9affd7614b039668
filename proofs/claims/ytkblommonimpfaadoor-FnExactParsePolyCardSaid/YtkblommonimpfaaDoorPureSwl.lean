/- Lists read piece by piece, and whole numbers between one-byte separators, in plain Lean. No program in sight. -/
import Derived.Test.YtkblommonimpfaaDoorPureDec
namespace Go.Proofs.YtkblommonimpfaaDoor
open Go.RowKit
/-- All of a list, if each is there. -/
def allOf {α β : Type} (f : α → Option β) : List α → Option (List β)
  | [] => some []
  | x :: r => match f x with
    | none => none
    | some y => match allOf f r with
      | none => none
      | some ys => some (y :: ys)
theorem allOf_app {α β : Type} (f : α → Option β) : ∀ (l m : List α), allOf f (l ++ m) = match allOf f l with
    | none => none
    | some ys => match allOf f m with
      | none => none
      | some zs => some (ys ++ zs)
  | [], m => by
    simp only [List.nil_append, allOf]
    cases allOf f m <;> rfl
  | x :: r, m => by
    simp only [List.cons_append, allOf, allOf_app f r m]
    cases f x with
    | none => rfl
    | some y =>
      cases allOf f r with
      | none => rfl
      | some ys =>
        cases allOf f m <;> rfl
theorem allOf_snoc {α β : Type} {f : α → Option β} {l : List α} {ys : List β} {x : α} {y : β} (h : allOf f l = some ys) (k : f x = some y) : allOf f (l ++ [x]) = some (ys ++ [y]) := by
  rw [allOf_app, h]
  simp only [allOf, k]
theorem allOf_fail {α β : Type} {f : α → Option β} {x : α} (k : f x = none) : ∀ {l : List α}, x ∈ l → allOf f l = none
  | y :: r, h => by
    rw [allOf]
    rcases List.mem_cons.1 h with rfl | h
    · rw [k]
    · cases f y with
      | none => rfl
      | some z => simp only [allOf_fail k h]
theorem allOf_len {α β : Type} {f : α → Option β} : ∀ {l : List α} {ys : List β}, allOf f l = some ys → ys.length = l.length
  | [], ys, h => by
    simp only [allOf, Option.some.injEq] at h
    rw [← h]
    rfl
  | x :: r, ys, h => by
    rw [allOf] at h
    cases hx : f x with
    | none => rw [hx] at h; cases h
    | some y =>
      cases hr : allOf f r with
      | none => rw [hx, hr] at h; cases h
      | some zs =>
        rw [hx, hr] at h
        simp only [Option.some.injEq] at h
        rw [← h, List.length_cons, List.length_cons, allOf_len hr]
theorem allOf_map {α β γ : Type} {f : α → Option β} {g : γ → α} {k : γ → β} : ∀ {l : List γ}, (∀ x ∈ l, f (g x) = some (k x)) → allOf f (l.map g) = some (l.map k)
  | [], _ => rfl
  | x :: r, h => by
    simp only [List.map_cons, allOf, h x (by simp), allOf_map (l := r) fun y hy => h y (by simp [hy])]
theorem itoa_no (n : Int) {b : UInt8} (h : ¬ (b.toNat = 45 ∨ 48 ≤ b.toNat ∧ b.toNat ≤ 57)) : b ∉ Lib.itoa n := fun hb => h (itoa_byte n b hb)
theorem no_of (b : UInt8) (n : Int) (h : b.toNat = 44 ∨ b.toNat = 58) : b ∉ Lib.itoa n := itoa_no n (by omega)
/-- Whole numbers with one-byte separators between them, as the program reads them: cut at each, the rest whole. -/
def swl : List UInt8 → Bs → Option (List Int)
  | [], r => match Lib.atoiAll r with
    | .ok v => some [v]
    | _ => none
  | b :: bs, s => match (Lib.cut s [b]).2.2 with
    | false => none
    | true => match Lib.atoiAll (Lib.cut s [b]).1 with
      | .ok v => match swl bs (Lib.cut s [b]).2.1 with
        | none => none
        | some vs => some (v :: vs)
      | _ => none
theorem swl_len : ∀ {bs : List UInt8} {s : Bs} {vs : List Int}, swl bs s = some vs → vs.length = bs.length + 1
  | [], s, vs, h => by
    rw [swl] at h
    split at h
    · injection h with h
      rw [← h]
      rfl
    · cases h
  | b :: bs, s, vs, h => by
    rw [swl] at h
    split at h
    · cases h
    · split at h
      · split at h
        · cases h
        · rename_i us hu
          injection h with h
          rw [← h, List.length_cons, List.length_cons, swl_len hu]
      · cases h
theorem swl_hit {b : UInt8} {bs : List UInt8} {s a r : Bs} {v : Int} {vs : List Int} (h : Lib.cut s [b] = (a, r, true)) (h1 : Lib.atoiAll a = .ok v) (h2 : swl bs r = some vs) : swl (b :: bs) s = some (v :: vs) := by
  rw [swl, h]
  dsimp only
  rw [h1]
  dsimp only
  rw [h2]
theorem swl_end {r : Bs} {v : Int} (h : Lib.atoiAll r = .ok v) : swl [] r = some [v] := by rw [swl, h]
end Go.Proofs.YtkblommonimpfaaDoor
