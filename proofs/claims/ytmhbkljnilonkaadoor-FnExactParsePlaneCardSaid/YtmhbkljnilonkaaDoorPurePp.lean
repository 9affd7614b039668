/- Texts of terms, in plain Lean: how each package reads one, and that both read the same. No program in sight. -/
import Derived.Test.YtmhbkljnilonkaaDoorPureDec
import Derived.Test.YtmhbkljnilonkaaDoorPurePlane
namespace Go.Proofs.YtmhbkljnilonkaaDoor
open Go.RowKit
/-- All of a list, if each is there. -/
def allOf {α β : Type} (f : α → Option β) : List α → Option (List β)
  | [] => some []
  | x :: r => match f x with
    | none => none
    | some y => match allOf f r with
      | none => none
      | some ys => some (y :: ys)
theorem allOf_app {α β : Type} (f : α → Option β) : ∀ (l m : List α), allOf f (l ++ m) = match allOf f l with
    | none => none
    | some ys => match allOf f m with
      | none => none
      | some zs => some (ys ++ zs)
  | [], m => by
    simp only [List.nil_append, allOf]
    cases allOf f m <;> rfl
  | x :: r, m => by
    simp only [List.cons_append, allOf, allOf_app f r m]
    cases f x with
    | none => rfl
    | some y =>
      cases allOf f r with
      | none => rfl
      | some ys =>
        cases allOf f m <;> rfl
theorem allOf_snoc {α β : Type} {f : α → Option β} {l : List α} {ys : List β} {x : α} {y : β} (h : allOf f l = some ys) (k : f x = some y) : allOf f (l ++ [x]) = some (ys ++ [y]) := by
  rw [allOf_app, h]
  simp only [allOf, k]
theorem allOf_fail {α β : Type} {f : α → Option β} {x : α} (k : f x = none) : ∀ {l : List α}, x ∈ l → allOf f l = none
  | y :: r, h => by
    rw [allOf]
    rcases List.mem_cons.1 h with rfl | h
    · rw [k]
    · cases f y with
      | none => rfl
      | some z => simp only [allOf_fail k h]
theorem allOf_len {α β : Type} {f : α → Option β} : ∀ {l : List α} {ys : List β}, allOf f l = some ys → ys.length = l.length
  | [], ys, h => by
    simp only [allOf, Option.some.injEq] at h
    rw [← h]
    rfl
  | x :: r, ys, h => by
    rw [allOf] at h
    cases hx : f x with
    | none => rw [hx] at h; cases h
    | some y =>
      cases hr : allOf f r with
      | none => rw [hx, hr] at h; cases h
      | some zs =>
        rw [hx, hr] at h
        simp only [Option.some.injEq] at h
        rw [← h, List.length_cons, List.length_cons, allOf_len hr]
theorem allOf_map {α β γ : Type} {f : α → Option β} {g : γ → α} {k : γ → β} : ∀ {l : List γ}, (∀ x ∈ l, f (g x) = some (k x)) → allOf f (l.map g) = some (l.map k)
  | [], _ => rfl
  | x :: r, h => by
    simp only [List.map_cons, allOf, h x (by simp), allOf_map (l := r) fun y hy => h y (by simp [hy])]
/-- One term's text, and a list's. -/
def tPiece (t : Trm) : Bs := Lib.itoa t.2.2 ++ 58 :: (Lib.itoa t.1 ++ 44 :: Lib.itoa t.2.1)
def tTxt : List Trm → Bs
  | [] => []
  | t :: r => tPiece t ++ 59 :: tTxt r
theorem itoa_no (n : Int) {b : UInt8} (h : ¬ (b.toNat = 45 ∨ 48 ≤ b.toNat ∧ b.toNat ≤ 57)) : b ∉ Lib.itoa n := fun hb => h (itoa_byte n b hb)
theorem piece_no (t : Trm) : (59 : UInt8) ∉ tPiece t := by
  have h59 : (59 : UInt8).toNat = 59 := rfl
  have h1 := itoa_no t.2.2 (b := 59) (by omega)
  have h2 := itoa_no t.1 (b := 59) (by omega)
  have h3 := itoa_no t.2.1 (b := 59) (by omega)
  unfold tPiece
  simp only [List.mem_append, List.mem_cons, not_or]
  exact ⟨h1, by decide, h2, by decide, h3⟩
theorem spl_txt : ∀ T : List Trm, spl 59 (tTxt T) = T.map tPiece ++ [[]]
  | [] => rfl
  | t :: r => by rw [tTxt, spl_hit _ (piece_no t), spl_txt r]; rfl
/-- How the reference reads one term. -/
def pieceS (l : Bs) : Option Trm := match spl 58 l with
  | [a, b] => match spl 44 b with
    | [i, j] => match canN a with
      | some c => some (rdU 6 i, rdU 6 j, c)
      | none => none
    | _ => none
  | _ => none
/-- Whole numbers with one-byte separators between them, as the program reads them: cut at each, the rest whole. -/
def swl : List UInt8 → Bs → Option (List Int)
  | [], r => match Lib.atoiAll r with
    | .ok v => some [v]
    | _ => none
  | b :: bs, s => match (Lib.cut s [b]).2.2 with
    | false => none
    | true => match Lib.atoiAll (Lib.cut s [b]).1 with
      | .ok v => match swl bs (Lib.cut s [b]).2.1 with
        | none => none
        | some vs => some (v :: vs)
      | _ => none
theorem swl_len : ∀ {bs : List UInt8} {s : Bs} {vs : List Int}, swl bs s = some vs → vs.length = bs.length + 1
  | [], s, vs, h => by
    rw [swl] at h
    split at h
    · injection h with h
      rw [← h]
      rfl
    · cases h
  | b :: bs, s, vs, h => by
    rw [swl] at h
    split at h
    · cases h
    · split at h
      · split at h
        · cases h
        · rename_i us hu
          injection h with h
          rw [← h, List.length_cons, List.length_cons, swl_len hu]
      · cases h
theorem swl_hit {b : UInt8} {bs : List UInt8} {s a r : Bs} {v : Int} {vs : List Int} (h : Lib.cut s [b] = (a, r, true)) (h1 : Lib.atoiAll a = .ok v) (h2 : swl bs r = some vs) : swl (b :: bs) s = some (v :: vs) := by
  rw [swl, h]
  dsimp only
  rw [h1]
  dsimp only
  rw [h2]
theorem swl_end {r : Bs} {v : Int} (h : Lib.atoiAll r = .ok v) : swl [] r = some [v] := by rw [swl, h]
/-- How the program reads one term. -/
def threeT : Option (List Int) → Option Trm
  | some [c, i, j] => some (i, j, c)
  | _ => none
def pieceI (l : Bs) : Option Trm := threeT (swl [58, 44] l)
def pParseS (l : Bs) : List Trm × Bool := if 13 < (spl 59 l).length then ([], false) else match allOf pieceS (spl 59 l).dropLast with
  | none => ([], false)
  | some T => if isPlane T = true ∧ tTxt T = l then (T, true) else ([], false)
def pParseI (l : Bs) : List Trm × Bool := match allOf pieceI (spl 59 l).dropLast with
  | none => ([], false)
  | some T => if ((spl 59 l).getLast? = some [] ∧ isPlane T = true) ∧ tTxt T = l then (T, true) else ([], false)
theorem no_of (b : UInt8) (n : Int) (h : b.toNat = 44 ∨ b.toNat = 58) : b ∉ Lib.itoa n := itoa_no n (by omega)
theorem pieceS_of {t : Trm} (h1 : 0 ≤ t.1 ∧ t.1 ≤ 1000) (h2 : 0 ≤ t.2.1 ∧ t.2.1 ≤ 1000) (h3 : -1000000 ≤ t.2.2 ∧ t.2.2 ≤ 1000000) : pieceS (tPiece t) = some t := by
  have e1 : spl 58 (tPiece t) = [Lib.itoa t.2.2, Lib.itoa t.1 ++ 44 :: Lib.itoa t.2.1] := by
    unfold tPiece
    rw [spl_hit _ (no_of 58 _ (.inr rfl)), spl_none]
    simp only [List.mem_append, List.mem_cons, not_or]
    exact ⟨no_of 58 _ (.inr rfl), by decide, no_of 58 _ (.inr rfl)⟩
  have e2 : spl 44 (Lib.itoa t.1 ++ 44 :: Lib.itoa t.2.1) = [Lib.itoa t.1, Lib.itoa t.2.1] := by
    rw [spl_hit _ (no_of 44 _ (.inl rfl)), spl_none (no_of 44 _ (.inl rfl))]
  have e3 : canN (Lib.itoa t.2.2) = some t.2.2 := by
    have := canN_txt (n := t.2.2) ((isNum_iff _).2 (.inl h3))
    rwa [nTxt, if_neg (by omega)] at this
  have e4 : rdU 6 (Lib.itoa t.1) = t.1 := by
    rw [itoa_pos h1.1, rdU_dd (by omega) (by omega)]
    omega
  have e5 : rdU 6 (Lib.itoa t.2.1) = t.2.1 := by
    rw [itoa_pos h2.1, rdU_dd (by omega) (by omega)]
    omega
  unfold pieceS
  rw [e1]
  dsimp only
  rw [e2]
  dsimp only
  rw [e3]
  dsimp only
  rw [e4, e5]
theorem pieceI_of {t : Trm} (h1 : 0 ≤ t.1 ∧ t.1 ≤ 1000) (h2 : 0 ≤ t.2.1 ∧ t.2.1 ≤ 1000) (h3 : -1000000 ≤ t.2.2 ∧ t.2.2 ≤ 1000000) : pieceI (tPiece t) = some t := by
  have e1 : Lib.cut (tPiece t) [58] = (Lib.itoa t.2.2, Lib.itoa t.1 ++ 44 :: Lib.itoa t.2.1, true) := cut_hit _ (no_of 58 _ (.inr rfl))
  have e2 : Lib.cut (Lib.itoa t.1 ++ 44 :: Lib.itoa t.2.1) [44] = (Lib.itoa t.1, Lib.itoa t.2.1, true) := cut_hit _ (no_of 44 _ (.inl rfl))
  unfold pieceI
  rw [swl_hit e1 (atoi_itoa (by omega)) (swl_hit e2 (atoi_itoa (by omega)) (swl_end (atoi_itoa (by omega))))]
  rfl
theorem trm_bds {T : List Trm} (h : isPlane T = true) : ∀ t ∈ T, (0 ≤ t.1 ∧ t.1 ≤ 1000) ∧ (0 ≤ t.2.1 ∧ t.2.1 ≤ 1000) ∧ (-1000000 ≤ t.2.2 ∧ t.2.2 ≤ 1000000) := by
  intro t ht
  obtain ⟨k, hk, e⟩ := List.getElem_of_mem ht
  obtain ⟨b0, b1, b2⟩ := isPlane_trm h hk
  have e2 : T.getD k (0, 0, 0) = t := by simp [List.getD, List.getElem?_eq_getElem hk, e]
  rw [e2] at b0 b1 b2
  omega
theorem parseS_of {T : List Trm} (h : isPlane T = true) : pParseS (tTxt T) = (T, true) := by
  have hb := trm_bds h
  have hl := (isPlane_len h).2
  have e := spl_txt T
  unfold pParseS
  rw [if_neg (by rw [e, List.length_append, List.length_map]; simp; omega), e, List.dropLast_concat, allOf_map (g := tPiece) (k := id) fun t ht => pieceS_of (hb t ht).1 (hb t ht).2.1 (hb t ht).2.2]
  dsimp only
  rw [List.map_id, if_pos ⟨h, rfl⟩]
theorem parseI_of {T : List Trm} (h : isPlane T = true) : pParseI (tTxt T) = (T, true) := by
  have hb := trm_bds h
  have e := spl_txt T
  unfold pParseI
  rw [e, List.dropLast_concat, allOf_map (g := tPiece) (k := id) fun t ht => pieceI_of (hb t ht).1 (hb t ht).2.1 (hb t ht).2.2]
  dsimp only
  rw [List.map_id, if_pos ⟨⟨by simp, h⟩, rfl⟩]
theorem parseS_cases (l : Bs) : pParseS l = ([], false) ∨ ∃ T, pParseS l = (T, true) ∧ isPlane T = true ∧ tTxt T = l := by
  unfold pParseS
  split
  · exact .inl rfl
  · split
    · exact .inl rfl
    · rename_i T _
      by_cases h : isPlane T = true ∧ tTxt T = l
      · rw [if_pos h]
        exact .inr ⟨T, rfl, h⟩
      · rw [if_neg h]
        exact .inl rfl
theorem parseI_cases (l : Bs) : pParseI l = ([], false) ∨ ∃ T, pParseI l = (T, true) ∧ isPlane T = true ∧ tTxt T = l := by
  unfold pParseI
  split
  · exact .inl rfl
  · rename_i T _
    by_cases h : ((spl 59 l).getLast? = some [] ∧ isPlane T = true) ∧ tTxt T = l
    · rw [if_pos h]
      exact .inr ⟨T, rfl, h.1.2, h.2⟩
    · rw [if_neg h]
      exact .inl rfl
/-- Both read the same. -/
theorem parse_same (l : Bs) : pParseI l = pParseS l := by
  rcases parseS_cases l with h | ⟨T, h, h1, h2⟩
  · rcases parseI_cases l with k | ⟨T, k, k1, k2⟩
    · rw [h, k]
    · have := parseS_of k1
      rw [k2, h] at this
      cases this
  · have := parseI_of h1
    rw [h2] at this
    rw [this, h]
end Go.Proofs.YtmhbkljnilonkaaDoor
