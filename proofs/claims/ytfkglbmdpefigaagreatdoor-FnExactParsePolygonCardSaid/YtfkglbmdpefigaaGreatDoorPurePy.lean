/- Texts of polygons, in plain Lean: how each package reads one, and that both read the same. No program in sight. -/
import Derived.Test.YtfkglbmdpefigaaGreatDoorPureSwl
import Derived.Test.YtfkglbmdpefigaaGreatDoorPurePts
namespace Go.Proofs.YtfkglbmdpefigaaGreatDoor
open Go.RowKit
/-- One point's text, and a list's. -/
def pPiece (t : Pnt) : Bs := Lib.itoa t.1 ++ 44 :: Lib.itoa t.2
def pTxt : List Pnt → Bs
  | [] => []
  | t :: r => pPiece t ++ 59 :: pTxt r
theorem pPiece_no (t : Pnt) : (59 : UInt8) ∉ pPiece t := by
  have h59 : (59 : UInt8).toNat = 59 := rfl
  have h1 := itoa_no t.1 (b := 59) (by omega)
  have h2 := itoa_no t.2 (b := 59) (by omega)
  unfold pPiece
  simp only [List.mem_append, List.mem_cons, not_or]
  exact ⟨h1, by decide, h2⟩
theorem spl_pTxt : ∀ T : List Pnt, spl 59 (pTxt T) = T.map pPiece ++ [[]]
  | [] => rfl
  | t :: r => by rw [pTxt, spl_hit _ (pPiece_no t), spl_pTxt r]; rfl
/-- How the reference reads one coordinate, and one point. -/
def pyVal (l : Bs) : Int := if (1 < l.length ∧ l.head? = some 45) ∧ 0 ≤ rdU 6 l.tail then - rdU 6 l.tail else if 0 ≤ rdU 6 l then rdU 6 l else 101
def pieceSP (l : Bs) : Option Pnt := match spl 44 l with
  | [a, b] => some (pyVal a, pyVal b)
  | _ => none
/-- How the program reads one point. -/
def twoP : Option (List Int) → Option Pnt
  | some [i, j] => some (i, j)
  | _ => none
def pieceIP (l : Bs) : Option Pnt := twoP (swl [44] l)
def pPgnS (l : Bs) : List Pnt × Bool := if 41 < (spl 59 l).length then ([], false) else match allOf pieceSP (spl 59 l).dropLast with
  | none => ([], false)
  | some T => if isPgn T = true ∧ pTxt T = l then (T, true) else ([], false)
def pPgnI (l : Bs) : List Pnt × Bool := match allOf pieceIP (spl 59 l).dropLast with
  | none => ([], false)
  | some T => if ((spl 59 l).getLast? = some [] ∧ isPgn T = true) ∧ pTxt T = l then (T, true) else ([], false)
theorem pyVal_itoa {n : Int} (h : -100 ≤ n ∧ n ≤ 100) : pyVal (Lib.itoa n) = n := by
  unfold pyVal
  by_cases hn : n < 0
  · rw [itoa_neg' hn]
    have h2 : 1 ≤ (Lib.decDigits n.natAbs).length := List.length_pos_iff.2 (dd_ne _)
    have h3 : rdU 6 (Lib.decDigits n.natAbs) = (n.natAbs : Int) := rdU_dd (by omega) (by omega)
    simp only [List.tail_cons, List.length_cons, List.head?_cons, h3]
    rw [if_pos ⟨⟨by omega, trivial⟩, by omega⟩]
    omega
  · have hp : 0 ≤ n := by omega
    have h3 : rdU 6 (Lib.decDigits n.toNat) = (n.toNat : Int) := rdU_dd (by omega) (by omega)
    have h4 : ¬ (Lib.decDigits n.toNat).head? = some 45 := by
      intro e
      cases hd : Lib.decDigits n.toNat with
      | nil => exact dd_ne _ hd
      | cons c r =>
        rw [hd] at e
        have hc : c = 45 := by simpa using e
        have := dd_digit n.toNat c (by rw [hd]; simp)
        rw [hc] at this
        have h45 : (45 : UInt8).toNat = 45 := rfl
        omega
    rw [itoa_pos hp, if_neg (fun h => h4 h.1.2), h3, if_pos (by omega)]
    omega
theorem pieceSP_of {t : Pnt} (h : (-100 ≤ t.1 ∧ t.1 ≤ 100) ∧ -100 ≤ t.2 ∧ t.2 ≤ 100) : pieceSP (pPiece t) = some t := by
  have e2 : spl 44 (pPiece t) = [Lib.itoa t.1, Lib.itoa t.2] := by
    unfold pPiece
    rw [spl_hit _ (no_of 44 _ (.inl rfl)), spl_none (no_of 44 _ (.inl rfl))]
  unfold pieceSP
  rw [e2]
  dsimp only
  rw [pyVal_itoa h.1, pyVal_itoa h.2]
theorem pieceIP_of {t : Pnt} (h : (-100 ≤ t.1 ∧ t.1 ≤ 100) ∧ -100 ≤ t.2 ∧ t.2 ≤ 100) : pieceIP (pPiece t) = some t := by
  have e2 : Lib.cut (pPiece t) [44] = (Lib.itoa t.1, Lib.itoa t.2, true) := cut_hit _ (no_of 44 _ (.inl rfl))
  unfold pieceIP
  rw [swl_hit e2 (atoi_itoa (by omega)) (swl_end (atoi_itoa (by omega)))]
  rfl
theorem pgn_pts {T : List Pnt} (h : isPgn T = true) : arePts T = true := by
  unfold isPgn at h
  rw [Bool.and_eq_true] at h
  exact h.1
theorem pgn_bds {T : List Pnt} (h : isPgn T = true) : ∀ t ∈ T, (-100 ≤ t.1 ∧ t.1 ≤ 100) ∧ -100 ≤ t.2 ∧ t.2 ≤ 100 := fun t ht => (okPt_iff t).1 (arePts_ok (pgn_pts h) t ht)
theorem pgnS_of {T : List Pnt} (h : isPgn T = true) : pPgnS (pTxt T) = (T, true) := by
  have hb := pgn_bds h
  have hl := (arePts_len (pgn_pts h)).2
  have e := spl_pTxt T
  unfold pPgnS
  rw [if_neg (by rw [e, List.length_append, List.length_map]; simp; omega), e, List.dropLast_concat, allOf_map (g := pPiece) (k := id) fun t ht => pieceSP_of (hb t ht)]
  dsimp only
  rw [List.map_id, if_pos ⟨h, rfl⟩]
theorem pgnI_of {T : List Pnt} (h : isPgn T = true) : pPgnI (pTxt T) = (T, true) := by
  have hb := pgn_bds h
  have e := spl_pTxt T
  unfold pPgnI
  rw [e, List.dropLast_concat, allOf_map (g := pPiece) (k := id) fun t ht => pieceIP_of (hb t ht)]
  dsimp only
  rw [List.map_id, if_pos ⟨⟨by simp, h⟩, rfl⟩]
theorem pgnS_cases (l : Bs) : pPgnS l = ([], false) ∨ ∃ T, pPgnS l = (T, true) ∧ isPgn T = true ∧ pTxt T = l := by
  unfold pPgnS
  split
  · exact .inl rfl
  · split
    · exact .inl rfl
    · rename_i T _
      by_cases h : isPgn T = true ∧ pTxt T = l
      · rw [if_pos h]
        exact .inr ⟨T, rfl, h⟩
      · rw [if_neg h]
        exact .inl rfl
theorem pgnI_cases (l : Bs) : pPgnI l = ([], false) ∨ ∃ T, pPgnI l = (T, true) ∧ isPgn T = true ∧ pTxt T = l := by
  unfold pPgnI
  split
  · exact .inl rfl
  · rename_i T _
    by_cases h : ((spl 59 l).getLast? = some [] ∧ isPgn T = true) ∧ pTxt T = l
    · rw [if_pos h]
      exact .inr ⟨T, rfl, h.1.2, h.2⟩
    · rw [if_neg h]
      exact .inl rfl
/-- Both read the same. -/
theorem pgn_same (l : Bs) : pPgnI l = pPgnS l := by
  rcases pgnS_cases l with h | ⟨T, h, h1, h2⟩
  · rcases pgnI_cases l with k | ⟨T, k, k1, k2⟩
    · rw [h, k]
    · have := pgnS_of k1
      rw [k2, h] at this
      cases this
  · have := pgnI_of h1
    rw [h2] at this
    rw [this, h]
end Go.Proofs.YtfkglbmdpefigaaGreatDoor
