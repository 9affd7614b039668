/- Decimal numerals and texts cut at a byte, in plain Lean: what is read of a canonical numeral is its number. No program in sight. -/
import Derived.Test.YtkblommonimpfaaDoorPure
import Derived.Lib.ItoaLen
import Derived.Lib.AtoiTie
import Derived.Lib.SplitLaws
namespace Go.Proofs.YtkblommonimpfaaDoor
open Go.RowKit
abbrev Bs := List UInt8
theorem dd_low {u : Nat} (h : u < 10) : Lib.decDigits u = [UInt8.ofNat (48 + u)] := by rw [Lib.decDigits, dif_pos h]
theorem dd_high {u : Nat} (h : ¬ u < 10) : Lib.decDigits u = Lib.decDigits (u / 10) ++ [UInt8.ofNat (48 + u % 10)] := by rw [Lib.decDigits, dif_neg h]
theorem chr_nat {d : Nat} (h : d < 10) : (UInt8.ofNat (48 + d)).toNat = 48 + d := by simp; omega
theorem decFrom_app : ∀ (l m : Bs) (acc : Nat), Lib.decFrom acc (l ++ m) = (Lib.decFrom acc l).bind fun a => Lib.decFrom a m
  | [], m, acc => rfl
  | c :: l, m, acc => by
    simp only [List.cons_append, Lib.decFrom]
    cases Lib.digitVal c with
    | none => rfl
    | some d => exact decFrom_app l m _
theorem decFrom_one {acc d : Nat} (h : d < 10) : Lib.decFrom acc [UInt8.ofNat (48 + d)] = some (acc * 10 + d) := by
  simp only [Lib.decFrom, Lib.digitVal, chr_nat h]
  rw [if_pos (by omega)]
  simp
theorem decFrom_dd (u : Nat) : Lib.decFrom 0 (Lib.decDigits u) = some u := by
  induction u using Nat.strongRecOn with
  | _ u ih =>
    by_cases h : u < 10
    · rw [dd_low h, decFrom_one h]
      simp
    · rw [dd_high h, decFrom_app, ih (u / 10) (by omega)]
      simp only [Option.bind_some]
      rw [decFrom_one (by omega)]
      congr 1
      omega
theorem dd_ne (u : Nat) : Lib.decDigits u ≠ [] := by
  by_cases h : u < 10
  · rw [dd_low h]; simp
  · rw [dd_high h]; simp
theorem dd_digit (u : Nat) : ∀ c ∈ Lib.decDigits u, 48 ≤ c.toNat ∧ c.toNat ≤ 57 := by
  induction u using Nat.strongRecOn with
  | _ u ih =>
    intro c hc
    by_cases h : u < 10
    · rw [dd_low h] at hc
      have hc := List.mem_singleton.1 hc
      rw [hc, chr_nat h]
      omega
    · rw [dd_high h] at hc
      rcases List.mem_append.1 hc with hc | hc
      · exact ih (u / 10) (by omega) c hc
      · have hc := List.mem_singleton.1 hc
        rw [hc, chr_nat (by omega)]
        omega
theorem dd_head (u : Nat) : ∀ c r, Lib.decDigits u = c :: r → c.toNat = 48 → r = [] ∧ u = 0 := by
  induction u using Nat.strongRecOn with
  | _ u ih =>
    intro c r e hc
    by_cases h : u < 10
    · rw [dd_low h] at e
      injection e with e1 e2
      refine ⟨e2.symm, ?_⟩
      rw [← e1, chr_nat h] at hc
      omega
    · rw [dd_high h] at e
      cases hd : Lib.decDigits (u / 10) with
      | nil => exact absurd hd (dd_ne _)
      | cons c' r' =>
        rw [hd] at e
        simp only [List.cons_append, List.cons.injEq] at e
        have := ih (u / 10) (by omega) c' r' hd (by rw [e.1]; exact hc)
        omega
theorem dd_len (u : Nat) : ∀ k, 1 ≤ k → u < 10 ^ k → (Lib.decDigits u).length ≤ k := by
  induction u using Nat.strongRecOn with
  | _ u ih =>
    intro k hk hu
    by_cases h : u < 10
    · rw [dd_low h]; simpa using hk
    · rw [dd_high h, List.length_append]
      obtain ⟨j, rfl⟩ : ∃ j, k = j + 1 := ⟨k - 1, by omega⟩
      rw [Nat.pow_succ] at hu
      have hj : 1 ≤ j := by
        rcases Nat.eq_zero_or_pos j with rfl | hj
        · simp at hu; omega
        · exact hj
      have := ih (u / 10) (by omega) j hj (by omega)
      simp
      exact this
/-- The reference's readers of a numeral: at most m digits, no leading 0; -1 where there is none. -/
def optI : Option Nat → Int
  | some v => (v : Int)
  | none => -1
def rdU (m : Nat) (l : Bs) : Int :=
  if (1 ≤ l.length ∧ l.length ≤ m) ∧ ¬ (l.head? = some 48 ∧ 1 < l.length) then optI (Lib.decFrom 0 l) else -1
theorem rdU_ge (m : Nat) (l : Bs) : -1 ≤ rdU m l := by
  unfold rdU
  split
  · cases Lib.decFrom 0 l with
    | none => exact Int.le_refl _
    | some v => show (-1 : Int) ≤ (v : Int); omega
  · omega
theorem rdU_lt (m : Nat) (l : Bs) : rdU m l < 10 ^ m := by
  unfold rdU
  have h0 : (0 : Int) < 10 ^ m := by exact_mod_cast Nat.pos_of_ne_zero (by simp)
  split
  · rename_i h
    cases hv : Lib.decFrom 0 l with
    | none => show (-1 : Int) < _; omega
    | some v =>
      have h1 := Lib.decFrom_lt l 0 v hv
      have h2 : 10 ^ l.length ≤ 10 ^ m := Nat.pow_le_pow_right (by decide) h.1.2
      have h3 : v < 10 ^ m := by simp at h1; omega
      show (v : Int) < _
      exact_mod_cast h3
  · omega
theorem rdU_dd {m u : Nat} (hm : 1 ≤ m) (hu : u < 10 ^ m) : rdU m (Lib.decDigits u) = u := by
  have h1 := dd_len u m hm hu
  have h2 : 1 ≤ (Lib.decDigits u).length := List.length_pos_iff.2 (dd_ne u)
  have h3 : ¬ ((Lib.decDigits u).head? = some 48 ∧ 1 < (Lib.decDigits u).length) := by
    rintro ⟨h3, h4⟩
    cases hd : Lib.decDigits u with
    | nil => exact dd_ne u hd
    | cons c r =>
      rw [hd] at h3 h4
      have hc : c = 48 := by simpa using h3
      have := (dd_head u c r hd (by rw [hc]; rfl)).1
      rw [this] at h4
      simp at h4
  unfold rdU
  rw [if_pos ⟨⟨h2, h1⟩, h3⟩, decFrom_dd]
  rfl
theorem itoa_pos {n : Int} (h : 0 ≤ n) : Lib.itoa n = Lib.decDigits n.toNat := by
  obtain ⟨u, rfl⟩ : ∃ u : Nat, n = u := ⟨n.toNat, by omega⟩
  rw [Lib.itoa_nonneg]
  rfl
theorem itoa_neg' {n : Int} (h : n < 0) : Lib.itoa n = 45 :: Lib.decDigits n.natAbs := by
  obtain ⟨u, hu, rfl⟩ : ∃ u : Nat, 1 ≤ u ∧ n = -(u : Int) := ⟨n.natAbs, by omega, by omega⟩
  rw [Lib.itoa_neg u hu]
  congr 2
  omega
/-- The library's reading of a canonical numeral. -/
theorem atoi_itoa {n : Int} (h : -1000000000 ≤ n ∧ n ≤ 1000000000) : Lib.atoiAll (Lib.itoa n) = .ok n := by
  have hl := Lib.itoa_length_le n (by omega) (by omega)
  by_cases hn : n < 0
  · have e := itoa_neg' hn
    have hl2 : (Lib.decDigits n.natAbs).length ≤ 10 := dd_len _ 10 (by omega) (by omega)
    rw [e, Lib.atoiAll_short _ (by simp; omega)]
    have h2 : (Lib.decDigits n.natAbs).isEmpty = false := by
      cases hd : Lib.decDigits n.natAbs with
      | nil => exact absurd hd (dd_ne _)
      | cons _ _ => rfl
    simp only [Lib.atoi, Lib.decNat, h2, decFrom_dd]
    simp only [beq_self_eq_true, if_true, Bool.false_eq_true, if_false, Option.map_some, Lib.NumEnd.ofOption]
    congr 1
    omega
  · have e := itoa_pos (show 0 ≤ n by omega)
    have hl2 : (Lib.decDigits n.toNat).length ≤ 10 := dd_len _ 10 (by omega) (by omega)
    rw [e, Lib.atoiAll_short _ (by omega)]
    have hdig := dd_digit n.toNat
    have hval := decFrom_dd n.toNat
    cases hd : Lib.decDigits n.toNat with
    | nil => exact absurd hd (dd_ne _)
    | cons c r =>
      rw [hd] at hdig hval
      have hc := hdig c (by simp)
      have h1 : (c == 45) = false := by
        rw [beq_eq_false_iff_ne]
        intro e
        rw [e] at hc
        have : (45 : UInt8).toNat = 45 := rfl
        omega
      have h2 : (c == 43) = false := by
        rw [beq_eq_false_iff_ne]
        intro e
        rw [e] at hc
        have : (43 : UInt8).toNat = 43 := rfl
        omega
      simp only [Lib.atoi, h1, h2, Bool.false_eq_true, if_false, Lib.decNat, List.isEmpty_cons, hval, Option.map_some, Lib.NumEnd.ofOption]
      congr 1
      omega
theorem itoa_ne (n : Int) : Lib.itoa n ≠ [] := by
  by_cases hn : n < 0
  · rw [itoa_neg' hn]; simp
  · rw [itoa_pos (by omega)]; exact dd_ne _
/-- The bytes of a numeral. -/
theorem itoa_byte (n : Int) : ∀ c ∈ Lib.itoa n, c.toNat = 45 ∨ 48 ≤ c.toNat ∧ c.toNat ≤ 57 := by
  intro c hc
  by_cases hn : n < 0
  · rw [itoa_neg' hn] at hc
    rcases List.mem_cons.1 hc with rfl | hc
    · exact .inl rfl
    · exact .inr (dd_digit _ c hc)
  · rw [itoa_pos (by omega)] at hc
    exact .inr (dd_digit _ c hc)
theorem itoa_inj {n m : Int} (hn : -1000000000 ≤ n ∧ n ≤ 1000000000) (hm : -1000000000 ≤ m ∧ m ≤ 1000000000) (h : Lib.itoa n = Lib.itoa m) : n = m := by
  have h1 := atoi_itoa hn
  rw [h, atoi_itoa hm] at h1
  injection h1 with h1
  exact h1.symm
/-- The text of a number; what the reference makes of a text; the number of a text, if there is one. -/
def nTxt (n : Int) : Bs := if n = 1000000000 then [105, 110, 102] else Lib.itoa n
def nuVal (l : Bs) : Int := if l = [105, 110, 102] then 1000000000 else if 1 < l.length ∧ l.head? = some 45 then - rdU 10 l.tail else rdU 10 l
def canN (l : Bs) : Option Int := if l = [105, 110, 102] then some 1000000000 else match Lib.atoiAll l with
  | .ok n => if isFin n = true ∧ Lib.itoa n = l then some n else none
  | _ => none
theorem nuVal_itoa {n : Int} (h : -1000000 ≤ n ∧ n ≤ 1000000) : nuVal (Lib.itoa n) = n := by
  unfold nuVal
  by_cases hn : n < 0
  · have e := itoa_neg' hn
    have h1 : ¬ Lib.itoa n = [105, 110, 102] := by rw [e]; simp
    have h2 : 1 ≤ (Lib.decDigits n.natAbs).length := List.length_pos_iff.2 (dd_ne _)
    rw [if_neg h1, if_pos ⟨by rw [e]; simp; omega, by rw [e]; rfl⟩, e, List.tail_cons, rdU_dd (by omega) (by omega)]
    omega
  · have e := itoa_pos (show 0 ≤ n by omega)
    have hdig := dd_digit n.toNat
    cases hd : Lib.decDigits n.toNat with
    | nil => exact absurd hd (dd_ne _)
    | cons c r =>
      have hc := hdig c (by rw [hd]; simp)
      have h1 : ¬ Lib.itoa n = [105, 110, 102] := by
        rw [e, hd]
        intro h
        injection h with h _
        rw [h] at hc
        have : (105 : UInt8).toNat = 105 := rfl
        omega
      have h2 : ¬ (1 < (Lib.itoa n).length ∧ (Lib.itoa n).head? = some 45) := by
        rintro ⟨_, h⟩
        rw [e, hd] at h
        have : c = 45 := by simpa using h
        rw [this] at hc
        have : (45 : UInt8).toNat = 45 := rfl
        omega
      rw [if_neg h1, if_neg h2, e, rdU_dd (by omega) (by omega)]
      omega
theorem nu_can (l : Bs) : (if isNum (nuVal l) = true ∧ nTxt (nuVal l) = l then some (nuVal l) else none) = canN l := by
  by_cases hi : l = [105, 110, 102]
  · subst hi
    rfl
  · by_cases h : isNum (nuVal l) = true ∧ nTxt (nuVal l) = l
    · rw [if_pos h]
      obtain ⟨h1, h2⟩ := h
      have hne : nuVal l ≠ 1000000000 := by
        intro e
        rw [e] at h2
        exact hi h2.symm
      have hb : -1000000 ≤ nuVal l ∧ nuVal l ≤ 1000000 := by rw [isNum_iff] at h1; omega
      rw [nTxt, if_neg hne] at h2
      have ha := atoi_itoa (n := nuVal l) (by omega)
      rw [h2] at ha
      rw [canN, if_neg hi, ha]
      dsimp only
      rw [if_pos ⟨(isFin_iff _).2 hb, h2⟩]
    · rw [if_neg h, canN, if_neg hi]
      cases ha : Lib.atoiAll l
      rotate_left
      · rfl
      · rfl
      · rename_i n
        dsimp only
        by_cases h2 : isFin n = true ∧ Lib.itoa n = l
        · exfalso
          have hb := (isFin_iff n).1 h2.1
          have e := nuVal_itoa hb
          rw [h2.2] at e
          apply h
          rw [e]
          exact ⟨(isNum_iff n).2 (by omega), by rw [nTxt, if_neg (by omega)]; exact h2.2⟩
        · rw [if_neg h2]
theorem canN_some {l : Bs} {n : Int} (h : canN l = some n) : isNum n = true ∧ nTxt n = l := by
  rw [← nu_can] at h
  split at h
  · rename_i hh
    injection h with h
    rw [← h]
    exact hh
  · cases h
theorem canN_txt {n : Int} (h : isNum n = true) : canN (nTxt n) = some n := by
  unfold nTxt
  by_cases hn : n = 1000000000
  · rw [if_pos hn, canN, if_pos rfl, hn]
  · rw [if_neg hn]
    have hb : -1000000 ≤ n ∧ n ≤ 1000000 := by rw [isNum_iff] at h; omega
    have h1 := nu_can (Lib.itoa n)
    rw [nuVal_itoa hb] at h1
    rw [← h1, if_pos ⟨h, by rw [nTxt, if_neg hn]⟩]
theorem nTxt_byte (n : Int) : ∀ c ∈ nTxt n, c.toNat = 45 ∨ 48 ≤ c.toNat ∧ c.toNat ≤ 57 ∨ 102 ≤ c.toNat := by
  intro c hc
  unfold nTxt at hc
  split at hc
  · have : c = 105 ∨ c = 110 ∨ c = 102 := by simpa using hc
    rcases this with rfl | rfl | rfl
    · exact .inr (.inr (by decide))
    · exact .inr (.inr (by decide))
    · exact .inr (.inr (by decide))
  · rcases itoa_byte n c hc with h | h
    · exact .inl h
    · exact .inr (.inl h)
/-- A text cut at each byte b. -/
def spl (b : UInt8) : Bs → List Bs
  | [] => [[]]
  | c :: r => if c = b then [] :: spl b r else match spl b r with
    | [] => [[c]]
    | p :: ps => (c :: p) :: ps
theorem spl_ne (b : UInt8) : ∀ l, spl b l ≠ []
  | [] => by simp [spl]
  | c :: r => by
    rw [spl]
    split
    · simp
    · split <;> simp
theorem spl_none {b : UInt8} : ∀ {l : Bs}, b ∉ l → spl b l = [l]
  | [], _ => rfl
  | c :: r, h => by
    simp only [List.mem_cons, not_or] at h
    rw [spl, if_neg (fun e => h.1 e.symm), spl_none h.2]
theorem spl_hit {b : UInt8} : ∀ {p : Bs} (r : Bs), b ∉ p → spl b (p ++ b :: r) = p :: spl b r
  | [], r, _ => by rw [List.nil_append, spl, if_pos rfl]
  | c :: p, r, h => by
    simp only [List.mem_cons, not_or] at h
    rw [List.cons_append, spl, if_neg (fun e => h.1 e.symm), spl_hit r h.2]
theorem first_of {b : UInt8} : ∀ l : Bs, b ∉ l ∨ ∃ p r, b ∉ p ∧ l = p ++ b :: r
  | [] => .inl (by simp)
  | c :: r => by
    by_cases h : c = b
    · exact .inr ⟨[], r, by simp, by rw [h]; rfl⟩
    · rcases first_of (b := b) r with h2 | ⟨p, q, h2, h3⟩
      · exact .inl (by simp only [List.mem_cons, not_or]; exact ⟨fun e => h e.symm, h2⟩)
      · exact .inr ⟨c :: p, q, by simp only [List.mem_cons, not_or]; exact ⟨fun e => h e.symm, h2⟩, by rw [h3]; rfl⟩
theorem index_no {b : UInt8} {l : Bs} (h : b ∉ l) : Lib.index l [b] = -1 := by
  refine Lib.index_none fun j hj => ?_
  unfold Lib.occAt
  rw [Bool.eq_false_iff]
  intro hp
  have := List.isPrefixOf_iff_prefix.1 hp
  exact h (List.mem_of_mem_drop (this.subset (by simp)))
theorem index_yes {b : UInt8} {p : Bs} (r : Bs) (h : b ∉ p) : Lib.index (p ++ b :: r) [b] = p.length := by
  refine Lib.index_first (by simp) ?_ fun j hj => ?_
  · unfold Lib.occAt
    rw [List.drop_left]
    simp
  · unfold Lib.occAt
    rw [Bool.eq_false_iff]
    intro hp
    have h1 := List.isPrefixOf_iff_prefix.1 hp
    rw [List.drop_append_of_le_length (by omega)] at h1
    cases hd : p.drop j with
    | nil =>
      have := congrArg List.length hd
      simp at this
      omega
    | cons c q =>
      rw [hd] at h1
      simp only [List.cons_append, List.cons_prefix_cons, List.nil_prefix, and_true] at h1
      exact h (List.mem_of_mem_drop (by rw [hd, h1]; simp))
/-- The library's split at one byte. -/
theorem split_spl (b : UInt8) : ∀ (m : Nat) (l : Bs), l.length ≤ m → Lib.splitK [b] 0 (Lib.count l [b]) l = spl b l
  | m, l, hm => by
    rcases first_of (b := b) l with h | ⟨p, r, h, rfl⟩
    · rw [Lib.count_miss (index_no h), spl_none h]
      rfl
    · have hi := index_yes r h
      rw [Lib.count_hit (by simp) hi, spl_hit r h]
      have hd : (p ++ b :: r).drop (p.length + [b].length) = r := by
        rw [List.drop_append]
        simp
      rw [hd, Nat.add_comm 1]
      unfold Lib.splitK
      rw [hi]
      rw [if_neg (by simp)]
      have e1 : ((p.length : Nat) : Int).toNat = p.length := by omega
      rw [e1, Nat.add_zero, List.take_left, hd]
      cases m with
      | zero => simp at hm
      | succ m => rw [split_spl b m r (by simp at hm; omega)]
/-- The library's cut at one byte. -/
theorem cut_hit {b : UInt8} {p : Bs} (r : Bs) (h : b ∉ p) : Lib.cut (p ++ b :: r) [b] = (p, r, true) := by
  unfold Lib.cut
  rw [index_yes r h, if_pos (by omega)]
  have e1 : ((p.length : Nat) : Int).toNat = p.length := by omega
  rw [e1, List.take_left, List.drop_append]
  simp
theorem cut_miss {b : UInt8} {l : Bs} (h : b ∉ l) : Lib.cut l [b] = (l, [], false) := by
  unfold Lib.cut
  rw [index_no h, if_neg (by omega)]
/-- The reference's split, place by place: what is laid when i bytes are passed, and where the open piece begins. -/
def splTo (b : UInt8) (l : Bs) : Nat → List Bs × Nat
  | 0 => ([], 0)
  | i + 1 => if l.getD i 0 = b then ((splTo b l i).1 ++ [(l.take i).drop (splTo b l i).2], i + 1) else splTo b l i
theorem splTo_le (b : UInt8) (l : Bs) : ∀ i, (splTo b l i).2 ≤ i ∧ (splTo b l i).1.length ≤ i
  | 0 => by simp [splTo]
  | i + 1 => by
    have := splTo_le b l i
    rw [splTo]
    split
    · simp; omega
    · omega
def glue (p : Bs) : List Bs → List Bs
  | [] => [p]
  | q :: qs => (p ++ q) :: qs
theorem spl_glue {b : UInt8} : ∀ {p : Bs} (l : Bs), b ∉ p → spl b (p ++ l) = glue p (spl b l)
  | [], l, _ => by
    cases h : spl b l with
    | nil => exact absurd h (spl_ne b l)
    | cons q qs => rw [List.nil_append, h]; rfl
  | c :: p, l, h => by
    simp only [List.mem_cons, not_or] at h
    rw [List.cons_append, spl, if_neg (fun e => h.1 e.symm), spl_glue l h.2]
    cases spl b l <;> rfl
theorem splTo_inv (b : UInt8) (l : Bs) : ∀ i, i ≤ l.length → spl b l = (splTo b l i).1 ++ glue ((l.take i).drop (splTo b l i).2) (spl b (l.drop i))
  | 0, _ => by
    cases h : spl b l with
    | nil => exact absurd h (spl_ne b l)
    | cons q qs => simp [splTo, glue, h]
  | i + 1, hi => by
    have ih := splTo_inv b l i (by omega)
    have hle := splTo_le b l i
    have hd : l.drop i = l.getD i 0 :: l.drop (i + 1) := by
      rw [List.drop_eq_getElem_cons (by omega)]
      simp [List.getD, List.getElem?_eq_getElem (show i < l.length by omega)]
    have ht : l.take (i + 1) = l.take i ++ [l.getD i 0] := by
      rw [List.take_succ_eq_append_getElem (by omega)]
      simp [List.getD, List.getElem?_eq_getElem (show i < l.length by omega)]
    rw [ih, hd, splTo, spl]
    by_cases hb : l.getD i 0 = b
    · rw [if_pos hb, if_pos hb]
      dsimp only
      have : (l.take (i + 1)).drop (i + 1) = [] := by
        apply List.drop_eq_nil_of_le
        rw [List.length_take]
        omega
      rw [this]
      cases h : spl b (l.drop (i + 1)) with
      | nil => exact absurd h (spl_ne b _)
      | cons q qs => simp [glue]
    · rw [if_neg hb, if_neg hb, ht]
      rw [List.drop_append_of_le_length (by rw [List.length_take]; omega)]
      cases h : spl b (l.drop (i + 1)) with
      | nil => exact absurd h (spl_ne b _)
      | cons q qs => simp [glue]
theorem splTo_end (b : UInt8) (l : Bs) : spl b l = (splTo b l l.length).1 ++ [l.drop (splTo b l l.length).2] := by
  have := splTo_inv b l l.length (Nat.le_refl _)
  rw [List.drop_length, List.take_length] at this
  rw [this]
  simp [spl, glue]
end Go.Proofs.YtkblommonimpfaaDoor
