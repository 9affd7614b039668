/- The needless terms of a polynomial, in plain Lean: by heights of the lower side, and by the strict inequality between two corners; the two are one. No program in sight. -/
import Derived.Test.YteadfobnoapdhaaPureCorn
import Derived.Test.YteadfobnoapdhaaPureFrac
import Derived.Test.YteadfobnoapdhaaPureHull
namespace Go.Proofs.Yteadfobnoapdhaa
/-- The point of an exponent. -/
def ptOf (p : List Int) (i : Nat) : Pnt := ((i : Int), p.getD i 0)
theorem turn_pt (p : List Int) (a b k : Nat) : turnP (ptOf p a) (ptOf p b) (ptOf p k) = ((b : Int) - a) * (p.getD k 0 - p.getD a 0) - (p.getD b 0 - p.getD a 0) * ((k : Int) - a) := rfl
theorem stays_turn (p : List Int) (a b k : Nat) : stays p a b k = !decide (turnP (ptOf p a) (ptOf p b) (ptOf p k) ≤ 0) := by
  rw [turn_pt, stays, Int.mul_comm ((b : Int) - a)]
  by_cases h : (p.getD b 0 - p.getD a 0) * ((k : Int) - a) < (p.getD k 0 - p.getD a 0) * ((b : Int) - a)
  · rw [decide_eq_true h, decide_eq_false (by omega)]; rfl
  · rw [decide_eq_false h, decide_eq_true (by omega)]; rfl
theorem popTo_map (p : List Int) (k : Nat) : ∀ s : List Nat, (popTo p k s).map (ptOf p) = hpop (ptOf p k) (s.map (ptOf p))
  | [] => rfl
  | [_] => rfl
  | b :: a :: s => by
    rw [popTo, stays_turn]
    simp only [List.map_cons, hpop]
    by_cases h : turnP (ptOf p a) (ptOf p b) (ptOf p k) ≤ 0
    · rw [decide_eq_true h, if_pos h]
      exact popTo_map p k (a :: s)
    · rw [decide_eq_false h, if_neg h]
      rfl
theorem fold_map (p : List Int) : ∀ (l s : List Nat), (l.foldl (stepC p) s).map (ptOf p) = (l.map (ptOf p)).foldl hstep (s.map (ptOf p))
  | [], _ => rfl
  | k :: l, s => by
    rw [List.foldl_cons, List.map_cons, List.foldl_cons, fold_map p l]
    rw [stepC, List.map_cons, popTo_map, hstep]
theorem cornTo_map (p : List Int) (k : Nat) : (cornTo p k).map (ptOf p) = halfS ((finTo p k).map (ptOf p)) := by rw [cornTo_fold, fold_map]; rfl
theorem finTo_sorted (p : List Int) : ∀ k, (finTo p k).Pairwise (· < ·)
  | 0 => by simp [finTo]
  | k + 1 => by
    rw [finTo]
    split
    · exact finTo_sorted p k
    · exact List.pairwise_append.2 ⟨finTo_sorted p k, by simp, fun a ha b hb => by
        obtain rfl : b = k := by simpa using hb
        exact finTo_lt p b a ha⟩
theorem finTo_mem (p : List Int) : ∀ k j, j ∈ finTo p k ↔ j < k ∧ p.getD j 0 ≠ 1000000000
  | 0, j => by simp [finTo]
  | k + 1, j => by
    rw [finTo]
    by_cases h : p.getD k 0 = 1000000000
    · rw [if_pos h, finTo_mem p k j]
      constructor
      · rintro ⟨a, b⟩; exact ⟨by omega, b⟩
      · rintro ⟨a, b⟩
        refine ⟨?_, b⟩
        rcases Nat.lt_or_ge j k with c | c
        · exact c
        · obtain rfl : j = k := by omega
          exact absurd h b
    · rw [if_neg h, List.mem_append, finTo_mem p k j]
      constructor
      · rintro (⟨a, b⟩ | a)
        · exact ⟨by omega, b⟩
        · obtain rfl : j = k := by simpa using a
          exact ⟨by omega, h⟩
      · rintro ⟨a, b⟩
        rcases Nat.lt_or_ge j k with c | c
        · exact .inl ⟨c, b⟩
        · exact .inr (by simp; omega)
/-- Each two neighbours of a stack (the upper one first). -/
def AdjP (P : Nat → Nat → Prop) : List Nat → Prop
  | b :: a :: s => P b a ∧ AdjP P (a :: s)
  | _ => True
theorem adj_mono {P Q : Nat → Nat → Prop} (h : ∀ b a, P b a → Q b a) : ∀ {s : List Nat}, AdjP P s → AdjP Q s
  | [], _ => trivial
  | [_], _ => trivial
  | _ :: _ :: _, k => ⟨h _ _ k.1, adj_mono h k.2⟩
theorem adj_row {P : Nat → Nat → Prop} : ∀ {s : List Nat}, AdjP P s → ∀ n, n + 1 < s.length → P (s.reverse.getD (n + 1) 0) (s.reverse.getD n 0)
  | [], _, n, h => by simp at h
  | [_], _, n, h => by simp at h
  | b :: a :: s, k, n, h => by
    rw [List.reverse_cons]
    simp only [List.length_cons] at h
    by_cases hn : n + 1 < (a :: s).length
    · rw [getD_app_l (by rw [List.length_reverse]; exact hn), getD_app_l (by rw [List.length_reverse]; omega)]
      exact adj_row k.2 n hn
    · simp only [List.length_cons] at hn
      obtain rfl : n = s.length := by omega
      rw [getD_app_r (by simp), getD_app_l (by simp)]
      rw [List.reverse_cons, getD_app_r (by simp)]
      simpa using k.1
theorem adj_lt (p : List Int) : ∀ {s : List Nat}, CH (s.map (ptOf p)) → AdjP (fun b a => a < b) s ∨ ∃ b a, ltP (ptOf p a) (ptOf p b) ∧ ¬ a < b
  | [], _ => .inl trivial
  | [_], _ => .inl trivial
  | b :: a :: s, h => by
    have h1 : ltP (ptOf p a) (ptOf p b) := ch_head h
    by_cases hab : a < b
    · rcases adj_lt p (s := a :: s) (ch_tail h) with h2 | h2
      · exact .inl ⟨hab, h2⟩
      · exact .inr h2
    · exact .inr ⟨b, a, h1, hab⟩
theorem ltP_pt {p : List Int} {a b : Nat} (h : ltP (ptOf p a) (ptOf p b)) : a < b := by
  unfold ltP Pos sub2 ptOf at h
  simp only at h
  rcases h with h | ⟨h, h2⟩
  · omega
  · obtain rfl : a = b := by omega
    omega
theorem pt_ltP {p : List Int} {a b : Nat} (h : a < b) : ltP (ptOf p a) (ptOf p b) := by
  unfold ltP Pos sub2 ptOf
  simp only
  omega
theorem ch_lt (p : List Int) {s : List Nat} (h : CH (s.map (ptOf p))) : AdjP (fun b a => a < b) s := by
  rcases adj_lt p h with h1 | ⟨b, a, h1, h2⟩
  · exact h1
  · exact absurd (ltP_pt h1) h2
theorem lft_adj (p : List Int) (j : Nat) : ∀ {s : List Nat}, Lft (ptOf p j) (s.map (ptOf p)) → AdjP (fun b a => 0 ≤ turnP (ptOf p a) (ptOf p b) (ptOf p j)) s
  | [], _ => trivial
  | [_], _ => trivial
  | _ :: _ :: _, h => ⟨h.1, lft_adj p j h.2⟩
/-- What the corners (rising) of a polynomial are. -/
structure Corn (p : List Int) (L : List Nat) : Prop where
  pos : 1 ≤ L.length
  lt : ∀ n, n + 1 < L.length → L.getD n 0 < L.getD (n + 1) 0
  fin : ∀ n, n < L.length → p.getD (L.getD n 0) 0 ≠ 1000000000
  top : L.getD (L.length - 1) 0 + 1 = p.length
  low : ∀ j, j < L.getD 0 0 → p.getD j 0 = 1000000000
  conv : ∀ n, n + 1 < L.length → ∀ j, j < p.length → p.getD j 0 ≠ 1000000000 → (p.getD (L.getD (n + 1) 0) 0 - p.getD (L.getD n 0) 0) * ((j : Int) - L.getD n 0) ≤ ((L.getD (n + 1) 0 : Nat) - (L.getD n 0 : Nat) : Int) * (p.getD j 0 - p.getD (L.getD n 0) 0)
def corners (p : List Int) : List Nat := (cornTo p p.length).reverse
theorem map_getLast {s : List Nat} {p : List Int} {a : Nat} (h : (s.map (ptOf p)).getLast? = some (ptOf p a)) : s.getLast? = some a := by
  rw [List.getLast?_map] at h
  cases hs : s.getLast? with
  | none => rw [hs] at h; simp at h
  | some b =>
    rw [hs] at h
    simp only [Option.map_some, Option.some.injEq] at h
    have := congrArg Prod.fst h
    simp only [ptOf] at this
    have : b = a := by omega
    rw [this]
theorem map_head {s : List Nat} {p : List Int} {a : Nat} (h : (s.map (ptOf p)).head? = some (ptOf p a)) : s.head? = some a := by
  cases s with
  | nil => simp at h
  | cons b s =>
    simp only [List.map_cons, List.head?_cons, Option.some.injEq] at h
    have := congrArg Prod.fst h
    simp only [ptOf] at this
    have : b = a := by omega
    rw [this]; rfl
theorem corn_of {p : List Int} (hp : isPol p = true) : Corn p (corners p) := by
  have hl := isPol_len hp
  have hb := isPol_last hp
  have hlast : p.length - 1 ∈ finTo p p.length := (finTo_mem p _ _).2 ⟨by omega, by omega⟩
  have hsort : SortedP ((finTo p p.length).map (ptOf p)) := by
    rw [SortedP, List.pairwise_map]
    exact (finTo_sorted p p.length).imp fun h => pt_ltP h
  have hfs := finTo_sorted p p.length
  have hmem := finTo_mem p p.length
  have hmap := cornTo_map p p.length
  generalize finTo p p.length = F at *
  have hF : F.getLast? = some (p.length - 1) := by
    rcases List.eq_nil_or_concat F with e | ⟨d, x, e⟩
    · rw [e] at hlast; simp at hlast
    · rw [List.concat_eq_append] at e
      rw [e, List.getLast?_append]
      rw [e] at hlast hfs
      have hx : x ∈ F := by rw [e]; simp
      have := (hmem x).1 hx
      rcases List.mem_append.1 hlast with h1 | h1
      · have := (List.pairwise_append.1 hfs).2.2 _ h1 x (by simp)
        omega
      · have : p.length - 1 = x := by simpa using h1
        rw [this]; rfl
  cases F with
  | nil => simp at hlast
  | cons a l =>
    have H := half_of (a := ptOf p a) (l := l.map (ptOf p)) hsort
    rw [← List.map_cons, ← hmap] at H
    unfold corners
    generalize hS : cornTo p p.length = S at *
    have hbot := map_getLast H.bot
    have htop : S.head? = some (p.length - 1) := map_head (p := p) (by rw [H.top, List.getLast?_map, hF]; rfl)
    have hne : S ≠ [] := by intro e; rw [e] at htop; simp at htop
    have hlen : 1 ≤ S.length := by
      cases S with
      | nil => exact absurd rfl hne
      | cons _ _ => simp
    have hmemS : ∀ v ∈ S, v ∈ a :: l := by
      intro v hv
      have := H.mem (ptOf p v) (List.mem_map_of_mem hv)
      obtain ⟨u, hu, e⟩ := List.mem_map.1 this
      have := congrArg Prod.fst e
      simp only [ptOf] at this
      have : u = v := by omega
      rw [← this]; exact hu
    have hat : ∀ n, n < S.length → S.reverse.getD n 0 ∈ S := by
      intro n hn
      have : S.reverse.getD n 0 ∈ S.reverse := by
        rw [List.getD_eq_getElem?_getD, List.getElem?_eq_getElem (by rw [List.length_reverse]; exact hn)]
        exact List.getElem_mem _
      simpa using this
    have hlt := adj_row (ch_lt p H.ch)
    refine ⟨by rw [List.length_reverse]; exact hlen, fun n hn => hlt n (by simpa using hn), fun n hn => ((hmem _).1 (hmemS _ (hat n (by simpa using hn)))).2, ?_, fun j hj => ?_, fun n hn j hj hjf => ?_⟩
    · rw [List.length_reverse]
      cases S with
      | nil => exact absurd rfl hne
      | cons b s =>
        rw [List.reverse_cons, getD_app_r (by simp)]
        simp only [List.head?_cons, Option.some.injEq] at htop
        simp
        omega
    · apply Decidable.byContradiction
      intro hjf
      rcases List.eq_nil_or_concat S with e | ⟨d, x, e⟩
      · exact hne e
      · rw [List.concat_eq_append] at e
        rw [e, List.getLast?_append] at hbot
        have hx : x = a := by simpa using hbot
        rw [e, List.reverse_append] at hj
        have hj : j < a := by simpa [hx] using hj
        have ha : a ≤ p.length := Nat.le_of_lt ((hmem a).1 (by simp)).1
        have hjm := (hmem j).2 ⟨by omega, hjf⟩
        rcases List.mem_cons.1 hjm with h1 | h1
        · omega
        · have := (List.pairwise_cons.1 hfs).1 j h1
          omega
    · have hjm := (hmem j).2 ⟨hj, hjf⟩
      have h1 := H.left (ptOf p j) (List.mem_map_of_mem hjm)
      have h2 := adj_row (lft_adj p j h1) n (by simpa using hn)
      rw [turn_pt] at h2
      omega
/-- A map as a function of its keys; one more entry. -/
abbrev MapF := Nat → Option (Int × Int)
def numOf (p : List Int) (i k x : Nat) : Int := p.getD i 0 * ((k : Int) - i) + (p.getD k 0 - p.getD i 0) * ((x : Int) - i)
def hgt (p : List Int) (i k x : Nat) : Int × Int := (lowN (numOf p i k x) ((k : Int) - i), lowD (numOf p i k x) ((k : Int) - i))
/-- The heights when the exponents up to e (less than e) behind the corner i are done. -/
def segF (p : List Int) (i k e : Nat) (f : MapF) : MapF := fun x => if i < x ∧ x < e then some (hgt p i k x) else f x
def hN (p : List Int) (L : List Nat) : Nat → MapF
  | 0 => fun x => if x = L.getD 0 0 then some (p.getD x 0, 1) else none
  | n + 1 => segF p (L.getD n 0) (L.getD (n + 1) 0) (L.getD (n + 1) 0 + 1) (hN p L n)
theorem segF_start (p : List Int) (i k : Nat) (f : MapF) : segF p i k (i + 1) f = f := by
  funext x
  rw [segF, if_neg (by omega)]
theorem segF_step {p : List Int} {i k e : Nat} {f : MapF} (h : i < e) : segF p i k (e + 1) f = fun x => if x = e then some (hgt p i k e) else segF p i k e f x := by
  funext x
  unfold segF
  by_cases hx : x = e
  · subst hx
    rw [if_pos (by omega), if_pos rfl]
  · rw [if_neg hx]
    by_cases h2 : i < x ∧ x < e
    · rw [if_pos (by omega), if_pos h2]
    · rw [if_neg (by omega), if_neg h2]
/-- Is an exponent needless, by its height? -/
def qF (p : List Int) (f : MapF) (x : Nat) : Bool := match f x with
  | none => false
  | some h => p.getD x 0 == 1000000000 || !((p.getD x 0, (1 : Int)) == h)
def implTo (p : List Int) (f : MapF) : Nat → List Int
  | 0 => []
  | k + 1 => if qF p f k then implTo p f k ++ [(k : Int)] else implTo p f k
/-- .. by the strict inequality. -/
def rB (p : List Int) (i k j : Nat) : Bool := p.getD j 0 == 1000000000 || decide (p.getD i 0 * ((k : Int) - j) + p.getD k 0 * ((j : Int) - i) < p.getD j 0 * ((k : Int) - i))
def segL (p : List Int) (i k : Nat) : Nat → List Int
  | 0 => []
  | j + 1 => if i < j ∧ rB p i k j = true then segL p i k j ++ [(j : Int)] else segL p i k j
def sN (p : List Int) (L : List Nat) : Nat → List Int
  | 0 => []
  | n + 1 => sN p L n ++ segL p (L.getD n 0) (L.getD (n + 1) 0) (L.getD (n + 1) 0)
theorem low_one {n d : Int} (hd : 0 < d) (c : Int) : ((c, (1 : Int)) == (lowN n d, lowD n d)) = decide (c * d = n) := by
  have hg := gcdI_pos (a := n) (b := d) (by omega)
  have h1 : sgcd n d = gcdI n d := by rw [sgcd, if_neg (by omega)]
  have hgn : gcdI n d ∣ n := by
    unfold gcdI
    exact Int.natAbs_dvd_natAbs.1 (by rw [Int.natAbs_natCast]; exact Nat.gcd_dvd_left _ _)
  have hgd : gcdI n d ∣ d := by
    unfold gcdI
    exact Int.natAbs_dvd_natAbs.1 (by rw [Int.natAbs_natCast]; exact Nat.gcd_dvd_right _ _)
  have e1 : lowN n d * gcdI n d = n := by rw [lowN, h1]; exact Int.tdiv_mul_cancel hgn
  have e2 : lowD n d * gcdI n d = d := by rw [lowD, h1]; exact Int.tdiv_mul_cancel hgd
  by_cases h : c * d = n
  · rw [decide_eq_true h]
    have hdn : d.natAbs ∣ n.natAbs := Int.natAbs_dvd_natAbs.2 ⟨c, by rw [← h, Int.mul_comm]⟩
    have hg2 : gcdI n d = d := by
      unfold gcdI
      rw [Nat.gcd_eq_right hdn]
      omega
    rw [hg2] at e1 e2
    have hD : lowD n d = 1 := by
      have : lowD n d * d = 1 * d := by omega
      exact Int.eq_of_mul_eq_mul_right (by omega) this
    have hN : lowN n d = c := Int.eq_of_mul_eq_mul_right (show d ≠ 0 by omega) (by rw [e1, h])
    rw [hD, hN]
    simp
  · rw [decide_eq_false h]
    apply Bool.eq_false_iff.2
    intro hc
    have hc := eq_of_beq hc
    simp only [Prod.mk.injEq] at hc
    apply h
    rw [← hc.2] at e2
    rw [← hc.1] at e1
    rw [← e2]
    rw [Int.one_mul] 
    exact e1
theorem num_at (p : List Int) (i k : Nat) : numOf p i k k = p.getD k 0 * ((k : Int) - i) := by
  unfold numOf
  rw [← Int.add_mul]
  congr 1
  omega
theorem num_two (p : List Int) (i k j : Nat) : numOf p i k j = p.getD i 0 * ((k : Int) - j) + p.getD k 0 * ((j : Int) - i) := by
  unfold numOf
  rw [Int.sub_mul, show ((k : Int) - i) = ((k : Int) - j) + ((j : Int) - i) from by omega, Int.mul_add]
  omega
theorem qF_le {p : List Int} {f g : MapF} : ∀ {k : Nat}, (∀ x, x < k → f x = g x) → implTo p f k = implTo p g k
  | 0, _ => rfl
  | k + 1, h => by
    have e : qF p f k = qF p g k := by unfold qF; rw [h k (by omega)]
    rw [implTo, implTo, e, qF_le (k := k) fun x hx => h x (by omega)]
theorem implTo_none {p : List Int} {f : MapF} : ∀ {k : Nat}, (∀ x, x < k → qF p f x = false) → implTo p f k = []
  | 0, _ => rfl
  | k + 1, h => by
    rw [implTo, h k (by omega)]
    exact implTo_none fun x hx => h x (by omega)
theorem impl_seg {p : List Int} {i k : Nat} {f : MapF} : ∀ d, (∀ j, i < j → j < i + 1 + d → qF p f j = rB p i k j) → implTo p f (i + 1 + d) = implTo p f (i + 1) ++ segL p i k (i + 1 + d)
  | 0, _ => by
    have : ∀ m, m ≤ i + 1 → segL p i k m = [] := by
      intro m
      induction m with
      | zero => intro _; rfl
      | succ m ih => intro hm; rw [segL, if_neg (by omega), ih (by omega)]
    rw [Nat.add_zero, this _ (Nat.le_refl _), List.append_nil]
  | d + 1, h => by
    rw [show i + 1 + (d + 1) = i + 1 + d + 1 from by omega, implTo, segL, h (i + 1 + d) (by omega) (by omega), impl_seg d fun j h1 h2 => h j h1 (by omega)]
    by_cases hr : rB p i k (i + 1 + d) = true
    · rw [if_pos hr, if_pos ⟨by omega, hr⟩, List.append_assoc]
    · rw [if_neg hr, if_neg (by intro hh; exact hr hh.2)]
theorem need_to {p : List Int} {L : List Nat} (H : Corn p L) : ∀ n, n < L.length → implTo p (hN p L n) (L.getD n 0 + 1) = sN p L n
  | 0, h => by
    refine implTo_none fun x hx => ?_
    unfold qF hN
    by_cases hx0 : x = L.getD 0 0
    · have := H.fin 0 h
      rw [← hx0] at this
      simp [hx0] at this ⊢
      exact this
    · simp only [if_neg hx0]
  | n + 1, h => by
    have hlt := H.lt n h
    have ih := need_to H n (by omega)
    have hcv := H.conv n h
    have hfk := H.fin (n + 1) h
    have hkp : L.getD (n + 1) 0 < p.length := by
      have hmono : ∀ m, n + 1 + m < L.length → L.getD (n + 1) 0 ≤ L.getD (n + 1 + m) 0 := by
        intro m
        induction m with
        | zero => intro _; exact Nat.le_refl _
        | succ m ihm =>
          intro hm
          have := H.lt (n + 1 + m) (by omega)
          have := ihm (by omega)
          rw [show n + 1 + (m + 1) = n + 1 + m + 1 from by omega]
          omega
      have := hmono (L.length - 1 - (n + 1)) (by omega)
      rw [show n + 1 + (L.length - 1 - (n + 1)) = L.length - 1 from by omega] at this
      have := H.top
      omega
    rw [sN, hN]
    generalize L.getD n 0 = i at *
    generalize L.getD (n + 1) 0 = k at *
    obtain ⟨d, rfl⟩ : ∃ d, k = i + 1 + d := ⟨k - (i + 1), by omega⟩
    have hq : ∀ j, i < j → j ≤ i + 1 + d → qF p (segF p i (i + 1 + d) (i + 1 + d + 1) (hN p L n)) j = (p.getD j 0 == 1000000000 || !decide (p.getD j 0 * (((i + 1 + d : Nat) : Int) - i) = numOf p i (i + 1 + d) j)) := by
      intro j h1 h2
      unfold qF segF
      rw [if_pos (by omega)]
      dsimp only [hgt]
      rw [low_one (by omega)]
    have hlast : qF p (segF p i (i + 1 + d) (i + 1 + d + 1) (hN p L n)) (i + 1 + d) = false := by
      rw [hq _ (by omega) (by omega), num_at]
      simp
      simpa using hfk
    have hin : ∀ j, i < j → j < i + 1 + d → qF p (segF p i (i + 1 + d) (i + 1 + d + 1) (hN p L n)) j = rB p i (i + 1 + d) j := by
      intro j h1 h2
      rw [hq _ h1 (by omega), num_two, rB]
      by_cases hj : p.getD j 0 = 1000000000
      · have hb : (p.getD j 0 == 1000000000) = true := by rw [hj]; rfl
        rw [hb, Bool.true_or, Bool.true_or]
      · have hb : (p.getD j 0 == 1000000000) = false := by simpa using hj
        rw [hb, Bool.false_or, Bool.false_or]
        have hc := hcv j (by omega) hj
        have e := num_two p i (i + 1 + d) j
        unfold numOf at e
        rw [Int.mul_comm (((i + 1 + d : Nat) : Int) - (i : Nat)), Int.sub_mul (p.getD j 0)] at hc
        rw [← e]
        generalize p.getD i 0 * (((i + 1 + d : Nat) : Int) - (i : Nat)) = X at *
        generalize p.getD j 0 * (((i + 1 + d : Nat) : Int) - (i : Nat)) = Y at *
        generalize (p.getD (i + 1 + d) 0 - p.getD i 0) * ((j : Int) - i) = Z at *
        by_cases hY : Y = X + Z
        · rw [decide_eq_true hY, decide_eq_false (by omega)]; rfl
        · rw [decide_eq_false hY, decide_eq_true (by omega)]; rfl
    rw [implTo, hlast, impl_seg d hin, ← ih, if_neg (by simp)]
    congr 1
    exact qF_le fun x hx => by rw [segF, if_neg (by omega)]
/-- The needless terms. -/
def needP (p : List Int) : List Int := sN p (corners p) ((corners p).length - 1)
def pNeed (p : List Int) : List Int × Bool := if isPol p then (needP p, true) else ([], false)
theorem need_impl {p : List Int} (hp : isPol p = true) : implTo p (hN p (corners p) ((corners p).length - 1)) p.length = needP p := by
  have H := corn_of hp
  have := need_to H ((corners p).length - 1) (by have := H.pos; omega)
  rwa [H.top] at this
end Go.Proofs.Yteadfobnoapdhaa
