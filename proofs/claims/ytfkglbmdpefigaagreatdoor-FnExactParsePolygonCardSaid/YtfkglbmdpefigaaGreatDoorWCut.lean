/- The library's Split, Cut and Clone at strings; the program's parts and splitWhole. -/
import Derived.Test.YtfkglbmdpefigaaGreatDoorWSpl
import Derived.Test.YtfkglbmdpefigaaGreatDoorList
import Derived.Test.YtfkglbmdpefigaaGreatDoorApp
import Derived.Test.YtfkglbmdpefigaaGreatDoorWAto
import Derived.Test.YtfkglbmdpefigaaGreatDoorPureSwl
import Derived.Shelf.Strings.Split
import Derived.Shelf.Strings.Cut
namespace Go.Proofs.YtfkglbmdpefigaaGreatDoor
open Go.RowKit
/-- The library's own variable holds some number. -/
def MaxOk (w : World) : Prop := ∃ m, w.cell? ⟨0, 0, none⟩ = some (.int .i64 m)
theorem MaxOk.go {w w' : World} (h : MaxOk w) (hb : Below w.heap.size w w') : MaxOk w' := by
  obtain ⟨m, hm⟩ := h
  exact ⟨m, (hb.cell (p := ⟨0, 0, none⟩) (Lib.lt_of_cell hm)).trans hm⟩
theorem bel_dn (w : World) (k : Nat) : Below w.heap.size w (w.drewN k) := by
  induction k with
  | zero => exact Below.refl _ _
  | succ k ih => exact ih.drew
theorem bel_dn2 {B : Nat} {a b : World} (h : Below B a b) (k : Nat) : Below B a (b.drewN k) := by
  induction k generalizing b with
  | zero => exact h
  | succ k ih => exact (ih h).drew
theorem map_txtB {xs : List ByteArray} {l : List Bs} (h : xs.map (·.data.toList) = l) : xs = l.map txtB := by
  rw [← h, List.map_map]
  have : ∀ x ∈ xs, (txtB ∘ fun x : ByteArray => x.data.toList) x = x := fun x _ => txtB_data x
  rw [List.map_congr_left this, List.map_id']
theorem txtB_toList (l : Bs) : (txtB l).data.toList = l := rfl
theorem txtB_size (l : Bs) : (txtB l).size = l.length := by rw [Lib.size_eq, txtB_toList]
theorem spl_len (b : UInt8) : ∀ l : Bs, (spl b l).length ≤ l.length + 1
  | [] => Nat.le_refl _
  | c :: r => by
    have := spl_len b r
    rw [spl]
    split
    · simp only [List.length_cons]; omega
    · split
      · simp
      · rename_i h
        rw [h] at this
        simp only [List.length_cons] at this ⊢
        omega
theorem spl_mem (b : UInt8) : ∀ l : Bs, ∀ p ∈ spl b l, p.length ≤ l.length
  | [], p, h => by
    obtain rfl : p = [] := by simpa [spl] using h
    exact Nat.le_refl _
  | c :: r, p, h => by
    have ih := spl_mem b r
    rw [spl] at h
    split at h
    · rcases List.mem_cons.1 h with rfl | h
      · simp
      · have := ih p h
        simp only [List.length_cons]; omega
    · split at h
      · obtain rfl : p = [c] := by simpa using h
        simp
      · rename_i hh
        rw [hh] at ih
        rcases List.mem_cons.1 h with rfl | h
        · have := ih _ (List.mem_cons_self ..)
          simp only [List.length_cons]; omega
        · have := ih p (List.mem_cons_of_mem _ h)
          simp only [List.length_cons]; omega
theorem split_c (s : ByteArray) (b : UInt8) (hs : s.size ≤ 1048576) (w : World) (hM : MaxOk w) :
    Calls Tryz.prog 23 #[.string s, .string ⟨#[b]⟩] w fun e w' => ∃ A n c, e = .returned (.slice (some A) n c) ∧ RdS w' w'.heap.size (some A) n (splB b s) ∧ n ≤ c ∧ Below w.heap.size w w' := by
  obtain ⟨m, hm⟩ := hM
  refine (Any.strings_Split Tryz.split (by kernel_rfl) s ⟨#[b]⟩ m w (by omega) hm (Nat.le_refl _)).mono fun e w' ⟨he, hw⟩ => ?_
  have h1 : (Lib.splitB ⟨#[b]⟩ 0 (Lib.countB s ⟨#[b]⟩) s) = splB b s := by
    refine map_txtB ?_
    rw [Lib.splitB_data]
    exact split_spl b s.data.toList.length s.data.toList (Nat.le_refl _)
  have h2 := Lib.splitB_all ⟨#[b]⟩ (Nat.le_refl _) 0 _ s rfl
  rw [h1] at hw h2
  have hl : (splB b s).length ≤ maxLen := by
    have := spl_len b s.data.toList
    rw [splB, List.length_map]
    rw [Lib.size_eq] at hs
    unfold maxLen
    omega
  refine ⟨_, _, _, he, ?_, Nat.le_refl _, by rw [hw]; exact bel_new _ _⟩
  have := RdS.lit w (splB b s) (Tryz.split_ren.t 9) hl
  rw [hw, ← h2]
  exact this.more (by rw [World.size_alloc]; omega)
theorem cut_c (s : ByteArray) (b : UInt8) (hs : s.size ≤ 1048576) (w : World) (hM : MaxOk w) :
    Calls Tryz.prog 25 #[.string s, .string ⟨#[b]⟩] w fun e w' => e = .returned (.tuple #[.string (txtB (Lib.cut s.data.toList [b]).1), .string (txtB (Lib.cut s.data.toList [b]).2.1), .bool (Lib.cut s.data.toList [b]).2.2]) ∧ Below w.heap.size w w' := by
  obtain ⟨m, hm⟩ := hM
  exact (Any.strings_Cut Tryz.cut s ⟨#[b]⟩ m w (by omega) hm).mono fun e w' ⟨he, n, hw⟩ => ⟨he, by rw [hw]; exact bel_dn w n⟩
set_option maxRecDepth 8192 in
theorem cloneS_c (ad : Addr) (n c B : Nat) (xs : List ByteArray) (w : World) (h : RdS w B (some ad) n xs) (hB : B ≤ w.heap.size) (hn : 0 < n) (hn2 : n ≤ 1048576) :
    Calls Tryz.prog 24 #[.slice (some ad) n c] w (RetOwnS 9 xs w) := by
  obtain ⟨i0, hi, hz0, hz1, hz2⟩ := info_parts infoStr
  have HI := Lib.hid hi
  have HZ0 := Lib.hid hz0
  have HZ1 := Lib.hid hz1
  have HZ2 := Lib.hid hz2
  clear hi hz0 hz1 hz2
  have own0 := OwnS.empty w 9 (Nat.le_refl w.heap.size)
  have bel0 := bel_new w (.cells #[] 9)
  have h1 := h.below (bel0.mono hB)
  obtain ⟨ad', e, hb, hc⟩ := h1.2.2 hn
  injection e with e
  subst e
  have HL := Lib.hid h1.len
  have HC := Lib.hid hc
  clear hc h1
  have hnil := fun (w : World) => Lib.run_eql_slice_nil (P := Tryz.prog) w 28 9 (some ad) n c 0 0 Tryz.underlying28
  go_enter Tryz.func24, Tryz.ntmps24
  go_wp2_with (at_builtin; refine wp_appStrs rfl _ _ 28 rfl w.heap.size 9 i0 Tryz.underlying28 HI.out HZ0.out HZ1.out HZ2.out _ 0 [] rfl own0 ad n c xs HL.out rfl HC.out (by omega) bel0.size ?_)
  intro v' w1 g1 g2
  have bel := bel0.trans g2
  have own : OwnS w1 w.heap.size 9 v' n xs := by
    first | exact g1 | (rw [Nat.zero_add, List.nil_append] at g1; exact g1)
  clear g1 g2 own0 bel0
  go_wp2_with fail
  go_ret
  exact retOwnS_mk own bel
def sepsOf (bs : List UInt8) : List ByteArray := bs.map (fun b => (⟨#[b]⟩ : ByteArray))
/-- Block g begins with the strings zs. -/
def RdSb (w : World) (g : Nat) (zs : List ByteArray) : Prop := g < w.heap.size ∧ ∀ i z, zs[i]? = some z → w.cell? ⟨g, i, none⟩ = some (.string z)
theorem RdSb.go {a b : World} {g : Nat} {zs : List ByteArray} (h : RdSb a g zs) (hb : Below a.heap.size a b) : RdSb b g zs :=
  ⟨Nat.lt_of_lt_of_le h.1 hb.size, fun i z hz => (hb.cell (p := ⟨g, i, none⟩) h.1).trans (h.2 i z hz)⟩
theorem RdSb.grown {a b : World} {g : Nat} {zs : List ByteArray} {row : Option Nat} (h : RdSb a g zs) (hg : a.grownBy b row) (hne : row ≠ some g) : RdSb b g zs :=
  ⟨Nat.lt_of_lt_of_le h.1 hg.size, fun i z hz => (World.cell?_of_block (hg.block g h.1 (fun e => hne e.symm))).trans (h.2 i z hz)⟩
theorem Own.belowB {w w' : World} {B q n : Nat} {E : TypeId} {v : Value} {zs : List Int} (h : Own w B E v n zs) (hb : Below q w w') (hq : ∀ k, v.ownBlock = some k → k < q) : Own w' B E v n zs := by
  refine ⟨h.1, ?_⟩
  rcases h.2 with h2 | ⟨g, cap, cur, hv, hg, hh, r⟩
  · exact .inl h2
  · exact .inr ⟨g, cap, cur, hv, hg, (hb.block g (hq g (by rw [hv]; rfl))).trans hh, r⟩
theorem cut_len (s : Bs) (b : UInt8) : (Lib.cut s [b]).1.length ≤ s.length ∧ (Lib.cut s [b]).2.1.length ≤ s.length := by
  unfold Lib.cut
  split
  · simp only [List.length_take, List.length_drop]; omega
  · simp
/-- How far the reading has come: behind k separators the rest is r, and vs are read. -/
def SwAt (bs : List UInt8) (p : Bs) (k : Nat) (r : Bs) (vs : List Int) : Prop := swl bs p = match swl (bs.drop k) r with
  | none => none
  | some us => some (vs ++ us)
theorem SwAt.start (bs : List UInt8) (p : Bs) : SwAt bs p 0 p [] := by
  unfold SwAt
  rw [List.drop_zero]
  cases swl bs p <;> rfl
theorem SwAt.next {bs : List UInt8} {p r : Bs} {k : Nat} {vs : List Int} (h : SwAt bs p k r vs) (hk : k < bs.length) {v : Int} (h1 : (Lib.cut r [bs.getD k 0]).2.2 = true) (h2 : Lib.atoiAll (Lib.cut r [bs.getD k 0]).1 = .ok v) :
    SwAt bs p (k + 1) (Lib.cut r [bs.getD k 0]).2.1 (vs ++ [v]) := by
  unfold SwAt at *
  have e : bs.drop k = bs.getD k 0 :: bs.drop (k + 1) := by
    rw [List.drop_eq_getElem_cons hk]
    simp [List.getD, List.getElem?_eq_getElem hk]
  rw [h, e, swl, h1, h2]
  dsimp only
  cases swl (bs.drop (k + 1)) (Lib.cut r [bs.getD k 0]).2.1 with
  | none => rfl
  | some us => simp
theorem SwAt.miss {bs : List UInt8} {p r : Bs} {k : Nat} {vs : List Int} (h : SwAt bs p k r vs) (hk : k < bs.length) (h1 : (Lib.cut r [bs.getD k 0]).2.2 = false) : swl bs p = none := by
  unfold SwAt at h
  have e : bs.drop k = bs.getD k 0 :: bs.drop (k + 1) := by
    rw [List.drop_eq_getElem_cons hk]
    simp [List.getD, List.getElem?_eq_getElem hk]
  rw [h, e, swl, h1]
theorem SwAt.bad {bs : List UInt8} {p r : Bs} {k : Nat} {vs : List Int} (h : SwAt bs p k r vs) (hk : k < bs.length) (h2 : ∀ v, Lib.atoiAll (Lib.cut r [bs.getD k 0]).1 ≠ .ok v) : swl bs p = none := by
  unfold SwAt at h
  have e : bs.drop k = bs.getD k 0 :: bs.drop (k + 1) := by
    rw [List.drop_eq_getElem_cons hk]
    simp [List.getD, List.getElem?_eq_getElem hk]
  rw [h, e, swl]
  cases (Lib.cut r [bs.getD k 0]).2.2 with
  | false => rfl
  | true =>
    cases ha : Lib.atoiAll (Lib.cut r [bs.getD k 0]).1
    · rename_i v
      exact absurd ha (h2 v)
    · rfl
    · rfl
theorem SwAt.last {bs : List UInt8} {p r : Bs} {vs : List Int} (h : SwAt bs p bs.length r vs) {v : Int} (h2 : Lib.atoiAll r = .ok v) : swl bs p = some (vs ++ [v]) := by
  unfold SwAt at h
  rw [h, List.drop_length, swl, h2]
theorem SwAt.lastBad {bs : List UInt8} {p r : Bs} {vs : List Int} (h : SwAt bs p bs.length r vs) (h2 : ∀ v, Lib.atoiAll r ≠ .ok v) : swl bs p = none := by
  unfold SwAt at h
  rw [h, List.drop_length, swl]
  cases ha : Lib.atoiAll r
  · rename_i v
    exact absurd ha (h2 v)
  · rfl
  · rfl
/-- A word on what the reading needs of the world. -/
structure LibOk (w : World) : Prop where
  tab : TabOk w
  err : ErrOk w
  max : MaxOk w
theorem LibOk.go {w w' : World} (h : LibOk w) (hb : Below w.heap.size w w') : LibOk w' := ⟨h.tab.go hb, h.err.go hb, h.max.go hb⟩
theorem atoi_split (l : Bs) : (∃ v, Lib.atoiAll l = .ok v) ∨ ∀ v, Lib.atoiAll l ≠ .ok v := by
  cases Lib.atoiAll l
  · exact .inl ⟨_, rfl⟩
  · exact .inr fun v h => by cases h
  · exact .inr fun v h => by cases h
set_option maxRecDepth 8192 in
set_option maxHeartbeats 4000000 in
theorem splitWhole_c (s : ByteArray) (bs : List UInt8) (ad : Addr) (n c B : Nat) (w : World) (h : RdS w B (some ad) n (sepsOf bs)) (hB : B ≤ w.heap.size) (hn : 0 < n) (hn2 : n ≤ 10) (hs : s.size ≤ 1048576) (hL : LibOk w) :
    Calls Tryz.prog 14 #[.string s, .slice (some ad) n c] w fun e w' => (∃ vs, swl bs s.data.toList = some vs ∧ RetOwnB 3 vs true w e w') ∨ (swl bs s.data.toList = none ∧ RetOwnB 3 [] false w e w') := by
  have HBN : Hid (bs.length = n) := Lib.hid (by have := h.len; rwa [sepsOf, List.length_map] at this)
  obtain ⟨i0, hi, hz0, hz1, hz2⟩ := info_parts info_int
  have HI := Lib.hid hi
  have HZ0 := Lib.hid hz0
  have HZ1 := Lib.hid hz1
  have HZ2 := Lib.hid hz2
  clear hi hz0 hz1 hz2
  obtain ⟨j0, hi, hz0, hz1, hz2⟩ := info_parts infoStr
  have JI := Lib.hid hi
  have JZ0 := Lib.hid hz0
  have JZ1 := Lib.hid hz1
  have JZ2 := Lib.hid hz2
  clear hi hz0 hz1 hz2
  have own0 := Own.empty w 3 (Nat.le_refl w.heap.size)
  have bel0 := bel_new w (.cells #[] 3)
  have h1 := h.below (bel0.mono hB)
  have hB1 : B ≤ (w.alloc (.cells #[] 3)).heap.size := by rw [World.size_alloc]; omega
  have HSt := Lib.hid (SwAt.start bs s.data.toList)
  have HSd := Lib.hid (txtB_data s)
  have hsl : s.data.toList.length ≤ 1048576 := by rw [← Lib.size_eq]; exact hs
  clear h hs
  go_enter Tryz.func14, Tryz.ntmps14
  go_wp2_with fail
  refine (cloneS_c ad n c B (sepsOf bs) _ h1 hB1 hn (by omega)).mono ?_
  rintro e w1 ⟨A1, n1, c1, rfl, own1, hb1⟩
  have hn1 : n1 = n := by have := own1.len; rw [sepsOf, List.length_map, HBN.out] at this; exact this.symm
  subst hn1
  have own0 := own0.go hb1
  have bel1 := bel_step bel0 hb1
  have hsz1 := bel1.size
  have hwz : w.heap.size < (w.alloc (.cells #[] 3)).heap.size := by rw [World.size_alloc]; omega
  have hqs := hb1.size
  clear h1 hB1 hb1 bel0
  generalize (w.alloc (.cells #[] 3)).heap.size = q at *
  go_wp2_with (at_builtin; refine wp_appStr rfl _ _ 28 rfl q 9 j0 Tryz.underlying28 JI.out JZ0.out JZ1.out JZ2.out _ _ _ rfl own1 _ rfl (by omega) hqs ?_)
  intro v2 w2 g1 g2
  obtain ⟨A2, c2, rfl⟩ := g1.shape
  obtain ⟨gS, rfl⟩ := g1.head (by omega)
  have own0 := own0.belowB g2 (fun k hk => by
    have : k = w.heap.size := by
      have := Option.some.inj hk
      exact this.symm
    omega)
  have hsep : RdSb w2 gS (sepsOf bs ++ [(⟨#[]⟩ : ByteArray)]) := by
    obtain ⟨ad', e, hb, hc⟩ := g1.rd.2.2 (by omega)
    injection e with e
    subst e
    exact ⟨hb, fun i z hz => by
      have := hc i z hz
      rwa [Addr.add_lit, Nat.zero_add] at this⟩
  have hgq : q ≤ gS := (g1.lt gS rfl).1
  have bel := bel1.trans (g2.mono (Nat.le_of_lt hwz))
  clear own1 g1 g2 bel1 hqs hsz1
  go_wp2_with fail
  go_loopw [0, 6, 20] (fun sv v i wr => ∃ (k : Nat) (r : Bs) (vs : List Int), k ≤ n1 + 1 ∧ i = .int .i64 k ∧ sv = .string (txtB r) ∧ r.length ≤ 1048576 ∧ Hid (if k ≤ n1 then SwAt bs s.data.toList k r vs else swl bs s.data.toList = some vs) ∧ Own wr w.heap.size 3 v k vs ∧ v.ownBlock ≠ some gS ∧ RdSb wr gS (sepsOf bs ++ [(⟨#[]⟩ : ByteArray)]) ∧ Below w.heap.size w wr) (fun _ _ i _ => n1 + 1 - (intOf i).toNat)
  case atStart => exact ⟨0, s.data.toList, [], Nat.zero_le _, rfl, by rw [txtB_data], hsl, Lib.hid (by rw [if_pos (Nat.zero_le _)]; exact HSt.out), own0, fun e => by have : w.heap.size = gS := Option.some.inj e; omega, hsep, bel⟩
  case round =>
    clear own0 hsep bel hsl
    obtain ⟨k, r, vs, hk, rfl, rfl, hrl, HS, hown, hne, hsep, bel⟩ := hrel
    by_cases hlt : k < n1 + 1
    · by_cases hkn : k < n1
      · have hkb : k < bs.length := by rw [HBN.out]; exact hkn
        have HA : Hid (SwAt bs s.data.toList k r vs) := Lib.hid (by have := HS.out; rwa [if_pos (Nat.le_of_lt hkn)] at this)
        have hc := hsep.2 k ⟨#[bs.getD k 0]⟩ (by
          rw [List.getElem?_append_left (by rw [sepsOf, List.length_map]; exact hkb), sepsOf, List.getElem?_map]
          simp [List.getD, List.getElem?_eq_getElem hkb])
        have hcl := cut_len r (bs.getD k 0)
        have CC := fun w hM => cut_c (txtB r) (bs.getD k 0) (by rw [txtB_size]; exact hrl) w hM
        rw [txtB_toList] at CC
        have HNx : Hid (∀ v, (Lib.cut r [bs.getD k 0]).2.2 = true → Lib.atoiAll (Lib.cut r [bs.getD k 0]).1 = .ok v → SwAt bs s.data.toList (k + 1) (Lib.cut r [bs.getD k 0]).2.1 (vs ++ [v])) := Lib.hid (fun v h1 h2 => HA.out.next hkb h1 h2)
        have HMs : Hid ((Lib.cut r [bs.getD k 0]).2.2 = false → swl bs s.data.toList = none) := Lib.hid (fun h => HA.out.miss hkb h)
        have HBd : Hid ((∀ v, Lib.atoiAll (Lib.cut r [bs.getD k 0]).1 ≠ .ok v) → swl bs s.data.toList = none) := Lib.hid (fun h => HA.out.bad hkb h)
        generalize bs.getD k 0 = b at *
        generalize (Lib.cut r [b]).1 = a1 at *
        generalize (Lib.cut r [b]).2.1 = a2 at *
        generalize (Lib.cut r [b]).2.2 = f at *
        have hk1 : (k : Int) < (n1 : Int) + 1 := by omega
        clear HA
        go_wp2_with fail
        refine (CC _ (hL.go bel).max).mono ?_; rintro e w3 ⟨rfl, hb3⟩
        have bel := bel_step bel hb3
        have hown := hown.go hb3
        have hsep := hsep.go hb3
        clear hb3 hc CC
        rcases atoi_split a1 with ⟨v, hv⟩ | hv
        · have CA := fun w => atoi_ok (txtB a1) (by rw [txtB_size]; omega) v hv w
          cases f
          · have HN := Lib.hid (HMs.out rfl)
            go_wp2_with fail
            refine (CA _).mono ?_; rintro e w4 ⟨rfl, hb4⟩
            have bel := bel_step bel hb4
            go_wp2_with fail
            go_ret2
            exact .inr ⟨HN.out, retOwnB_mk (Own.nil _ _ _) bel (by omega)⟩
          · have HN := Lib.hid (HNx.out v rfl hv)
            go_wp2_with fail
            refine (CA _).mono ?_; rintro e w4 ⟨rfl, hb4⟩
            have bel := bel_step bel hb4
            have hown := hown.go hb4
            have hsep := hsep.go hb4
            have hgs := hsep.1
            clear hb4 CA
            go_wp2_with (at_builtin; refine wp_app1b rfl _ _ 37 rfl w.heap.size 3 i0 Tryz.underlying37 HI.out HZ0.out HZ1.out HZ2.out _ _ _ rfl hown _ rfl (by omega) bel.size ?_)
            intro v' w5 g1 g2 g3 g4
            have hsep := hsep.grown g3 hne
            have bel := bel.trans g2
            have hne' := g4 gS hgs hne
            clear hown g2 g3 g4
            go_wp2_with fail
            go_roundw
            case rel => exact ⟨k + 1, a2, vs ++ [v], by omega, by go_num, rfl, by omega, Lib.hid (by rw [if_pos (by omega)]; exact HN.out), g1, hne', hsep, bel⟩
            case measure => simp [intOf]; omega
        · have CA := fun w hE => atoi_no (txtB a1) (by rw [txtB_size]; omega) hv w hE
          have HN := Lib.hid (HBd.out hv)
          cases f
          · go_wp2_with fail
            refine (CA _ (hL.go bel).err).mono ?_; rintro e w4 ⟨v, t, u, rfl, hb4⟩
            have bel := bel_step bel hb4
            go_wp2_with fail
            go_ret2
            exact .inr ⟨HN.out, retOwnB_mk (Own.nil _ _ _) bel (by omega)⟩
          · go_wp2_with fail
            refine (CA _ (hL.go bel).err).mono ?_; rintro e w4 ⟨v, t, u, rfl, hb4⟩
            have bel := bel_step bel hb4
            go_wp2_with fail
            go_ret2
            exact .inr ⟨HN.out, retOwnB_mk (Own.nil _ _ _) bel (by omega)⟩
      · obtain rfl : k = n1 := by omega
        have HA : Hid (SwAt bs s.data.toList bs.length r vs) := Lib.hid (by have := HS.out; rw [if_pos (Nat.le_refl _)] at this; rw [HBN.out]; exact this)
        have hc := hsep.2 k ⟨#[]⟩ (by
          rw [List.getElem?_append_right (by rw [sepsOf, List.length_map, HBN.out]; exact Nat.le_refl _), sepsOf, List.length_map, HBN.out, Nat.sub_self]
          rfl)
        have hk1 : (k : Int) < (k : Int) + 1 := by omega
        rcases atoi_split r with ⟨v, hv⟩ | hv
        · have CA := fun w => atoi_ok (txtB r) (by rw [txtB_size]; omega) v hv w
          have HN := Lib.hid (HA.out.last hv)
          clear HA HS
          go_wp2_with fail
          refine (CA _).mono ?_; rintro e w4 ⟨rfl, hb4⟩
          have bel := bel_step bel hb4
          have hown := hown.go hb4
          have hsep := hsep.go hb4
          have hgs := hsep.1
          clear hb4 CA hc
          go_wp2_with (at_builtin; refine wp_app1b rfl _ _ 37 rfl w.heap.size 3 i0 Tryz.underlying37 HI.out HZ0.out HZ1.out HZ2.out _ _ _ rfl hown _ rfl (by omega) bel.size ?_)
          intro v' w5 g1 g2 g3 g4
          have hsep := hsep.grown g3 hne
          have bel := bel.trans g2
          have hne' := g4 gS hgs hne
          clear hown g2 g3 g4
          go_wp2_with fail
          go_roundw
          case rel => exact ⟨k + 1, [], vs ++ [v], by omega, by go_num, by first | rfl | skip, by simp, Lib.hid (by rw [if_neg (by omega)]; exact HN.out), g1, hne', hsep, bel⟩
          case measure => first | (simp [intOf]; done) | (simp [intOf]; omega)
        · have CA := fun w hE => atoi_no (txtB r) (by rw [txtB_size]; omega) hv w hE
          have HN := Lib.hid (HA.out.lastBad hv)
          clear HA HS
          go_wp2_with fail
          refine (CA _ (hL.go bel).err).mono ?_; rintro e w4 ⟨v, t, u, rfl, hb4⟩
          have bel := bel_step bel hb4
          go_wp2_with fail
          go_ret2
          exact .inr ⟨HN.out, retOwnB_mk (Own.nil _ _ _) bel (by omega)⟩
    · obtain rfl : k = n1 + 1 := by omega
      have HN : Hid (swl bs s.data.toList = some vs) := Lib.hid (by have := HS.out; rwa [if_neg (by omega)] at this)
      go_wp2_with fail
      go_ret2
      exact .inl ⟨vs, HN.out, retOwnB_mk hown bel (by omega)⟩
end Go.Proofs.YtfkglbmdpefigaaGreatDoor
