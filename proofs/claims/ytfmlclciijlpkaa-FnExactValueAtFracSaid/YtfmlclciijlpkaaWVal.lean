/- The law on a polynomial's value at a fraction. -/
import Derived.Test.YtfmlclciijlpkaaPureVal
import Derived.Test.YtfmlclciijlpkaaFrac3
import Derived.Test.YtfmlclciijlpkaaWCorn
import Derived.Test.YtfmlclciijlpkaaWFrac
import Derived.Test.YtfmlclciijlpkaaPut2
import Derived.Test.YtfmlclciijlpkaaPutI
import Derived.Deep.RegionHeld3
import Derived.Deep.DeepCutAuto
namespace Go.Proofs.Ytfmlclciijlpkaa
open Go.RowKit
theorem finTo_fin (p : List Int) : ∀ k, ∀ i ∈ finTo p k, p.getD i 0 ≠ 1000000000
  | 0 => by simp [finTo]
  | k + 1 => by
    intro i hi
    rw [finTo] at hi
    split at hi
    · exact finTo_fin p k i hi
    · rename_i h
      rcases List.mem_append.1 hi with hi | hi
      · exact finTo_fin p k i hi
      · have : i = k := by simpa using hi
        rw [this]; exact h
theorem finTo_in {p : List Int} {i : Nat} (h : p.getD i 0 ≠ 1000000000) : ∀ k, i < k → i ∈ finTo p k
  | 0, hk => absurd hk (by omega)
  | k + 1, hk => by
    rw [finTo]
    by_cases e : i = k
    · subst e; rw [if_neg h]; simp
    · have := finTo_in h k (by omega)
      split
      · exact this
      · exact List.mem_append_left _ this
theorem fin_mem {p : List Int} {i : Nat} (hi : i < p.length) (h : p.getD i 0 ≠ 1000000000) : i ∈ finTo p p.length := finTo_in h _ hi
/-- One cell holds a value. -/
def Cl (w : World) (p : Addr) (v : Value) : Prop := p.block < w.heap.size ∧ w.cell? p = some v
theorem Cl.go {a b : World} {p : Addr} {v : Value} (h : Cl a p v) (hb : Below a.heap.size a b) : Cl b p v := ⟨Nat.lt_of_lt_of_le h.1 hb.size, (hb.cell h.1).trans h.2⟩
theorem Cl.alloc {a : World} {p : Addr} {v : Value} (h : Cl a p v) (o : Obj) : Cl (a.alloc o) p v := h.go (bel_new a o)
theorem Cl.drew {a : World} {p : Addr} {v : Value} (h : Cl a p v) : Cl a.drew p v := h
theorem Cl.set_ {a : World} {p : Addr} {v : Value} (h : Cl a p v) {q : Addr} (hq : q.block ≠ p.block) (u : Value) : Cl (a.setCell q u) p v :=
  ⟨by have := h.1; simpa [World.setCell] using this, (World.cell?_of_block (Below.heap_setCell a q u p.block (Ne.symm hq))).trans h.2⟩
theorem isFr_off : isFr 0 0 = false := by rw [isFr, decide_eq_false (by omega)]; rfl
theorem grown_set (w : World) (p : Addr) (v : Value) : w.grownBy (w.setCell p v) (some p.block) :=
  ⟨rfl, rfl, rfl, by simp [World.setCell], fun k _ hk => Below.heap_setCell w p v k (fun e => hk (by rw [e]))⟩
theorem ownI_neV {w : World} {B n : Nat} {E : TypeId} {v : Value} {zs : List Int} (h : Own w (B + 1) E v n zs) : v.ownBlock = none ∨ v.ownBlock ≠ some B := by
  cases e : v.ownBlock with
  | none => exact .inl rfl
  | some g => exact .inr fun e2 => by have := (h.lt g e).1; have := Option.some.inj e2; omega
theorem frInt_c (a : Int) (w : World) : Calls Try.prog 32 #[.int .i64 a] w fun e w' => e = .returned (.agg #[.int .i64 a, .int .i64 1]) ∧ Below w.heap.size w w' := by
  go_enter Try.func32, Try.ntmps32
  go_wp2
  have bel := Below.refl w.heap.size w
  refine bodyPost_ret (v := .agg #[.int .i64 a, .int .i64 1]) (by simp [results, Try.results32, go_sem, *]) rfl ⟨?_, ?_⟩
  · rfl
  · (repeat (first | exact bel | refine Below.drew ?_ | refine bel_set ?_ (by first | exact Nat.le_refl _ | (dsimp only; omega) | omega) _ | refine bel_alloc ?_ _))
theorem whole_c (a : Int) (w : World) : Calls Try.prog 28 #[.int .i64 a] w fun e w' => e = .returned (.agg #[.int .i64 a, .int .i64 1]) ∧ Below w.heap.size w w' := by
  go_enter Try.func28, Try.ntmps28
  go_wp2
  have bel := Below.refl w.heap.size w
  refine bodyPost_ret (v := .agg #[.int .i64 a, .int .i64 1]) (by simp [results, Try.results28, go_sem, *]) rfl ⟨?_, ?_⟩
  · rfl
  · (repeat (first | exact bel | refine Below.drew ?_ | refine bel_set ?_ (by first | exact Nat.le_refl _ | (dsimp only; omega) | omega) _ | refine bel_alloc ?_ _))
theorem frAdd0_c (c : Int) (w : World) (_h : -1000000000 ≤ c ∧ c ≤ 1000000000) :
    Calls Try.prog 33 #[.agg #[.int .i64 0, .int .i64 0], .agg #[.int .i64 c, .int .i64 1]] w fun e w' => e = .returned (.tuple #[.agg #[.int .i64 0, .int .i64 0], .bool false]) ∧ Below w.heap.size w w' := by
  have X := bx3 w [.int .i64 0, .int .i64 0] [.int .i64 c, .int .i64 1] [.int .i64 0, .int .i64 0] 33 33 33
  have HM : Hid (mkFr 0 0 = ((0, 0), false)) := Lib.hid (mkFr_zero 0)
  go_enter Try.func33, Try.ntmps33
  go_wp2_with fail
  refine (frMake_c 0 0 _ (by omega) (by omega) (by omega) (by omega)).mono ?_; rw [HM.out]; rintro e w1 ⟨rfl, hb⟩
  have bel := bel_step (bel_alloc (bel_alloc (bel_new _ _) _) _) hb
  have R := X.2.2.go hb
  clear X
  have hr0 := R.at0
  have hr1 := R.at1
  have hf0 := R.fz 0
  have hf1 := R.fz 1
  go_wp2_with fail
  refine bodyPost_ret (v := .tuple #[.agg #[.int .i64 0, .int .i64 0], .bool false]) (by simp [results, Try.results33, go_sem, *]) rfl ⟨?_, ?_⟩
  · rfl
  · (repeat (first | exact bel | refine Below.drew ?_ | refine bel_set ?_ (by first | exact Nat.le_refl _ | (dsimp only; omega) | omega) _ | refine bel_alloc ?_ _))
set_option maxRecDepth 8192 in
set_option maxHeartbeats 8000000 in
theorem specValueAtFrac_c (A : Option Addr) (n c : Nat) (p : List Int) (fn fd : Int) (w : World) (h : Rd w w.heap.size A n p) (_hn : n ≤ 1048576) :
    Calls Try.prog 14 #[.slice A n c, .agg #[.int .i64 fn, .int .i64 fd]] w fun e w' => e = .returned (.tuple #[.agg #[.int .i64 (pValueAt p fn fd).1.1, .int .i64 (pValueAt p fn fd).1.2], .bool (pValueAt p fn fd).2]) ∧ Below w.heap.size w w' := by
  have HLen := Lib.hid h.len
  have X := bx2 w [.int .i64 fn, .int .i64 fd] [.int .i64 0, .int .i64 0] 33 33
  have P := X.1
  have R := X.2
  have bel := bel_alloc (bel_new w (.cells #[.int .i64 fn, .int .i64 fd] 33)) (.cells #[.int .i64 0, .int .i64 0] 33)
  clear X
  cases hp : isPol p
  · have HP : Hid (pValueAt p fn fd = ((0, 0), false)) := Lib.hid (by rw [pValueAt, hp]; rfl)
    have HV := Lib.hid hp
    clear hp
    have hr0 := R.at0
    have hr1 := R.at1
    have hf0 := R.fz 0
    have hf1 := R.fz 1
    go_enter Try.func14, Try.ntmps14
    go_wp2_with fail
    refine (poGood_c _ _ _ _ _ _ (h.below bel)).mono ?_; rw [HV.out]; rintro e w' ⟨rfl, rfl⟩
    go_wp2_with fail
    refine bodyPost_ret (v := .tuple #[.agg #[.int .i64 0, .int .i64 0], .bool false]) (by simp [results, Try.results14, go_sem, *]) rfl ⟨?_, ?_⟩
    · rw [HP.out]
    · (repeat (first | exact bel | refine Below.drew ?_ | refine bel_set ?_ (by first | exact Nat.le_refl _ | (dsimp only; omega) | omega) _ | refine bel_alloc ?_ _))
  cases hf : isFr fn fd
  · have HP : Hid (pValueAt p fn fd = ((0, 0), false)) := Lib.hid (by rw [pValueAt, hp, hf]; rfl)
    have HV := Lib.hid hp
    have HF := Lib.hid hf
    clear hp hf
    go_enter Try.func14, Try.ntmps14
    go_wp2_with fail
    refine (poGood_c _ _ _ _ _ _ (h.below bel)).mono ?_; rw [HV.out]; rintro e w' ⟨rfl, rfl⟩
    have hp0 := P.at0
    have hp1 := P.at1
    go_wp2_with fail
    refine (frGood_c _ _ _).mono ?_; rw [HF.out]; rintro e w1 ⟨rfl, hb1⟩
    have bel := bel_step bel hb1
    have R := R.go hb1
    have hr0 := R.at0
    have hr1 := R.at1
    have hf0 := R.fz 0
    have hf1 := R.fz 1
    go_wp2_with fail
    refine bodyPost_ret (v := .tuple #[.agg #[.int .i64 0, .int .i64 0], .bool false]) (by simp [results, Try.results14, go_sem, *]) rfl ⟨?_, ?_⟩
    · rw [HP.out]
    · (repeat (first | exact bel | refine Below.drew ?_ | refine bel_set ?_ (by first | exact Nat.le_refl _ | (dsimp only; omega) | omega) _ | refine bel_alloc ?_ _))
  have HP : Hid (pValueAt p fn fd = if okV fn fd p (finTo p p.length) then ((bestV fn fd p (finTo p p.length)).getD (0, 0), true) else ((0, 0), false)) := Lib.hid (by rw [pValueAt, hp, hf]; rfl)
  have hl := isPol_len hp
  rw [HLen.out] at hl
  have hfb := isFr_bd hf
  have HA := Lib.hid (isPol_all hp)
  have HV := Lib.hid hp
  have HF := Lib.hid hf
  clear hp hf
  go_enter Try.func14, Try.ntmps14
  go_wp2_with fail
  refine (poGood_c _ _ _ _ _ _ (h.below bel)).mono ?_; rw [HV.out]; rintro e w' ⟨rfl, rfl⟩
  have hp0 := P.at0
  have hp1 := P.at1
  go_wp2_with fail
  refine (frGood_c _ _ _).mono ?_; rw [HF.out]; rintro e w1 ⟨rfl, hb1⟩
  have bel := bel_step bel hb1
  have P := P.go hb1
  have R := R.go hb1
  have sR := R.1
  have B6 := Bx.new w1 [.int .i64 0, .int .i64 0] 33
  have P := P.alloc (.cells #[.int .i64 0, .int .i64 0] 33)
  have R := R.alloc (.cells #[.int .i64 0, .int .i64 0] 33)
  have bel := bel_alloc bel (.cells #[.int .i64 0, .int .i64 0] 33)
  have hw1 : w.heap.size ≤ w1.heap.size := by omega
  clear hp0 hp1 hb1
  have HW : Hid (w1.heap.size < (w1.alloc (.cells #[.int .i64 0, .int .i64 0] 33)).heap.size) := Lib.hid (by rw [World.size_alloc]; omega)
  go_wp2_with fail
  refine (rtPoints_c _ _ _ _ _ _ (h.below bel) bel.size (by omega)).mono ?_
  rintro e w3 ⟨A3, m, c3, rfl, own3, hb3, _⟩
  have P := P.go hb3
  have R := R.go hb3
  have B6 := B6.go hb3
  have bel := bel_step bel hb3
  have HFL := Lib.hid (finTo_lt p p.length)
  have HFin := Lib.hid (finTo_fin p p.length)
  generalize hLL : finTo p p.length = L at *
  have hml : L.length = m := by have := own3.len; simpa using this
  have hmn : m ≤ n := by rw [← hml, ← hLL]; have := finTo_len p p.length; have := HLen.out; omega
  have HM := Lib.hid hml
  have own3 := own3.more HW.out
  clear hml hLL hb3
  generalize w1.heap.size = q at *
  go_wp2_with fail
  go_loopw [25] (fun i wr => ∃ (j : Nat) (z : Int × Int), j ≤ m ∧ i = .int .i64 j ∧ Hid (okV fn fd p (L.take j) = true) ∧ Hid (z = (bestV fn fd p (L.take j)).getD (0, 0)) ∧ Own wr (q + 1) 3 (.slice A3 m c3) m (L.map Int.ofNat) ∧ Below w.heap.size w wr ∧ Bx wr w.heap.size [.int .i64 fn, .int .i64 fd] ∧ Bx wr (w.heap.size + 1) [.int .i64 0, .int .i64 0] ∧ Bx wr q [.int .i64 z.1, .int .i64 z.2]) (fun i _ => m - (intOf i).toNat)
  case atStart => exact ⟨0, (0, 0), Nat.zero_le _, rfl, Lib.hid rfl, Lib.hid rfl, own3, bel, P, R, B6⟩
  case round =>
    clear own3 bel P R B6
    obtain ⟨j, ⟨zn, zd⟩, hj, rfl, hok, hbest, own3, belw, P, R, B6⟩ := hrel
    dsimp only at B6 hbest
    by_cases hlt : j < m
    · have hjL : j < L.length := by rw [HM.out]; exact hlt
      have hiP := HFL.out (L.getD j 0) (by simp [List.getD, List.getElem?_eq_getElem hjL])
      have HT : Hid (L.take (j + 1) = L.take j ++ [L.getD j 0]) := Lib.hid (by rw [List.take_add_one]; simp [List.getD, List.getElem?_eq_getElem hjL])
      have HMem : Hid (L.getD j 0 ∈ L) := Lib.hid (by simp [List.getD, List.getElem?_eq_getElem hjL])
      have HCase : Hid (L.take j = [] ↔ j = 0) := Lib.hid (by
        constructor
        · intro e
          have h5 : (L.take j).length = 0 := by rw [e]; rfl
          rw [List.length_take] at h5; omega
        · intro e; rw [e]; rfl)
      obtain ⟨ad3, rfl, _, cL⟩ := own3.rd.at_ hlt
      rw [show (L.map Int.ofNat).getD j 0 = ((L.getD j 0 : Nat) : Int) from by simp [List.getD, List.getElem?_eq_getElem hjL]] at cL
      generalize hii : L.getD j 0 = i at *
      clear hii
      rw [HLen.out] at hiP
      have hin : i < n := hiP
      have bc := isNum_bd (List.all_eq_true.1 HA.out _ (getD_mem (show i < p.length by rw [HLen.out]; exact hin)))
      have hfin : p.getD i 0 ≠ 1000000000 := HFin.out i HMem.out
      have bc2 : -1000000 ≤ p.getD i 0 ∧ p.getD i 0 ≤ 1000000 := by have := (isNum_iff _).1 (List.all_eq_true.1 HA.out _ (getD_mem (show i < p.length by rw [HLen.out]; exact hin))); omega
      obtain ⟨ad, rfl, hab, cP⟩ := (h.below belw).at_ hin
      have HY : Hid (yV fn fd p i = if (xV fn fd i).2 then mkFr ((xV fn fd i).1.1 + p.getD i 0 * (xV fn fd i).1.2) (xV fn fd i).1.2 else ((0, 0), false)) := Lib.hid rfl
      have hxo : (xV fn fd i).2 = true → isFr (xV fn fd i).1.1 (xV fn fd i).1.2 = true := fun hh => mkFr_ok hh
      have hxf : (xV fn fd i).2 = false → xV fn fd i = ((0, 0), false) := fun hh => mkFr_off hh
      have hib : (-1000000000 ≤ (i : Int) ∧ (i : Int) ≤ 1000000000 ∧ (1 : Int) ≤ 1 ∧ (1 : Int) ≤ 1000000000) ∧ -1000000000 ≤ fn ∧ fn ≤ 1000000000 ∧ 1 ≤ fd ∧ fd ≤ 1000000000 := by omega
      have C1 : ∀ w, Calls Try.prog 31 #[.agg #[.int .i64 (i : Int), .int .i64 1], .agg #[.int .i64 fn, .int .i64 fd]] w fun e w' => e = .returned (.tuple #[.agg #[.int .i64 (xV fn fd i).1.1, .int .i64 (xV fn fd i).1.2], .bool (xV fn fd i).2]) ∧ Below w.heap.size w w' := fun w => by
        have := frMul_c (i : Int) 1 fn fd w hib
        rw [Int.one_mul] at this
        exact this
      have CW := fun w => frInt_c (i : Int) w
      have CV := fun w => frInt_c (p.getD i 0) w
      have C2 : ∀ w, Calls Try.prog 33 #[.agg #[.int .i64 (xV fn fd i).1.1, .int .i64 (xV fn fd i).1.2], .agg #[.int .i64 (p.getD i 0), .int .i64 1]] w fun e w' => e = .returned (.tuple #[.agg #[.int .i64 (yV fn fd p i).1.1, .int .i64 (yV fn fd p i).1.2], .bool (yV fn fd p i).2]) ∧ Below w.heap.size w w' := fun w => by
        cases hx : (xV fn fd i).2
        · rw [HY.out, hxf hx]
          exact frAdd0_c (p.getD i 0) w (by omega)
          
          
        · have hb2 := isFr_bd (hxo hx)
          rw [HY.out, hx]
          have := frAdd_c (xV fn fd i).1.1 (xV fn fd i).1.2 (p.getD i 0) 1 w (by omega)
          rw [Int.mul_one, Int.mul_one] at this
          exact this
      have HYok : Hid ((yV fn fd p i).2 = true → (xV fn fd i).2 = true ∧ isFr (yV fn fd p i).1.1 (yV fn fd p i).1.2 = true) := Lib.hid fun hh => ⟨by
        rw [HY.out] at hh
        cases hx : (xV fn fd i).2
        · rw [hx] at hh; exact hh
        · rfl, termV_ok hh⟩
      have HFail : Hid ((yV fn fd p i).2 = false → pValueAt p fn fd = ((0, 0), false)) := Lib.hid fun hh => by
        rw [HP.out, if_neg]
        rw [okV_fail HMem.out hh]; simp
      have HGo : Hid ((yV fn fd p i).2 = true → okV fn fd p (L.take (j + 1)) = true) := Lib.hid fun hh => by rw [HT.out, okV_snoc, hok.out, hh]; rfl
      have HB : Hid (bestV fn fd p (L.take (j + 1)) = pickB (yV fn fd p i).1 (bestV fn fd p (L.take j))) := Lib.hid (by rw [HT.out, bestV_snoc])
      have HZ : Hid (∀ z, bestV fn fd p (L.take j) = some z → isFr z.1 z.2 = true) := Lib.hid fun z hz => bestV_fr _ _ rfl hok.out z hz
      have HN : Hid (bestV fn fd p (L.take j) = none ↔ L.take j = []) := Lib.hid bestV_none
      clear HY hxo hxf hib hok
      generalize hX : xV fn fd i = X at *
      generalize hYY : yV fn fd p i = Y at *
      clear hX hYY
      obtain ⟨⟨xn, xd⟩, ox⟩ := X
      obtain ⟨⟨yn, yd⟩, oy⟩ := Y
      dsimp only at C1 C2 HYok HFail HGo HB
      generalize p.getD i 0 = cc at *
      have bel := Below.refl wr.heap.size wr
      have hsP := P.1
      have hsB := B6.1
      go_upto_region 7 with fail
      go_cut [9, 10] (fun s1 s2 wx => ∃ kk : Nat, s1 = .pointer (some ⟨kk, 0, none⟩) ∧ s2 = .bool ox ∧ Bx wx kk [.int .i64 xn, .int .i64 xd] ∧ wr.heap.size ≤ kk ∧ Below wr.heap.size wr wx)
      case first =>
        have P := P.drew
        have sP := P.1
        have bel := bel.drew
        have hs := bel.size
        go_region_held3 (fun w' => w'.cell? ⟨w.heap.size, 0, none⟩ = some (.int .i64 fn) ∧ w'.cell? ⟨w.heap.size, 1, none⟩ = some (.int .i64 fd)) (first | exact ⟨P.at0, P.at1⟩ | exact ⟨Bx.at0 (show Bx _ w.heap.size [.int .i64 fn, .int .i64 fd] by repeat (first | exact P | refine Bx.alloc ?_ _ | refine Bx.set_ ?_ (by dsimp only; omega) _)), Bx.at1 (show Bx _ w.heap.size [.int .i64 fn, .int .i64 fd] by repeat (first | exact P | refine Bx.alloc ?_ _ | refine Bx.set_ ?_ (by dsimp only; omega) _))⟩)
            (first
            | (go_at_call 32; (with_reducible refine Calls.mono (CW _) ?_); rintro e v1 ⟨rfl, hb1⟩; have hs := bel.size; have bel : Below wr.heap.size wr v1 := (by first | exact bel_step bel hb1 | exact bel_step (bel_alloc bel _) hb1); have P : Bx v1 w.heap.size [.int .i64 fn, .int .i64 fd] := (by first | exact P.go hb1 | exact (P.alloc _).go hb1); have sP := P.1; (first | have Z := Z.go hb1 | have Z := (Bx.new _ [.int .i64 0, .int .i64 0] _).go hb1 | have Z := (Bx.new _ [.int .i64 0, .int .i64 0] _).drew.go hb1 | skip); (try simp only [World.size_alloc] at Z); (try have z0 := Z.at0); (try have z1 := Z.at1); (try have zf := Z.fz); obtain ⟨hkc, hkf⟩ := bel_cells hb1; have hz := hb1.size; try (simp only [World.size_alloc] at hz; have hz := Nat.lt_of_succ_le hz))
            | (go_at_call 31; (with_reducible refine Calls.mono (C1 _) ?_); rintro e v1 ⟨rfl, hb1⟩; have hs := bel.size; have bel : Below wr.heap.size wr v1 := (by first | exact bel_step bel hb1 | exact bel_step (bel_alloc bel _) hb1); have P : Bx v1 w.heap.size [.int .i64 fn, .int .i64 fd] := (by first | exact P.go hb1 | exact (P.alloc _).go hb1); have sP := P.1; (first | have Z := Z.go hb1 | have Z := (Bx.new _ [.int .i64 0, .int .i64 0] _).go hb1 | have Z := (Bx.new _ [.int .i64 0, .int .i64 0] _).drew.go hb1 | skip); (try simp only [World.size_alloc] at Z); (try have z0 := Z.at0); (try have z1 := Z.at1); (try have zf := Z.fz); obtain ⟨hkc, hkf⟩ := bel_cells hb1; have hz := hb1.size; try (simp only [World.size_alloc] at hz; have hz := Nat.lt_of_succ_le hz)))
        all_goals
          go_wp2_with fail
          go_meet
          refine ⟨_, rfl, rfl, ?_, ?_, ?_⟩
          · first | exact Z.put2 _ _ | exact (Bx.new _ [.int .i64 0, .int .i64 0] _).put2 _ _ | exact Bx.new _ [.int .i64 xn, .int .i64 xd] _
          · first | exact bel.size | omega | (have := bel.size; omega)
          · repeat (first | exact bel | refine bel_alloc ?_ _ | refine bel_set ?_ (by first | omega | exact bel.size | (dsimp only; omega)) _)
      case rest =>
        obtain ⟨k1, rfl, rfl, X1, hk1, bel⟩ := hcut
        have P0 := P
        have hsX := X1.1
        have CP : Cl wc (ad.add i) (.int .i64 cc) := (show Cl wr (ad.add i) (.int .i64 cc) from ⟨by rw [blk_add]; have := hab; have := belw.size; omega, cP⟩).go bel
        have cP := CP.2
        go_upto_region 8 with fail
        go_cut [11, 12] (fun s1 s2 wx => ∃ kk : Nat, s1 = .pointer (some ⟨kk, 0, none⟩) ∧ s2 = .bool oy ∧ Bx wx kk [.int .i64 yn, .int .i64 yd] ∧ wr.heap.size ≤ kk ∧ Below wr.heap.size wr wx)
        case first =>
          have X1 := X1.drew
          have CP := CP.drew
          have sX1 := X1.1
          have sCP := CP.1
          have bel := bel.drew
          have hs := bel.size
          go_region_held3 (fun w' => w'.cell? ⟨k1, 0, none⟩ = some (.int .i64 xn) ∧ w'.cell? ⟨k1, 1, none⟩ = some (.int .i64 xd) ∧ w'.cell? (ad.add i) = some (.int .i64 cc)) (first | exact ⟨X1.at0, X1.at1, CP.2⟩ | exact ⟨Bx.at0 (show Bx _ k1 [.int .i64 xn, .int .i64 xd] by repeat (first | exact X1 | refine Bx.alloc ?_ _ | refine Bx.set_ ?_ (by dsimp only; omega) _)), Bx.at1 (show Bx _ k1 [.int .i64 xn, .int .i64 xd] by repeat (first | exact X1 | refine Bx.alloc ?_ _ | refine Bx.set_ ?_ (by dsimp only; omega) _)), (show Cl _ (ad.add i) (.int .i64 cc) by repeat (first | exact CP | refine Cl.alloc ?_ _ | refine Cl.set_ ?_ (by (try rw [blk_add]); dsimp only; omega) _)).2⟩)
              (first
              | (go_at_call 32; (with_reducible refine Calls.mono (CV _) ?_); rintro e v1 ⟨rfl, hb1⟩; have hs := bel.size; have bel : Below wr.heap.size wr v1 := (by first | exact bel_step bel hb1 | exact bel_step (bel_alloc bel _) hb1); have X1 : Bx v1 k1 [.int .i64 xn, .int .i64 xd] := (by first | exact X1.go hb1 | exact (X1.alloc _).go hb1); have CP : Cl v1 (ad.add i) (.int .i64 cc) := (by first | exact CP.go hb1 | exact (CP.alloc _).go hb1); have sX1 := X1.1; have sCP := CP.1; (first | have Z := Z.go hb1 | have Z := (Bx.new _ [.int .i64 0, .int .i64 0] _).go hb1 | have Z := (Bx.new _ [.int .i64 0, .int .i64 0] _).drew.go hb1 | skip); (try simp only [World.size_alloc] at Z); (try have z0 := Z.at0); (try have z1 := Z.at1); (try have zf := Z.fz); obtain ⟨hkc, hkf⟩ := bel_cells hb1; have hz := hb1.size; try (simp only [World.size_alloc] at hz; have hz := Nat.lt_of_succ_le hz))
              | (go_at_call 33; (with_reducible refine Calls.mono (C2 _) ?_); rintro e v1 ⟨rfl, hb1⟩; have hs := bel.size; have bel : Below wr.heap.size wr v1 := (by first | exact bel_step bel hb1 | exact bel_step (bel_alloc bel _) hb1); have X1 : Bx v1 k1 [.int .i64 xn, .int .i64 xd] := (by first | exact X1.go hb1 | exact (X1.alloc _).go hb1); have CP : Cl v1 (ad.add i) (.int .i64 cc) := (by first | exact CP.go hb1 | exact (CP.alloc _).go hb1); have sX1 := X1.1; have sCP := CP.1; (first | have Z := Z.go hb1 | have Z := (Bx.new _ [.int .i64 0, .int .i64 0] _).go hb1 | have Z := (Bx.new _ [.int .i64 0, .int .i64 0] _).drew.go hb1 | skip); (try simp only [World.size_alloc] at Z); (try have z0 := Z.at0); (try have z1 := Z.at1); (try have zf := Z.fz); obtain ⟨hkc, hkf⟩ := bel_cells hb1; have hz := hb1.size; try (simp only [World.size_alloc] at hz; have hz := Nat.lt_of_succ_le hz)))
          all_goals
            go_wp2_with fail
            go_meet
            refine ⟨_, rfl, rfl, ?_, ?_, ?_⟩
            · first | exact Z.put2 _ _ | exact (Bx.new _ [.int .i64 0, .int .i64 0] _).put2 _ _ | exact Bx.new _ [.int .i64 yn, .int .i64 yd] _
            · first | exact bel.size | omega | (have := bel.size; omega)
            · repeat (first | exact bel | refine bel_alloc ?_ _ | refine bel_set ?_ (by first | omega | exact bel.size | (dsimp only; omega)) _)
        case rest =>
          obtain ⟨k2, rfl, rfl, Y2, hk2, bel⟩ := hcut
          have belW := bel_step belw bel
          have P := P0.go bel
          have R := R.go bel
          have B6 := B6.go bel
          have own3 := own3.go bel
          clear bel
          cases oy
          · have HPF := Lib.hid (HFail.out rfl)
            have hr0 := R.at0
            have hr1 := R.at1
            have hf0 := R.fz 0
            have hf1 := R.fz 1
            clear C1 C2 CW CV
            cases ox
            all_goals
              have bel := belW
              go_wp2_with fail
              refine bodyPost_ret (v := .tuple #[.agg #[.int .i64 0, .int .i64 0], .bool false]) (by simp [results, Try.results14, go_sem, *]) rfl ⟨?_, ?_⟩
              · rw [HPF.out]
              · (repeat (first | exact bel | refine Below.drew ?_ | refine bel_set ?_ (by first | exact Nat.le_refl _ | (dsimp only; omega) | omega) _ | refine bel_alloc ?_ _))
          · have HOk := Lib.hid (HYok.out rfl)
            obtain ⟨rfl, hyf⟩ := HOk.out
            have hyb := isFr_bd hyf

            cases hbz : bestV fn fd p (L.take j) with
            | none =>
              have HJ := Lib.hid (HCase.out.1 (HN.out.1 hbz))
              have HQ : Hid ((yn, yd) = (bestV fn fd p (L.take (j + 1))).getD (0, 0)) := Lib.hid (by rw [HB.out, hbz]; rfl)
              clear hbz
              have BE := B6.put2 (.int .i64 yn) (.int .i64 yd)
              have PE := (P.set_ (p := ⟨q, 0, none⟩) (show q ≠ w.heap.size by omega) (.int .i64 yn)).set_ (p := ⟨q, 1, none⟩) (show q ≠ w.heap.size by omega) (.int .i64 yd)
              have RE := (R.set_ (p := ⟨q, 0, none⟩) (show q ≠ w.heap.size + 1 by omega) (.int .i64 yn)).set_ (p := ⟨q, 1, none⟩) (show q ≠ w.heap.size + 1 by omega) (.int .i64 yd)
              have belE := bel_set (bel_set belW (p := ⟨q, 0, none⟩) (show w.heap.size ≤ q by omega) (.int .i64 yn)) (p := ⟨q, 1, none⟩) (show w.heap.size ≤ q by omega) (.int .i64 yd)
              have own3' := Own.kept (Own.kept own3 (grown_set _ ⟨q, 0, none⟩ (.int .i64 yn)) (ownI_neV own3)) (grown_set _ ⟨q, 1, none⟩ (.int .i64 yd)) (ownI_neV (Own.kept own3 (grown_set _ ⟨q, 0, none⟩ (.int .i64 yn)) (ownI_neV own3)))
              have b0 := B6.at0
              have b1 := B6.at1
              have bf0 := B6.fz 0
              have bf1 := B6.fz 1
              have y0 := Y2.at0
              have y1 := Y2.at1
              have hj0 : j = 0 := HJ.out
              subst hj0

              go_wp2_with fail
              go_roundw
              case rel => exact ⟨0 + 1, (yn, yd), by omega, by go_num, Lib.hid (HGo.out (by first | exact rfl | trivial)), Lib.hid (HQ.out), own3', belE, PE, RE, BE⟩
              case measure => simp [intOf]; omega
            | some z =>
              have HJ : Hid (¬ j = 0) := Lib.hid fun e => by have := HN.out.2 (HCase.out.2 e); rw [hbz] at this; cases this
              have hzf := isFr_bd (HZ.out z hbz)
              have hz0 : (zn, zd) = z := by rw [hbest.out, hbz]; rfl
              subst hz0
              dsimp only at hzf
              have HQ : Hid (bestV fn fd p (L.take (j + 1)) = if lessB (yn, yd) (zn, zd) then some (yn, yd) else some (zn, zd)) := Lib.hid (by rw [HB.out, hbz]; rfl)
              clear hbz
              have CC := fun w => frCmp_c yn yd zn zd w ⟨hyb, hzf⟩
              have b0 := B6.at0
              have b1 := B6.at1
              have y0 := Y2.at0
              have y1 := Y2.at1
              have hj0 : ¬ ((j : Int) = 0) := by have := HJ.out; omega
              
              by_cases hless : yn * zd - zn * yd < 0
              · have HQ2 : Hid ((yn, yd) = (bestV fn fd p (L.take (j + 1))).getD (0, 0)) := Lib.hid (by rw [HQ.out, lessB, decide_eq_true hless]; rfl)
                have HSg : Hid (sgn (yn * zd - zn * yd) = -1) := Lib.hid (by rw [sgn, if_pos hless])
                clear hless
                go_wp2_with fail
                refine (CC _).mono ?_; rw [HSg.out]; rintro e w9 ⟨rfl, hb9⟩
                have B6 := B6.go hb9
                have P := P.go hb9
                have R := R.go hb9
                have Y2 := Y2.go hb9
                have belW := bel_step belW hb9
                have own3 := own3.go hb9
                have BE := B6.put2 (.int .i64 yn) (.int .i64 yd)
                have PE := (P.set_ (p := ⟨q, 0, none⟩) (show q ≠ w.heap.size by omega) (.int .i64 yn)).set_ (p := ⟨q, 1, none⟩) (show q ≠ w.heap.size by omega) (.int .i64 yd)
                have RE := (R.set_ (p := ⟨q, 0, none⟩) (show q ≠ w.heap.size + 1 by omega) (.int .i64 yn)).set_ (p := ⟨q, 1, none⟩) (show q ≠ w.heap.size + 1 by omega) (.int .i64 yd)
                have belE := bel_set (bel_set belW (p := ⟨q, 0, none⟩) (show w.heap.size ≤ q by omega) (.int .i64 yn)) (p := ⟨q, 1, none⟩) (show w.heap.size ≤ q by omega) (.int .i64 yd)
                have own3' := Own.kept (Own.kept own3 (grown_set _ ⟨q, 0, none⟩ (.int .i64 yn)) (ownI_neV own3)) (grown_set _ ⟨q, 1, none⟩ (.int .i64 yd)) (ownI_neV (Own.kept own3 (grown_set _ ⟨q, 0, none⟩ (.int .i64 yn)) (ownI_neV own3)))
                have b0 := B6.at0
                have b1 := B6.at1
                have bf0 := B6.fz 0
                have bf1 := B6.fz 1
                have y0 := Y2.at0
                have y1 := Y2.at1
                go_wp2_with fail
                go_roundw
                case rel => exact ⟨j + 1, (yn, yd), by omega, by go_num, Lib.hid (HGo.out (by first | exact rfl | trivial)), Lib.hid (HQ2.out), own3', belE, PE, RE, BE⟩
                case measure => simp [intOf]; omega
              · have HQ2 : Hid ((zn, zd) = (bestV fn fd p (L.take (j + 1))).getD (0, 0)) := Lib.hid (by rw [HQ.out, lessB, decide_eq_false hless]; rfl)
                have hsg : sgn (yn * zd - zn * yd) = 0 ∨ sgn (yn * zd - zn * yd) = 1 := by unfold sgn; rw [if_neg hless]; split <;> omega
                clear hless
                obtain ⟨sg, HSg, hsg2⟩ : ∃ sg : Int, Hid (sgn (yn * zd - zn * yd) = sg) ∧ decide (sg < 0) = false := by
                  rcases hsg with e | e
                  · exact ⟨0, Lib.hid e, rfl⟩
                  · exact ⟨1, Lib.hid e, rfl⟩
                clear hsg
                go_wp2_with fail
                refine (CC _).mono ?_; rw [HSg.out]; rintro e w9 ⟨rfl, hb9⟩
                have B6 := B6.go hb9
                have P := P.go hb9
                have R := R.go hb9
                have belW := bel_step belW hb9
                have own3 := own3.go hb9
                have BE := B6
                have PE := P
                have RE := R
                have belE := belW
                have own3' := own3
                
                go_wp2_with fail
                go_roundw
                case rel => exact ⟨j + 1, (zn, zd), by omega, by go_num, Lib.hid (HGo.out (by first | exact rfl | trivial)), Lib.hid (HQ2.out), own3', belE, PE, RE, BE⟩
                case measure => simp [intOf]; omega

    · have HE : Hid (L.take j = L) := Lib.hid (List.take_of_length_le (by rw [HM.out]; omega))
      have HR : Hid (pValueAt p fn fd = ((zn, zd), true)) := Lib.hid (by rw [HP.out, ← HE.out, hok.out, ← hbest.out]; rfl)
      have b0 := B6.at0
      have b1 := B6.at1
      have hr0 := R.at0
      have hr1 := R.at1
      have hf0 := R.fz 0
      have hf1 := R.fz 1
      have bel := belw
      go_wp2_with fail
      refine bodyPost_ret (v := .tuple #[.agg #[.int .i64 zn, .int .i64 zd], .bool true]) (by simp [results, Try.results14, go_sem, *]) rfl ⟨?_, ?_⟩
      · rw [HR.out]
      · (repeat (first | exact bel | refine Below.drew ?_ | refine bel_set ?_ (by first | exact Nat.le_refl _ | (dsimp only; omega) | omega) _ | refine bel_alloc ?_ _))
set_option maxRecDepth 8192 in
set_option maxHeartbeats 8000000 in
theorem implValueAtFrac_c (A : Option Addr) (n c : Nat) (p : List Int) (fn fd : Int) (w : World) (h : Rd w w.heap.size A n p) (_hn : n ≤ 1048576) :
    Calls Try.prog 16 #[.slice A n c, .agg #[.int .i64 fn, .int .i64 fd]] w fun e w' => e = .returned (.tuple #[.agg #[.int .i64 (pValueAt p fn fd).1.1, .int .i64 (pValueAt p fn fd).1.2], .bool (pValueAt p fn fd).2]) ∧ Below w.heap.size w w' := by
  have HLen := Lib.hid h.len
  have X := bx2 w [.int .i64 fn, .int .i64 fd] [.int .i64 0, .int .i64 0] 33 33
  have P := X.1
  have R := X.2
  have bel := bel_alloc (bel_new w (.cells #[.int .i64 fn, .int .i64 fd] 33)) (.cells #[.int .i64 0, .int .i64 0] 33)
  clear X
  cases hp : isPol p
  · have HP : Hid (pValueAt p fn fd = ((0, 0), false)) := Lib.hid (by rw [pValueAt, hp]; rfl)
    have HV := Lib.hid hp
    clear hp
    have hr0 := R.at0
    have hr1 := R.at1
    have hf0 := R.fz 0
    have hf1 := R.fz 1
    go_enter Try.func16, Try.ntmps16
    go_wp2_with fail
    refine (isPoly_c _ _ _ _ _ _ (h.below bel)).mono ?_; rw [HV.out]; rintro e w' ⟨rfl, rfl⟩
    go_wp2_with fail
    refine bodyPost_ret (v := .tuple #[.agg #[.int .i64 0, .int .i64 0], .bool false]) (by simp [results, Try.results16, go_sem, *]) rfl ⟨?_, ?_⟩
    · rw [HP.out]
    · (repeat (first | exact bel | refine Below.drew ?_ | refine bel_set ?_ (by first | exact Nat.le_refl _ | (dsimp only; omega) | omega) _ | refine bel_alloc ?_ _))
  cases hf : isFr fn fd
  · have HP : Hid (pValueAt p fn fd = ((0, 0), false)) := Lib.hid (by rw [pValueAt, hp, hf]; rfl)
    have HV := Lib.hid hp
    have HF := Lib.hid hf
    clear hp hf
    go_enter Try.func16, Try.ntmps16
    go_wp2_with fail
    refine (isPoly_c _ _ _ _ _ _ (h.below bel)).mono ?_; rw [HV.out]; rintro e w' ⟨rfl, rfl⟩
    have hp0 := P.at0
    have hp1 := P.at1
    go_wp2_with fail
    refine (isFrac_c _ _ _).mono ?_; rw [HF.out]; rintro e w1 ⟨rfl, hb1⟩
    have bel := bel_step bel hb1
    have R := R.go hb1
    have hr0 := R.at0
    have hr1 := R.at1
    have hf0 := R.fz 0
    have hf1 := R.fz 1
    go_wp2_with fail
    refine bodyPost_ret (v := .tuple #[.agg #[.int .i64 0, .int .i64 0], .bool false]) (by simp [results, Try.results16, go_sem, *]) rfl ⟨?_, ?_⟩
    · rw [HP.out]
    · (repeat (first | exact bel | refine Below.drew ?_ | refine bel_set ?_ (by first | exact Nat.le_refl _ | (dsimp only; omega) | omega) _ | refine bel_alloc ?_ _))
  have HP : Hid (pValueAt p fn fd = if okV fn fd p (finTo p p.length) then ((bestV fn fd p (finTo p p.length)).getD (0, 0), true) else ((0, 0), false)) := Lib.hid (by rw [pValueAt, hp, hf]; rfl)
  have hl := isPol_len hp
  rw [HLen.out] at hl
  have hfb := isFr_bd hf
  have HA := Lib.hid (isPol_all hp)
  have HV := Lib.hid hp
  have HF := Lib.hid hf
  clear hp hf
  go_enter Try.func16, Try.ntmps16
  go_wp2_with fail
  refine (isPoly_c _ _ _ _ _ _ (h.below bel)).mono ?_; rw [HV.out]; rintro e w' ⟨rfl, rfl⟩
  have hp0 := P.at0
  have hp1 := P.at1
  go_wp2_with fail
  refine (isFrac_c _ _ _).mono ?_; rw [HF.out]; rintro e w1 ⟨rfl, hb1⟩
  have bel := bel_step bel hb1
  have P := P.go hb1
  have R := R.go hb1
  have sR := R.1
  have B6 := Bx.new w1 [.int .i64 0, .int .i64 0] 33
  have P := P.alloc (.cells #[.int .i64 0, .int .i64 0] 33)
  have R := R.alloc (.cells #[.int .i64 0, .int .i64 0] 33)
  have bel := bel_alloc bel (.cells #[.int .i64 0, .int .i64 0] 33)
  have hw1 : w.heap.size ≤ w1.heap.size := by omega
  clear hp0 hp1 hb1
  have HW : Hid (w1.heap.size < (w1.alloc (.cells #[.int .i64 0, .int .i64 0] 33)).heap.size) := Lib.hid (by rw [World.size_alloc]; omega)
  go_wp2_with fail
  generalize hwz : w1.alloc (.cells #[.int .i64 0, .int .i64 0] 33) = wz at *
  generalize w1.heap.size = q at *
  clear hwz
  go_loopw [7, 26] (fun g i wr => ∃ (k : Nat) (z : Int × Int), k ≤ n ∧ i = .int .i64 k ∧ Hid (okV fn fd p (finTo p k) = true) ∧ Hid (z = (bestV fn fd p (finTo p k)).getD (0, 0)) ∧ (g = .bool (!decide (finTo p k = []))) ∧ Below w.heap.size w wr ∧ Bx wr w.heap.size [.int .i64 fn, .int .i64 fd] ∧ Bx wr (w.heap.size + 1) [.int .i64 0, .int .i64 0] ∧ Bx wr q [.int .i64 z.1, .int .i64 z.2]) (fun _ i _ => n - (intOf i).toNat)
  case atStart => exact ⟨0, (0, 0), Nat.zero_le _, rfl, Lib.hid rfl, Lib.hid rfl, rfl, bel, P, R, B6⟩
  case round =>
    clear bel P R B6
    obtain ⟨i, ⟨zn, zd⟩, hi, rfl, hok, hbest, rfl, belw, P, R, B6⟩ := hrel
    dsimp only at B6 hbest
    by_cases hin : i < n
    · have HStep : Hid (finTo p (i + 1) = if p.getD i 0 = 1000000000 then finTo p i else finTo p i ++ [i]) := Lib.hid rfl
      have bc := isNum_bd (List.all_eq_true.1 HA.out _ (getD_mem (show i < p.length by rw [HLen.out]; exact hin)))
      have bc3 := (isNum_iff _).1 (List.all_eq_true.1 HA.out _ (getD_mem (show i < p.length by rw [HLen.out]; exact hin)))
      obtain ⟨ad, rfl, hab, cP⟩ := (h.below belw).at_ hin
      by_cases hfin : p.getD i 0 = 1000000000
      · have HT : Hid (finTo p (i + 1) = finTo p i) := Lib.hid (by rw [HStep.out, if_pos hfin])
        have HT2 := HT.out
        rw [hfin] at cP
        have hok' : Hid (okV fn fd p (finTo p (i + 1)) = true) := Lib.hid (by rw [HT.out, hok.out])
        have hbest' : Hid ((zn, zd) = (bestV fn fd p (finTo p (i + 1))).getD (0, 0)) := Lib.hid (by rw [HT.out, hbest.out])
        have HG : Hid (decide (finTo p (i + 1) = []) = decide (finTo p i = [])) := Lib.hid (by rw [HT.out])
        clear HT2
        generalize decide (finTo p i = []) = gb at *
        go_wp2_with fail
        go_roundw
        case rel => exact ⟨i + 1, (zn, zd), by omega, by go_num, hok', hbest', by rw [HG.out], belw, P, R, B6⟩
        case measure => simp [intOf]; omega
      have HT : Hid (finTo p (i + 1) = finTo p i ++ [i]) := Lib.hid (by rw [HStep.out, if_neg hfin])
      have HCase : Hid (finTo p i = [] ↔ finTo p i = []) := Lib.hid Iff.rfl
      have bc2 : -1000000 ≤ p.getD i 0 ∧ p.getD i 0 ≤ 1000000 := by omega
      have HY : Hid (yV fn fd p i = if (xV fn fd i).2 then mkFr ((xV fn fd i).1.1 + p.getD i 0 * (xV fn fd i).1.2) (xV fn fd i).1.2 else ((0, 0), false)) := Lib.hid rfl
      have hxo : (xV fn fd i).2 = true → isFr (xV fn fd i).1.1 (xV fn fd i).1.2 = true := fun hh => mkFr_ok hh
      have hxf : (xV fn fd i).2 = false → xV fn fd i = ((0, 0), false) := fun hh => mkFr_off hh
      have hib : (-1000000000 ≤ (i : Int) ∧ (i : Int) ≤ 1000000000 ∧ (1 : Int) ≤ 1 ∧ (1 : Int) ≤ 1000000000) ∧ -1000000000 ≤ fn ∧ fn ≤ 1000000000 ∧ 1 ≤ fd ∧ fd ≤ 1000000000 := by omega
      have C1 : ∀ w, Calls Try.prog 36 #[.agg #[.int .i64 (i : Int), .int .i64 1], .agg #[.int .i64 fn, .int .i64 fd]] w fun e w' => e = .returned (.tuple #[.agg #[.int .i64 (xV fn fd i).1.1, .int .i64 (xV fn fd i).1.2], .bool (xV fn fd i).2]) ∧ Below w.heap.size w w' := fun w => by
        have := implMultiplyFracs_c (i : Int) 1 fn fd w
        rw [pMul, twoFr, isFr_whole (by omega), HF.out, Int.one_mul] at this
        exact this
      have CW := fun w => whole_c (i : Int) w
      have CV := fun w => whole_c (p.getD i 0) w
      have C2 : ∀ w, Calls Try.prog 37 #[.agg #[.int .i64 (p.getD i 0), .int .i64 1], .agg #[.int .i64 (xV fn fd i).1.1, .int .i64 (xV fn fd i).1.2]] w fun e w' => e = .returned (.tuple #[.agg #[.int .i64 (yV fn fd p i).1.1, .int .i64 (yV fn fd p i).1.2], .bool (yV fn fd p i).2]) ∧ Below w.heap.size w w' := fun w => by
        cases hx : (xV fn fd i).2
        · rw [HY.out, hxf hx]
          have := implAddFracs_c (p.getD i 0) 1 0 0 w
          rw [pAdd, twoFr, isFr_off, Bool.and_false] at this
          exact this
        · have hb2 := isFr_bd (hxo hx)
          rw [HY.out, hx]
          have := implAddFracs_c (p.getD i 0) 1 (xV fn fd i).1.1 (xV fn fd i).1.2 w
          rw [pAdd, twoFr, isFr_whole (by omega), hxo hx, Int.mul_one, Int.one_mul, Int.add_comm] at this
          exact this
      have HYok : Hid ((yV fn fd p i).2 = true → (xV fn fd i).2 = true ∧ isFr (yV fn fd p i).1.1 (yV fn fd p i).1.2 = true) := Lib.hid fun hh => ⟨by
        rw [HY.out] at hh
        cases hx : (xV fn fd i).2
        · rw [hx] at hh; exact hh
        · rfl, termV_ok hh⟩
      have HFail : Hid ((yV fn fd p i).2 = false → pValueAt p fn fd = ((0, 0), false)) := Lib.hid fun hh => by
        rw [HP.out, if_neg]
        rw [okV_fail (fin_mem (by rw [HLen.out]; exact hin) hfin) hh]; simp
      have HGo : Hid ((yV fn fd p i).2 = true → okV fn fd p (finTo p (i + 1)) = true) := Lib.hid fun hh => by rw [HT.out, okV_snoc, hok.out, hh]; rfl
      have HB : Hid (bestV fn fd p (finTo p (i + 1)) = pickB (yV fn fd p i).1 (bestV fn fd p (finTo p i))) := Lib.hid (by rw [HT.out, bestV_snoc])
      have HZ : Hid (∀ z, bestV fn fd p (finTo p i) = some z → isFr z.1 z.2 = true) := Lib.hid fun z hz => bestV_fr _ _ rfl hok.out z hz
      have HN : Hid (bestV fn fd p (finTo p i) = none ↔ finTo p i = []) := Lib.hid bestV_none
      clear HY hxo hxf hib hok
      generalize hX : xV fn fd i = X at *
      generalize hYY : yV fn fd p i = Y at *
      clear hX hYY
      obtain ⟨⟨xn, xd⟩, ox⟩ := X
      obtain ⟨⟨yn, yd⟩, oy⟩ := Y
      dsimp only at C1 C2 HYok HFail HGo HB
      generalize p.getD i 0 = cc at *
      have bel := Below.refl wr.heap.size wr
      have hsP := P.1
      have hsB := B6.1
      go_upto_region 8 with fail
      go_cut [10, 11] (fun s1 s2 wx => ∃ kk : Nat, s1 = .pointer (some ⟨kk, 0, none⟩) ∧ s2 = .bool ox ∧ Bx wx kk [.int .i64 xn, .int .i64 xd] ∧ wr.heap.size ≤ kk ∧ Below wr.heap.size wr wx)
      case first =>
        have P := P.drew
        have sP := P.1
        have bel := bel.drew
        have hs := bel.size
        go_region_held3 (fun w' => w'.cell? ⟨w.heap.size, 0, none⟩ = some (.int .i64 fn) ∧ w'.cell? ⟨w.heap.size, 1, none⟩ = some (.int .i64 fd)) (first | exact ⟨P.at0, P.at1⟩ | exact ⟨Bx.at0 (show Bx _ w.heap.size [.int .i64 fn, .int .i64 fd] by repeat (first | exact P | refine Bx.alloc ?_ _ | refine Bx.set_ ?_ (by dsimp only; omega) _)), Bx.at1 (show Bx _ w.heap.size [.int .i64 fn, .int .i64 fd] by repeat (first | exact P | refine Bx.alloc ?_ _ | refine Bx.set_ ?_ (by dsimp only; omega) _))⟩)
            (first
            | (go_at_call 28; (with_reducible refine Calls.mono (CW _) ?_); rintro e v1 ⟨rfl, hb1⟩; have hs := bel.size; have bel : Below wr.heap.size wr v1 := (by first | exact bel_step bel hb1 | exact bel_step (bel_alloc bel _) hb1); have P : Bx v1 w.heap.size [.int .i64 fn, .int .i64 fd] := (by first | exact P.go hb1 | exact (P.alloc _).go hb1); have sP := P.1; (first | have Z := Z.go hb1 | have Z := (Bx.new _ [.int .i64 0, .int .i64 0] _).go hb1 | have Z := (Bx.new _ [.int .i64 0, .int .i64 0] _).drew.go hb1 | skip); (try simp only [World.size_alloc] at Z); (try have z0 := Z.at0); (try have z1 := Z.at1); (try have zf := Z.fz); obtain ⟨hkc, hkf⟩ := bel_cells hb1; have hz := hb1.size; try (simp only [World.size_alloc] at hz; have hz := Nat.lt_of_succ_le hz))
            | (go_at_call 36; (with_reducible refine Calls.mono (C1 _) ?_); rintro e v1 ⟨rfl, hb1⟩; have hs := bel.size; have bel : Below wr.heap.size wr v1 := (by first | exact bel_step bel hb1 | exact bel_step (bel_alloc bel _) hb1); have P : Bx v1 w.heap.size [.int .i64 fn, .int .i64 fd] := (by first | exact P.go hb1 | exact (P.alloc _).go hb1); have sP := P.1; (first | have Z := Z.go hb1 | have Z := (Bx.new _ [.int .i64 0, .int .i64 0] _).go hb1 | have Z := (Bx.new _ [.int .i64 0, .int .i64 0] _).drew.go hb1 | skip); (try simp only [World.size_alloc] at Z); (try have z0 := Z.at0); (try have z1 := Z.at1); (try have zf := Z.fz); obtain ⟨hkc, hkf⟩ := bel_cells hb1; have hz := hb1.size; try (simp only [World.size_alloc] at hz; have hz := Nat.lt_of_succ_le hz)))
        all_goals
          go_wp2_with fail
          go_meet
          refine ⟨_, rfl, rfl, ?_, ?_, ?_⟩
          · first | exact Z.put2 _ _ | exact (Bx.new _ [.int .i64 0, .int .i64 0] _).put2 _ _ | exact Bx.new _ [.int .i64 xn, .int .i64 xd] _
          · first | exact bel.size | omega | (have := bel.size; omega)
          · repeat (first | exact bel | refine bel_alloc ?_ _ | refine bel_set ?_ (by first | omega | exact bel.size | (dsimp only; omega)) _)
      case rest =>
        obtain ⟨k1, rfl, rfl, X1, hk1, bel⟩ := hcut
        have P0 := P
        have hsX := X1.1
        skip
        skip
        go_upto_region 9 with fail
        go_cut [12, 13] (fun s1 s2 wx => ∃ kk : Nat, s1 = .pointer (some ⟨kk, 0, none⟩) ∧ s2 = .bool oy ∧ Bx wx kk [.int .i64 yn, .int .i64 yd] ∧ wr.heap.size ≤ kk ∧ Below wr.heap.size wr wx)
        case first =>
          have X1 := X1.drew
          have sX1 := X1.1
          have bel := bel.drew
          have hs := bel.size
          go_region_held3 (fun w' => w'.cell? ⟨k1, 0, none⟩ = some (.int .i64 xn) ∧ w'.cell? ⟨k1, 1, none⟩ = some (.int .i64 xd)) (first | exact ⟨X1.at0, X1.at1⟩ | exact ⟨Bx.at0 (show Bx _ k1 [.int .i64 xn, .int .i64 xd] by repeat (first | exact X1 | refine Bx.alloc ?_ _ | refine Bx.set_ ?_ (by dsimp only; omega) _)), Bx.at1 (show Bx _ k1 [.int .i64 xn, .int .i64 xd] by repeat (first | exact X1 | refine Bx.alloc ?_ _ | refine Bx.set_ ?_ (by dsimp only; omega) _))⟩)
              (first
              | (go_at_call 28; (with_reducible refine Calls.mono (CV _) ?_); rintro e v1 ⟨rfl, hb1⟩; have hs := bel.size; have bel : Below wr.heap.size wr v1 := (by first | exact bel_step bel hb1 | exact bel_step (bel_alloc bel _) hb1); have X1 : Bx v1 k1 [.int .i64 xn, .int .i64 xd] := (by first | exact X1.go hb1 | exact (X1.alloc _).go hb1); have sX1 := X1.1; (first | have Z := Z.go hb1 | have Z := (Bx.new _ [.int .i64 0, .int .i64 0] _).go hb1 | have Z := (Bx.new _ [.int .i64 0, .int .i64 0] _).drew.go hb1 | skip); (try simp only [World.size_alloc] at Z); (try have z0 := Z.at0); (try have z1 := Z.at1); (try have zf := Z.fz); obtain ⟨hkc, hkf⟩ := bel_cells hb1; have hz := hb1.size; try (simp only [World.size_alloc] at hz; have hz := Nat.lt_of_succ_le hz))
              | (go_at_call 37; (with_reducible refine Calls.mono (C2 _) ?_); rintro e v1 ⟨rfl, hb1⟩; have hs := bel.size; have bel : Below wr.heap.size wr v1 := (by first | exact bel_step bel hb1 | exact bel_step (bel_alloc bel _) hb1); have X1 : Bx v1 k1 [.int .i64 xn, .int .i64 xd] := (by first | exact X1.go hb1 | exact (X1.alloc _).go hb1); have sX1 := X1.1; (first | have Z := Z.go hb1 | have Z := (Bx.new _ [.int .i64 0, .int .i64 0] _).go hb1 | have Z := (Bx.new _ [.int .i64 0, .int .i64 0] _).drew.go hb1 | skip); (try simp only [World.size_alloc] at Z); (try have z0 := Z.at0); (try have z1 := Z.at1); (try have zf := Z.fz); obtain ⟨hkc, hkf⟩ := bel_cells hb1; have hz := hb1.size; try (simp only [World.size_alloc] at hz; have hz := Nat.lt_of_succ_le hz)))
          all_goals
            go_wp2_with fail
            go_meet
            refine ⟨_, rfl, rfl, ?_, ?_, ?_⟩
            · first | exact Z.put2 _ _ | exact (Bx.new _ [.int .i64 0, .int .i64 0] _).put2 _ _ | exact Bx.new _ [.int .i64 yn, .int .i64 yd] _
            · first | exact bel.size | omega | (have := bel.size; omega)
            · repeat (first | exact bel | refine bel_alloc ?_ _ | refine bel_set ?_ (by first | omega | exact bel.size | (dsimp only; omega)) _)
        case rest =>
          obtain ⟨k2, rfl, rfl, Y2, hk2, bel⟩ := hcut
          have belW := bel_step belw bel
          have P := P0.go bel
          have R := R.go bel
          have B6 := B6.go bel
          skip
          clear bel
          cases oy
          · have HPF := Lib.hid (HFail.out rfl)
            have hr0 := R.at0
            have hr1 := R.at1
            have hf0 := R.fz 0
            have hf1 := R.fz 1
            clear C1 C2 CW CV
            cases ox
            all_goals
              have bel := belW
              go_wp2_with fail
              refine bodyPost_ret (v := .tuple #[.agg #[.int .i64 0, .int .i64 0], .bool false]) (by simp [results, Try.results16, go_sem, *]) rfl ⟨?_, ?_⟩
              · rw [HPF.out]
              · (repeat (first | exact bel | refine Below.drew ?_ | refine bel_set ?_ (by first | exact Nat.le_refl _ | (dsimp only; omega) | omega) _ | refine bel_alloc ?_ _))
          · have HOk := Lib.hid (HYok.out rfl)
            obtain ⟨rfl, hyf⟩ := HOk.out
            have hyb := isFr_bd hyf
            have HG : Hid (decide (finTo p (i + 1) = []) = false) := Lib.hid (decide_eq_false (by rw [HT.out]; simp))
            cases hbz : bestV fn fd p (finTo p i) with
            | none =>
              have HJ := Lib.hid ((HN.out.1 hbz))
              have HQ : Hid ((yn, yd) = (bestV fn fd p (finTo p (i + 1))).getD (0, 0)) := Lib.hid (by rw [HB.out, hbz]; rfl)
              clear hbz
              have BE := B6.put2 (.int .i64 yn) (.int .i64 yd)
              have PE := (P.set_ (p := ⟨q, 0, none⟩) (show q ≠ w.heap.size by omega) (.int .i64 yn)).set_ (p := ⟨q, 1, none⟩) (show q ≠ w.heap.size by omega) (.int .i64 yd)
              have RE := (R.set_ (p := ⟨q, 0, none⟩) (show q ≠ w.heap.size + 1 by omega) (.int .i64 yn)).set_ (p := ⟨q, 1, none⟩) (show q ≠ w.heap.size + 1 by omega) (.int .i64 yd)
              have belE := bel_set (bel_set belW (p := ⟨q, 0, none⟩) (show w.heap.size ≤ q by omega) (.int .i64 yn)) (p := ⟨q, 1, none⟩) (show w.heap.size ≤ q by omega) (.int .i64 yd)
              have b0 := B6.at0
              have b1 := B6.at1
              have bf0 := B6.fz 0
              have bf1 := B6.fz 1
              have y0 := Y2.at0
              have y1 := Y2.at1
              have hG0 : decide (finTo p i = []) = true := decide_eq_true HJ.out

              rw [hG0]
              go_wp2_with fail
              go_roundw
              case rel => exact ⟨i + 1, (yn, yd), by omega, by go_num, Lib.hid (HGo.out (by first | exact rfl | trivial)), Lib.hid (HQ.out), by first | (rw [HG.out]; done) | (rw [HG.out]; rfl), belE, PE, RE, BE⟩
              case measure => simp [intOf]; omega
            | some z =>
              have HJ : Hid (¬ finTo p i = []) := Lib.hid fun e => by have := HN.out.2 (e); rw [hbz] at this; cases this
              have hzf := isFr_bd (HZ.out z hbz)
              have hz0 : (zn, zd) = z := by rw [hbest.out, hbz]; rfl
              subst hz0
              dsimp only at hzf
              have HQ : Hid (bestV fn fd p (finTo p (i + 1)) = if lessB (yn, yd) (zn, zd) then some (yn, yd) else some (zn, zd)) := Lib.hid (by rw [HB.out, hbz]; rfl)
              clear hbz
              have CC := fun w => compare_c yn yd zn zd w ⟨hyb, hzf⟩
              have b0 := B6.at0
              have b1 := B6.at1
              have y0 := Y2.at0
              have y1 := Y2.at1
              have hj0 : decide (finTo p i = []) = false := decide_eq_false HJ.out
              rw [hj0]
              by_cases hless : yn * zd - zn * yd < 0
              · have HQ2 : Hid ((yn, yd) = (bestV fn fd p (finTo p (i + 1))).getD (0, 0)) := Lib.hid (by rw [HQ.out, lessB, decide_eq_true hless]; rfl)
                have HSg : Hid (sgn (yn * zd - zn * yd) = -1) := Lib.hid (by rw [sgn, if_pos hless])
                clear hless
                go_wp2_with fail
                refine (CC _).mono ?_; rw [HSg.out]; rintro e w9 ⟨rfl, hb9⟩
                have B6 := B6.go hb9
                have P := P.go hb9
                have R := R.go hb9
                have Y2 := Y2.go hb9
                have belW := bel_step belW hb9
                skip
                have BE := B6.put2 (.int .i64 yn) (.int .i64 yd)
                have PE := (P.set_ (p := ⟨q, 0, none⟩) (show q ≠ w.heap.size by omega) (.int .i64 yn)).set_ (p := ⟨q, 1, none⟩) (show q ≠ w.heap.size by omega) (.int .i64 yd)
                have RE := (R.set_ (p := ⟨q, 0, none⟩) (show q ≠ w.heap.size + 1 by omega) (.int .i64 yn)).set_ (p := ⟨q, 1, none⟩) (show q ≠ w.heap.size + 1 by omega) (.int .i64 yd)
                have belE := bel_set (bel_set belW (p := ⟨q, 0, none⟩) (show w.heap.size ≤ q by omega) (.int .i64 yn)) (p := ⟨q, 1, none⟩) (show w.heap.size ≤ q by omega) (.int .i64 yd)
                have b0 := B6.at0
                have b1 := B6.at1
                have bf0 := B6.fz 0
                have bf1 := B6.fz 1
                have y0 := Y2.at0
                have y1 := Y2.at1
                go_wp2_with fail
                go_roundw
                case rel => exact ⟨i + 1, (yn, yd), by omega, by go_num, Lib.hid (HGo.out (by first | exact rfl | trivial)), Lib.hid (HQ2.out), by first | (rw [HG.out]; done) | (rw [HG.out]; rfl), belE, PE, RE, BE⟩
                case measure => simp [intOf]; omega
              · have HQ2 : Hid ((zn, zd) = (bestV fn fd p (finTo p (i + 1))).getD (0, 0)) := Lib.hid (by rw [HQ.out, lessB, decide_eq_false hless]; rfl)
                have hsg : sgn (yn * zd - zn * yd) = 0 ∨ sgn (yn * zd - zn * yd) = 1 := by unfold sgn; rw [if_neg hless]; split <;> omega
                clear hless
                obtain ⟨sg, HSg, hsg2⟩ : ∃ sg : Int, Hid (sgn (yn * zd - zn * yd) = sg) ∧ decide (sg < 0) = false := by
                  rcases hsg with e | e
                  · exact ⟨0, Lib.hid e, rfl⟩
                  · exact ⟨1, Lib.hid e, rfl⟩
                clear hsg
                go_wp2_with fail
                refine (CC _).mono ?_; rw [HSg.out]; rintro e w9 ⟨rfl, hb9⟩
                have B6 := B6.go hb9
                have P := P.go hb9
                have R := R.go hb9
                have belW := bel_step belW hb9
                skip
                have BE := B6
                have PE := P
                have RE := R
                have belE := belW
                have HG := HG
                go_wp2_with fail
                go_roundw
                case rel => exact ⟨i + 1, (zn, zd), by omega, by go_num, Lib.hid (HGo.out (by first | exact rfl | trivial)), Lib.hid (HQ2.out), by first | (rw [HG.out]; done) | (rw [HG.out]; rfl), belE, PE, RE, BE⟩
                case measure => simp [intOf]; omega

    · have HE : Hid (finTo p i = finTo p p.length) := Lib.hid (by rw [HLen.out, show i = n from by omega])
      have HR : Hid (pValueAt p fn fd = ((zn, zd), true)) := Lib.hid (by rw [HP.out, ← HE.out, hok.out, ← hbest.out]; rfl)
      have b0 := B6.at0
      have b1 := B6.at1
      have hr0 := R.at0
      have hr1 := R.at1
      have hf0 := R.fz 0
      have hf1 := R.fz 1
      have bel := belw
      go_wp2_with fail
      refine bodyPost_ret (v := .tuple #[.agg #[.int .i64 zn, .int .i64 zd], .bool true]) (by simp [results, Try.results16, go_sem, *]) rfl ⟨?_, ?_⟩
      · rw [HR.out]
      · (repeat (first | exact bel | refine Below.drew ?_ | refine bel_set ?_ (by first | exact Nat.le_refl _ | (dsimp only; omega) | omega) _ | refine bel_alloc ?_ _))
set_option maxHeartbeats 4000000 in
theorem walk_FnExactValueAtFrac (A0 : Option Addr) (n0 c0 : Nat) (z0 : List Int) (a1 b1 : Int) (w : World) (r0 : Rd w w.heap.size A0 n0 z0) (w1 : (Lit.int .i64 a1).wf = true) (x1 : (Lit.int .i64 b1).wf = true) :
  Calls Try.prog 5 #[.slice A0 n0 c0, .agg #[.int .i64 a1, .int .i64 b1]] w fun e w' => e = .returned (.bool true) ∧ Below w.heap.size w w' := by
  have _w := w1
  have _w := x1
  have l0 := r0.le
  have P := Bx.new w [.int .i64 a1, .int .i64 b1] 32
  have bel := bel_new w (.cells #[.int .i64 a1, .int .i64 b1] 32)
  by_cases s0 : n0 ≤ 1048576
  rotate_left
  · go_enter Try.func5, Try.ntmps5
    go_wp2_with fail
    go_ret
    exact ⟨rfl, bel⟩
  have CS := fun A n c w h hn => specValueAtFrac_c A n c z0 a1 b1 w h hn
  have CI := fun A n c w h hn => implValueAtFrac_c A n c z0 a1 b1 w h hn
  generalize pValueAt z0 a1 b1 = V at CS CI
  obtain ⟨⟨rn, rd⟩, rk⟩ := V
  dsimp only at CS CI
  go_enter Try.func5, Try.ntmps5
  go_upto_region 3 with fail
  go_cut [5, 6] (fun s1 s2 wx => ∃ kk : Nat, s1 = .pointer (some ⟨kk, 0, none⟩) ∧ s2 = .bool rk ∧ Bx wx kk [.int .i64 rn, .int .i64 rd] ∧ Bx wx w.heap.size [.int .i64 a1, .int .i64 b1] ∧ Below w.heap.size w wx)
  case first =>
    refine gen_world (C := Code.wp _ _ _ _) (fun u => Below w.heap.size w u ∧ Bx u w.heap.size [.int .i64 a1, .int .i64 b1]) ⟨bel, P⟩ ?_
    clear bel P
    rintro u ⟨bel, P⟩
    have sU := P.1
    have P := P.drew
    have bel := bel.drew
    have sP := P.1
    go_region_held3 (fun w' => w'.cell? ⟨w.heap.size, 0, none⟩ = some (.int .i64 a1) ∧ w'.cell? ⟨w.heap.size, 1, none⟩ = some (.int .i64 b1)) (first | exact ⟨P.at0, P.at1⟩ | exact ⟨Bx.at0 (show Bx _ w.heap.size [.int .i64 a1, .int .i64 b1] by repeat (first | exact P | refine Bx.alloc ?_ _ | refine Bx.set_ ?_ (by dsimp only; omega) _)), Bx.at1 (show Bx _ w.heap.size [.int .i64 a1, .int .i64 b1] by repeat (first | exact P | refine Bx.alloc ?_ _ | refine Bx.set_ ?_ (by dsimp only; omega) _))⟩)
      (first
      | (go_at_call 7; (first | refine (toIntS_c _ _ _ _ _ _ (r0.below bel) bel.size (by omega)).mono ?_ | refine (toIntS_c _ _ _ _ _ _ (r0.below (bel_alloc bel _)) (bel_alloc bel _).size (by omega)).mono ?_); rintro e v1 ⟨AT, nT, cT, rfl, T, hb1, qT⟩; have hs := bel.size; have bel : Below w.heap.size w v1 := (by first | exact bel_step bel hb1 | exact bel_step (bel_alloc bel _) hb1); have P : Bx v1 w.heap.size [.int .i64 a1, .int .i64 b1] := (by first | exact P.go hb1 | exact (P.alloc _).go hb1); have sP := P.1; (first | have Z := Z.go hb1 | have Z := (Bx.new _ [.int .i64 0, .int .i64 0] _).go hb1 | have Z := (Bx.new _ [.int .i64 0, .int .i64 0] _).drew.go hb1 | skip); (try simp only [World.size_alloc] at Z); (try change Bx v1 u.heap.size [.int .i64 0, .int .i64 0] at Z); (try have z0' := Z.at0); (try have z1' := Z.at1); (try have zf := Z.fz); obtain ⟨hkc, hkf⟩ := bel_cells hb1; have hz := hb1.size; try (simp only [World.size_alloc] at hz; have hz := Nat.lt_of_succ_le hz))
      | (go_at_call 15; refine (toFrac_c _ _ _).mono ?_; rintro e v1 ⟨rfl, hb1⟩; have T : Own v1 _ 3 (.slice AT nT cT) nT z0 := (by first | exact T.go hb1 | exact (T.new _).go hb1); have hs := bel.size; have bel : Below w.heap.size w v1 := (by first | exact bel_step bel hb1 | exact bel_step (bel_alloc bel _) hb1); have P : Bx v1 w.heap.size [.int .i64 a1, .int .i64 b1] := (by first | exact P.go hb1 | exact (P.alloc _).go hb1); have sP := P.1; (first | have Z := Z.go hb1 | have Z := (Bx.new _ [.int .i64 0, .int .i64 0] _).go hb1 | have Z := (Bx.new _ [.int .i64 0, .int .i64 0] _).drew.go hb1 | skip); (try simp only [World.size_alloc] at Z); (try change Bx v1 u.heap.size [.int .i64 0, .int .i64 0] at Z); (try have z0' := Z.at0); (try have z1' := Z.at1); (try have zf := Z.fz); obtain ⟨hkc, hkf⟩ := bel_cells hb1; have hz := hb1.size; try (simp only [World.size_alloc] at hz; have hz := Nat.lt_of_succ_le hz))
      | (go_at_call 14; (first | refine (CS _ _ _ _ T.rd (by have := T.len; have := r0.len; omega)).mono ?_ | refine (CS _ _ _ _ (T.new _).rd (by have := T.len; have := r0.len; omega)).mono ?_); rintro e v1 ⟨rfl, hb1⟩; have hs := bel.size; have bel : Below w.heap.size w v1 := (by first | exact bel_step bel hb1 | exact bel_step (bel_alloc bel _) hb1); have P : Bx v1 w.heap.size [.int .i64 a1, .int .i64 b1] := (by first | exact P.go hb1 | exact (P.alloc _).go hb1); have sP := P.1; (first | have Z := Z.go hb1 | have Z := (Bx.new _ [.int .i64 0, .int .i64 0] _).go hb1 | have Z := (Bx.new _ [.int .i64 0, .int .i64 0] _).drew.go hb1 | skip); (try simp only [World.size_alloc] at Z); (try change Bx v1 u.heap.size [.int .i64 0, .int .i64 0] at Z); (try have z0' := Z.at0); (try have z1' := Z.at1); (try have zf := Z.fz); obtain ⟨hkc, hkf⟩ := bel_cells hb1; have hz := hb1.size; try (simp only [World.size_alloc] at hz; have hz := Nat.lt_of_succ_le hz)))
    all_goals
      go_wp2_with fail
      go_meet
      refine ⟨_, rfl, rfl, ?_, ?_, ?_⟩
      · first | exact Z.put2 _ _ | exact (Bx.new _ [.int .i64 0, .int .i64 0] _).put2 _ _ | exact Bx.new _ [.int .i64 rn, .int .i64 rd] _
      · repeat (first | exact P | refine Bx.alloc ?_ _ | refine Bx.set_ ?_ (by dsimp only; omega) _)
      · repeat (first | exact bel | refine bel_alloc ?_ _ | refine bel_set ?_ (by first | (dsimp only; omega) | omega) _)
  case rest =>
    clear P bel
    obtain ⟨k, rfl, rfl, R, P, bel⟩ := hcut
    go_wp2_with fail
    refine (toIntS_c _ _ _ _ _ _ (r0.below bel) bel.size (by omega)).mono ?_; rintro e v2 ⟨A2, n2, c2, rfl, X, hb2, _⟩
    have P := P.go hb2
    have R := R.go hb2
    have bel := bel_step bel hb2
    have p0 := P.at0
    have p1 := P.at1
    go_wp2_with fail
    refine (toFrac_c _ _ _).mono ?_; rintro e v3 ⟨rfl, hb3⟩
    have R := R.go hb3
    have X := X.go hb3
    have bel := bel_step bel hb3
    clear p0 p1 P
    go_wp2_with fail
    refine (CI _ _ _ _ X.rd (by have := X.len; have := r0.len; omega)).mono ?_; rintro e v4 ⟨rfl, hb4⟩
    have R := R.go hb4
    have X := X.go hb4
    have bel := bel_step bel hb4
    have G := Bx.new v4 [.int .i64 rn, .int .i64 rd] 33
    have R := R.alloc (.cells #[.int .i64 rn, .int .i64 rd] 33)
    have X := X.new (.cells #[.int .i64 rn, .int .i64 rd] 33)
    have bel := bel_alloc bel (.cells #[.int .i64 rn, .int .i64 rd] 33)
    have r0' := R.at0
    have r1' := R.at1
    have g0 := G.at0
    have g1 := G.at1
    clear R G
    go_wp2_with fail
    refine (eqFrac_c _ _ _).mono ?_; rintro e v5 ⟨rfl, hb5⟩
    have X := X.go hb5
    have bel := bel_step bel hb5
    go_wp2_with fail
    refine (toIntS_c _ _ _ _ _ _ (r0.below bel) bel.size (by omega)).mono ?_; rintro e v6 ⟨A6, n6, c6, rfl, Y, hb6, _⟩
    have X := X.go hb6
    have bel := bel_step bel hb6
    go_wp2_with fail
    refine (eqIntS_c _ _ _ _ _ _ _ _ _ _ X.rd Y.rd).mono ?_; rintro e v7 ⟨rfl, hb7⟩
    have bel := bel_step bel hb7
    go_wp2_with fail
    go_ret
    exact ⟨rfl, bel⟩
end Go.Proofs.Ytfmlclciijlpkaa
