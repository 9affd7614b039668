/- The hull: both packages' functions against the plain one. -/
import Derived.Test.YtfkglbmdpefigaaGreatDoorWHalf
import Derived.Test.YtfkglbmdpefigaaGreatDoorWHalf2
import Derived.Test.YtfkglbmdpefigaaGreatDoorWSrt
import Derived.Test.YtfkglbmdpefigaaGreatDoorRevP
import Derived.Test.YtfkglbmdpefigaaGreatDoorWLook
import Derived.Test.YtfkglbmdpefigaaGreatDoorSortP
namespace Go.Proofs.YtfkglbmdpefigaaGreatDoor
open Go.RowKit
theorem back_step {S : List Pnt} {k : Nat} (h : k < S.length) : (S.drop k).reverse = (S.drop (k + 1)).reverse ++ [S.getD k (0, 0)] := by
  rw [dropP_cons h, List.reverse_cons]
theorem srcP_own {w : World} {B n c m : Nat} {E : TypeId} {l : List Pnt} {g : Nat} (h : OwnP w B E (.slice (some ⟨g, 0, none⟩) n c) n l) (hm : m ≤ n) (c' : Nat) : SrcF w 2 (.slice (some ⟨g, 0, none⟩) m c') m (flatP (l.take m)) :=
  srcP_pre h.rd hm
theorem srcP_all {w : World} {B n c : Nat} {A : Option Addr} {E : TypeId} {l : List Pnt} (h : OwnP w B E (.slice A n c) n l) : SrcF w 2 (.slice A n c) n (flatP l) := by
  rcases h.nilOr with ⟨rfl, rfl, rfl⟩ | ⟨g, rfl⟩
  · have := h.len
    match l, this with
    | [], _ => exact .inl ⟨rfl, rfl, rfl⟩
  · have := srcP_pre (c := c) h.rd (Nat.le_refl n)
    rwa [← h.len, List.take_length, h.len] at this
set_option maxHeartbeats 8000000 in
set_option maxRecDepth 8192 in
theorem pyHull_c (A : Option Addr) (n c : Nat) (l : List Pnt) (B : Nat) (w : World) (h : RdP w B A n l) (hB : B ≤ w.heap.size) (hb : ∀ t ∈ l, bdP t) (hn1 : 0 < n) (hn : n ≤ 3000) :
    Calls Tryz.prog 21 #[.slice A n c] w (RetP 32 (hullP l) w) := by
  have hsl := sortP_len l
  have hsp := sortP_ne (l := l) (by rw [h.len]; exact hn1)
  rw [h.len] at hsl
  have HB := Lib.hid (bd_sort hb)
  have HH : Hid (hullP l = if (sortP l).length < 2 then sortP l else (halfS (sortP l)).reverse.dropLast ++ (halfS (sortP l).reverse).reverse.dropLast) := Lib.hid rfl
  clear hb
  obtain ⟨i0, hi, hz0, hz1, hz2⟩ := info_parts info_pnt
  have HI := Lib.hid hi
  have HZ0 := Lib.hid hz0
  have HZ1 := Lib.hid hz1
  have HZ2 := Lib.hid hz2
  clear hi hz0 hz1 hz2
  go_enter Tryz.func21, Tryz.ntmps21
  go_wp2_with fail
  refine (pySorted_c _ _ _ _ _ _ h hB hn).mono ?_
  rintro e w1 ⟨A1, N, c1, rfl, own1, bel1, hN⟩
  generalize sortP l = S at *
  have hS := own1.len
  rw [hS] at hsl hsp
  have HS := Lib.hid hS
  clear hS
  by_cases h2 : N < 2
  · have HF : Hid (hullP l = S) := Lib.hid (by rw [HH.out, HS.out, if_pos h2])
    go_wp2_with fail
    go_ret
    exact retP_mk (by rw [HF.out]; exact own1) bel1 hN
  · have HF : Hid (hullP l = (halfS S).reverse.dropLast ++ (halfS S.reverse).reverse.dropLast) := Lib.hid (by rw [HH.out, HS.out, if_neg h2])
    clear HH
    have rd1 := own1.rd
    have hs1 := bel1.size
    go_wp2_with fail
    refine (pyHalf_c A1 N c1 S w1.heap.size w1 rd1 (Nat.le_refl _) HB.out hsp (by omega)).mono ?_
    rintro e w2 ⟨A2, n2, c2, rfl, own2, bel2, hn2⟩
    have hl2 : n2 = (halfS S).length := by have := own2.len; rw [List.length_reverse] at this; exact this.symm
    have hp2 : 0 < n2 := by rw [hl2]; exact half_pos (by rw [HS.out]; exact hsp)
    have hq2 : n2 ≤ N := by rw [hl2, ← HS.out]; exact halfS_len S
    have HL2 := Lib.hid hl2
    clear hl2
    have hs2 := bel2.size
    have belA := bel_step bel1 bel2
    clear own1 bel1
    go_wp2_with fail
    have rd2 := rd1.below bel2
    go_loopw [5, 6] (fun v i wr => ∃ k : Nat, k ≤ N ∧ i = .int .i64 ((k : Int) - 1) ∧ OwnP wr w2.heap.size 32 v (N - k) (S.drop k).reverse ∧ Below w2.heap.size w2 wr) (fun _ i _ => (intOf i + 1).toNat)
    case atStart => exact ⟨N, Nat.le_refl _, by go_num, by rw [Nat.sub_self, List.drop_of_length_le (by rw [HS.out]; exact Nat.le_refl _)]; exact OwnP.nil _ _ _, Below.refl _ _⟩
    case round =>
      obtain ⟨k, hk, rfl, hown, hbel⟩ := hrel
      have hsz := hbel.size
      by_cases hk0 : 0 < k
      · obtain ⟨K, rfl⟩ : ∃ K, k = K + 1 := ⟨k - 1, by omega⟩
        obtain ⟨b, o, rfl, _, c0, c1'⟩ := (rd2.below (hbel.mono hs2)).at_ (show K < N by omega)
        have HK : Hid ((S.drop K).reverse = (S.drop (K + 1)).reverse ++ [S.getD K (0, 0)]) := Lib.hid (back_step (by rw [HS.out]; omega))
        generalize hx0 : (S.getD K (0, 0)).1 = x0 at *
        generalize hx1 : (S.getD K (0, 0)).2 = x1 at *
        have HX : Hid (S.getD K (0, 0) = (x0, x1)) := Lib.hid (by rw [← hx0, ← hx1])
        clear hx0 hx1
        rw [show ((K + 1 : Nat) : Int) - 1 = (K : Int) from by omega]
        have e0 : (0 : Int) ≤ (K : Int) := by omega
        have e1 : (K : Int) < (N : Int) := by omega
        go_wp2_with (at_builtin; refine wp_appP rfl _ _ 22 rfl w2.heap.size 32 i0 Tryz.underlying22 HI.out HZ0.out HZ1.out HZ2.out _ _ _ rfl hown _ _ rfl (by omega) hsz ?_)
        intro v' w5 h5 hb5 _
        have hbel5 := hbel.trans hb5
        have own5 : OwnP w5 w2.heap.size 32 v' (N - K) (S.drop K).reverse := by
          rw [HK.out, HX.out, show N - K = N - (K + 1) + 1 from by omega]; exact h5
        clear hown hbel h5 hb5 c0 c1'
        go_wp2_with fail
        go_roundw
        case rel => exact ⟨K, by omega, by go_num, own5, hbel5⟩
        case measure => simp [intOf]
      · obtain rfl : k = 0 := by omega
        rw [show ((0 : Nat) : Int) - 1 = -1 from rfl]
        rw [List.drop_zero, Nat.sub_zero] at hown
        have own2 := own2.go hbel
        have own2 := OwnP.more own2 hs1
        obtain ⟨A3, c3, rfl⟩ := hown.shape
        have rd3 := hown.rd
        have HBR := Lib.hid fun t (ht : t ∈ S.reverse) => HB.out t (List.mem_reverse.1 ht)
        go_wp2_with fail
        refine (pyHalf_c A3 N c3 S.reverse wr.heap.size wr rd3 (Nat.le_refl _) HBR.out hsp (by omega)).mono ?_
        rintro e w4 ⟨A4, n4, c4, rfl, own4, bel4, hn4⟩
        have hl4 : n4 = (halfS S.reverse).length := by have := own4.len; rw [List.length_reverse] at this; exact this.symm
        have hp4 : 0 < n4 := by rw [hl4]; exact half_pos (by rw [List.length_reverse, HS.out]; exact hsp)
        have hq4 : n4 ≤ N := by rw [hl4]; have := halfS_len S.reverse; rwa [List.length_reverse, HS.out] at this
        have HL4 := Lib.hid hl4
        clear hl4
        have own2 := own2.go bel4
        have bel := bel_step (bel_step belA hbel) bel4
        have HF2 : Hid ((halfS S).reverse.take (n2 - 1) = (halfS S).reverse.dropLast) := Lib.hid (by rw [HL2.out, ← List.length_reverse, take_last])
        have HF4 : Hid ((halfS S.reverse).reverse.take (n4 - 1) = (halfS S.reverse).reverse.dropLast) := Lib.hid (by rw [HL4.out, ← List.length_reverse, take_last])
        obtain ⟨g2, rfl⟩ := OwnF.head own2 hp2
        obtain ⟨g4, rfl⟩ := OwnF.head own4 hp4
        have k2 := OwnP.capAt own2
        have k4 := OwnP.capAt own4
        have s2 := srcP_own own2 (show n2 - 1 ≤ n2 by omega) c2
        have s4 := srcP_own own4 (show n4 - 1 ≤ n4 by omega) c4
        rw [HF2.out] at s2
        rw [HF4.out] at s4
        have lt2 := own2.there
        have lt4 := own4.there
        generalize (halfS S).reverse.dropLast = R2 at *
        generalize (halfS S.reverse).reverse.dropLast = R4 at *
        have hsl2 := slice_toP (P := Tryz.prog) Tryz.underlying22 (by kernel_rfl) Tryz.sizeOf32 g2 n2 c2 (n2 - 1) (by omega) k2.1
        have hsl4 := slice_toP (P := Tryz.prog) Tryz.underlying22 (by kernel_rfl) Tryz.sizeOf32 g4 n4 c4 (n4 - 1) (by omega) k4.1
        rw [show ((n2 - 1 : Nat) : Int) = (n2 : Int) - 1 from by omega] at hsl2
        rw [show ((n4 - 1 : Nat) : Int) = (n4 : Int) - 1 from by omega] at hsl4
        have e2 : IntKind.i64.wrap ((n2 : Int) - 1) = (n2 : Int) - 1 := IntWalk.i64_in _ (by omega)
        have e4 : IntKind.i64.wrap ((n4 : Int) - 1) = (n4 : Int) - 1 := IntWalk.i64_in _ (by omega)
        clear hown own2 own4 rd1 rd2 rd3 k2 k4
        go_wp2_with fail
        refine gen_world (C := Code.wp _ _ _ _) (fun u => Below w.heap.size w u ∧ g2 < u.heap.size ∧ g4 < u.heap.size ∧ SrcF u 2 (.slice (some ⟨g2, 0, none⟩) (n2 - 1) c2) (n2 - 1) (flatP R2) ∧ SrcF u 2 (.slice (some ⟨g4, 0, none⟩) (n4 - 1) c4) (n4 - 1) (flatP R4)) ⟨bel, lt2.1, lt4.1, s2, s4⟩ ?_
        clear bel lt2 lt4 s2 s4
        rintro u ⟨bel, lt2, lt4, s2, s4⟩
        go_region_held3 (fun _ => True) (trivial)
          (first
          | (refine step_appSrc (by rfl) (.tmp 32) (.tmp 37) 22 (by rfl) w.heap.size 32 2 i0 _ Tryz.underlying22 HI.out HZ0.out HZ1.out HZ2.out (by omega) (by omega) rfl (.slice (some ⟨u.heap.size, 0, none⟩) 0 0) 0 [] ?_ ?_ ?_ (n2 - 1) (flatP R2) ?_ ?_ ?_ ?_ ?_; (exact rfl); (with_reducible exact OwnF.drew1 (OwnF.empty _ _ _ bel.size)); rotate_left; (exact rfl); (focus (exact SrcF.drew1 (SrcF.keep s2 (bel_new u _) (fun q hq => by cases hq; exact lt2)))); (omega); (exact bel_size (B := w.heap.size) (bel_alloc bel _).drew); intro v1 w5 own5 bel5 g5 at5)
          | (refine step_appSrc (by rfl) (.tmp 38) (.tmp 43) 22 (by rfl) w.heap.size 32 2 i0 _ Tryz.underlying22 HI.out HZ0.out HZ1.out HZ2.out (by omega) (by omega) rfl v1 (0 + (n2 - 1)) ([] ++ flatP R2) ?_ ?_ ?_ (n4 - 1) (flatP R4) ?_ ?_ ?_ ?_ ?_; (exact rfl); (with_reducible exact own5); rotate_left; (exact rfl); (focus (exact SrcF.keptBlk (SrcF.drew1 (SrcF.keep s4 (bel_new u _) (fun q hq => by cases hq; exact lt4))) g5 (fun q hq => by cases hq; exact ⟨by have := (bel_new u (.cells #[] 32)).size; exact Nat.lt_of_lt_of_le lt4 this, by intro e; have := Option.some.inj e; dsimp only at this; omega⟩))); (omega); (exact bel_size (B := w.heap.size) ((bel_alloc bel _).drew.trans bel5)); intro v2 w6 own6 bel6 g6 at6))
        have own7 : OwnP w6 w.heap.size 32 v2 (0 + (n2 - 1) + (n4 - 1)) (hullP l) := by rw [HF.out]; unfold OwnP; rw [flatP_app]; exact own6
        have bel7 := ((bel_alloc bel (.cells #[] 32)).drew.trans bel5).trans bel6
        clear own5 own6 g5 g6 at5 at6 s2 s4
        go_wp2_with fail
        go_ret
        exact retP_mk own7 bel7 (by omega)
set_option maxHeartbeats 4000000 in
set_option maxRecDepth 8192 in
theorem hull_c (A : Option Addr) (n c : Nat) (l : List Pnt) (B : Nat) (w : World) (h : RdP w B A n l) (hB : B ≤ w.heap.size) (hb : ∀ t ∈ l, bdP t) (hn1 : 0 < n) (hn : n ≤ 3000) :
    Calls Tryz.prog 29 #[.slice A n c] w (RetP 32 (hullP l) w) := by
  have hsl := sortP_len l
  have hsp := sortP_ne (l := l) (by rw [h.len]; exact hn1)
  rw [h.len] at hsl
  have HB0 := Lib.hid hb
  have HB := Lib.hid (bd_sort hb)
  have HH : Hid (hullP l = if (sortP l).length < 2 then sortP l else (halfS (sortP l)).reverse.dropLast ++ (halfS (sortP l).reverse).reverse.dropLast) := Lib.hid rfl
  clear hb
  obtain ⟨i0, hi, hz0, hz1, hz2⟩ := info_parts info_pnt
  have HI := Lib.hid hi
  have HZ0 := Lib.hid hz0
  have HZ1 := Lib.hid hz1
  have HZ2 := Lib.hid hz2
  clear hi hz0 hz1 hz2
  go_enter Tryz.func29, Tryz.ntmps29
  go_wp2_with fail
  refine (cloneP_c _ _ _ _ _ _ h hB hn1 (by omega)).mono ?_
  rintro e w1 ⟨A1, n1, c1, rfl, own1, bel1, _⟩
  obtain rfl : n1 = n := by rw [← own1.len, h.len]
  obtain ⟨g, rfl⟩ := OwnF.head own1 hn1
  have hg := (own1.lt g rfl).1
  go_wp2_with fail
  refine (sortP_c g n1 c1 l w.heap.size w1 own1 HB0.out (by omega)).mono ?_
  rintro e w2 ⟨rfl, M, hp, hs, own2, gr2⟩
  have bel2 := bel1.grown gr2 bel1.size (fun k hk => by cases hk; exact hg)
  have HM : Hid (compP M = sortP l) := Lib.hid (compP_sort hp hs)
  clear hp hs own1 bel1 gr2
  go_wp2_with fail
  refine (compactP_c g n1 c1 M w.heap.size w2 own2 (by omega)).mono ?_
  rintro e w3 ⟨N, rfl, hN, own3, gr3⟩
  have bel3 := bel2.grown gr3 bel2.size (fun k hk => by cases hk; exact hg)
  rw [HM.out] at own3
  clear own2 bel2 gr3 HM
  generalize sortP l = S at *
  have hS := own3.len
  rw [hS] at hsl hsp
  have HS := Lib.hid hS
  clear hS
  by_cases h2 : N = 1
  · have HF : Hid (hullP l = S) := Lib.hid (by rw [HH.out, HS.out, if_pos (by omega)])
    subst h2
    go_wp2_with fail
    go_ret
    exact retP_mk (by rw [HF.out]; exact own3) bel3 (by omega)
  · have HF : Hid (hullP l = (halfS S).reverse.dropLast ++ (halfS S.reverse).reverse.dropLast) := Lib.hid (by rw [HH.out, HS.out, if_neg (by omega)])
    clear HH
    have e1 : ¬ (N : Int) = 1 := by omega
    go_wp2_with fail
    refine (half_c (some ⟨g, 0, none⟩) N c1 S w3.heap.size w3 own3.rd (Nat.le_refl _) HB.out hsp (by omega)).mono ?_
    rintro e w4 ⟨A4, n4, c4, rfl, own4, bel4, hn4⟩
    have hs4 := bel4.size
    have own3' := own3.go bel4
    have lt3 := OwnF.there own3
    have bel4' := bel_step bel3 bel4
    have own4c := own4
    clear own3 bel3
    go_wp2_with fail
    refine (revP_c g N c1 S w.heap.size w4 own3' (by omega)).mono ?_
    rintro e w5 ⟨rfl, own5, gr5⟩
    have bel5 := bel4'.grown gr5 bel4'.size (fun k hk => by cases hk; exact hg)
    have own4 := own4.kept gr5 (by
      cases he : (Value.slice A4 n4 c4).ownBlock with
      | none => exact .inl rfl
      | some q => exact .inr fun e => by have := (own4.lt q he).1; have := Option.some.inj e; omega)
    have hs5 := gr5.size
    have HBR := Lib.hid fun t (ht : t ∈ S.reverse) => HB.out t (List.mem_reverse.1 ht)
    clear own3' bel4'
    go_wp2_with fail
    refine (half_c (some ⟨g, 0, none⟩) N c1 S.reverse w5.heap.size w5 own5.rd (Nat.le_refl _) HBR.out hsp (by omega)).mono ?_
    rintro e w6 ⟨A6, n6, c6, rfl, own6, bel6, hn6⟩
    have own4 := own4.go bel6
    have own4 := OwnP.more own4 (show w.heap.size ≤ w3.heap.size by have := lt3; omega)
    have bel := bel_step bel5 bel6
    have hl4 : n4 ≤ N := by have := own4.len; rw [List.length_dropLast, List.length_reverse] at this; have := halfS_len S; rw [HS.out] at this; omega
    have hl6 : n6 ≤ N := by have := own6.len; rw [List.length_dropLast, List.length_reverse] at this; have := halfS_len S.reverse; rw [List.length_reverse, HS.out] at this; omega
    have s6 := srcP_all own6
    generalize (halfS S).reverse.dropLast = R4 at *
    generalize (halfS S.reverse).reverse.dropLast = R6 at *
    clear own5 own6
    go_wp2_with (at_builtin; refine wpList_appSrc rfl _ _ 22 rfl w.heap.size 32 2 i0 _ Tryz.underlying22 HI.out HZ0.out HZ1.out HZ2.out (by omega) (by omega) rfl _ n4 (flatP R4) rfl own4 _ n6 (flatP R6) rfl s6 (by omega) bel.size ?_)
    intro v7 w7 g7 b7 _ _
    have own7 : OwnP w7 w.heap.size 32 v7 (n4 + n6) (hullP l) := by rw [HF.out]; unfold OwnP; rw [flatP_app]; exact g7
    have bel7 := bel.trans b7
    clear g7 b7 own4 s6 bel
    go_wp2_with fail
    go_ret
    exact retP_mk own7 bel7 (by omega)
end Go.Proofs.YtfkglbmdpefigaaGreatDoor
