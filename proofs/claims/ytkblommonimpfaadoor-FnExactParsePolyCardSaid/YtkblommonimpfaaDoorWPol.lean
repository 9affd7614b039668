/- A list of numbers read of a text by the program: a range over the library's SplitSeq. -/
import Derived.Test.YtkblommonimpfaaDoorWSeq
import Derived.Test.YtkblommonimpfaaDoorWPnu
import Derived.Test.YtkblommonimpfaaDoorPureSwl
import Derived.Test.YtkblommonimpfaaDoorWide
import Derived.Maps.OwnIn
import Derived.Maps.AppendAt
namespace Go.Proofs.YtkblommonimpfaaDoor
open Go.RowKit Go.Shelf
attribute [local go_sem] Oper.semAt_some
theorem infoIntP : (Tryd.prog.info? 3).map (fun i => (i.zero, i.size, i.bytes)) = some (some (.int .i64 0), 1, 8) := by kernel_rfl
/-- What the program's reader of a list hands back. -/
def numsI (l : Bs) : List Int × Bool := match allOf canN (spl 44 l) with
  | none => ([], false)
  | some T => (T, true)
theorem keepsFrom_below {B : Nat} {W W' : World} (h : Below W.heap.size W W') : KeepsFrom B W W' := ⟨h.size, fun k _ _ hk _ => (h.block k (Array.getElem?_eq_some_iff.1 hk).1).trans hk⟩
theorem keptIn_below {B0 M : Nat} {W W' : World} (h : Below W.heap.size W W') (hM : M ≤ W.heap.size) : KeptIn B0 M W W' := fun b _ hb => h.block b (by omega)
theorem boxed_bel {W W' : World} {B : Nat} {t : TypeId} {v : Value} (h : Boxed W B t v) (hb : Below W.heap.size W W') : Boxed W' B t v := (hb.block B h.lt).trans h
/-- What holds between two rounds: the numbers read so far lie in the box of 'out'. -/
def PolI (w : World) (pre : List Bs) (W : World) : Prop :=
  (∃ (T : List Int) (v : Value), allOf canN pre = some T ∧ Boxed W (w.heap.size + 1 + 1 + 1) 22 v ∧ W.ownsRow w.heap.size 3 1 v pre.length (T.map (Value.int .i64)) ∧ ∀ j, v.ownBlock = some j → j < w.heap.size + 4 ∨ w.heap.size + 7 ≤ j) ∧
  (Boxed W w.heap.size 22 (.slice none 0 0) ∧ Boxed W (w.heap.size + 1) 4 (.bool false) ∧ ∃ s, Boxed W (w.heap.size + 4) 9 s) ∧ w.heap.size + 7 ≤ W.heap.size ∧ Below w.heap.size w W
/-- What holds where a round has returned. -/
def PolX (w : World) (pre : List Bs) (W : World) : Prop :=
  allOf canN pre = none ∧ (Boxed W w.heap.size 22 (.slice none 0 0) ∧ Boxed W (w.heap.size + 1) 4 (.bool false)) ∧ Below w.heap.size w W
theorem polI_own (w : World) : OwnFrom (w.heap.size + 7) (PolI w) := by
  rintro s W W' row ⟨⟨T, v, h1, h2, h3, h4⟩, ⟨h5, h6, sv, h7⟩, h8, h9⟩ hg hr
  have hb : ∀ B (o : Obj), W.heap[B]? = some o → o.isCells = true → W'.heap[B]? = some o := fun B o hB ho => (hg.block B (Array.getElem?_eq_some_iff.1 hB).1 (fun e => by
    obtain ⟨_, o', ho', hc⟩ := hr B e.symm
    rw [hB] at ho'
    cases ho'
    rw [ho] at hc
    cases hc)).trans hB
  refine ⟨⟨T, v, h1, hb _ _ h2 rfl, h3.kept hg ?_, h4⟩, ⟨hb _ _ h5 rfl, hb _ _ h6 rfl, sv, hb _ _ h7 rfl⟩, Nat.le_trans h8 hg.size, ?_⟩
  · rcases h3.2 with ⟨rfl, _⟩ | ⟨g, cap, cur, rfl, _, hgb, _⟩
    · exact .inl rfl
    · refine .inr fun e => ?_
      obtain ⟨_, o', ho', hc⟩ := hr g e.symm
      rw [hgb] at ho'
      cases ho'
      cases hc
  · exact h9.grown hg (by omega) fun k e => by
      have := (hr k e).1
      omega
theorem polX_own (w : World) : OwnFrom (w.heap.size + 7) (PolX w) := by
  rintro s W W' row ⟨h1, ⟨h5, h6⟩, h9⟩ hg hr
  have hb : ∀ B (o : Obj), W.heap[B]? = some o → o.isCells = true → W'.heap[B]? = some o := fun B o hB ho => (hg.block B (Array.getElem?_eq_some_iff.1 hB).1 (fun e => by
    obtain ⟨_, o', ho', hc⟩ := hr B e.symm
    rw [hB] at ho'
    cases ho'
    rw [ho] at hc
    cases hc)).trans hB
  exact ⟨h1, ⟨hb _ _ h5 rfl, hb _ _ h6 rfl⟩, h9.grown hg h9.size fun k e => by
    have := (hr k e).1
    omega⟩
theorem polI_set (w : World) : ∀ s X v, PolI w s X → PolI w s (X.setCell ⟨w.heap.size + 4, 0, none⟩ v) := by
  rintro s X u ⟨⟨T, v, h1, h2, h3, h4⟩, ⟨h5, h6, sv, h7⟩, h8, h9⟩
  have hg := grownBy_setCell' X (w.heap.size + 4) u
  refine ⟨⟨T, v, h1, h2.other (by omega) u, h3.kept hg (.inr fun e => ?_), h4⟩, ⟨h5.other (by omega) u, h6.other (by omega) u, u, h7.set u⟩, Nat.le_trans h8 hg.size, h9.setCell (p := ⟨w.heap.size + 4, 0, none⟩) (by show w.heap.size ≤ w.heap.size + 4; omega) u⟩
  have := h4 _ e
  omega
theorem polI_bel {w W W' : World} {pre : List Bs} (h : PolI w pre W) (hb : Below W.heap.size W W') : PolI w pre W' := by
  obtain ⟨⟨T, v, h1, h2, h3, h4⟩, ⟨h5, h6, sv, h7⟩, h8, h9⟩ := h
  refine ⟨⟨T, v, h1, boxed_bel h2 hb, ?_, h4⟩, ⟨boxed_bel h5 hb, boxed_bel h6 hb, sv, boxed_bel h7 hb⟩, Nat.le_trans h8 hb.size, h9.trans (hb.mono h9.size)⟩
  refine ⟨h3.1, ?_⟩
  rcases h3.2 with r | ⟨g, cap, cur, rfl, hg, hgb, r⟩
  · exact .inl r
  · exact .inr ⟨g, cap, cur, rfl, hg, (hb.block g (Array.getElem?_eq_some_iff.1 hgb).1).trans hgb, r⟩
set_option maxRecDepth 100000 in
set_option maxHeartbeats 4000000 in
theorem parseNumbers_c (s : ByteArray) (hs : s.size ≤ 1048576) (w : World) (hL : LibOk w) :
    Calls Tryd.prog 12 #[.string s, .string ⟨#[44]⟩] w (RetOwnB 3 (numsI s.data.toList).1 (numsI s.data.toList).2 w) := by
  obtain ⟨i0, hi, hz0, hz1, hz2⟩ := info_parts infoIntP
  have C1 := fun w => SplitSeq_c s ⟨#[44]⟩ w
  refine (callsIn_wide (n := 3)).1 ?_
  refine callsIn_of_wp_marks Tryd.func12 rfl trivial ?_ rfl
  simp only [Tryd.ntmps12, List.size_toArray, List.length_cons, List.length_nil, Nat.reduceAdd, Nat.reduceSub, Array.replicate_succ, Array.replicate_zero, List.push_toArray, List.append_toArray, List.nil_append, List.cons_append]
  gi_wp2
  refine ⟨trivial, ?_⟩
  refine (callsIn_wide.2 (C1 _)).mono ?_
  rintro e w1 ⟨rfl, rfl⟩
  gi_wp2
  have hsz : s.data.toList.length ≤ 1048576 := by rw [← Lib.size_eq]; exact hs
  have a0 := Boxed.new w 22 (.slice none 0 0)
  have a1 := Boxed.new (w.alloc (.cells #[.slice none 0 0] 22)) 4 (.bool false)
  have a2 := OwnF.empty (B := w.heap.size) ((w.alloc (.cells #[.slice none 0 0] 22)).alloc (.cells #[.bool false] 4)) 3 1 (by simp only [World.size_alloc]; omega)
  have a3 := Boxed.new (((w.alloc (.cells #[.slice none 0 0] 22)).alloc (.cells #[.bool false] 4)).alloc (.cells #[] 3)) 22 (.slice (some ⟨w.heap.size + 1 + 1, 0, none⟩) 0 0)
  have q3 : ((((w.alloc (.cells #[.slice none 0 0] 22)).alloc (.cells #[.bool false] 4)).alloc (.cells #[] 3)).alloc (.cells #[.slice (some ⟨w.heap.size + 1 + 1, 0, none⟩) 0 0] 22)).heap.size = w.heap.size + 4 := by simp only [World.size_alloc]
  have bel3 : Below w.heap.size w ((((w.alloc (.cells #[.slice none 0 0] 22)).alloc (.cells #[.bool false] 4)).alloc (.cells #[] 3)).alloc (.cells #[.slice (some ⟨w.heap.size + 1 + 1, 0, none⟩) 0 0] 22)) := bel_alloc (bel_alloc (bel_alloc (bel_new w _) _) _) _
  have b0 := ((a0.alloc (.cells #[.bool false] 4)).alloc (.cells #[] 3)).alloc (.cells #[.slice (some ⟨w.heap.size + 1 + 1, 0, none⟩) 0 0] 22)
  have b1 := (a1.alloc (.cells #[] 3)).alloc (.cells #[.slice (some ⟨w.heap.size + 1 + 1, 0, none⟩) 0 0] 22)
  have b2 := a2.new (.cells #[.slice (some ⟨w.heap.size + 1 + 1, 0, none⟩) 0 0] 22)
  simp only [World.size_alloc] at a1 a2 a3 b1 b2
  clear a0 a1 a2
  generalize (((w.alloc (.cells #[.slice none 0 0] 22)).alloc (.cells #[.bool false] 4)).alloc (.cells #[] 3)).alloc (.cells #[.slice (some ⟨w.heap.size + 1 + 1, 0, none⟩) 0 0] 22) = W3 at *
  have e4 := Boxed.new W3 9 (.string s)
  have e5 := Boxed.new (W3.alloc (.cells #[.string s] 9)) 9 (.string ⟨#[44]⟩)
  have e6 := Boxed.new ((W3.alloc (.cells #[.string s] 9)).alloc (.cells #[.string ⟨#[44]⟩] 9)) 3 (.int .i64 0)
  have e4 := (e4.alloc (.cells #[.string ⟨#[44]⟩] 9)).alloc (.cells #[.int .i64 0] 3)
  have e5 := e5.alloc (.cells #[.int .i64 0] 3)
  have b0 := ((b0.alloc (.cells #[.string s] 9)).alloc (.cells #[.string ⟨#[44]⟩] 9)).alloc (.cells #[.int .i64 0] 3)
  have b1 := ((b1.alloc (.cells #[.string s] 9)).alloc (.cells #[.string ⟨#[44]⟩] 9)).alloc (.cells #[.int .i64 0] 3)
  have b3 := ((a3.alloc (.cells #[.string s] 9)).alloc (.cells #[.string ⟨#[44]⟩] 9)).alloc (.cells #[.int .i64 0] 3)
  have b2 := ((b2.new (.cells #[.string s] 9)).new (.cells #[.string ⟨#[44]⟩] 9)).new (.cells #[.int .i64 0] 3)
  have bel := bel_alloc (bel_alloc (bel_alloc bel3 (.cells #[.string s] 9)) (.cells #[.string ⟨#[44]⟩] 9)) (.cells #[.int .i64 0] 3)
  have q0 : (((W3.alloc (.cells #[.string s] 9)).alloc (.cells #[.string ⟨#[44]⟩] 9)).alloc (.cells #[.int .i64 0] 3)).heap.size = w.heap.size + 4 + 3 := by simp only [World.size_alloc, q3]
  simp only [World.size_alloc, q3] at e4 e5 e6
  clear a3 bel3
  generalize ((W3.alloc (.cells #[.string s] 9)).alloc (.cells #[.string ⟨#[44]⟩] 9)).alloc (.cells #[.int .i64 0] 3) = W0 at *
  have hA : SeqAt W0 (w.heap.size + 4) 44 s.data.toList := ⟨by omega, e5.cell, e6.cell, by rw [txtB_data]; exact e4⟩
  have hI0 : PolI w [] W0 := ⟨⟨[], _, rfl, b3, b2, fun j e => by
    have : w.heap.size + 1 + 1 = j := Option.some.inj e
    omega⟩, ⟨b0, b1, _, e4⟩, by omega, bel⟩
  clear e4 e5 e6 b0 b1 b2 b3 q3 C1
  have hSt := seq_stops 2 (w.heap.size + 4) 44 s.data.toList hsz W0 hA q0
  refine wpIn_rangeFunc_st rfl (by omega) (gf := 29) (lb := #[.pointer (some ⟨w.heap.size + 4 + 1, 0, none⟩), .pointer (some ⟨w.heap.size + 4, 0, none⟩), .pointer (some ⟨w.heap.size + 4 + 1 + 1, 0, none⟩)]) rfl trivial (enters_of Tryd.func29 (by kernel_rfl) rfl) hSt (fun _ => rfl)
    (PolI w) (PolX w) (by rw [q0]; exact polI_own w) (by rw [q0]; exact polX_own w) (polI_set w) (fun _ X h => ⟨(hL.go h.2.2.2).max, h.2.2.1⟩) hI0
    (fun p => { tmps := #[.string s, .string ⟨#[44]⟩, undef, undef, .pointer (some ⟨w.heap.size, 0, none⟩), .pointer (some ⟨w.heap.size + 1, 0, none⟩), .pointer (some ⟨w.heap.size + 1 + 1 + 1, 0, none⟩), .string (txtB p), undef, undef, .slice (some ⟨w.heap.size + 1 + 1, 0, none⟩) 0 0, .string s, .string ⟨#[44]⟩,
      .func (.func 29) #[] #[.pointer (some ⟨w.heap.size + 1 + 1 + 1 + 1 + 1, 0, none⟩), .pointer (some ⟨w.heap.size + 1 + 1 + 1 + 1, 0, none⟩), .pointer (some ⟨w.heap.size + 1 + 1 + 1 + 1 + 1 + 1, 0, none⟩)], .string (txtB p), undef, undef, undef, undef, undef, undef, undef, undef, undef, undef, undef, undef], defers := [] }) ?assign ?body ?done ?stop
  case assign =>
    intro l x W K hK
    gi_wp2
    exact hK
  case body =>
    rintro l pre p W hI ⟨q, hq⟩
    have hp : p.length ≤ 1048576 := Nat.le_trans (spl_mem 44 s.data.toList p (by rw [← hq]; simp)) hsz
    have hpre : pre.length ≤ 1048576 := by
      have h1 := spl_len 44 s.data.toList
      rw [← hq, List.length_append, List.length_cons] at h1
      omega
    have hLW := hL.go hI.2.2.2
    have CP := parseNumber_c (txtB p) (by rw [txtB_size]; exact hp) W hLW.tab hLW.err
    rw [txtB_toList] at CP
    clear hq hsz hp hI0 hA hSt
    cases hc : canN p with
    | none =>
      have hpn : pNum p = (0, false) := by rw [pNum, hc]
      rw [hpn] at CP
      have HX : Hid (allOf canN (pre ++ [p]) = none) := Lib.hid (allOf_fail hc (by simp))
      clear hc hpn
      gi_wp2
      refine ⟨trivial, ?_⟩
      refine (CallsIn.inRound l (callsIn_wide.2 CP)).mono ?_
      rintro e W2 ⟨rfl, hb2⟩
      have hk2 : KeepsFrom W0.heap.size W W2 := keepsFrom_below hb2
      obtain ⟨_, ⟨h5, h6, _⟩, h8, h9⟩ := polI_bel hI hb2
      have d5 := h5.cell
      have f5 := h5.frozen
      have d6 := h6.cell
      have f6 := h6.frozen
      gi_wp2
      exact ⟨hk2.trans (((KeepsOthers.setCell _ _ _).trans (KeepsOthers.setCell _ _ _)).from _), HX.out, ⟨(h5.set _).other (by omega) _, (h6.other (by omega) _).set _⟩, (h9.setCell (p := ⟨w.heap.size, 0, none⟩) (Nat.le_refl _) _).setCell (p := ⟨w.heap.size + 1, 0, none⟩) (by show w.heap.size ≤ w.heap.size + 1; omega) _⟩
    | some c =>
      have hpn : pNum p = (c, true) := by rw [pNum, hc]
      rw [hpn] at CP
      have HC := Lib.hid hc
      clear hc hpn
      gi_wp2
      refine ⟨trivial, ?_⟩
      refine (CallsIn.inRound l (callsIn_wide.2 CP)).mono ?_
      rintro e W2 ⟨rfl, hb2⟩
      have hk2 : KeepsFrom W0.heap.size W W2 := keepsFrom_below hb2
      have hz := hI.2.2.1
      obtain ⟨⟨T, v, h1, h2, h3, h4⟩, ⟨h5, h6, sv, h7⟩, h8, h9⟩ := polI_bel hI hb2
      have HT := Lib.hid (allOf_snoc h1 HC.out)
      have d2 := h2.cell
      have hin : KeptIn (w.heap.size + 4) W0.heap.size W W2 := keptIn_below hb2 (by rw [q0]; omega)
      clear h1 hb2 CP hI
      gi_wp2_with (gi_at_builtin; refine wpListIn_append_own_at _ rfl _ _ 22 rfl w.heap.size 3 i0 (.int .i64 0) 1 8 Tryd.underlying22 hi hz0 hz1 hz2 rfl (by decide) _ _ _ rfl (World.ownsRow.alloc h3 _) ⟨W2.heap.size, 0, none⟩ 1 1 [.int .i64 c] rfl rfl (cell_one_new _ _ _) (by simp [Value.oneCell']) (by unfold maxLen; omega) (by omega) (by have := h9.size; simp; omega) ?_; intro v' w1 hown' hgrow _ hat; obtain ⟨g', cap', rfl⟩ := ownsRow_succ hown'; obtain ⟨hv1, hv2, hr2, hkk, hb4⟩ := h2.appended (by decide) h3 h9.size (by omega) hown' hgrow; have hc1 := hv1.cell; have hf1 := hv1.frozen)
      refine ⟨hk2.trans (hkk.from _), ?_, ⟨⟨T ++ [c], _, HT.out, hv2, ?_, ?_⟩, ⟨?_, ?_, sv, ?_⟩, ?_, h9.trans hb4⟩⟩
      · refine hin.trans fun k hk1 hk2' => ?_
        rw [q0] at hk2'
        refine (Below.heap_setCell w1 ⟨w.heap.size + 1 + 1 + 1, 0, none⟩ _ k (by show k ≠ w.heap.size + 1 + 1 + 1; omega)).trans ((hgrow.block k (by rw [World.size_alloc]; omega) fun e => ?_).trans (Below.heap_alloc W2 _ k (by omega)))
        have := h4 k e.symm
        omega
      · rw [List.length_append, List.map_append]
        exact hr2
      · intro j ej
        rcases hat with hat | hat
        · exact h4 j (hat.symm.trans ej)
        · rw [hat, World.size_alloc] at ej
          have := Option.some.inj ej
          omega
      · exact ((h5.alloc _).kept hgrow (h5.not_row (by decide) h3)).other (by omega) _
      · exact ((h6.alloc _).kept hgrow (h6.not_row (by decide) h3)).other (by omega) _
      · exact ((h7.alloc _).kept hgrow (h7.not_row (by decide) h3)).other (by omega) _
      · exact Nat.le_trans h8 hkk.size
  case done =>
    rintro D ys W hD rfl ⟨⟨T, v, h1, h2, h3, h4⟩, ⟨h5, h6, sv, h7⟩, h8, h9⟩ hK
    have hn : (spl 44 s.data.toList).length ≤ 1048577 := by
      have := spl_len 44 s.data.toList
      omega
    have HN : Hid (numsI s.data.toList = (T, true)) := Lib.hid (by rw [numsI, h1])
    obtain ⟨A, cp, rfl⟩ := OwnF.shape (k := 1) h3
    have d2 := h2.cell
    have d5 := h5.cell
    have f5 := h5.frozen
    have d6 := h6.cell
    have f6 := h6.frozen
    rw [q0] at hD
    clear h1 hsz hI0 hA hSt
    gi_wp2
    have hK' := ((KeepsOthers.setCell W ⟨w.heap.size, 0, none⟩ (.slice A (spl 44 s.data.toList).length cp)).trans (KeepsOthers.setCell _ ⟨w.heap.size + 1, 0, none⟩ (.bool true))).same D _ hK rfl
    refine ⟨by simp, .inl ⟨_, _, rfl, run_takeDeferred hK', ?_⟩⟩
    have g5 := (h5.set (.slice A (spl 44 s.data.toList).length cp)).other (B' := w.heap.size + 1) (by omega) (.bool true)
    have g6 := (h6.other (B' := w.heap.size) (by omega) (.slice A (spl 44 s.data.toList).length cp)).set (.bool true)
    have c5 := cell_kept g5.cell (grownBy_putObj' _ D (.deferred none)) (fun r e => by cases e; exact ⟨_, hK', rfl⟩)
    have c6 := cell_kept g6.cell (grownBy_putObj' _ D (.deferred none)) (fun r e => by cases e; exact ⟨_, hK', rfl⟩)
    have r1 := h3.kept (grownBy_setCell' W w.heap.size (.slice A (spl 44 s.data.toList).length cp)) (.inr (h5.not_row (by decide) h3).symm)
    have r2 := r1.kept (grownBy_setCell' _ (w.heap.size + 1) (.bool true)) (.inr (h6.not_row (by decide) h3).symm)
    refine ⟨.tuple #[.slice A (spl 44 s.data.toList).length cp, .bool true], ?_, A, (spl 44 s.data.toList).length, cp, by rw [HN.out], ?_, ?_, by omega⟩
    · simp [results, Tryd.f12, go_sem, c5, c6]
    · rw [HN.out]
      exact ownsRow_putObj r2 _ hK' rfl
    · exact ((h9.setCell (p := ⟨w.heap.size, 0, none⟩) (Nat.le_refl _) _).setCell (p := ⟨w.heap.size + 1, 0, none⟩) (by show w.heap.size ≤ w.heap.size + 1; omega) _).trans (belowK_b (w := w) (Nat.le_refl _) _ D _ _ (by omega) hK' rfl rfl)
  case stop =>
    rintro D pre W hD ⟨q, hq⟩ ⟨hn, ⟨h5, h6⟩, h9⟩ hK
    have HN : Hid (numsI s.data.toList = ([], false)) := Lib.hid (by rw [numsI, ← hq, allOf_app, hn])
    rw [q0] at hD
    clear hq hn hsz hI0 hA hSt
    gi_wp2
    refine ⟨by simp, .inl ⟨_, _, rfl, run_takeDeferred hK, ?_⟩⟩
    have c5 := cell_kept h5.cell (grownBy_putObj' _ D (.deferred none)) (fun r e => by cases e; exact ⟨_, hK, rfl⟩)
    have c6 := cell_kept h6.cell (grownBy_putObj' _ D (.deferred none)) (fun r e => by cases e; exact ⟨_, hK, rfl⟩)
    refine ⟨.tuple #[.slice none 0 0, .bool false], ?_, none, 0, 0, by rw [HN.out], ?_, h9.trans (belowK_b (w := w) (Nat.le_refl _) W D _ _ (by omega) hK rfl rfl), by omega⟩
    · simp [results, Tryd.f12, go_sem, c5, c6]
    · rw [HN.out]
      exact World.ownsRow_nil _ _ _ _
end Go.Proofs.YtkblommonimpfaaDoor
