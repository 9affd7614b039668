/- The library's SplitSeq at a one-byte separator: its closure's contract. -/
import Derived.Test.YtkblommonimpfaaDoorRangeSt
import Derived.Test.YtkblommonimpfaaDoorLibW
import Derived.RangeFuncBound
import Derived.RangeFuncCalls
import Derived.Shelf.Abstract
import Derived.Shelf.RegionOpen
import Derived.WalkKit
import Derived.OwnWalkIn
import Derived.TacticsInMore
import Derived.LoopNIn
import Derived.LoopIn
import Derived.Shelf.Strings.Search3
namespace Go.Proofs.YtkblommonimpfaaDoor
open Go.RowKit Go.Shelf
attribute [local go_sem] Oper.semAt_some
theorem index_c (s : ByteArray) (b : UInt8) (hs : s.size ≤ 1048576) (w : World) (hM : MaxOk w) :
    Calls Tryd.prog 31 #[.string s, .string ⟨#[b]⟩] w fun e w' => e = .returned (.int .i64 (Lib.index s.data.toList [b])) ∧ w' = w := by
  obtain ⟨m, hm⟩ := hM
  exact Any.strings_Index Tryd.index s ⟨#[b]⟩ m w (by omega) hm
theorem splitSeq_c (s t : ByteArray) (m : Int) (w : World) :
    Calls Tryd.prog 22 #[.string s, .string t, .int .i64 m] w fun e w' => e = .returned (.func (.func 29) #[] #[.pointer (some ⟨w.heap.size + 1, 0, none⟩), .pointer (some ⟨w.heap.size, 0, none⟩), .pointer (some ⟨w.heap.size + 1 + 1, 0, none⟩)]) ∧
      w' = ((w.alloc (.cells #[.string s] 9)).alloc (.cells #[.string t] 9)).alloc (.cells #[.int .i64 m] 3) := by
  go_enter Tryd.func22, Tryd.ntmps22
  go_wp2_with fail
  go_ret
  exact ⟨rfl, rfl⟩
theorem SplitSeq_c (s t : ByteArray) (w : World) :
    Calls Tryd.prog 18 #[.string s, .string t] w fun e w' => e = .returned (.func (.func 29) #[] #[.pointer (some ⟨w.heap.size + 1, 0, none⟩), .pointer (some ⟨w.heap.size, 0, none⟩), .pointer (some ⟨w.heap.size + 1 + 1, 0, none⟩)]) ∧
      w' = ((w.alloc (.cells #[.string s] 9)).alloc (.cells #[.string t] 9)).alloc (.cells #[.int .i64 0] 3) := by
  go_enter Tryd.func18, Tryd.ntmps18
  go_wp2_with fail
  refine (splitSeq_c s t 0 _).mono ?_
  rintro e w1 ⟨rfl, rfl⟩
  go_wp2_with fail
  go_ret
  exact ⟨rfl, rfl⟩
def szAt (w : World) (p : Addr) : Nat := match w.cell? p with
  | some (.string s) => s.size
  | _ => 0
theorem szAt_of {w : World} {p : Addr} {s : ByteArray} (h : w.cell? p = some (.string s)) : szAt w p = s.size := by rw [szAt, h]
/-- What the closure's three boxes hold: the rest r of the text, the separator b, nothing kept. -/
structure SeqAt (w : World) (S : Nat) (b : UInt8) (r : Bs) : Prop where
  size : S + 2 < w.heap.size
  sep : w.cell? ⟨S + 1, 0, none⟩ = some (.string ⟨#[b]⟩)
  keep : w.cell? ⟨S + 1 + 1, 0, none⟩ = some (.int .i64 0)
  box : Boxed w S 9 (.string (txtB r))
theorem SeqAt.kept {w w' : World} {S : Nat} {b : UInt8} {r : Bs} (h : SeqAt w S b r) (hk : KeptIn S (S + 3) w w') (hs : S + 3 ≤ w'.heap.size) : SeqAt w' S b r :=
  ⟨hs, (hk.cell (p := ⟨S + 1, 0, none⟩) (by show S ≤ S + 1; omega) (by show S + 1 < S + 3; omega)).trans h.sep, (hk.cell (p := ⟨S + 1 + 1, 0, none⟩) (by show S ≤ S + 1 + 1; omega) (by show S + 1 + 1 < S + 3; omega)).trans h.keep, (hk S (Nat.le_refl _) (by omega)).trans h.box⟩
theorem SeqAt.step {w : World} {S : Nat} {b : UInt8} {r : Bs} (h : SeqAt w S b r) (t : Bs) : SeqAt (w.setCell ⟨S, 0, none⟩ (.string (txtB t))) S b t :=
  ⟨Nat.lt_of_lt_of_le h.size (KeepsOthers.setCell _ _ _).size, (World.cell?_of_block (Below.heap_setCell w ⟨S, 0, none⟩ _ (S + 1) (by show S + 1 ≠ S; omega))).trans h.sep, (World.cell?_of_block (Below.heap_setCell w ⟨S, 0, none⟩ _ (S + 1 + 1) (by show S + 1 + 1 ≠ S; omega))).trans h.keep, h.box.set _⟩
set_option maxRecDepth 100000 in
set_option maxHeartbeats 2000000 in
theorem splitSeq1_in (n : Nat) (l S : Nat) (b : UInt8) (x : Bs) (hx : x.length ≤ 1048576) (J Jx : List Bs → World → Prop)
    (hJs : ∀ s X v, J s X → J s (X.setCell ⟨S, 0, none⟩ v)) (hM : ∀ s X, J s X → MaxOk X) (hSz : ∀ s X, J s X → S + 3 ≤ X.heap.size)
    (hY : ∀ pre p W, J pre W → (∃ q, pre ++ p :: q = spl b x) → YieldAt Fence.wide (n - 1) Tryd.prog l #[.string (txtB p)] W fun e W' =>
      (e = .returned (.bool true) ∧ J (pre ++ [p]) W' ∧ KeptIn S (S + 3) W W') ∨ (e = .returned (.bool false) ∧ Jx (pre ++ [p]) W'))
    (W : World) (hA : SeqAt W S b x) (h0 : J [] W) :
    CallsIn Fence.wide n Tryd.prog 29 #[.func (.yield l) #[] #[], .pointer (some ⟨S + 1, 0, none⟩), .pointer (some ⟨S, 0, none⟩), .pointer (some ⟨S + 1 + 1, 0, none⟩)] W fun e W' => (∃ v, e = .returned v) ∧
      ((∃ ys, ys = spl b x ∧ J ys W') ∨ (∃ pre, (∃ q, pre ++ q = spl b x) ∧ Jx pre W')) := by
  refine callsIn_of_wp Tryd.func29 rfl trivial ?_ rfl
  simp only [Tryd.ntmps29, List.size_toArray, List.length_cons, List.length_nil, Nat.reduceAdd, Nat.reduceSub, Array.replicate_succ, Array.replicate_zero, List.push_toArray, List.append_toArray, List.nil_append, List.cons_append]
  have hsep := hA.sep
  gi_wp2
  clear hsep
  gi_loopw [7] (fun _ wr => ∃ (pre : List Bs) (r : Bs), spl b x = pre ++ spl b r ∧ r.length ≤ 1048576 ∧ SeqAt wr S b r ∧ J pre wr) (fun _ wr => szAt wr ⟨S, 0, none⟩)
  case atStart => exact ⟨[], x, rfl, hx, hA, h0⟩
  case round =>
    obtain ⟨pre, r, hpr, hr, hAt, hJ⟩ := hrel
    have c0 := hAt.box.cell
    have c1 := hAt.sep
    have c2 := hAt.keep
    have hCI := index_c (txtB r) b (by rw [txtB_size]; exact hr) wr (hM _ _ hJ)
    rw [txtB_toList] at hCI
    rcases first_of (b := b) r with hno | ⟨p, t, hno, rfl⟩
    · rw [index_no hno] at hCI
      obtain ⟨fn, tmps, assign, body, hy, hR⟩ := hY pre r wr hJ ⟨[], by rw [hpr, spl_none hno]⟩
      have hend : spl b x = pre ++ [r] := by rw [hpr, spl_none hno]
      gi_wp2
      refine ⟨trivial, (fun h => (by cases h)), ?_⟩
      refine (callsIn_wide.2 hCI).mono ?_
      rintro e w' ⟨rfl, rfl⟩
      gi_wp2
      refine ⟨(fun h => (by cases h)), hR.mono ?_⟩
      rintro e W3 (⟨rfl, hJ3, hk3⟩ | ⟨rfl, hJx3⟩)
      · gi_wp2
        go_end0
        exact ⟨⟨_, rfl⟩, .inl ⟨_, hend.symm, hJ3⟩⟩
      · gi_wp2
        go_end0
        exact ⟨⟨_, rfl⟩, .inr ⟨_, ⟨[], by rw [hend, List.append_nil]⟩, hJx3⟩⟩
    · rw [index_yes t hno] at hCI
      obtain ⟨fn, tmps, assign, body, hy, hR⟩ := hY pre p wr hJ ⟨spl b t, by rw [hpr, spl_hit t hno]⟩
      have hp1 : p.length + 1 + t.length = (txtB (p ++ b :: t)).size := by rw [txtB_size, List.length_append, List.length_cons]; omega
      have hx1 : (txtB (p ++ b :: t)).extract 0 p.length = txtB p := by rw [ext_piece, txtB_toList, List.take_left', List.drop_zero]; rfl
      have hx2 : (txtB (p ++ b :: t)).extract (p.length + 1) (txtB (p ++ b :: t)).size = txtB t := by rw [ext_rest, txtB_toList, List.append_cons, List.drop_left' (by simp)]
      have hr2 : (txtB (p ++ b :: t)).size ≤ 1048576 := by rw [txtB_size]; exact hr
      gi_wp2
      refine ⟨trivial, (fun h => (by cases h)), ?_⟩
      refine (callsIn_wide.2 hCI).mono ?_
      rintro e w' ⟨rfl, rfl⟩
      gi_wp2
      refine ⟨(fun h => (by cases h)), hR.mono ?_⟩
      rintro e W3 (⟨rfl, hJ3, hk3⟩ | ⟨rfl, hJx3⟩)
      · have hA3 := hAt.kept hk3 (hSz _ _ hJ3)
        have d0 := hA3.box.cell
        have d1 := hA3.sep
        have f0 := hA3.box.frozen
        gi_wp2
        go_roundw
        case rel => exact ⟨pre ++ [p], t, by rw [hpr, spl_hit t hno, List.append_assoc]; rfl, by rw [List.length_append, List.length_cons] at hr; omega, hA3.step t, hJs _ _ _ hJ3⟩
        case measure =>
          rw [szAt_of (hA3.step t).box.cell, szAt_of c0, ← hp1, txtB_size]
          omega
      · gi_wp2
        refine bodyPost_ret (results_none rfl _ _ _) rfl ?_
        exact ⟨⟨_, rfl⟩, .inr ⟨pre ++ [p], ⟨spl b t, by rw [hpr, spl_hit t hno, List.append_assoc]; rfl⟩, hJx3⟩⟩
/-- What the closure's contract asks of each world that it is called in. -/
def SeqV (S : Nat) (X : World) : Prop := MaxOk X ∧ S + 3 ≤ X.heap.size
theorem seq_stops (n S : Nat) (b : UInt8) (x : Bs) (hx : x.length ≤ 1048576) (w : World) (hA : SeqAt w S b x) (hw : w.heap.size = S + 3) :
    SeqSt Fence.wide n Tryd.prog 29 #[.pointer (some ⟨S + 1, 0, none⟩), .pointer (some ⟨S, 0, none⟩), .pointer (some ⟨S + 1 + 1, 0, none⟩)] (fun p : Bs => #[Value.string (txtB p)]) S S (SeqV S) (fun ys => ys = spl b x) (fun pre => ∃ q, pre ++ q = spl b x) (fun pre p => ∃ q, pre ++ p :: q = spl b x) w := fun l J Jx W hW hJs hV hY h0 => by
  rw [hw] at hY hW
  exact splitSeq1_in n l S b x hx J Jx hJs (fun s X h => (hV s X h).1) (fun s X h => (hV s X h).2) hY W (hA.kept (fun k _ h2 => hW.block k h2) (by rw [← hw]; exact hW.size)) h0
end Go.Proofs.YtkblommonimpfaaDoor
