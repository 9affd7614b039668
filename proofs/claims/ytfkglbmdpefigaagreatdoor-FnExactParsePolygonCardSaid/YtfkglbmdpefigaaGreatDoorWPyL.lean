/- The law on polygons read of a text: its walk. -/
import Derived.Test.YtfkglbmdpefigaaGreatDoorWPyS
namespace Go.Proofs.YtfkglbmdpefigaaGreatDoor
open Go.RowKit
theorem implPP_c (s : ByteArray) (hs : s.size ≤ 1048576) (w : World) (hL : LibOk w) :
    Calls Tryz.prog 5 #[.string s] w (RetPB 32 (pPgnS s.data.toList).1 (pPgnS s.data.toList).2 w) := by
  rw [← pgn_same]
  exact implParsePolygon_c s hs w hL
set_option maxHeartbeats 1000000 in
theorem walk_FnExactParsePolygon (s : ByteArray) (w : World) (_w0 : s.size ≤ maxLen) (hL : LibOk w) :
  Calls Tryz.prog 3 #[.string s] w fun e w' => e = .returned (.bool true) ∧ Below w.heap.size w w' := by
  by_cases hs : s.size ≤ 1048576
  rotate_left
  · go_enter Tryz.func3, Tryz.ntmps3
    go_wp2_with fail
    go_ret
    exact ⟨rfl, Below.refl _ _⟩
  go_enter Tryz.func3, Tryz.ntmps3
  have bel : Below w.heap.size w w := Below.refl _ _
  go_wp2_with fail
  refine (specParsePolygon_c s hs _).mono ?_
  rintro e u1 ⟨AWr, nWr, cWr, rfl, Wr, hb1, qWr⟩
  have bel := bel_step bel hb1
  have sz1 := hb1.size
  have Wr0 := Wr
  go_wp2_with fail
  refine (implPP_c s hs _ (hL.go bel)).mono ?_
  rintro e u2 ⟨AGr, nGr, cGr, rfl, Gr, hb2, qGr⟩
  have bel := bel_step bel hb2
  have sz2 := hb2.size
  have Wr := Wr.go hb2
  have Gr0 := Gr
  go_wp2_with fail
  refine (eqPointS_c _ _ _ _ _ _ _ _ _ _ Gr.rd Wr.rd (Nat.le_refl _) (Nat.le_refl _)).mono ?_
  rintro e u3 ⟨rfl, hb3⟩
  have bel := bel_step bel hb3
  have sz3 := hb3.size
  have Wr := Wr.go hb3
  have Gr := Gr.go hb3
  go_wp2_with fail
  refine (markPointS_c _ _ _ _ _ _ _ Gr (by omega) (by omega) (by omega)).mono ?_
  rintro e u4 ⟨rfl, Gr, hg4⟩
  have bel := bel.grown hg4 bel.size fun g hg => by have := (Gr0.lt g hg).1; omega
  have sz4 := hg4.size
  have Wr := Wr.kept hg4 (blk_ne Wr0.lt Gr0.lt (by omega))
  go_wp2_with fail
  refine (heldPointS_c _ _ _ _ _ _ Gr.rd (by omega) (by omega) (by omega)).mono ?_
  rintro e u5 ⟨rfl, hb5⟩
  have bel := bel_step bel hb5
  have sz5 := hb5.size
  have Wr := Wr.go hb5
  have Gr := Gr.go hb5
  go_wp2_with fail
  refine (implPP_c s hs _ (hL.go bel)).mono ?_
  rintro e u6 ⟨AHr, nHr, cHr, rfl, Hr, hb6, qHr⟩
  have bel := bel_step bel hb6
  have sz6 := hb6.size
  have Wr := Wr.go hb6
  have Gr := Gr.go hb6
  have Hr0 := Hr
  go_wp2_with fail
  refine (eqPointS_c _ _ _ _ _ _ _ _ _ _ Hr.rd Wr.rd (Nat.le_refl _) (Nat.le_refl _)).mono ?_
  rintro e u7 ⟨rfl, hb7⟩
  have bel := bel_step bel hb7
  have sz7 := hb7.size
  have Wr := Wr.go hb7
  have Gr := Gr.go hb7
  have Hr := Hr.go hb7
  go_wp2_with fail
  refine (heldPointS_c _ _ _ _ _ _ Gr.rd (by omega) (by omega) (by omega)).mono ?_
  rintro e u8 ⟨rfl, hb8⟩
  have bel := bel_step bel hb8
  have sz8 := hb8.size
  have Wr := Wr.go hb8
  have Gr := Gr.go hb8
  have Hr := Hr.go hb8
  go_wp2_with fail
  go_ret
  exact ⟨rfl, bel⟩
end Go.Proofs.YtfkglbmdpefigaaGreatDoor
