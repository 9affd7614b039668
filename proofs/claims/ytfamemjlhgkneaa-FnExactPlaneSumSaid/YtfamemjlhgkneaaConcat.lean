/- slices.Grow of a nil slice of terms; slices.Concat of two. -/
import Derived.Test.YtfamemjlhgkneaaWPrd
import Derived.Test.YtfamemjlhgkneaaApp2
import Derived.Lib.AppendZerosOnto
namespace Go.Proofs.Ytfamemjlhgkneaa
open Go.RowKit
theorem wpList_append_eq {P : Program} {w w' : World} {ops : Array Oper} {rest : List Oper} {o : Oper} {a : Act} {Q : Exit → Act → World → Prop} (hgd : o.guard = none) (s x : Operand) (ts : Array TypeId)
    (ho : o.op = .call { callee := .builtin .append, args := #[s, x], argTypes := ts }) (v u r : Value) (hs : a.eval s = v) (hx : a.eval x = u)
    (hr : ∀ ty, (Builtin.append_ ts ty #[v, u]).run P w = .ok r w') (h : wpList P ops Q rest (a.put o.dst r) w') : wpList P ops Q (o :: rest) a w :=
  wpList_plain hgd fun _ hK => by
    unfold Oper.wp execOp
    simp only [ho, resolve, invoke, builtin, Sem.run_bind, Sem.run_pure, Result.andThen_ok, List.map_toArray, List.map_cons, List.map_nil, hs, hx, hr]
    exact hK _ _ h
set_option maxRecDepth 8192 in
theorem growT_c (N : Nat) (w : World) (h0 : 0 < N) (hN : N ≤ 1000000) :
    Calls Try.prog 86 #[.slice none 0 0, .int .i64 N] w (RetT 54 [] w) := by
  obtain ⟨i0, hi, hz0, hz1, hz2⟩ := info_parts info_trm
  have hold : (Builtin.firstCells i0.size 0 (.slice none 0 0)).run Try.prog w.drew = .ok ([] : List Value).toArray w.drew := run_firstCells_none w.drew i0.size 0 0 0
  have hrz : ∀ ty, (Builtin.append_ #[25, 3] ty #[.slice none 0 0, .int .i64 (N : Int)]).run Try.prog w =
      .ok (.slice (some ⟨w.heap.size, 0, none⟩) N (grownCap w N 0 54)) (w.drew.alloc (.cells (([] : List Value).toArray ++ Builtin.zeroCells #[.int .i64 0, .int .i64 0, .int .i64 0] N ++ Builtin.zeroCells #[.int .i64 0, .int .i64 0, .int .i64 0] (grownCap w N 0 54 - N)) 54)) := fun ty => by
    have h := Lib.run_append_grow_zeros w 25 3 ty 54 i0 _ .i64 .i64 Try.underlying25 Try.underlying3 hi hz0 none 0 0 [] hold N h0 (by omega) (by omega) (by omega) (by rw [hz2]; omega)
      (by rw [hz2]; exact growslice_fits (by omega) (by omega))
    simp only [Nat.zero_add] at h
    exact h
  have hGn : N ≤ grownCap w N 0 54 := grownCap_ge w _ _ _
  have hG63 := grownCap_le_maxLen w N 0 54 (by unfold maxLen; omega)
  generalize grownCap w N 0 54 = G at *
  have hs4 := slice_to (P := Try.prog) Try.underlying25 (by kernel_rfl) Try.sizeOf54 w.heap.size N G 0 (by omega) hGn
  have hnil : ∀ w, (Instr.slice 25 (.slice none 0 0) none (some (.int .i64 0)) none).run Try.prog w = .ok (.slice none 0 0) w := fun w => by
    have := run_slice_h (P := Try.prog) w 25 none 0 0 (by kernel_rfl) .i64 0 (by omega) (by omega)
    rw [this, show (Try.prog).elem 25 = 54 from by kernel_rfl, Try.sizeOf54]
    simp [sliced, Result.andThen]
  have HR : Hid (OwnT (w.drew.alloc (.cells (([] : List Value).toArray ++ Builtin.zeroCells #[.int .i64 0, .int .i64 0, .int .i64 0] N ++ Builtin.zeroCells #[.int .i64 0, .int .i64 0, .int .i64 0] (G - N)) 54)) w.heap.size 54 (.slice (some ⟨w.heap.size, 0, none⟩) 0 G) 0 []) :=
    Lib.hid (World.ownsRow_made w.drew _ G (Nat.le_refl _) hG63 (by simp [Builtin.zeroCells]; omega))
  have HBel : Hid (Below w.heap.size w (w.drew.alloc (.cells (([] : List Value).toArray ++ Builtin.zeroCells #[.int .i64 0, .int .i64 0, .int .i64 0] N ++ Builtin.zeroCells #[.int .i64 0, .int .i64 0, .int .i64 0] (G - N)) 54))) := Lib.hid (by
    have b := bel_new w.drew (.cells (([] : List Value).toArray ++ Builtin.zeroCells #[.int .i64 0, .int .i64 0, .int .i64 0] N ++ Builtin.zeroCells #[.int .i64 0, .int .i64 0, .int .i64 0] (G - N)) 54)
    exact ⟨b.os, b.tape, b.output, b.size, b.block⟩)
  generalize (Obj.cells (([] : List Value).toArray ++ Builtin.zeroCells #[.int .i64 0, .int .i64 0, .int .i64 0] N ++ Builtin.zeroCells #[.int .i64 0, .int .i64 0, .int .i64 0] (G - N)) 54) = ob at *
  clear hi hz0 hz1 hz2 hold hG63
  have h1 : ¬ ((N : Int) < 0) := by omega
  go_enter Try.func86, Try.ntmps86
  have HA := Lib.hid hrz
  clear hrz
  go_wp2_with (at_builtin; refine wpList_append_eq rfl _ _ #[25, 3] rfl _ _ _ rfl rfl HA.out ?_)
  go_ret
  exact retT_mk HR.out HBel.out (by omega)
set_option maxRecDepth 8192 in
set_option maxHeartbeats 1000000 in
theorem concatT_c (S b o n c b2 o2 n2 c2 : Nat) (l m : List Trm) (B : Nat) (w : World) (h : RdT w B (some ⟨b, o, none⟩) n l) (h2 : RdT w B (some ⟨b2, o2, none⟩) n2 m) (hB : B ≤ w.heap.size) (hx : Bx w S [.slice (some ⟨b, o, none⟩) n c, .slice (some ⟨b2, o2, none⟩) n2 c2])
    (hn : 0 < n) (hn1 : n ≤ 1000) (hn2 : 0 < n2) (hn3 : n2 ≤ 1000) :
    Calls Try.prog 74 #[.slice (some ⟨S, 0, none⟩) 2 2] w (RetT 54 (l ++ m) w) := by
  obtain ⟨i0, hi, hz0, hz1, hz2⟩ := info_parts info_trm
  have HI := Lib.hid hi
  have HZ0 := Lib.hid hz0
  have HZ1 := Lib.hid hz1
  have HZ2 := Lib.hid hz2
  clear hi hz0 hz1 hz2
  go_enter Try.func74, Try.ntmps74
  go_wp2_with fail
  go_loopw [3, 5, 11] (fun z s i wr => ∃ k : Nat, i = .int .i64 k ∧ (k = 0 ∧ z = .int .i64 0 ∨ k = 1 ∧ z = .int .i64 n ∨ k = 2 ∧ z = .int .i64 ((n + n2 : Nat) : Int)) ∧ wr = w) (fun _ _ i _ => 2 - (intOf i).toNat)
  case atStart => exact ⟨0, rfl, .inl ⟨rfl, rfl⟩, rfl⟩
  case round =>
    obtain ⟨k, rfl, hk, hww⟩ := hrel
    replace hww := hww.symm
    subst hww
    have x0 := hx.at0
    have x1 := hx.at1
    rcases hk with ⟨rfl, rfl⟩ | ⟨rfl, rfl⟩ | ⟨rfl, rfl⟩
    · go_wp2_with fail
      go_roundw
      case rel => exact ⟨1, by go_num, .inr (.inl ⟨rfl, by go_num⟩), trivial⟩
      case measure => simp [intOf]
    · go_wp2_with fail
      go_roundw
      case rel => exact ⟨2, by go_num, .inr (.inr ⟨rfl, by go_num⟩), trivial⟩
      case measure => simp [intOf]
    · clear x0 x1
      go_wp2_with fail
      refine (growT_c (n + n2) w (by omega) (by omega)).mono ?_
      rintro e w1 ⟨A1, n1, c1, rfl, own1, bel1, _⟩
      obtain rfl : n1 = 0 := by rw [← own1.len]; rfl
      have HR1 := Lib.hid h
      have HR2 := Lib.hid h2
      have HX := Lib.hid hx
      go_wp2_with fail
      go_loopw [6, 8, 27] (fun v s i wy => ∃ k q : Nat, i = .int .i64 k ∧ k ≤ 2 ∧ (k = 0 ∧ q = 0 ∨ k = 1 ∧ q = n ∨ k = 2 ∧ q = n + n2) ∧ OwnT wy w.heap.size 54 v q (if k = 0 then [] else if k = 1 then l else l ++ m) ∧ Below w.heap.size w wy) (fun _ _ i _ => 2 - (intOf i).toNat)
      case atStart => exact ⟨0, 0, rfl, by omega, .inl ⟨rfl, rfl⟩, own1, bel1⟩
      case round =>
        clear own1 bel1
        obtain ⟨k, q, rfl, hk2, hk, hown, hbel⟩ := hrel
        have hsz := hbel.size
        have h1' := HR1.out.below (hbel.mono hB)
        have h2' := HR2.out.below (hbel.mono hB)
        have hX := HX.out.go hbel
        have x0 := hX.at0
        have x1 := hX.at1
        rcases hk with ⟨rfl, rfl⟩ | ⟨rfl, rfl⟩ | ⟨rfl, rfl⟩
        · have HC := Lib.hid (RdF.cells h1' hn)
          have HF := Lib.hid (RdF.len h1')
          clear h1' h2' hX x1
          go_wp2_with (at_builtin; refine wp_appSF rfl _ _ 25 rfl w.heap.size 54 3 i0 _ Try.underlying25 HI.out HZ0.out HZ1.out HZ2.out (by omega) (by omega) rfl _ 0 [] rfl hown b o n c (flatT l) HF.out rfl HC.out (by omega) hsz ?_)
          intro v' w5 g1 g2 _
          have bel5 := hbel.trans g2
          have own5 : OwnT w5 w.heap.size 54 v' n l := g1
          clear g1 g2 hown hbel x0
          go_wp2_with fail
          go_roundw
          case rel => exact ⟨1, n, by go_num, by omega, .inr (.inl ⟨rfl, rfl⟩), own5, bel5⟩
          case measure => simp [intOf]
        · have HC := Lib.hid (RdF.cells h2' hn2)
          have HF := Lib.hid (RdF.len h2')
          clear h1' h2' hX x0
          go_wp2_with (at_builtin; refine wp_appSF rfl _ _ 25 rfl w.heap.size 54 3 i0 _ Try.underlying25 HI.out HZ0.out HZ1.out HZ2.out (by omega) (by omega) rfl _ q (flatT l) rfl hown b2 o2 n2 c2 (flatT m) HF.out rfl HC.out (by omega) hsz ?_)
          intro v' w5 g1 g2 _
          have bel5 := hbel.trans g2
          have own5 : OwnT w5 w.heap.size 54 v' (q + n2) (l ++ m) := by unfold OwnT; rw [flatT_app]; exact g1
          clear g1 g2 hown hbel x1
          go_wp2_with fail
          go_roundw
          case rel => exact ⟨2, q + n2, by go_num, by omega, .inr (.inr ⟨rfl, rfl⟩), own5, bel5⟩
          case measure => simp [intOf]
        · clear h1' h2' hX x0 x1
          go_wp2_with fail
          go_ret
          exact retT_mk hown hbel (by omega)
end Go.Proofs.Ytfamemjlhgkneaa
