/- The program's gathering of terms: a clone, sorted, the first of each run kept. -/
import Derived.Test.YtfamemjlhgkneaaCompact
import Derived.Test.YtfamemjlhgkneaaWPutD
namespace Go.Proofs.Ytfamemjlhgkneaa
open Go.RowKit
theorem gathered_c (A : Option Addr) (n c : Nat) (l : List Trm) (B : Nat) (w : World) (h : RdT w B A n l) (hB : B ≤ w.heap.size) (hb : ∀ t ∈ l, okT t) (hn : 0 < n) (hn2 : n ≤ 1048576) :
    Calls Try.prog 72 #[.slice A n c] w fun e w' => ∃ M : List Trm, M.Perm l ∧ Sorted3 M ∧ RetT 54 (compT M) w e w' := by
  have HB := Lib.hid hb
  clear hb
  go_enter Try.func72, Try.ntmps72
  go_wp2_with fail
  refine (cloneT_c A n c l B w h hB hn hn2).mono ?_
  rintro e w1 ⟨A1, n1, c1, rfl, own1, bel1, _⟩
  obtain rfl : n1 = n := by rw [← own1.len, h.len]
  obtain ⟨g, rfl⟩ := own1.head hn
  have hg := (own1.lt g rfl).1
  go_wp2_with fail
  refine (sortT_c g n1 c1 l w.heap.size w1 own1 HB.out (by omega)).mono ?_
  rintro e w2 ⟨rfl, M, hp, hs, own2, gr2⟩
  have bel2 := bel1.grown gr2 bel1.size (fun k hk => by cases hk; exact hg)
  have HM : Hid (M.Perm l ∧ Sorted3 M) := Lib.hid ⟨hp, hs⟩
  have HB2 : Hid (∀ t ∈ M, okT t) := Lib.hid fun t ht => HB.out t (hp.mem_iff.1 ht)
  clear hp hs own1 bel1 gr2
  go_wp2_with fail
  refine (compact_c g n1 c1 M w.heap.size w2 own2 HB2.out (by omega)).mono ?_
  rintro e w3 ⟨m, rfl, hm, own3, gr3⟩
  have bel3 := bel2.grown gr3 bel2.size (fun k hk => by cases hk; exact hg)
  clear own2 bel2 gr3
  go_wp2_with fail
  go_ret
  exact ⟨M, HM.out.1, HM.out.2, retT_mk own3 bel3 (by omega)⟩
end Go.Proofs.Ytfamemjlhgkneaa
