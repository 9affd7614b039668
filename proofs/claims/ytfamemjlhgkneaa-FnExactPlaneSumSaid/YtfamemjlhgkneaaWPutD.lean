/- The reference's insertion of a term into an ordered list, at every list; terms put in one by one. -/
import Derived.Test.YtfamemjlhgkneaaWPutZ
import Derived.Test.YtfamemjlhgkneaaWPutA
import Derived.Test.YtfamemjlhgkneaaWPutB
import Derived.Test.YtfamemjlhgkneaaWPutC
namespace Go.Proofs.Ytfamemjlhgkneaa
open Go.RowKit
theorem first_no (l : List Trm) (t : Trm) : ∀ n, ∃ K, K ≤ n ∧ (∀ i, i < K → ltT (l.getD i (0, 0, 0)) t = true) ∧ (K < n → ltT (l.getD K (0, 0, 0)) t = false)
  | 0 => ⟨0, Nat.le_refl _, fun i hi => absurd hi (by omega), fun h => absurd h (by omega)⟩
  | n + 1 => by
    obtain ⟨K, h1, h2, h3⟩ := first_no l t n
    by_cases e : K < n
    · exact ⟨K, by omega, h2, fun _ => h3 e⟩
    · have hK : K = n := by omega
      cases hl : ltT (l.getD n (0, 0, 0)) t
      · exact ⟨K, by omega, h2, fun _ => by rw [hK]; exact hl⟩
      · refine ⟨n + 1, Nat.le_refl _, fun i hi => ?_, fun h => absurd h (by omega)⟩
        by_cases e2 : i = n
        · rw [e2]; exact hl
        · exact h2 i (by omega)
theorem plPut_c (A : Option Addr) (n c : Nat) (l : List Trm) (x0 x1 x2 : Int) (B0 : Nat) (w : World) (h : OwnT w B0 54 (.slice A n c) n l) (hn : n ≤ 1000000) :
    Calls Try.prog 71 #[.slice A n c, .agg #[.int .i64 x0, .int .i64 x1, .int .i64 x2]] w (RetT 54 (putT (x0, x1, x2) l) w) := by
  obtain ⟨K, h1, h2, h3⟩ := first_no l (x0, x1, x2) n
  by_cases e : K = n
  · have hA : (A = none ∧ n = 0 ∧ c = 0) ∨ ∃ b, A = some ⟨b, 0, none⟩ := by
      rcases h.2 with ⟨hv, h0⟩ | ⟨g, cap, cur, hv, _⟩
      · cases hv
        exact .inl ⟨rfl, rfl, rfl⟩
      · cases hv
        exact .inr ⟨g, rfl⟩
    rcases hA with hA | hA
    · exact plPutZ A n c l x0 x1 x2 K B0 w h hn hA e h2
    · exact plPutA A n c l x0 x1 x2 K B0 w h hn hA e h2
  · have hK : K < n := by omega
    cases h4 : ltT (x0, x1, x2) (l.getD K (0, 0, 0))
    · exact plPutC A n c l x0 x1 x2 K B0 w h hn hK h2 (h3 hK) h4
    · exact plPutB A n c l x0 x1 x2 K B0 w h hn hK h2 (h3 hK) h4
theorem putT_len (t : Trm) : ∀ S : List Trm, (putT t S).length ≤ S.length + 1
  | [] => by simp [putT]
  | a :: S => by
    rw [putT]
    have := putT_len t S
    split
    · simp; omega
    · split <;> simp
end Go.Proofs.Ytfamemjlhgkneaa
