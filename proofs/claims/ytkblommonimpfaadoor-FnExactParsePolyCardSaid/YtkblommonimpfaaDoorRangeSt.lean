/- A range over a function whose iterator keeps its state in cells laid ahead of the loop: the loop's law. No program in sight. -/
import Derived.RangeFuncNested
import Derived.RangeFuncBox
import Derived.RangeFuncLeaves
import Derived.Test.YtkblommonimpfaaDoorBase
namespace Go.Proofs.YtkblommonimpfaaDoor
open Go.RowKit
/-- What a round leaves to the iterator: the blocks from B0 up to M lie as they lay. -/
def KeptIn (B0 M : Nat) (W W' : World) : Prop := ∀ b, B0 ≤ b → b < M → W'.heap[b]? = W.heap[b]?
theorem KeptIn.trans {B0 M : Nat} {X Y Z : World} (h : KeptIn B0 M X Y) (k : KeptIn B0 M Y Z) : KeptIn B0 M X Z := fun b h1 h2 => (k b h1 h2).trans (h b h1 h2)
theorem KeptIn.refl (B0 M : Nat) (W : World) : KeptIn B0 M W W := fun _ _ _ => rfl
theorem KeptIn.putObj {B0 M l : Nat} (W : World) (o : Obj) (hl : M ≤ l) : KeptIn B0 M W (W.putObj l o) := fun b _ h2 => World.putObj_heap_other (by omega)
theorem KeptIn.cell {B0 M : Nat} {W W' : World} (h : KeptIn B0 M W W') {p : Addr} (h1 : B0 ≤ p.block) (h2 : p.block < M) : W'.cell? p = W.cell? p := World.cell?_of_block (h p.block h1 h2)
/-- How a round's body may be left: off its end, or by a return. -/
def stPost {α : Type} (B0 B : Nat) (I Ir : List α → World → Prop) (xs : List α) (W : World) : Exit → Act → World → Prop
  | .normal, _, W' => KeepsFrom B W W' ∧ KeptIn B0 B W W' ∧ I xs W'
  | .ret, _, W' => KeepsFrom B W W' ∧ Ir xs W'
  | _, _, _ => False
variable {F : Fence} {n : Nat} {P : Program}
/-- The iterator's contract: the loop's invariant abides a store into the state's cell. -/
def SeqSt {α : Type} (F : Fence) (n : Nat) (P : Program) (g : Nat) (lb : Array Value) (encs : α → Array Value) (B0 Bs : Nat) (V : World → Prop) (S Sp : List α → Prop) (G : List α → α → Prop) (w : World) : Prop :=
  ∀ (l : Nat) (J Jx : List α → World → Prop) (W : World), Below w.heap.size w W → (∀ s X v, J s X → J s (X.setCell ⟨Bs, 0, none⟩ v)) → (∀ s X, J s X → V X) →
    (∀ pre x W1, J pre W1 → G pre x → YieldAt F (n - 1) P l (encs x) W1 fun e W' =>
      (e = .returned (.bool true) ∧ J (pre ++ [x]) W' ∧ KeptIn B0 w.heap.size W1 W') ∨ (e = .returned (.bool false) ∧ Jx (pre ++ [x]) W')) →
    J [] W →
    CallsIn F n P g (#[.func (.yield l) #[] #[]] ++ lb) W fun e W' => (∃ v, e = .returned v) ∧ ((∃ xs, S xs ∧ J xs W') ∨ (∃ pre, Sp pre ∧ Jx pre W'))
theorem wpIn_rangeFunc_st {α : Type} {g : Operand} {ps : Array Tmp} {assign body : Code} {Q : Exit → Act → World → Prop} {a : Act} {w : World}
    (hro : F.round = none) (h1 : 1 ≤ n) {gf : Nat} {lb : Array Value} (hg : a.eval g = .func (.func gf) #[] lb) (hFg : F.fn gf) (eg : ∀ args w, (callFunc gf args).run P w = .ok (.enter gf args) w)
    {encs : α → Array Value} {B0 Bs : Nat} {V : World → Prop} {S Sp : List α → Prop} {G : List α → α → Prop} (hseq : SeqSt F (n - 1) P gf lb encs B0 Bs V S Sp G w) (hps : ∀ x, (encs x).size = ps.size)
    (I Ir : List α → World → Prop) (hI : OwnFrom w.heap.size I) (hIr : OwnFrom w.heap.size Ir) (hIs : ∀ s X v, I s X → I s (X.setCell ⟨Bs, 0, none⟩ v)) (hV : ∀ s X, I s X → V X) (h0 : I [] w) (a₁ : α → Act)
    (hassign : ∀ (l : Nat) (x : α) (W : World) (K : Act → World → Prop), K (a₁ x) W →
      assign.wpIn (F.inRound l) (n - 1 - 1) P (Exit.then K (fun _ _ _ => False)) { tmps := (ps.zip (encs x)).foldl (fun t (p, v) => t.setIfInBounds p v) a.tmps, defers := [] } W)
    (hbody : ∀ (l : Nat) (pre : List α) (x : α) (W : World), I pre W → G pre x → body.wpIn (F.inRound l) (n - 1 - 1) P (stPost B0 w.heap.size I Ir (pre ++ [x]) W) (a₁ x) W)
    (hdone : ∀ (D : Nat) (xs : List α) (W : World), w.heap.size ≤ D → S xs → I xs W → W.heap[D]? = some (.deferred (some [])) → Q .normal { a with defers := { target := .collected D, args := #[] } :: a.defers } W)
    (hstop : ∀ (D : Nat) (pre : List α) (W : World), w.heap.size ≤ D → Sp pre → Ir pre W → W.heap[D]? = some (.deferred (some [])) → Code.ret.wpIn F n P Q { a with defers := { target := .collected D, args := #[] } :: a.defers } W) :
    (Code.rangeFunc g ps assign body).wpIn F n P Q a w := by
  refine wpIn_rangeFunc ?_
  intro fn hfn
  rw [hro]
  have hL1 := World.alloc_heap_new (w.alloc (.deferred (some []))) (.loop { state := .ready, pending := none, fn, tmps := a.tmps, params := ps, assign, body, defers := w.heap.size })
  have hK1 := (Below.heap_alloc (w.alloc (.deferred (some []))) (.loop { state := .ready, pending := none, fn, tmps := a.tmps, params := ps, assign, body, defers := w.heap.size }) w.heap.size (by simp)).trans (World.alloc_heap_new w _)
  rw [World.size_alloc] at hL1
  have hI1 : I [] ((w.alloc (.deferred (some []))).alloc (.loop { state := .ready, pending := none, fn, tmps := a.tmps, params := ps, assign, body, defers := w.heap.size })) := hI.alloc _ (hI.alloc _ h0)
  have hb1 : Below w.heap.size w ((w.alloc (.deferred (some []))).alloc (.loop { state := .ready, pending := none, fn, tmps := a.tmps, params := ps, assign, body, defers := w.heap.size })) := ((Below.refl _ w).alloc (Nat.le_refl _) _).alloc (by simp) _
  have hent := run_enterLoop_outer (P := P) (w := w) fn a.tmps ps assign body
  generalize (w.alloc (.deferred (some []))).alloc (.loop { state := .ready, pending := none, fn, tmps := a.tmps, params := ps, assign, body, defers := w.heap.size }) = W1 at *
  refine ⟨w.heap.size + 1, [{ target := .collected w.heap.size, args := #[] }], W1, { target := .fn (.func gf) lb, args := #[.func (.yield (w.heap.size + 1)) #[] #[]] }, W1, gf,
    #[.func (.yield (w.heap.size + 1)) #[] #[]] ++ lb, W1, hent, ?_, ?_, ?_, fun _ => h1, ?_⟩
  · simp only [resolve, hg]
    simp [go_sem]
  · intro f' hf'
    simp [Target.leads] at hf'
    subst hf'
    exact hFg
  · simp [invoke, go_sem, eg]
  clear hent
  have hset : ∀ (X : World) (v : Value) (b : Nat) (o : Obj), X.heap[b]? = some o → o.isCells = false → (X.setCell ⟨Bs, 0, none⟩ v).heap[b]? = some o := fun X v b o h ho => (KeepsOthers.setCell X ⟨Bs, 0, none⟩ v).same b o h ho
  refine (hseq (w.heap.size + 1)
    (fun pre W => I pre W ∧ W.heap[w.heap.size + 1]? = some (.loop { state := .ready, pending := none, fn, tmps := a.tmps, params := ps, assign, body, defers := w.heap.size }) ∧ W.heap[w.heap.size]? = some (.deferred (some [])))
    (fun pre W => Ir pre W ∧ W.heap[w.heap.size + 1]? = some (.loop { state := .done, pending := some .ret, fn, tmps := a.tmps, params := ps, assign, body, defers := w.heap.size }) ∧ W.heap[w.heap.size]? = some (.deferred (some [])))
    W1 hb1 (fun s X v h => ⟨hIs s X v h.1, hset X v _ _ h.2.1 rfl, hset X v _ _ h.2.2 rfl⟩) (fun s X h => hV s X h.1) ?_ ⟨hI1, hL1, hK1⟩).mono ?_
  · rintro pre x W ⟨hi, hl, hk⟩ hlen
    have hlt := (Array.getElem?_eq_some_iff.1 hl).1
    refine ⟨fn, _, assign, body, run_yield (P := P) (args := encs x) hl (hps x), roundIn_of_wpIn hfn (hassign _ x W _ ⟨_, run_beginRound hl rfl, ?_⟩)⟩
    have hl2 := World.putObj_heap_same (w := W) (o := .loop { state := .busy, pending := none, fn, tmps := a.tmps, params := ps, assign, body, defers := w.heap.size }) hlt
    have hk2 := (World.putObj_heap_other (w := W) (o := .loop { state := .busy, pending := none, fn, tmps := a.tmps, params := ps, assign, body, defers := w.heap.size }) (show w.heap.size ≠ w.heap.size + 1 by omega)).trans hk
    have hw2 : KeptIn B0 w.heap.size W (W.putObj (w.heap.size + 1) (.loop { state := .busy, pending := none, fn, tmps := a.tmps, params := ps, assign, body, defers := w.heap.size })) := KeptIn.putObj _ _ (by omega)
    refine wpIn_mono (hbody _ pre x _ (hI.putObj _ hi (by omega) hl rfl) hlen) ?_
    rintro e a3 W3 hp
    cases e with
    | normal =>
      obtain ⟨hk3, hkp3, hi3⟩ := hp
      have hl3 := hk3.same _ _ (by omega) hl2 rfl
      exact ⟨_, _, run_endRound none hl3, .inl ⟨rfl, ⟨hI.putObj _ hi3 (by omega) hl3 rfl, World.putObj_heap_same (Array.getElem?_eq_some_iff.1 hl3).1, (World.putObj_heap_other (by omega)).trans (hk3.same _ _ (Nat.le_refl _) hk2 rfl)⟩, (hw2.trans hkp3).trans (KeptIn.putObj _ _ (by omega))⟩⟩
    | ret =>
      obtain ⟨hk3, hi3⟩ := hp
      have hl3 := hk3.same _ _ (by omega) hl2 rfl
      exact ⟨_, _, run_endRound (some .ret) hl3, .inr ⟨rfl, hIr.putObj _ hi3 (by omega) hl3 rfl, World.putObj_heap_same (Array.getElem?_eq_some_iff.1 hl3).1, (World.putObj_heap_other (by omega)).trans (hk3.same _ _ (Nat.le_refl _) hk2 rfl)⟩⟩
    | exit id => exact hp.elim
    | goto t => exact hp.elim
    | panic ch => exact hp.elim
    | outgrown => exact hp.elim
  · rintro e W2 ⟨⟨v, rfl⟩, (⟨xs, hS, hi, hl, hk⟩ | ⟨pre, hSp, hi, hl, hk⟩)⟩
    · exact ⟨none, _, run_endLoop hl (by simp), hdone _ xs _ (Nat.le_refl _) hS (hI.putObj _ hi (by omega) hl rfl) ((World.putObj_heap_other (by omega)).trans hk)⟩
    · exact ⟨some .ret, _, run_endLoop hl (by simp), hstop _ pre _ (Nat.le_refl _) hSp (hIr.putObj _ hi (by omega) hl rfl) ((World.putObj_heap_other (by omega)).trans hk)⟩
end Go.Proofs.YtkblommonimpfaaDoor
