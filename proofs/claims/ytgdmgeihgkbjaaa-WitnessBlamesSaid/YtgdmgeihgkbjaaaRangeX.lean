/- A range over a function whose iterator writes cells that it has made itself between its calls of yield: what the caller may ask. The body never leaves the loop. -/
import Derived.Test.YtgdmgeihgkbjaaaGroups
namespace Go.Proofs.Ytgdmgeihgkbjaaa
open Go.RowKit Go.Shelf

/-- A world one step on: of what lay, only a block from lo on and below hi has turned. -/
def OwnTurn (lo hi : Nat) (A A' : World) : Prop := ∃ row, A.grownBy A' row ∧ ∀ r, row = some r → lo ≤ r ∧ r < hi

/-- The iterator g hands out ys, one by one. I b k: k have been handed out; the iterator's own blocks lie below b (and not below its start): it may turn those, and lay new ones. -/
def SeqX {α : Type} (n g : Nat) (lb : Array Value) (encs : α → Array Value) (Kp : World → World → Prop) (ys : List α) (w : World) : Prop :=
  ∀ (l : Nat) (I : Nat → Nat → World → Prop) (W : World), Below w.heap.size w W →
    (∀ W1, Below W.heap.size W W1 → I W1.heap.size 0 W1) → (∀ b k A A', I b k A → OwnTurn W.heap.size b A A' → I b k A') →
    (∀ b k x A, I b k A → ys[k]? = some x → YieldAt Fence.wide (n - 1) Try.prog l (encs x) A fun e A' => e = .returned (.bool true) ∧ I b (k + 1) A' ∧ Kp A A') →
    CallsIn Fence.wide n Try.prog g (#[.func (.yield l) #[] #[]] ++ lb) W fun e W' => (∃ v, e = .returned v) ∧ ∃ b, I b ys.length W'

/-- What a round's body owes. -/
def bodyPostX (D : Nat) (Kp : World → World → Prop) (G : World → Prop) (A : World) : Exit → Act → World → Prop
  | .normal, _, A' => (∀ j, j = D ∨ j = D + 1 → A'.heap[j]? = A.heap[j]?) ∧ Kp A A' ∧ G A'
  | _, _, _ => False

theorem own_putObj {lo hi l : Nat} (A : World) (o : Obj) (h1 : lo ≤ l) (h2 : l < hi) : OwnTurn lo hi A (A.putObj l o) := ⟨some l, grownBy_putObj A l o, fun r e => by cases e; exact ⟨h1, h2⟩⟩

theorem wpIn_rangeX {α : Type} {n : Nat} {g : Operand} {ps : Array Tmp} {assign body : Code} {Q : Exit → Act → World → Prop} {a : Act} {w w0 : World} (h1 : 1 ≤ n) {gf : Nat} {lb : Array Value} (hg : a.eval g = .func (.func gf) #[] lb)
    (eg : ∀ args w, (callFunc gf args).run Try.prog w = .ok (.enter gf args) w) {encs : α → Array Value} {Kp : World → World → Prop} {ys : List α} (hseq : SeqX (n - 1) gf lb encs Kp ys w0) (hb0 : Below w0.heap.size w0 w) (hps : ∀ x, (encs x).size = ps.size)
    (hKt : ∀ {A B C : World}, Kp A B → Kp B C → Kp A C) (hKb : ∀ A r r', A.heap[w.heap.size + 1]? = some (.loop r) → Kp A (A.putObj (w.heap.size + 1) (.loop r')))
    (G : Nat → Nat → World → Prop) (hG0 : ∀ W1, Below w.heap.size w W1 → w.heap.size + 2 ≤ W1.heap.size → G W1.heap.size 0 W1) (hGab : ∀ b k A A', G b k A → OwnTurn w.heap.size b A A' → G b k A') (Ax : α → Act → World → Prop) (hAx : ∀ x a' A r, Ax x a' A → Ax x a' (A.putObj (w.heap.size + 1) (.loop r)))
    (hassign : ∀ l b k x A K, ys[k]? = some x → G b k A → (∀ a' A', (∀ j, j = w.heap.size ∨ j = w.heap.size + 1 → A'.heap[j]? = A.heap[j]?) → Kp A A' → G b k A' → Ax x a' A' → K a' A') → w.heap.size + 1 < A.heap.size →
      assign.wpIn (Fence.wide.inRound l) (n - 1 - 1) Try.prog (Exit.then K (fun _ _ _ => False)) { tmps := (ps.zip (encs x)).foldl (fun t (p, v) => t.setIfInBounds p v) a.tmps, defers := [] } A)
    (hbody : ∀ l b k x a' A, ys[k]? = some x → G b k A → Ax x a' A → w.heap.size + 1 < A.heap.size → w.heap.size + 1 < b → body.wpIn (Fence.wide.inRound l) (n - 1 - 1) Try.prog (bodyPostX w.heap.size Kp (G b (k + 1)) A) a' A)
    (hdone : ∀ b W, G b ys.length W → W.heap[w.heap.size]? = some (.deferred (some [])) → Q .normal { a with defers := { target := .collected w.heap.size, args := #[] } :: a.defers } W) :
    (Code.rangeFunc g ps assign body).wpIn Fence.wide n Try.prog Q a w := by
  refine wpIn_rangeFunc ?_
  intro fn hfn
  let R : LoopState → Loop := fun st => { state := st, pending := none, fn := fn, tmps := a.tmps, params := ps, assign := assign, body := body, defers := w.heap.size }
  obtain ⟨W1, hW1⟩ : ∃ W1, (w.alloc (.deferred (some []))).alloc (.loop (R .ready)) = W1 := ⟨_, rfl⟩
  have hs1 : W1.heap.size = w.heap.size + 2 := by rw [← hW1]; simp
  have hbw : Below w.heap.size w W1 := by rw [← hW1]; exact (below_alloc1 _).trans ((below_alloc1 _).mono (by simp))
  have hl1 : W1.heap[w.heap.size + 1]? = some (.loop (R .ready)) := by rw [← hW1]; exact heap_alloc2_new w _ _
  have hd1 : W1.heap[w.heap.size]? = some (.deferred (some [])) := by rw [← hW1]; exact heap_alloc2_old w _ _
  refine ⟨w.heap.size + 1, [{ target := .collected w.heap.size, args := #[] }], W1, { target := .fn (.func gf) lb, args := #[.func (.yield (w.heap.size + 1)) #[] #[]] }, W1, gf, #[.func (.yield (w.heap.size + 1)) #[] #[]] ++ lb, W1, ?_, ?_, fun _ _ => trivial, ?_, fun _ => h1, ?_⟩
  · exact (run_enterLoop_outer fn a.tmps ps assign body).trans (by rw [← hW1])
  · simp only [resolve, hg]
    simp [go_sem]
  · simp [invoke, go_sem, eg]
  -- the iterator's contract, at the caller's invariant and the two blocks of the loop's own
  let I : Nat → Nat → World → Prop := fun b k A => G b k A ∧ A.heap[w.heap.size + 1]? = some (.loop (R .ready)) ∧ A.heap[w.heap.size]? = some (.deferred (some [])) ∧ w.heap.size + 1 < b
  have hit := hseq (w.heap.size + 1) I W1 (hb0.trans (hbw.mono hb0.size)) (fun W2 hb2 => ?_) (fun b k A A' hI ht => ?_) (fun b k x A hI hx => ?_)
  · refine hit.mono ?_
    rintro e W2 ⟨⟨v, rfl⟩, b, hG, hl, hd, hlt⟩
    have hend := run_endLoop (P := Try.prog) hl (by simp [R])
    refine ⟨none, _, hend, hdone b _ (hGab b _ _ _ hG (own_putObj W2 _ (by omega) hlt)) ((World.putObj_heap_other (by omega)).trans hd)⟩
  · exact ⟨hG0 W2 (hbw.trans (hb2.mono (by omega))) (by have := hb2.size; omega), (hb2.block _ (by omega)).trans hl1, (hb2.block _ (by omega)).trans hd1, by have := hb2.size; omega⟩
  · obtain ⟨hG, hl, hd, hlt⟩ := hI
    obtain ⟨row, hgr, hr⟩ := ht
    refine ⟨hGab b k A A' hG ⟨row, hgr, fun r e => ⟨by have := (hr r e).1; omega, (hr r e).2⟩⟩, ?_, ?_, hlt⟩
    · exact (hgr.block _ (lt_of_heap hl) (fun e => by have := (hr _ e.symm).1; omega)).trans hl
    · exact (hgr.block _ (lt_of_heap hd) (fun e => by have := (hr _ e.symm).1; omega)).trans hd
  · obtain ⟨hG, hl, hd, hlt⟩ := hI
    have hy := run_yield (P := Try.prog) (args := encs x) hl (hps x)
    refine ⟨fn, _, assign, body, hy, roundIn_of_wpIn hfn (hassign (w.heap.size + 1) b k x A _ hx hG ?_ (lt_of_heap hl))⟩
    intro a' A1 hk1 hp1 hG1 hA1
    have hl2 := (hk1 _ (.inr rfl)).trans hl
    have hd2 := (hk1 _ (.inl rfl)).trans hd
    refine ⟨_, run_beginRound hl2 rfl, ?_⟩
    have hlt2 := lt_of_heap hl2
    generalize hA2 : A1.putObj (w.heap.size + 1) (.loop { R .ready with state := .busy }) = A2
    have hl3 : A2.heap[w.heap.size + 1]? = some (.loop (R .busy)) := by rw [← hA2]; exact World.putObj_heap_same hlt2
    have hd3 : A2.heap[w.heap.size]? = some (.deferred (some [])) := by rw [← hA2]; exact (World.putObj_heap_other (by omega)).trans hd2
    have hp2 : Kp A1 A2 := hA2 ▸ hKb A1 _ _ hl2
    have hG2 : G b k A2 := hA2 ▸ hGab b k _ _ hG1 (own_putObj A1 _ (by omega) hlt)
    have hX2 : Ax x a' A2 := hA2 ▸ hAx x a' A1 _ hA1
    refine wpIn_mono (hbody (w.heap.size + 1) b k x a' A2 hx hG2 hX2 (lt_of_heap hl3) hlt) ?_
    rintro e a3 A3 hp
    cases e with
    | normal =>
      obtain ⟨hk3, hp3, hG3⟩ := hp
      have hl4 := (hk3 _ (.inr rfl)).trans hl3
      have hd4 := (hk3 _ (.inl rfl)).trans hd3
      have hend := run_endRound (P := Try.prog) none hl4
      refine ⟨_, _, hend, rfl, ⟨hGab b _ _ _ hG3 (own_putObj A3 _ (by omega) hlt), World.putObj_heap_same (lt_of_heap hl4), (World.putObj_heap_other (by omega)).trans hd4, hlt⟩, ?_⟩
      exact hKt hp1 (hKt (hKt hp2 hp3) (hKb A3 _ _ hl4))
    | _ => exact hp.elim

end Go.Proofs.Ytgdmgeihgkbjaaa
