/- What a round of a range over a function keeps: the iterators' blocks, all that lay below the call. -/
import Derived.Test.YtgdmgeihgkbjaaaLib
import Derived.RangeFuncNested
import Derived.RangeFuncBound
import Derived.RangeFuncCalls
import Derived.RangeFuncLeaves
import Derived.Shelf.Abstract
import Derived.OwnWalkIn
import Derived.TacticsInMore
import Derived.LoopNIn
import Derived.LoopIn
import Derived.Maps.OwnIn
namespace Go.Proofs.Ytgdmgeihgkbjaaa
open Go.RowKit Go.Shelf

/-- The box bo holds a slice whose row is block k. -/
def rowOf (bo : Option Nat) (W : World) (k : Nat) : Prop := ∃ b o s n c, bo = some b ∧ W.cell? ⟨b, 0, none⟩ = some (.slice (some ⟨k, o, s⟩) n c)

def isData (o : Obj) : Prop := o.isCells = true ∨ o.isWalk = true

/-- What an iterator asks of a round: all data below n₀, and from n₁ on, but for the row that the box bo holds, lie as they lay. -/
structure Keep (n₀ n₁ : Nat) (bo : Option Nat) (W W' : World) : Prop where
  os : W'.os = W.os
  tape : W'.tape = W.tape
  output : W'.output = W.output
  size : W.heap.size ≤ W'.heap.size
  same : ∀ k o, (k < n₀ ∨ n₁ ≤ k ∧ ¬ rowOf bo W k) → W.heap[k]? = some o → isData o → W'.heap[k]? = some o
  row : ∀ k, rowOf bo W' k → rowOf bo W k ∨ W.heap.size ≤ k

theorem lt_of_heap {W : World} {k : Nat} {o : Obj} (h : W.heap[k]? = some o) : k < W.heap.size := (Array.getElem?_eq_some_iff.1 h).1

theorem Keep.refl (n₀ n₁ : Nat) (bo : Option Nat) (W : World) : Keep n₀ n₁ bo W W := ⟨rfl, rfl, rfl, Nat.le_refl _, fun _ _ _ h _ => h, fun _ h => .inl h⟩

theorem Keep.trans {n₀ n₁ : Nat} {bo : Option Nat} {A B C : World} (h : Keep n₀ n₁ bo A B) (k : Keep n₀ n₁ bo B C) : Keep n₀ n₁ bo A C :=
  ⟨k.os.trans h.os, k.tape.trans h.tape, k.output.trans h.output, Nat.le_trans h.size k.size,
    fun j o hj hA ho => k.same j o (hj.imp id fun ⟨h1, h2⟩ => ⟨h1, fun hr => (h.row j hr).elim h2 fun hs => by have := lt_of_heap hA; omega⟩) (h.same j o hj hA ho) ho,
    fun j hj => (k.row j hj).elim (h.row j) fun hs => .inr (Nat.le_trans h.size hs)⟩

theorem Keep.book {n₀ n₁ : Nat} {bo : Option Nat} {w : World} (hbo : ∀ b, bo = some b → b < w.heap.size) (W : World) (l : Nat) (o o' : Obj) (hl : w.heap.size ≤ l) (h : W.heap[l]? = some o) (h1 : o.isCells = false) (h2 : o.isWalk = false) :
    Keep n₀ n₁ bo W (W.putObj l o') := by
  refine ⟨rfl, rfl, rfl, by simp, fun k ok _ hk hd => ?_, fun k hk => .inl ?_⟩
  · have : k ≠ l := by
      rintro rfl
      rw [h] at hk
      cases hk
      rcases hd with hd | hd <;> simp_all
    exact (World.putObj_heap_other this).trans hk
  · obtain ⟨b, o, s, n, c, hb, hc⟩ := hk
    have := hbo b hb
    exact ⟨b, o, s, n, c, hb, (World.cell?_of_block (w := W) (a := ⟨b, 0, none⟩) (World.putObj_heap_other (show b ≠ l by omega))).symm.trans hc⟩

/-- What the body of a round does: it writes blocks from n₀ to n₁, the row of bo, new blocks. -/
structure Rnd (n₀ n₁ : Nat) (bo : Option Nat) (W W' : World) : Prop where
  os : W'.os = W.os
  tape : W'.tape = W.tape
  output : W'.output = W.output
  size : W.heap.size ≤ W'.heap.size
  same : ∀ k o, (k < n₀ ∨ n₁ ≤ k ∧ (o.isCells = false ∨ ¬ rowOf bo W k)) → W.heap[k]? = some o → W'.heap[k]? = some o
  row : ∀ k, rowOf bo W' k → rowOf bo W k ∨ W.heap.size ≤ k

theorem Rnd.keep {n₀ n₁ : Nat} {bo : Option Nat} {W W' : World} (h : Rnd n₀ n₁ bo W W') : Keep n₀ n₁ bo W W' :=
  ⟨h.os, h.tape, h.output, h.size, fun k o hk hW _ => h.same k o (hk.imp id fun x => ⟨x.1, .inr x.2⟩) hW, h.row⟩

theorem Rnd.from {n₀ n₁ : Nat} {bo : Option Nat} {W W' : World} (h : Rnd n₀ n₁ bo W W') {B : Nat} (hB : n₁ ≤ B) : KeepsFrom B W W' :=
  ⟨h.size, fun k o hk hW ho => h.same k o (.inr ⟨by omega, .inl ho⟩) hW⟩

theorem Rnd.below {n₀ n₁ : Nat} {bo : Option Nat} {w W W' : World} (h : Rnd n₀ n₁ bo W W') (hb : Below n₀ w W) (hn : n₀ ≤ w.heap.size) : Below n₀ w W' :=
  hb.trans ⟨h.os, h.tape, h.output, h.size, fun k hk => by
    have hlt : k < W.heap.size := Nat.lt_of_lt_of_le (Nat.lt_of_lt_of_le hk hn) hb.size
    rw [h.same k _ (.inl hk) (Array.getElem?_eq_getElem hlt), Array.getElem?_eq_getElem hlt]⟩

theorem Rnd.refl (n₀ n₁ : Nat) (bo : Option Nat) (W : World) : Rnd n₀ n₁ bo W W := ⟨rfl, rfl, rfl, Nat.le_refl _, fun _ _ _ h => h, fun _ h => .inl h⟩

theorem Rnd.trans {n₀ n₁ : Nat} {bo : Option Nat} {A B C : World} (h : Rnd n₀ n₁ bo A B) (k : Rnd n₀ n₁ bo B C) : Rnd n₀ n₁ bo A C :=
  ⟨k.os.trans h.os, k.tape.trans h.tape, k.output.trans h.output, Nat.le_trans h.size k.size,
    fun j o hj hA => k.same j o (hj.imp id fun ⟨h1, h2⟩ => ⟨h1, h2.imp id fun h2 hr => (h.row j hr).elim h2 fun hs => by have := lt_of_heap hA; omega⟩) (h.same j o hj hA),
    fun j hj => (k.row j hj).elim (h.row j) fun hs => .inr (Nat.le_trans h.size hs)⟩

theorem rowOf_of_block {bo : Option Nat} {W W' : World} (h : ∀ b, bo = some b → W'.heap[b]? = W.heap[b]?) {k : Nat} (hr : rowOf bo W' k) : rowOf bo W k := by
  obtain ⟨b, o, s, n, c, hb, hc⟩ := hr
  exact ⟨b, o, s, n, c, hb, (World.cell?_of_block (w := W) (a := ⟨b, 0, none⟩) (h b hb)).symm.trans hc⟩

/-- A callee that turns nothing that was there. -/
theorem Rnd.of_below {n₀ n₁ : Nat} {bo : Option Nat} {W W' : World} (h : Below W.heap.size W W') (hbo : ∀ b, bo = some b → b < W.heap.size) : Rnd n₀ n₁ bo W W' :=
  ⟨h.os, h.tape, h.output, h.size, fun k _ _ hW => (h.block k (lt_of_heap hW)).trans hW, fun _ hk => .inl (rowOf_of_block (fun b hb => h.block b (hbo b hb)) hk)⟩

theorem Rnd.alloc {n₀ n₁ : Nat} {bo : Option Nat} {W : World} (o : Obj) (hbo : ∀ b, bo = some b → b < W.heap.size) : Rnd n₀ n₁ bo W (W.alloc o) :=
  Rnd.of_below (below_alloc1 o) hbo

theorem Rnd.drewN {n₀ n₁ : Nat} {bo : Option Nat} (W : World) (n : Nat) : Rnd n₀ n₁ bo W (W.drewN n) :=
  ⟨rfl, rfl, rfl, Nat.le_refl _, fun _ _ _ h => h, fun _ hk => .inl hk⟩

/-- One block of the caller's own is turned; the box bo is not. -/
theorem Rnd.turn {n₀ n₁ : Nat} {bo : Option Nat} {W W' : World} {j : Nat} (hg : W.grownBy W' (some j)) (h0 : n₀ ≤ j) (h1 : j < n₁) (hbo : ∀ b, bo = some b → b < W.heap.size ∧ b ≠ j) : Rnd n₀ n₁ bo W W' :=
  ⟨hg.os, hg.tape, hg.output, hg.size, fun k _ hk hW => (hg.block k (lt_of_heap hW) (fun e => by cases e; rcases hk with hk | hk <;> omega)).trans hW,
    fun _ hk => .inl (rowOf_of_block (fun b hb => hg.block b (hbo b hb).1 (fun e => (hbo b hb).2 (by cases e; rfl))) hk)⟩

/-- A new block that is written before the round ends. -/
theorem Rnd.turnNew {n₀ n₁ : Nat} {bo : Option Nat} {W W' W'' : World} {j : Nat} (h : Rnd n₀ n₁ bo W W') (hg : W'.grownBy W'' (some j)) (h0 : W.heap.size ≤ j) (hbo : ∀ b, bo = some b → b < W.heap.size) : Rnd n₀ n₁ bo W W'' :=
  ⟨hg.os.trans h.os, hg.tape.trans h.tape, hg.output.trans h.output, Nat.le_trans h.size hg.size,
    fun k o hk hW => (hg.block k (Nat.lt_of_lt_of_le (lt_of_heap hW) h.size) (fun e => by cases e; have := lt_of_heap hW; omega)).trans (h.same k o hk hW),
    fun k hk => h.row k (rowOf_of_block (fun b hb => hg.block b (Nat.lt_of_lt_of_le (hbo b hb) h.size) (fun e => by cases e; have := hbo _ hb; omega)) hk)⟩

/-- 'out = append(out, ..)': out lies in the box B. -/
theorem Rnd.append {n₀ n₁ B : Nat} {W w1 : World} {t e : TypeId} {size : Nat} {v v' : Value} {k m : Nat} {xs ys : List Value} {tmp : Obj}
    (hv : Boxed W B t v) (hte : t ≠ e) (h0 : n₀ ≤ B) (h1 : B < n₁) (hrow : W.ownsRow n₀ e size v k xs) (hown' : w1.ownsRow n₀ e size v' m ys) (hgrow : (W.alloc tmp).grownBy w1 v.ownBlock)
    (hloc : v'.ownBlock = v.ownBlock ∨ v'.ownBlock = some (W.alloc tmp).heap.size) :
    Rnd n₀ n₁ (some B) W (w1.setCell ⟨B, 0, none⟩ v') ∧ Boxed w1 B t v ∧ Boxed (w1.setCell ⟨B, 0, none⟩ v') B t v' ∧ (w1.setCell ⟨B, 0, none⟩ v').ownsRow n₀ e size v' m ys ∧
    ∀ k o, k ≠ B → v.ownBlock ≠ some k → W.heap[k]? = some o → (w1.setCell ⟨B, 0, none⟩ v').heap[k]? = some o := by
  have hv1 : Boxed w1 B t v := (hv.alloc tmp).kept hgrow (hv.not_row hte hrow)
  refine ⟨⟨hgrow.os, hgrow.tape, hgrow.output, by have := hgrow.size; simp [World.setCell] at this ⊢; omega, fun j o hj hW => ?_, fun j hj => ?_⟩, hv1, hv1.set v', hown'.kept (grownBy_setCell' w1 B v') (.inr (hv1.not_row hte hown').symm), fun j o hjB hjv hW => ?_⟩
  · have hjB : j ≠ B := by rcases hj with hj | hj <;> omega
    rw [Below.heap_setCell _ _ _ j hjB, hgrow.block j (by have := lt_of_heap hW; simp; omega) ?_, Below.heap_alloc _ _ _ (lt_of_heap hW)]
    · exact hW
    · intro ej
      rcases hrow.2 with ⟨rfl, _⟩ | ⟨g, cap, cur, rfl, hb, hg, _⟩
      · simp [Value.ownBlock] at ej
      · obtain rfl : g = j := by simpa [Value.ownBlock] using ej.symm
        rcases hj with hj | ⟨_, hj | hj⟩
        · omega
        · rw [hg] at hW; cases hW; cases hj
        · exact hj ⟨B, _, _, _, _, rfl, hv.cell⟩
  · obtain ⟨b, o, s, n, c, hb, hc⟩ := hj
    cases hb
    rw [(hv1.set v').cell] at hc
    cases hc
    rcases hloc with hl | hl
    · left
      rcases hrow.2 with ⟨rfl, _⟩ | ⟨g, cap, cur, rfl, _, _, _⟩
      · simp [Value.ownBlock] at hl
      · simp [Value.ownBlock] at hl
        subst hl
        exact ⟨B, _, _, _, _, rfl, hv.cell⟩
    · right
      simp [Value.ownBlock] at hl
      omega
  · rw [Below.heap_setCell _ _ _ j hjB, hgrow.block j (by have := lt_of_heap hW; simp; omega) (fun e => hjv e.symm), Below.heap_alloc _ _ _ (lt_of_heap hW)]
    exact hW

theorem ownsRow_slice {W : World} {base : Nat} {e : TypeId} {size n : Nat} {v : Value} {xs : List Value} (h : W.ownsRow base e size v n xs) : ∃ a c, v = .slice a n c := by
  rcases h.2 with ⟨rfl, rfl⟩ | ⟨g, cap, _, rfl, _⟩
  · exact ⟨none, 0, rfl⟩
  · exact ⟨_, cap, rfl⟩

theorem Keep.cell {n₀ n₁ : Nat} {bo : Option Nat} {W W' : World} (h : Keep n₀ n₁ bo W W') {a : Addr} {v : Value} (hk : a.block < n₀ ∨ n₁ ≤ a.block ∧ ¬ rowOf bo W a.block) (hc : W.cell? a = some v) : W'.cell? a = some v := by
  have hc' := hc
  unfold World.cell? at hc'
  cases ho : W.heap[a.block]? with
  | none => rw [ho] at hc'; cases hc'
  | some o =>
    have hd : isData o := by rw [ho] at hc'; cases o <;> first | exact .inl rfl | cases hc'
    exact (World.cell?_of_block ((h.same _ _ hk ho hd).trans ho.symm)).trans hc

theorem RowsAt.keep {α : Type} {enc : α → List Value} {k n₀ n₁ : Nat} {bo : Option Nat} {W W' : World} {b off : Nat} {l : List α} (h : RowsAt enc k W b off l) (hk : Keep n₀ n₁ bo W W') (hb : b < n₀) : RowsAt enc k W' b off l :=
  fun i x hx j c hc => hk.cell (a := ⟨b, off + i * k + j, none⟩) (.inl hb) (h i x hx j c hc)

theorem from_turn {B : Nat} {W W' : World} {j : Nat} (hg : W.grownBy W' (some j)) (hj : j < B ∨ ∃ c t f, W.heap[j]? = some (.cells c t f)) : KeepsFrom B W W' :=
  ⟨hg.size, fun k o hB hW ho => (hg.block k (lt_of_heap hW) (fun e => by
    cases e
    rcases hj with hj | ⟨c, t, f, hj⟩
    · omega
    · rw [hj] at hW; cases hW; cases ho)).trans hW⟩

theorem from_below {B : Nat} {W W' : World} (h : Below W.heap.size W W') : KeepsFrom B W W' :=
  ⟨h.size, fun k _ _ hW _ => (h.block k (lt_of_heap hW)).trans hW⟩

/-- The iterator g, with what it has captured, hands out ys. -/
def SeqC {β : Type} (n : Nat) (g : Nat) (lb : Array Value) (encs : β → Array Value) (Kp : World → World → Prop) (ys : List β) (w : World) : Prop :=
  SeqStopsK Fence.wide n Try.prog g lb (fun x : { b // b ∈ ys } => encs x.1) Kp (fun xs => xs.map (·.1) = ys) (fun pre => pre.map (·.1) <+: ys) ys.length w

/-- J abides a new block. -/
theorem abides_alloc {β : Type} {B : Nat} {J : β → World → Prop} (h : AbidesFrom B J) {s : β} {W : World} (o : Obj) (hs : J s W) : J s (W.alloc o) :=
  h s W _ none hs (World.grownBy_alloc W o none) (fun _ e => by cases e)

theorem abides_drewN {β : Type} {B : Nat} {J : β → World → Prop} (h : AbidesFrom B J) {s : β} {W : World} (n : Nat) (hs : J s W) : J s (W.drewN n) :=
  h s W _ none hs ⟨rfl, rfl, rfl, Nat.le_refl _, fun _ _ _ => rfl⟩ (fun _ e => by cases e)

end Go.Proofs.Ytgdmgeihgkbjaaa
