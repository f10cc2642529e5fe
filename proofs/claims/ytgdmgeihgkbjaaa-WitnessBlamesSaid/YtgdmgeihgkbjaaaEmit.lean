/- What stands in the loops of 'reads': the caller's invariant, the holds, what lies as it lay, the box of a name. -/
import Derived.Test.YtgdmgeihgkbjaaaHold
import Derived.Deep.WholeRow
namespace Go.Proofs.Ytgdmgeihgkbjaaa
open Go.RowKit Go.Shelf

/-- A row that bo holds lies in the heap. -/
def RowIn (bo : Option Nat) (A : World) : Prop := ∀ k, rowOf bo A k → k < A.heap.size
/-- What an iterator asks of a round that may hand a box on. -/
def KeepR (n₀ n₁ : Nat) (bo : Option Nat) (A B : World) : Prop := Keep n₀ n₁ bo A B ∧ (RowIn bo A → RowIn bo B)

/-- What does not change over the loops. -/
structure EmC (n₀ n₁ : Nat) (bo : Option Nat) (lo : Nat) (w2 : World) (I : Nat → Nat → World → Prop) : Prop where
  it : ∀ b k A A', I b k A → OwnTurn lo b A A' → I b k A'
  nn : n₁ ≤ w2.heap.size
  lo : lo ≤ w2.heap.size
  bo : ∀ b, bo = some b → b < w2.heap.size

structure EmI (n₀ n₁ : Nat) (bo : Option Nat) (w2 : World) (I : Nat → Nat → World → Prop) (h : List Sn) (k : Nat) (A : World) : Prop where
  inv : I (w2.heap.size + 1) k A
  hold : A.heap[w2.heap.size]? = some (.cells (hdArr h) 124 (0, 0))
  len : h.length = 32
  dk : DK n₀ n₁ w2 A
  rows : ∀ j, j < w2.heap.size + 1 → rowOf bo A j → n₀ ≤ j ∧ j < n₁
  size : w2.heap.size + 1 ≤ A.heap.size
  rin : RowIn bo A

section
variable {n₀ n₁ lo k : Nat} {bo : Option Nat} {w2 A A' : World} {I : Nat → Nat → World → Prop} {h : List Sn}

theorem EmI.alloc (e : EmI n₀ n₁ bo w2 I h k A) (c : EmC n₀ n₁ bo lo w2 I) (o : Obj) : EmI n₀ n₁ bo w2 I h k (A.alloc o) := by
  have hs := e.size
  have hro : ∀ j, rowOf bo (A.alloc o) j → rowOf bo A j := fun j hr => rowOf_of_block (fun b hb => Below.heap_alloc A o b (by have := c.bo b hb; omega)) hr
  refine ⟨c.it _ _ _ _ e.inv ⟨none, World.grownBy_alloc A o none, fun r hr => by cases hr⟩, (Below.heap_alloc A o _ (lt_of_heap e.hold)).trans e.hold, e.len, e.dk.trans (dk_alloc A o), fun j hj hr => e.rows j hj (hro j hr), by simp; omega, fun j hr => by have := e.rin j (hro j hr); simp; omega⟩

theorem EmI.drew (e : EmI n₀ n₁ bo w2 I h k A) (c : EmC n₀ n₁ bo lo w2 I) (m : Nat) : EmI n₀ n₁ bo w2 I h k (A.drewN m) := by
  refine ⟨c.it _ _ _ _ e.inv ⟨none, ?_, fun r hr => by cases hr⟩, e.hold, e.len, e.dk, fun j hj hr => e.rows j hj hr, e.size, e.rin⟩
  exact ⟨rfl, rfl, rfl, Nat.le_refl _, fun _ _ _ => rfl⟩

theorem EmI.set (e : EmI n₀ n₁ bo w2 I h k A) (c : EmC n₀ n₁ bo lo w2 I) {i : Nat} {x : Sn} (hg : A.grownBy A' (some w2.heap.size)) (hh : A'.heap[w2.heap.size]? = some (.cells (hdArr (h.set i x)) 124 (0, 0))) : EmI n₀ n₁ bo w2 I (h.set i x) k A' := by
  have hs := e.size
  have hz := hg.size
  have hro : ∀ j, rowOf bo A' j → rowOf bo A j := fun j hr => rowOf_of_block (fun b hb => hg.block b (by have := c.bo b hb; omega) (fun e2 => by have := c.bo b hb; cases e2; omega)) hr
  refine ⟨c.it _ _ _ _ e.inv ⟨_, hg, fun r hr => by cases hr; exact ⟨c.lo, by omega⟩⟩, hh, by simp [e.len], e.dk.grown hg (fun r hr => by cases hr; exact Nat.le_refl _), fun j hj hr => e.rows j hj (hro j hr), by omega, fun j hr => by have := e.rin j (hro j hr); omega⟩

theorem EmI.yield (e : EmI n₀ n₁ bo w2 I h k A) (c : EmC n₀ n₁ bo lo w2 I) (hi : I (w2.heap.size + 1) (k + 1) A') (hkr : KeepR n₀ n₁ bo A A') : EmI n₀ n₁ bo w2 I h (k + 1) A' := by
  have hs := e.size
  have hk := hkr.1
  have hz := hk.size
  have hnn := c.nn
  refine ⟨hi, hk.same _ _ (.inr ⟨hnn, fun hr => ?_⟩) e.hold (.inl rfl), e.len, e.dk.keep (b := w2.heap.size + 1) hk (by omega) e.rows, fun j hj hr => ?_, by omega, hkr.2 e.rin⟩
  · have := (e.rows _ (by omega) hr).2
    omega
  · rcases hk.row j hr with h1 | h1
    · exact e.rows j hj h1
    · omega
end

/-- A box behind n₁ that is no row of the caller's. -/
structure FarBox (n₁ : Nat) (bo : Option Nat) (B : Nat) (o : Obj) (A : World) : Prop where
  far : n₁ ≤ B
  row : ¬ rowOf bo A B
  box : A.heap[B]? = some o

section
variable {n₀ n₁ B : Nat} {bo : Option Nat} {A A' : World} {o : Obj}
theorem FarBox.new (hn : n₁ ≤ A.heap.size) (hbo : ∀ b, bo = some b → b < A.heap.size) (hr : ¬ rowOf bo A A.heap.size) (o : Obj) : FarBox n₁ bo A.heap.size o (A.alloc o) :=
  ⟨hn, fun h => hr (rowOf_of_block (fun b hb => Below.heap_alloc A o b (hbo b hb)) h), heap_alloc_new A o⟩
theorem FarBox.grown (f : FarBox n₁ bo B o A) {row : Option Nat} (hg : A.grownBy A' row) (hbo : ∀ b, bo = some b → b < A.heap.size ∧ some b ≠ row) (hB : some B ≠ row) : FarBox n₁ bo B o A' :=
  ⟨f.far, fun h => f.row (rowOf_of_block (fun b hb => hg.block b (hbo b hb).1 (hbo b hb).2) h), (hg.block B (lt_of_heap f.box) hB).trans f.box⟩
theorem FarBox.alloc (f : FarBox n₁ bo B o A) (hbo : ∀ b, bo = some b → b < A.heap.size) (o' : Obj) : FarBox n₁ bo B o (A.alloc o') :=
  f.grown (World.grownBy_alloc A o' none) (fun b hb => ⟨hbo b hb, by simp⟩) (by simp)
theorem FarBox.drew (f : FarBox n₁ bo B o A) (m : Nat) : FarBox n₁ bo B o (A.drewN m) := ⟨f.far, f.row, f.box⟩
theorem FarBox.yield (f : FarBox n₁ bo B o A) (ho : isData o) (hk : Keep n₀ n₁ bo A A') : FarBox n₁ bo B o A' :=
  ⟨f.far, fun h => (hk.row B h).elim f.row (fun h1 => by have := lt_of_heap f.box; omega), hk.same _ _ (.inr ⟨f.far, f.row⟩) f.box ho⟩
end

theorem DK.cell {n₀ n₁ : Nat} {A B : World} (h : DK n₀ n₁ A B) {ad : Addr} {v : Value} (hk : ad.block < n₀ ∨ n₁ ≤ ad.block) (hc : A.cell? ad = some v) : B.cell? ad = some v := by
  have hc' := hc
  unfold World.cell? at hc'
  cases ho : A.heap[ad.block]? with
  | none => rw [ho] at hc'; cases hc'
  | some o =>
    have hd : isData o := by rw [ho] at hc'; cases o <;> first | exact .inl rfl | cases hc'
    exact (World.cell?_of_block ((h _ _ hk hd ho).trans ho.symm)).trans hc

/-- The row of a name's places. -/
theorem GroupI.rows {base Ms : Nat} {W : World} {m : List (Nm × Value)} {p : List Sn} (h : GroupI base W Ms m p) (n : Nm) : ∃ ga gc, (look m n).getD slNil = .slice ga (idxN n p 0).length gc ∧
    ∀ (j i : Nat), (idxN n p 0)[j]? = some i → ∃ g, ga = some ⟨g, 0, none⟩ ∧ base ≤ g ∧ W.cell? ⟨g, j, none⟩ = some (.int .i64 (i : Int)) := by
  have ho := h.old n
  obtain ⟨_, hr⟩ := ho
  rcases hr with ⟨e1, e2⟩ | ⟨g, cap, cur, e1, e2, e3, e4, e5, e6, e7⟩
  · refine ⟨none, 0, by rw [e1, e2], fun j i hj => ?_⟩
    rw [List.length_eq_zero_iff.1 e2] at hj
    simp at hj
  · refine ⟨_, cap, e1, fun j i hj => ⟨g, rfl, e2, ?_⟩⟩
    have hlt := (List.getElem?_eq_some_iff.1 hj).1
    rw [cell_of_row W g j cur 3 (0, 0) e3]
    have h7 := congrArg (fun l => l[j]?) e7
    simp only [List.getElem?_take, List.getElem?_map, hj, Option.map_some] at h7
    rw [if_pos (by omega)] at h7
    simpa [natV] using h7

/-- What a fault's making reads. -/
def EmF (w2 A : World) (kn Bx i : Nat) (nm : Nm) (x y : Sn) : Prop := A.cell? ⟨kn, 0, none⟩ = some (.int .i64 nm.s) ∧ A.cell? ⟨kn, 1, none⟩ = some (.int .i64 nm.i) ∧ A.cell? ⟨kn, 2, none⟩ = some (.int .i64 nm.t) ∧ A.cell? ⟨Bx, 4, none⟩ = some (.int .i64 x.b) ∧ A.cell? ⟨Bx, 5, none⟩ = some (.int .u8 x.v.a) ∧ A.cell? ⟨Bx, 6, none⟩ = some (.int .u8 x.v.b) ∧ A.cell? ⟨Bx, 7, none⟩ = some (.int .u8 x.v.c) ∧ A.cell? ⟨Bx, 8, none⟩ = some (.int .u8 x.v.d) ∧ A.cell? ⟨Bx, 9, none⟩ = some (.int .u8 x.v.e) ∧ A.cell? ⟨Bx, 10, none⟩ = some (.int .u8 x.v.f) ∧ A.cell? ⟨Bx, 11, none⟩ = some (.int .u8 x.v.g) ∧ A.cell? ⟨Bx, 12, none⟩ = some (.int .u8 x.v.h) ∧ A.cell? ⟨w2.heap.size, i * 14 + 5, none⟩ = some (.int .u8 y.v.a) ∧ A.cell? ⟨w2.heap.size, i * 14 + 6, none⟩ = some (.int .u8 y.v.b) ∧ A.cell? ⟨w2.heap.size, i * 14 + 7, none⟩ = some (.int .u8 y.v.c) ∧ A.cell? ⟨w2.heap.size, i * 14 + 8, none⟩ = some (.int .u8 y.v.d) ∧ A.cell? ⟨w2.heap.size, i * 14 + 9, none⟩ = some (.int .u8 y.v.e) ∧ A.cell? ⟨w2.heap.size, i * 14 + 10, none⟩ = some (.int .u8 y.v.f) ∧ A.cell? ⟨w2.heap.size, i * 14 + 11, none⟩ = some (.int .u8 y.v.g) ∧ A.cell? ⟨w2.heap.size, i * 14 + 12, none⟩ = some (.int .u8 y.v.h) ∧ A.cell? ⟨w2.heap.size, i * 14 + 1, none⟩ = some (.int .i64 y.n.s) ∧ A.cell? ⟨w2.heap.size, i * 14 + 2, none⟩ = some (.int .i64 y.n.i) ∧ A.cell? ⟨w2.heap.size, i * 14 + 3, none⟩ = some (.int .i64 y.n.t)

theorem emit_facts {n₀ n₁ k kn Bx i : Nat} {bo : Option Nat} {w2 A : World} {I : Nat → Nat → World → Prop} {h : List Sn} {nm : Nm} {x y : Sn} (e : EmI n₀ n₁ bo w2 I h k A)
    (f : FarBox n₁ bo kn (.cells #[.int .i64 nm.s, .int .i64 nm.i, .int .i64 nm.t] 34) A) (hx : A.heap[Bx]? = some (.cells (snArr x) 36 (0, 0))) (hy : h[i]? = some y) :
    EmF w2 A kn Bx i nm x y := by
  refine ⟨?_, ?_, ?_, ?_, ?_, ?_, ?_, ?_, ?_, ?_, ?_, ?_, ?_, ?_, ?_, ?_, ?_, ?_, ?_, ?_, ?_, ?_, ?_⟩
  · rw [cell_of_row A _ _ _ 34 (0, 0) f.box]; rfl
  · rw [cell_of_row A _ _ _ 34 (0, 0) f.box]; rfl
  · rw [cell_of_row A _ _ _ 34 (0, 0) f.box]; rfl
  · rw [cell_of_row A _ _ _ 36 (0, 0) hx]; rfl
  · rw [cell_of_row A _ _ _ 36 (0, 0) hx]; rfl
  · rw [cell_of_row A _ _ _ 36 (0, 0) hx]; rfl
  · rw [cell_of_row A _ _ _ 36 (0, 0) hx]; rfl
  · rw [cell_of_row A _ _ _ 36 (0, 0) hx]; rfl
  · rw [cell_of_row A _ _ _ 36 (0, 0) hx]; rfl
  · rw [cell_of_row A _ _ _ 36 (0, 0) hx]; rfl
  · rw [cell_of_row A _ _ _ 36 (0, 0) hx]; rfl
  · rw [cell_of_row A _ _ _ 36 (0, 0) hx]; rfl
  · exact hd_cell e.hold hy 5 _ rfl
  · exact hd_cell e.hold hy 6 _ rfl
  · exact hd_cell e.hold hy 7 _ rfl
  · exact hd_cell e.hold hy 8 _ rfl
  · exact hd_cell e.hold hy 9 _ rfl
  · exact hd_cell e.hold hy 10 _ rfl
  · exact hd_cell e.hold hy 11 _ rfl
  · exact hd_cell e.hold hy 12 _ rfl
  · exact hd_cell e.hold hy 1 _ rfl
  · exact hd_cell e.hold hy 2 _ rfl
  · exact hd_cell e.hold hy 3 _ rfl

theorem info59 : (Try.prog.info? 59).map (·.size) = some 28 := by kernel_rfl
def ftz : Ft := ⟨0, nz, 0, z0, z0, nz, nz, 0⟩
theorem ftArr_one (f : Ft) : (ftArr f).all (·.oneCell') = true := by kernel_rfl

theorem st_ft (w0 : World) (f : Ft) : (storeVar 59 ⟨w0.heap.size, 0, none⟩ (.agg (ftArr f))).run Try.prog (w0.alloc (.cells (ftArr ftz) 59)) = .ok () (w0.alloc (.cells (ftArr f) 59)) := by
  have h := run_storeVar_row (P := Try.prog) (w0.alloc (.cells (ftArr ftz) 59)) w0.heap.size 59 59 (ftArr ftz) (ftArr f) (heap_alloc_new w0 _) info59 rfl (ftArr_one f)
  rwa [World.setRow_alloc_new] at h

theorem ld_ft {w : World} {B : Nat} {f : Ft} {t : TypeId} {fr : Nat × Nat} (hB : w.heap[B]? = some (.cells (ftArr f) t fr)) : (loadVar 59 ⟨B, 0, none⟩).run Try.prog w = .ok (.agg (ftArr f)) w :=
  run_loadVar_row w B t 59 (ftArr f) fr _ hB Try.underlying59 rfl info59

/-- A fault's kind laid down. -/
theorem st_kind (w0 : World) (i : Int) (n : Nm) (b : Int) (u v : V8) (m r : Nm) (k0 k : Int) : (storeVar 32 ⟨w0.heap.size, 27, none⟩ (.int .i8 k)).run Try.prog (w0.alloc (.cells (ftArr ⟨i, n, b, u, v, m, r, k0⟩) 59)) = .ok () (w0.alloc (.cells (ftArr ⟨i, n, b, u, v, m, r, k⟩) 59)) := by
  have h := run_storeCells_row (P := Try.prog) (w0.alloc (.cells (ftArr ⟨i, n, b, u, v, m, r, k0⟩) 59)) w0.heap.size 27 (ftArr ⟨i, n, b, u, v, m, r, k0⟩).toList 59 [.int .i8 k] (by simpa using heap_alloc_new w0 (.cells (ftArr ⟨i, n, b, u, v, m, r, k0⟩) 59)) (by simp [ftArr]) (by intro c hc; simp at hc; subst hc; rfl)
  rw [World.setRow_alloc_new] at h
  have hs : ((Value.int .i8 k).cells.size ≠ 1) = False := by simp [Value.cells]
  simp only [storeVar, Sem.run_bind, Try.sizeOf32, Result.andThen_ok, hs, if_false]
  exact h

theorem lookup_was {W : World} {Mo : Nat} {om : List (Int × Nm)} (hm : MapIs intV nmV W Mo om) {i : Int} {n : Nm} (h : look om i = some n) :
    (Instr.lookup 122 (.map (some Mo)) (.int .i64 i) false).run Try.prog W = .ok (.agg #[.int .i64 n.s, .int .i64 n.i, .int .i64 n.t]) W := by
  have h' := run_look (w := W) Try.underlying122 intKey zero34 hm i
  rw [h] at h'
  exact h'

/-- The world over a region that lays one block and fills it. -/
def RdT (w0 A1 A2 : World) (d1 d2 : Bool) (W : World) : Prop := (d1 = false → d2 = false → W = w0) ∧ (d1 = true → d2 = false → W = A1) ∧ (d2 = true → W = A2)
theorem RdT.start {w0 A1 A2 : World} : RdT w0 A1 A2 false false w0 := ⟨fun _ _ => rfl, (fun h => by cases h), (fun h => by cases h)⟩
theorem RdT.laid {w0 A1 A2 : World} : RdT w0 A1 A2 true false A1 := ⟨(fun h => by cases h), fun _ _ => rfl, (fun h => by cases h)⟩
theorem RdT.full {w0 A1 A2 : World} {d : Bool} : RdT w0 A1 A2 d true A2 := ⟨(fun _ h => by cases h), (fun _ h => by cases h), fun _ => rfl⟩

end Go.Proofs.Ytgdmgeihgkbjaaa
