/- What 'reads' writes of its own: the steps that the blocks hold. -/
import Derived.Test.YtgdmgeihgkbjaaaRangeX
namespace Go.Proofs.Ytgdmgeihgkbjaaa
open Go.RowKit Go.Shelf

def hdArr (h : List Sn) : Array Value := (h.flatMap Sn.cells).toArray
theorem zero124 : Try.zeroCells124 = hdArr h0 := by kernel_rfl
theorem Sn.cells_len (x : Sn) : x.cells.length = 14 := rfl

theorem hd_cell {w : World} {B i : Nat} {h : List Sn} {y : Sn} {t : TypeId} {fr : Nat × Nat} (hB : w.heap[B]? = some (.cells (hdArr h) t fr)) (hi : h[i]? = some y) (j : Nat) (c : Value) (hj : y.cells[j]? = some c) : w.cell? ⟨B, i * 14 + j, none⟩ = some c := by
  have hj8 : j < 14 := by
    have := (List.getElem?_eq_some_iff.1 hj).1
    simpa [Sn.cells_len] using this
  rw [cell_of_row w B _ _ t fr hB]
  simp only [hdArr, List.getElem?_toArray]
  rw [flat_get Sn.cells_len h i y hi j hj8]
  exact hj

theorem st_hd {w : World} {B i : Nat} {h : List Sn} (x : Sn) {t : TypeId} (hB : w.heap[B]? = some (.cells (hdArr h) t (0, 0))) (hi : i < h.length) :
    (storeVar 36 ⟨B, i * 14, none⟩ (.agg (snArr x))).run Try.prog w = .ok () (w.setRow B (hdArr (h.set i x))) := by
  have h' := run_storeCells_row (P := Try.prog) w B (i * 14) (h.flatMap Sn.cells) t x.cells hB (by rw [Sn.cells_len]; simp only [flat_length Sn.cells_len]; omega) x.cells_one
  rw [flat_set Sn.cells_len h i x hi] at h'
  have hs : ((Value.agg (snArr x)).cells.size ≠ 14) = False := by simp [snArr, Value.cells]
  simp only [storeVar, Sem.run_bind, Try.sizeOf36, Result.andThen_ok, hs, if_false]
  exact h'

theorem wpListIn_store_hd {F : Fence} {n : Nat} {ops : Array Oper} {rest : List Oper} {o : Oper} {a : Act} {w : World} {Q : Exit → Act → World → Prop} (hgd : o.guard = none) (x y : Operand) (ho : o.op = .store 36 x y)
    (B i : Nat) (hx : a.eval x = .pointer (some ⟨B, i * 14, none⟩)) (v : Sn) (hy : a.eval y = .agg (snArr v)) {s : List Sn} {t : TypeId} (hB : w.heap[B]? = some (.cells (hdArr s) t (0, 0))) (hi : i < s.length)
    (h : ∀ w', w.grownBy w' (some B) → w'.heap[B]? = some (.cells (hdArr (s.set i v)) t (0, 0)) → wpListIn F n Try.prog ops Q rest (a.put o.dst undef) w') : wpListIn F n Try.prog ops Q (o :: rest) a w :=
  wpListIn_store hgd 36 x y ho ⟨B, i * 14, none⟩ hx (.agg (snArr v)) hy (st_hd v hB hi) (h _ (grownBy_setRow _ _ _) (setRow_heap w B _ _ t _ hB))

/-- Cells and maps, all but those of the blocks from n₀ to n₁, lie as they lay. -/
def DK (n₀ n₁ : Nat) (W W' : World) : Prop := ∀ k o, (k < n₀ ∨ n₁ ≤ k) → isData o → W.heap[k]? = some o → W'.heap[k]? = some o

section
variable {n₀ n₁ : Nat} {A B C : World}
theorem DK.refl (n₀ n₁ : Nat) (W : World) : DK n₀ n₁ W W := fun _ _ _ _ h => h
theorem DK.trans (h : DK n₀ n₁ A B) (k : DK n₀ n₁ B C) : DK n₀ n₁ A C := fun j o hj ho hA => k j o hj ho (h j o hj ho hA)
theorem DK.ck (h : DK n₀ n₁ A B) : CK n₀ n₁ A B := fun k o hk ho hA => h k o hk (.inl ho) hA
theorem dk_alloc (W : World) (o : Obj) : DK n₀ n₁ W (W.alloc o) := fun k _ _ _ h => (Below.heap_alloc W o k (lt_of_heap h)).trans h
theorem DK.grown (h : DK n₀ n₁ A B) {row : Option Nat} (hg : B.grownBy C row) (hr : ∀ r, row = some r → A.heap.size ≤ r) : DK n₀ n₁ A C := fun k o hk ho hA => by
  have hB := h k o hk ho hA
  refine (hg.block k (lt_of_heap hB) (fun e => ?_)).trans hB
  have := hr k e.symm
  have := lt_of_heap hA
  omega
/-- Over a yield. -/
theorem DK.keep (h : DK n₀ n₁ A B) {bo : Option Nat} {b : Nat} (hk : Keep n₀ n₁ bo B C) (hA : A.heap.size ≤ b) (hr : ∀ k, k < b → rowOf bo B k → n₀ ≤ k ∧ k < n₁) : DK n₀ n₁ A C := fun k o hj ho hA' => by
  have := lt_of_heap hA'
  refine hk.same k o (hj.imp id fun h1 => ⟨h1, fun hr' => ?_⟩) (h k o hj ho hA') ho
  have := hr k (by omega) hr'
  omega
theorem DK.mapIs {κ β : Type} [DecidableEq κ] {kenc : κ → Value} {venc : β → Value} {M : Nat} {m : List (κ × β)} (h : DK n₀ n₁ A B) (hm : MapIs kenc venc A M m) (hM : M < n₀ ∨ n₁ ≤ M) : MapIs kenc venc B M m := by
  obtain ⟨es, clock, h1, h2⟩ := hm
  exact ⟨es, clock, h M _ hM (.inr rfl) h1, h2⟩
theorem DK.sns (h : DK n₀ n₁ A B) {v : Value} {l : List Sn} (hv : Sns n₀ A v l) : Sns n₀ B v l := by
  obtain ⟨a, cap, e, hn, hr⟩ := hv
  refine ⟨a, cap, e, hn, fun b off s ha hl => ?_⟩
  obtain ⟨h1, h2, h3⟩ := hr b off s ha hl
  exact ⟨h1, h2, h3.ck h.ck (.inl h2)⟩
theorem DK.group (h : DK n₀ n₁ A B) {base Ms : Nat} {m : List (Nm × Value)} {p : List Sn} (hg : GroupI base A Ms m p) (h1 : n₁ ≤ Ms) : GroupI base B Ms m p := by
  refine hg.kept ?_ (fun k c t f hk hc => h k _ (.inr (by have := hg.low; omega)) (.inl rfl) hc)
  obtain ⟨es, clock, hm, _⟩ := hg.map
  exact (h Ms _ (.inr h1) (.inr rfl) hm).trans hm.symm
end

/-- m[n] = append(m[n], i), all of it. -/
theorem GroupI.step {base Ms : Nat} {W W2 W3 W4 : World} {m : List (Nm × Value)} {p : List Sn} {x : Sn} (h : GroupI base W Ms m p) {v' : Value} (h2 : W.grownBy W2 (some Ms)) (s2 : W2.heap.size = W.heap.size)
    (hown : W3.ownsRow base 3 1 v' ((idxN x.n p 0).length + 1) ((idxN x.n p 0).map natV ++ [natV p.length])) (h3 : W2.grownBy W3 ((look m x.n).getD slNil).ownBlock) (hloc : v'.ownBlock = ((look m x.n).getD slNil).ownBlock ∨ v'.ownBlock = some W2.heap.size)
    (h4 : W3.grownBy W4 (some Ms)) (hm : MapIs nmV id W4 Ms (put (withKey m x.n slNil) x.n v')) : GroupI base W4 Ms (put (withKey m x.n slNil) x.n v') (p ++ [x]) := by
  have hlow := h.low
  have hblk : ∀ k c t f, base ≤ k → ((look m x.n).getD slNil).ownBlock ≠ some k → W.heap[k]? = some (.cells c t f) → W4.heap[k]? = some (.cells c t f) := by
    intro k c t f hk hne hW
    have a2 := cells_turn hW h2 (by omega)
    have a3 := (h3.block k (lt_of_heap a2) (fun e => hne e.symm)).trans a2
    exact cells_turn a3 h4 (by omega)
  refine h.snoc hm ?_ hblk ?_
  · obtain ⟨h1, hr⟩ := hown
    refine ⟨h1, ?_⟩
    rcases hr with hr | ⟨g, cap, cur, e1, e2, e3, e4⟩
    · exact .inl hr
    · exact .inr ⟨g, cap, cur, e1, e2, cells_turn e3 h4 (by omega), e4⟩
  · rcases hloc with e | e
    · exact .inl e
    · exact .inr ⟨_, e, by omega⟩

theorem news_far {W W' : World} {r g : Nat} {xs : List Value} (hg : W.grownBy W' (some r)) (h : ∀ j u, xs[j]? = some u → W.cell? ((⟨g, 0, none⟩ : Addr).add j) = some u) (hne : g ≠ r) :
    ∀ j u, xs[j]? = some u → W'.cell? ((⟨g, 0, none⟩ : Addr).add j) = some u := fun j u hu => hg.cell (h j u hu) (fun e => hne (by unfold Addr.add at e; split at e <;> simpa using e))

/-- The entry stands until it is stored. -/
theorem GroupI.entry {base Ms : Nat} {W W2 W3 : World} {m : List (Nm × Value)} {p : List Sn} {n : Nm} {st : Nat} (h : GroupI base W Ms m p) (he : EntryIs nmV id W2 Ms (withKey m n slNil) n st) (h3 : W2.grownBy W3 ((look m n).getD slNil).ownBlock) : EntryIs nmV id W3 Ms (withKey m n slNil) n st :=
  he.kept (h3.block Ms he.lt (fun e => by
    have := ((h.old n).lt Ms e.symm).1
    have := h.low
    omega))

/-- The old row lies as it lay behind the entry's making. -/
theorem GroupI.row2 {base Ms : Nat} {W W2 : World} {m : List (Nm × Value)} {p : List Sn} (n : Nm) (h : GroupI base W Ms m p) (h2 : W.grownBy W2 (some Ms)) : W2.ownsRow base 3 1 ((look m n).getD slNil) (idxN n p 0).length ((idxN n p 0).map natV) := by
  obtain ⟨h1, hr⟩ := h.old n
  refine ⟨h1, ?_⟩
  have := h.low
  rcases hr with hr | ⟨g, cap, cur, e1, e2, e3, e4⟩
  · exact .inl hr
  · exact .inr ⟨g, cap, cur, e1, e2, cells_turn e3 h2 (by omega), e4⟩

/-- What the loop over the names has yet to hand out. -/
def todo (l : List Sn) (ns : List Nm) (q j : Nat) : List (Nm × Nat) := match ns[q]? with | none => [] | some n => ((idxN n l 0).drop j).map (fun i => (n, i)) ++ pairsP l (ns.drop (q + 1))

theorem pairs_drop (l : List Sn) (ns : List Nm) (q : Nat) : pairsP l (ns.drop q) = todo l ns q 0 := by
  unfold todo
  cases h : ns[q]? with
  | none => rw [List.drop_eq_nil_of_le (by simpa using h)]; rfl
  | some n =>
    obtain ⟨hlt, rfl⟩ := List.getElem?_eq_some_iff.1 h
    simp only [pairsP, List.drop_zero]
    rw [List.drop_eq_getElem_cons hlt, List.flatMap_cons]

theorem todo_next {l : List Sn} {ns : List Nm} {q j i : Nat} {n : Nm} (hn : ns[q]? = some n) (hi : (idxN n l 0)[j]? = some i) : todo l ns q j = (n, i) :: todo l ns q (j + 1) := by
  unfold todo
  rw [hn]
  obtain ⟨hlt, rfl⟩ := List.getElem?_eq_some_iff.1 hi
  simp only
  rw [List.drop_eq_getElem_cons hlt]
  rfl

theorem todo_end {l : List Sn} {ns : List Nm} {q j : Nat} {n : Nm} (hn : ns[q]? = some n) (hj : (idxN n l 0).length ≤ j) : todo l ns q j = pairsP l (ns.drop (q + 1)) := by
  unfold todo
  rw [hn]
  simp only
  rw [List.drop_eq_nil_of_le hj]
  rfl

theorem emit_nil (l : List Sn) (ns : List Nm) (h : List Sn) : emit l ns [] h = [] := rfl
theorem emit_skip {l : List Sn} {ns : List Nm} {n : Nm} {i : Nat} {x : Sn} (hx : l[i]? = some x) (h2 : x.k ≠ 2) (h1 : x.k ≠ 1) (r : List (Nm × Nat)) (h : List Sn) : emit l ns ((n, i) :: r) h = emit l ns r h := by
  simp [emit, hx, h1, h2]
theorem emit_write {l : List Sn} {ns : List Nm} {n : Nm} {i : Nat} {x : Sn} (hx : l[i]? = some x) (h2 : x.k = 2) (r : List (Nm × Nat)) (h : List Sn) : emit l ns ((n, i) :: r) h = emit l ns r (h.set x.b.toNat x) := by
  simp [emit, hx, h2]
theorem emit_read {l : List Sn} {ns : List Nm} {n : Nm} {i : Nat} {x : Sn} (hx : l[i]? = some x) (h1 : x.k = 1) (r : List (Nm × Nat)) (h : List Sn) : emit l ns ((n, i) :: r) h = ftOf l ns h n i x :: emit l ns r h := by
  simp [emit, hx, h1]

/-- What is left is what it was, less the one handed out. -/
theorem drop_of_cons {α : Type} {ys r : List α} {k : Nat} {y : α} (h : ys.drop k = y :: r) : ys[k]? = some y ∧ ys.drop (k + 1) = r := by
  have h1 : ys[k]? = some y := by
    have := congrArg (fun l => l[0]?) h
    simpa [List.getElem?_drop] using this
  refine ⟨h1, ?_⟩
  have h2 := congrArg (List.drop 1) h
  rw [List.drop_drop] at h2
  simpa [Nat.add_comm] using h2

end Go.Proofs.Ytgdmgeihgkbjaaa
