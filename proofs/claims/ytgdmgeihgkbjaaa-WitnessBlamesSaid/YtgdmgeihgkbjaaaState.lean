/- The blocks' state, [32]Value: how it lies in memory; reading and writing one value. -/
import Derived.Test.YtgdmgeihgkbjaaaIter
namespace Go.Proofs.Ytgdmgeihgkbjaaa
open Go.RowKit

def v8Val (v : V8) : Value := .agg #[.int .u8 v.a, .int .u8 v.b, .int .u8 v.c, .int .u8 v.d, .int .u8 v.e, .int .u8 v.f, .int .u8 v.g, .int .u8 v.h]
def stCells (s : List V8) : List Value := s.flatMap V8.cells
def stArr (s : List V8) : Array Value := (stCells s).toArray

theorem V8.cells_length (v : V8) : v.cells.length = 8 := rfl

theorem flat_length {α : Type} {f : α → List Value} {k : Nat} (h : ∀ x, (f x).length = k) (s : List α) : (s.flatMap f).length = s.length * k := by
  induction s with
  | nil => simp
  | cons x s ih => simp [List.flatMap_cons, h x, ih, Nat.succ_mul, Nat.add_comm]

theorem flat_get {α : Type} {f : α → List Value} {k : Nat} (h : ∀ x, (f x).length = k) : ∀ (s : List α) (i : Nat) (x : α), s[i]? = some x → ∀ j, j < k → (s.flatMap f)[i * k + j]? = (f x)[j]? := by
  intro s
  induction s with
  | nil => intro i x hx; simp at hx
  | cons y s ih =>
    intro i x hx j hj
    cases i with
    | zero =>
      simp at hx
      subst hx
      rw [List.flatMap_cons, List.getElem?_append_left (by rw [h]; omega)]
      simp
    | succ i =>
      rw [List.flatMap_cons, List.getElem?_append_right (by rw [h, Nat.succ_mul]; omega), h]
      have : (i + 1) * k + j - k = i * k + j := by rw [Nat.succ_mul]; omega
      rw [this]
      exact ih i x (by simpa using hx) j hj

/-- A list with the values vs put in from place o on. -/
def splice (cs : List Value) (o : Nat) (vs : List Value) : List Value := cs.take o ++ vs ++ cs.drop (o + vs.length)

theorem flat_set {α : Type} {f : α → List Value} {k : Nat} (h : ∀ x, (f x).length = k) : ∀ (s : List α) (i : Nat) (x : α), i < s.length → splice (s.flatMap f) (i * k) (f x) = (s.set i x).flatMap f := by
  intro s
  induction s with
  | nil => intro i x hi; simp at hi
  | cons y s ih =>
    intro i x hi
    cases i with
    | zero =>
      have hy := h y
      simp [splice, List.flatMap_cons, h x, ← hy]
    | succ i =>
      have := ih i x (by simpa using hi)
      rw [List.set_cons_succ, List.flatMap_cons, List.flatMap_cons, ← this]
      have e1 : (i + 1) * k = (f y).length + i * k := by rw [h, Nat.succ_mul]; omega
      simp only [splice, e1, Nat.add_assoc, List.take_length_add_append, List.drop_length_add_append, List.append_assoc]

theorem stArr_size (s : List V8) : (stArr s).size = s.length * 8 := by
  simp [stArr, stCells, flat_length V8.cells_length]

section
variable {P : Program}

/-- A list of values put into a row of cells, one by one. -/
theorem run_storeCells_row (w : World) (g o : Nat) (cs : List Value) (t : TypeId) (vs : List Value) (hg : w.heap[g]? = some (.cells cs.toArray t (0, 0))) (hfit : o + vs.length ≤ cs.length) (h1 : ∀ v ∈ vs, v.oneCell' = true) :
    (storeCells ⟨g, o, none⟩ vs).run P w = .ok () (w.setRow g (splice cs o vs).toArray) := by
  have h := run_storeCells_at P g o t vs 0 cs.toArray w (by simpa using hg) (by simpa using hfit) h1
  have e : (Addr.add ⟨g, o, none⟩ 0) = ⟨g, o, none⟩ := by simp [Addr.add]
  simp only [Nat.add_zero] at h
  simpa [splice] using h

theorem wpList_load {ops : Array Oper} {rest : List Oper} {o : Oper} {a : Act} {w : World} {Q : Exit → Act → World → Prop} (hgd : o.guard = none) (ty : TypeId) (x : Operand) (ho : o.op = .load ty x)
    (ad : Addr) (hx : a.eval x = .pointer (some ad)) (v : Value) (hl : (loadVar ty ad).run P w = .ok v w) (h : wpList P ops Q rest (a.put o.dst v) w) : wpList P ops Q (o :: rest) a w :=
  wpList_plain hgd fun K hK => by
    unfold Oper.wp execOp
    simp only [ho, hx, Instr.loadAt, Instr.sureAddr, Sem.run_bind, Sem.run_pure, Result.andThen_ok, hl]
    exact hK _ _ h

theorem wpListIn_load {F : Fence} {n : Nat} {ops : Array Oper} {rest : List Oper} {o : Oper} {a : Act} {w : World} {Q : Exit → Act → World → Prop} (hgd : o.guard = none) (ty : TypeId) (x : Operand) (ho : o.op = .load ty x)
    (ad : Addr) (hx : a.eval x = .pointer (some ad)) (v : Value) (hl : (loadVar ty ad).run P w = .ok v w) (h : wpListIn F n P ops Q rest (a.put o.dst v) w) : wpListIn F n P ops Q (o :: rest) a w :=
  wpListIn_plain hgd fun K hK => by
    unfold Oper.wpIn
    refine ⟨by simp [Oper.about, ho], ?_⟩
    rw [Oper.semAt_plain F _ _ (by rw [ho]; intro c hc'; cases hc')]
    simp only [execOp, ho, hx, Instr.loadAt, Instr.sureAddr, Sem.run_bind, Sem.run_pure, Result.andThen_ok, hl]
    exact hK _ _ h

theorem wpList_store {ops : Array Oper} {rest : List Oper} {o : Oper} {a : Act} {w w' : World} {Q : Exit → Act → World → Prop} (hgd : o.guard = none) (ty : TypeId) (x y : Operand) (ho : o.op = .store ty x y)
    (ad : Addr) (hx : a.eval x = .pointer (some ad)) (v : Value) (hy : a.eval y = v) (hl : (storeVar ty ad v).run P w = .ok () w') (h : wpList P ops Q rest (a.put o.dst undef) w') : wpList P ops Q (o :: rest) a w :=
  wpList_plain hgd fun K hK => by
    unfold Oper.wp execOp
    simp only [ho, hx, hy, Instr.storeAt, Instr.sureAddr, Sem.run_bind, Sem.run_pure, Result.andThen_ok, hl]
    exact hK _ _ h

theorem wpListIn_store {F : Fence} {n : Nat} {ops : Array Oper} {rest : List Oper} {o : Oper} {a : Act} {w w' : World} {Q : Exit → Act → World → Prop} (hgd : o.guard = none) (ty : TypeId) (x y : Operand) (ho : o.op = .store ty x y)
    (ad : Addr) (hx : a.eval x = .pointer (some ad)) (v : Value) (hy : a.eval y = v) (hl : (storeVar ty ad v).run P w = .ok () w') (h : wpListIn F n P ops Q rest (a.put o.dst undef) w') : wpListIn F n P ops Q (o :: rest) a w :=
  wpListIn_plain hgd fun K hK => by
    unfold Oper.wpIn
    refine ⟨by simp [Oper.about, ho], ?_⟩
    rw [Oper.semAt_plain F _ _ (by rw [ho]; intro c hc'; cases hc')]
    simp only [execOp, ho, hx, hy, Instr.storeAt, Instr.sureAddr, Sem.run_bind, Sem.run_pure, Result.andThen_ok, hl]
    exact hK _ _ h

end

theorem results_cct {P : Program} {fn : Func} {p q t : Tmp} {ty uy : TypeId} (h : fn.results = #[.cell p ty, .cell q uy, .tmp t]) {tmps : Array Value} {w : World} {a b : Addr} {u v x : Value} (hp : tmps.getD p undef = .pointer (some a)) (ha : (loadVar ty a).run P w = .ok u w)
    (hq : tmps.getD q undef = .pointer (some b)) (hb : (loadVar uy b).run P w = .ok v w) (ht : tmps.getD t undef = x) : (results fn tmps).run P w = .ok (.tuple #[u, v, x]) w := by
  rw [Array.getD_eq_getD_getElem?] at hp hq ht
  simp [results, h, hp, hq, ht, asAddr, ha, hb]

theorem V8.cells_one (v : V8) : ∀ c ∈ v.cells, c.oneCell' = true := by
  intro c hc
  simp only [V8.cells, List.mem_cons, List.not_mem_nil, or_false] at hc
  rcases hc with rfl | rfl | rfl | rfl | rfl | rfl | rfl | rfl <;> rfl

theorem Sn.cells_one (x : Sn) : ∀ c ∈ x.cells, c.oneCell' = true := by
  intro c hc
  simp only [Sn.cells, List.mem_cons, List.not_mem_nil, or_false] at hc
  rcases hc with rfl | rfl | rfl | rfl | rfl | rfl | rfl | rfl | rfl | rfl | rfl | rfl | rfl | rfl <;> rfl

/-- Reading one value of the blocks' state. -/
theorem ld_st {w : World} {B i : Nat} {s : List V8} {v : V8} {t : TypeId} {fr : Nat × Nat} (hB : w.heap[B]? = some (.cells (stArr s) t fr)) (hi : s[i]? = some v) :
    (loadVar 23 ⟨B, i * 8, none⟩).run Try.prog w = .ok (v8Val v) w := by
  have hc : ∀ j c, v.cells[j]? = some c → w.cell? ⟨B, i * 8 + j, none⟩ = some c := by
    intro j c hj
    have hj8 : j < 8 := by
      have := (List.getElem?_eq_some_iff.1 hj).1
      simpa [V8.cells] using this
    rw [cell_of_row w B _ _ t fr hB]
    simp only [stArr, stCells, List.getElem?_toArray]
    rw [flat_get V8.cells_length s i v hi j hj8]
    exact hj
  have c0 : w.cell? ⟨B, i * 8, none⟩ = some (.int .u8 v.a) := hc 0 _ rfl
  have c1 := hc 1 _ rfl
  have c2 := hc 2 _ rfl
  have c3 := hc 3 _ rfl
  have c4 := hc 4 _ rfl
  have c5 := hc 5 _ rfl
  have c6 := hc 6 _ rfl
  have c7 := hc 7 _ rfl
  simp [go_sem, c0, c1, c2, c3, c4, c5, c6, c7, v8Val]

/-- Writing one value of the blocks' state. -/
theorem st_st {w : World} {B i : Nat} {s : List V8} (v : V8) {t : TypeId} (hB : w.heap[B]? = some (.cells (stArr s) t (0, 0))) (hi : i < s.length) :
    (storeVar 23 ⟨B, i * 8, none⟩ (v8Val v)).run Try.prog w = .ok () (w.setRow B (stArr (s.set i v))) := by
  have h := run_storeCells_row (P := Try.prog) w B (i * 8) (stCells s) t v.cells hB (by rw [V8.cells_length]; simp only [stCells, flat_length V8.cells_length]; omega) v.cells_one
  rw [stCells, flat_set V8.cells_length s i v hi] at h
  have hs : ((v8Val v).cells.size ≠ 8) = False := by simp [v8Val, Value.cells]
  simp only [storeVar, Sem.run_bind, Try.sizeOf23, Result.andThen_ok, hs, if_false]
  exact h

theorem stArr_one (s : List V8) : (stArr s).all (·.oneCell') = true := by
  rw [Array.all_eq_true_iff_forall_mem]
  intro c hc
  simp only [stArr, stCells, List.mem_toArray, List.mem_flatMap] at hc
  obtain ⟨v, _, hv⟩ := hc
  exact v.cells_one c hv

theorem info24 : (Try.prog.info? 24).map (·.size) = some 256 := by kernel_rfl

theorem ld_all {w : World} {B : Nat} {s : List V8} {t : TypeId} {fr : Nat × Nat} (hB : w.heap[B]? = some (.cells (stArr s) t fr)) (hs : s.length = 32) : (loadVar 24 ⟨B, 0, none⟩).run Try.prog w = .ok (.agg (stArr s)) w :=
  run_loadVar_row w B t 24 (stArr s) fr _ hB Try.underlying24 rfl (by rw [stArr_size, hs]; exact info24)

theorem st_all {w : World} {B : Nat} {s : List V8} (s' : List V8) {t : TypeId} (hB : w.heap[B]? = some (.cells (stArr s) t (0, 0))) (hs : s.length = 32) (hs' : s'.length = 32) :
    (storeVar 24 ⟨B, 0, none⟩ (.agg (stArr s'))).run Try.prog w = .ok () (w.setRow B (stArr s')) :=
  run_storeVar_row w B t 24 (stArr s) (stArr s') hB (by rw [stArr_size, hs']; exact info24) (by rw [stArr_size, stArr_size, hs, hs']) (stArr_one s')

/-- A step's own block. -/
def snArr (x : Sn) : Array Value := #[.int .i8 x.k, .int .i64 x.n.s, .int .i64 x.n.i, .int .i64 x.n.t, .int .i64 x.b, .int .u8 x.v.a, .int .u8 x.v.b, .int .u8 x.v.c, .int .u8 x.v.d, .int .u8 x.v.e, .int .u8 x.v.f, .int .u8 x.v.g, .int .u8 x.v.h, .int .i64 x.e]

theorem snArr_at {w : World} {B : Nat} {x : Sn} {t : TypeId} {fr : Nat × Nat} (h : w.heap[B]? = some (.cells (snArr x) t fr)) :
    w.cell? ⟨B, 0, none⟩ = some (.int .i8 x.k) ∧ w.cell? ⟨B, 1, none⟩ = some (.int .i64 x.n.s) ∧ w.cell? ⟨B, 2, none⟩ = some (.int .i64 x.n.i) ∧ w.cell? ⟨B, 3, none⟩ = some (.int .i64 x.n.t) ∧
    w.cell? ⟨B, 4, none⟩ = some (.int .i64 x.b) ∧ w.cell? ⟨B, 5, none⟩ = some (.int .u8 x.v.a) ∧ w.cell? ⟨B, 6, none⟩ = some (.int .u8 x.v.b) ∧ w.cell? ⟨B, 7, none⟩ = some (.int .u8 x.v.c) ∧
    w.cell? ⟨B, 8, none⟩ = some (.int .u8 x.v.d) ∧ w.cell? ⟨B, 9, none⟩ = some (.int .u8 x.v.e) ∧ w.cell? ⟨B, 10, none⟩ = some (.int .u8 x.v.f) ∧ w.cell? ⟨B, 11, none⟩ = some (.int .u8 x.v.g) ∧
    w.cell? ⟨B, 12, none⟩ = some (.int .u8 x.v.h) ∧ w.cell? ⟨B, 13, none⟩ = some (.int .i64 x.e) := by
  refine ⟨?_, ?_, ?_, ?_, ?_, ?_, ?_, ?_, ?_, ?_, ?_, ?_, ?_, ?_⟩ <;> (rw [cell_of_row w B _ _ t fr h]; rfl)

theorem ld_sn {w : World} {B : Nat} {x : Sn} {t : TypeId} {fr : Nat × Nat} (h : w.heap[B]? = some (.cells (snArr x) t fr)) : (loadVar 36 ⟨B, 0, none⟩).run Try.prog w = .ok (.agg (snArr x)) w :=
  run_loadVar_row w B t 36 (snArr x) fr _ h Try.underlying36 rfl (by kernel_rfl)

theorem st_sn {w : World} {B : Nat} {x : Sn} (u : V8) {t : TypeId} (h : w.heap[B]? = some (.cells (snArr x) t (0, 0))) :
    (storeVar 23 ⟨B, 5, none⟩ (v8Val u)).run Try.prog w = .ok () (w.setRow B (snArr { x with v := u })) := by
  have h' := run_storeCells_row (P := Try.prog) w B 5 (snArr x).toList t u.cells (by simpa using h) (by simp [snArr, V8.cells]) u.cells_one
  have hs : ((v8Val u).cells.size ≠ 8) = False := by simp [v8Val, Value.cells]
  simp only [storeVar, Sem.run_bind, Try.sizeOf23, Result.andThen_ok, hs, if_false]
  exact h'

theorem grownBy_setRow (w : World) (g : Nat) (cs : Array Value) : w.grownBy (w.setRow g cs) (some g) :=
  ⟨rfl, rfl, rfl, by simp, fun k _ hk => setRow_other w g k cs (fun e => hk (by rw [e]))⟩

theorem wpListIn_store_st {F : Fence} {n : Nat} {ops : Array Oper} {rest : List Oper} {o : Oper} {a : Act} {w : World} {Q : Exit → Act → World → Prop} (hgd : o.guard = none) (x y : Operand) (ho : o.op = .store 23 x y)
    (B i : Nat) (hx : a.eval x = .pointer (some ⟨B, i * 8, none⟩)) (v : V8) (hy : a.eval y = v8Val v) {s : List V8} {t : TypeId} (hB : w.heap[B]? = some (.cells (stArr s) t (0, 0))) (hi : i < s.length)
    (h : ∀ w', w.grownBy w' (some B) → w'.heap[B]? = some (.cells (stArr (s.set i v)) t (0, 0)) → wpListIn F n Try.prog ops Q rest (a.put o.dst undef) w') : wpListIn F n Try.prog ops Q (o :: rest) a w :=
  wpListIn_store hgd 23 x y ho ⟨B, i * 8, none⟩ hx (v8Val v) hy (st_st v hB hi) (h _ (grownBy_setRow _ _ _) (setRow_heap w B _ _ t _ hB))

theorem wpListIn_store_sn {F : Fence} {n : Nat} {ops : Array Oper} {rest : List Oper} {o : Oper} {a : Act} {w : World} {Q : Exit → Act → World → Prop} (hgd : o.guard = none) (x y : Operand) (ho : o.op = .store 23 x y)
    (B : Nat) (hx : a.eval x = .pointer (some ⟨B, 5, none⟩)) (v : V8) (hy : a.eval y = v8Val v) {u : Sn} {t : TypeId} (hB : w.heap[B]? = some (.cells (snArr u) t (0, 0)))
    (h : ∀ w', w.grownBy w' (some B) → w'.heap[B]? = some (.cells (snArr { u with v := v }) t (0, 0)) → wpListIn F n Try.prog ops Q rest (a.put o.dst undef) w') : wpListIn F n Try.prog ops Q (o :: rest) a w :=
  wpListIn_store hgd 23 x y ho ⟨B, 5, none⟩ hx (v8Val v) hy (st_sn v hB) (h _ (grownBy_setRow _ _ _) (setRow_heap w B _ _ t _ hB))

theorem cells_new (w : World) (cs : List Value) (t : TypeId) : ∀ j u, cs[j]? = some u → (w.alloc (.cells cs.toArray t)).cell? ((⟨w.heap.size, 0, none⟩ : Addr).add j) = some u := by
  intro j u hu
  have e : (⟨w.heap.size, 0, none⟩ : Addr).add j = ⟨w.heap.size, j, none⟩ := by unfold Addr.add; split <;> simp_all
  rw [e, cell_of_row _ _ _ _ t (0, 0) (heap_alloc_new w _)]
  simpa using hu

/-- A slice's own row is not a block of another element type. -/
theorem not_row {W : World} {B : Nat} {cs : Array Value} {fr : Nat × Nat} {t e : TypeId} (h : W.heap[B]? = some (.cells cs t fr)) (hte : t ≠ e) {base size k : Nat} {v : Value} {xs : List Value} (hr : W.ownsRow base e size v k xs) : v.ownBlock ≠ some B := by
  rcases hr.2 with ⟨rfl, _⟩ | ⟨g, cap, cur, rfl, _, hgb, _⟩
  · simp [Value.ownBlock]
  · intro e'
    obtain rfl : B = g := by simpa [Value.ownBlock] using e'.symm
    rw [h] at hgb
    cases hgb
    exact hte rfl

/-- A slice of the call's own, read as rows. -/
theorem owns_rows {α : Type} {enc : α → List Value} {k : Nat} (hk : ∀ x, (enc x).length = k) {W : World} {base : Nat} {e : TypeId} {a : Option Addr} {c : Nat} {r : List α} {n : Nat} (h : W.ownsRow base e k (.slice a n c) n (r.flatMap enc)) (hr : 0 < r.length) (hn' : n = r.length) :
    ∃ g, a = some ⟨g, 0, none⟩ ∧ base ≤ g ∧ g < W.heap.size ∧ RowsAt enc k W g 0 r := by
  subst hn'
  rcases h.2 with ⟨_, h0⟩ | ⟨g, cap, cur, hv, hb, hg, hn, _, _, ht⟩
  · omega
  · cases hv
    refine ⟨g, rfl, hb, lt_of_heap hg, fun i x hx j cc hc => ?_⟩
    have hj : j < k := by
      have := (List.getElem?_eq_some_iff.1 hc).1
      rwa [hk] at this
    have hi : i < r.length := (List.getElem?_eq_some_iff.1 hx).1
    have hlt : i * k + j < r.length * k := by
      have := Nat.mul_le_mul_right k hi
      rw [Nat.succ_mul] at this
      omega
    have := flat_get hk r i x hx j hj
    rw [← ht, List.getElem?_take, if_pos hlt, hc] at this
    rw [cell_of_row W g _ cur e (0, 0) hg, Nat.zero_add]
    simpa using this

theorem Sn.cells_length (x : Sn) : x.cells.length = 14 := rfl

theorem owns_turn {W W' : World} {j : Nat} {base : Nat} {e : TypeId} {size n : Nat} {v : Value} {xs : List Value} (h : W.ownsRow base e size v n xs) (hg : W.grownBy W' (some j)) (hj : v.ownBlock ≠ some j) : W'.ownsRow base e size v n xs :=
  h.kept hg (.inr hj)

theorem cells_turn {W W' : World} {j k : Nat} {o : Obj} (h : W.heap[k]? = some o) (hg : W.grownBy W' (some j)) (hj : k ≠ j) : W'.heap[k]? = some o :=
  (hg.block k (lt_of_heap h) (fun e => hj (by cases e; rfl))).trans h

/-- A block of cells is not the block that is no cells. -/
theorem kept_cells {B : Nat} {W W' : World} {row : Option Nat} (hg : W.grownBy W' row) (hr : ∀ r, row = some r → B ≤ r ∧ ∃ o : Obj, W.heap[r]? = some o ∧ o.isCells = false) {k : Nat} {c : Array Value} {t : TypeId} {f : Nat × Nat}
    (h : W.heap[k]? = some (.cells c t f)) : W'.heap[k]? = some (.cells c t f) :=
  (hg.block k (lt_of_heap h) (fun e => by obtain ⟨_, o, ho, hc⟩ := hr k e.symm; rw [h] at ho; cases ho; cases hc)).trans h

theorem kept_owns {B : Nat} {W W' : World} {row : Option Nat} (hg : W.grownBy W' row) (hr : ∀ r, row = some r → B ≤ r ∧ ∃ o : Obj, W.heap[r]? = some o ∧ o.isCells = false) {base : Nat} {e : TypeId} {size n : Nat} {v : Value} {xs : List Value}
    (h : W.ownsRow base e size v n xs) : W'.ownsRow base e size v n xs := by
  refine h.kept hg ?_
  rcases h.2 with ⟨rfl, _⟩ | ⟨g, cap, cur, rfl, _, hgb, _⟩
  · exact .inl rfl
  · refine .inr fun e' => ?_
    obtain ⟨_, o, ho, hc⟩ := hr g (by simpa [Value.ownBlock] using e'.symm)
    rw [hgb] at ho; cases ho; cases hc

theorem kept_below {n₀ B : Nat} {w W W' : World} {row : Option Nat} (h : Below n₀ w W) (hn : n₀ ≤ w.heap.size) (hB : n₀ ≤ B) (hg : W.grownBy W' row) (hr : ∀ r, row = some r → B ≤ r ∧ ∃ o : Obj, W.heap[r]? = some o ∧ o.isCells = false) : Below n₀ w W' :=
  h.grown hg (Nat.le_trans hn h.size) (fun k e => Nat.le_trans hB (hr k e).1)

end Go.Proofs.Ytgdmgeihgkbjaaa
