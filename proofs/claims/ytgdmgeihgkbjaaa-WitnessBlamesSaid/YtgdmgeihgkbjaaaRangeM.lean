/- Ranging over a map of the calls' own ('MapIs'): what is still to come, as a list; the step, whichever entry the tape says. -/
import Derived.Test.YtgdmgeihgkbjaaaMap
import Derived.Maps.RangeWalk
namespace Go.Proofs.Ytgdmgeihgkbjaaa
open Go.RowKit
open Go.ChangeMaps (setBlock)

/-- Block r ranges over the map in block M, which holds m; rest is still to come. -/
def RangesM {κ β : Type} (kenc : κ → Value) (venc : β → Value) (w : World) (M r : Nat) (m rest : List (κ × β)) : Prop :=
  ∃ es clock since seen c0, w.heap[M]? = some (.map es clock) ∧ es.toList.map (fun e => (e.key, e.val)) = m.map (fun p => (kenc p.1, venc p.2)) ∧ (es.toList.map (·.born)).Nodup ∧ (∀ e ∈ es.toList, e.born < clock) ∧
    w.heap[r]? = some (.mapIter (some M) since seen c0) ∧ (∀ x ∈ es.toList, x.born < since) ∧ since ≤ c0 ∧ since ≤ clock ∧ (leftOf es seen).toList.map (fun e => (e.key, e.val)) = rest.map (fun p => (kenc p.1, venc p.2))

section
variable {κ β : Type} {kenc : κ → Value} {venc : β → Value}

theorem RangesM.map {w : World} {M r : Nat} {m rest : List (κ × β)} (h : RangesM kenc venc w M r m rest) : MapIs kenc venc w M m := by
  obtain ⟨es, clock, since, seen, c0, h1, h2, h3, h4, _⟩ := h
  exact ⟨es, clock, h1, h2, h3, h4⟩

theorem RangesM.ne {w : World} {M r : Nat} {m rest : List (κ × β)} (h : RangesM kenc venc w M r m rest) : r ≠ M := by
  obtain ⟨es, clock, since, seen, c0, h1, _, _, _, h5, _⟩ := h
  rintro rfl
  rw [h1] at h5; cases h5

theorem RangesM.lt {w : World} {M r : Nat} {m rest : List (κ × β)} (h : RangesM kenc venc w M r m rest) : r < w.heap.size := by
  obtain ⟨es, clock, since, seen, c0, h1, _, _, _, h5, _⟩ := h
  exact (Array.getElem?_eq_some_iff.1 h5).1

theorem RangesM.kept {w w' : World} {M r : Nat} {m rest : List (κ × β)} (h : RangesM kenc venc w M r m rest) (hM : w'.heap[M]? = w.heap[M]?) (hr : w'.heap[r]? = w.heap[r]?) : RangesM kenc venc w' M r m rest := by
  obtain ⟨es, clock, since, seen, c0, h1, h2, h3, h4, h5, h6⟩ := h
  exact ⟨es, clock, since, seen, c0, hM.trans h1, h2, h3, h4, hr.trans h5, h6⟩

theorem run_range_m {w : World} {T K E : TypeId} (hT : Try.prog.underlying T = some (.map K E)) {M : Nat} {m : List (κ × β)} (h : MapIs kenc venc w M m) :
    ∃ w', (Instr.range T (.map (some M))).run Try.prog w = .ok (.pointer (some ⟨w.heap.size, 0, none⟩)) w' ∧ RangesM kenc venc w' M w.heap.size m m ∧ w.grownBy w' none ∧ w'.heap.size = w.heap.size + 1 := by
  have hlt := h.lt
  obtain ⟨es, clock, hb, h2, h3, h4⟩ := h
  refine ⟨_, run_range_map w T K E M es clock hT hb, ⟨es, clock, clock, #[], clock, ((MapKept.heap_alloc w _).2 M hlt).trans hb, h2, h3, h4, (MapKept.heap_alloc w _).1, h4, Nat.le_refl _, Nat.le_refl _, ?_⟩, World.grownBy_alloc w _ none, by simp⟩
  have e : (leftOf es #[]).toList = es.toList := by unfold leftOf; rw [Array.toList_filter, List.filter_eq_self]; intro x _; simp
  rw [e]; exact h2

theorem filter_one {L : List MapEntry} (hn : (L.map (·.born)).Nodup) {i : Nat} {e : MapEntry} (he : L[i]? = some e) : L.filter (fun x => !(x.born == e.born)) = L.eraseIdx i := by
  induction L generalizing i with
  | nil => simp at he
  | cons a L ih =>
    simp only [List.map_cons, List.nodup_cons] at hn
    cases i with
    | zero =>
      simp at he; subst he
      rw [List.filter_cons_of_neg (by simp), List.eraseIdx_cons_zero, List.filter_eq_self]
      intro x hx
      have : x.born ≠ a.born := fun e => hn.1 (by rw [← e]; exact List.mem_map_of_mem hx)
      simpa using this
    | succ i =>
      have he' : L[i]? = some e := by simpa using he
      have : a.born ≠ e.born := fun e1 => hn.1 (by rw [e1]; exact List.mem_map_of_mem (List.mem_of_getElem? he'))
      rw [List.filter_cons_of_pos (by simpa using this), List.eraseIdx_cons_succ, ih hn.2 he']

theorem map_eraseIdx {α β : Type} (f : α → β) : ∀ (l : List α) (i : Nat), (l.eraseIdx i).map f = (l.map f).eraseIdx i
  | [], _ => rfl
  | _ :: _, 0 => rfl
  | _ :: l, i + 1 => by simp [map_eraseIdx f l i]

theorem left_push (es : Array MapEntry) (seen : Array Nat) (hn : (es.toList.map (·.born)).Nodup) {i : Nat} {e : MapEntry} (he : (leftOf es seen).toList[i]? = some e) : (leftOf es (seen.push e.born)).toList = (leftOf es seen).toList.eraseIdx i := by
  have hn' : ((leftOf es seen).toList.map (·.born)).Nodup := by
    unfold leftOf
    rw [Array.toList_filter]
    exact hn.sublist (List.Sublist.map _ List.filter_sublist)
  rw [← filter_one hn' he]
  unfold leftOf
  rw [Array.toList_filter, Array.toList_filter, List.filter_filter]
  congr 1
  funext x
  rw [contains_push]
  cases seen.contains x.born <;> cases (x.born == e.born) <;> rfl

/-- The step. -/
theorem RangesM.next {w : World} {M r : Nat} {m rest : List (κ × β)} (h : RangesM kenc venc w M r m rest) (ty : TypeId) :
    (rest = [] ∧ (Instr.next (.pointer (some ⟨r, 0, none⟩)) false ty).run Try.prog w = .ok (.tuple #[.bool false]) w) ∨
    ∃ (i : Nat) (p : κ × β) (w' : World), rest[i]? = some p ∧ (Instr.next (.pointer (some ⟨r, 0, none⟩)) false ty).run Try.prog w = .ok (.tuple #[.bool true, kenc p.1, venc p.2]) w' ∧
      RangesM kenc venc w' M r m (rest.eraseIdx i) ∧ w.grownBy w' (some r) ∧ w'.heap.size = w.heap.size ∧ (Instr.entry (.pointer (some ⟨r, 0, none⟩))).run Try.prog w' = .ok (.tuple #[kenc p.1, venc p.2]) w' := by
  have hne := h.ne
  obtain ⟨es, clock, since, seen, c0, hb, h2, h3, h4, hr, hold, hsc, hsk, hl⟩ := h
  have hlen : (leftOf es seen).size = rest.length := by
    have := congrArg List.length hl
    simpa using this
  rcases run_next_at (P := Try.prog) w ty r M since c0 seen es clock hr hb hold hsc with ⟨h0, hrun⟩ | ⟨e, he, w1, hal, hrun⟩
  · exact Or.inl ⟨List.length_eq_zero_iff.1 (by omega), hrun⟩
  · obtain ⟨hem, hes⟩ := mem_left he
    obtain ⟨i, hi⟩ := List.getElem?_of_mem he
    have hir : i < rest.length := by
      have := (List.getElem?_eq_some_iff.1 hi).1
      rw [← hlen]; simpa using this
    have hp : (e.key, e.val) = (kenc rest[i].1, venc rest[i].2) := by
      have := congrArg (fun l => l[i]?) hl
      simp only [List.getElem?_map, hi, Option.map_some, List.getElem?_eq_getElem hir, Option.some.injEq] at this
      exact this
    obtain ⟨hpk, hpv⟩ := Prod.mk.inj hp
    have hr1 : w1.heap[r]? = some (.mapIter (some M) since seen c0) := by rcases hal with rfl | rfl <;> exact hr
    have hb1 : w1.heap[M]? = some (.map es clock) := by rcases hal with rfl | rfl <;> exact hb
    have hset := Go.MapKept.heap_set (o' := .mapIter (some M) since (seen.push e.born) clock) hr1
    have hb' : (setBlock w1 r (.mapIter (some M) since (seen.push e.born) clock)).heap[M]? = some (.map es clock) := (hset.2 M (fun e1 => hne e1.symm)).trans hb1
    rw [hpk, hpv] at hrun
    refine Or.inr ⟨i, rest[i], _, List.getElem?_eq_getElem hir, hrun, ⟨es, clock, since, seen.push e.born, clock, hb', h2, h3, h4, hset.1, hold, hsk, hsk, ?_⟩, ?_, ?_, ?_⟩
    · rw [left_push es seen h3 hi, map_eraseIdx, hl, map_eraseIdx]
    · rcases hal with rfl | rfl <;> exact ⟨rfl, rfl, rfl, by simp [setBlock], fun i _ hi => hset.2 i (fun e1 => hi (by rw [e1]))⟩
    · rcases hal with rfl | rfl <;> simp [setBlock]
    · have := run_entry_at (P := Try.prog) _ r M since seen es clock e hset.1 hb' hem h3
      rw [hpk, hpv] at this
      exact this

end

theorem wpList_range_m {κ β : Type} {kenc : κ → Value} {venc : β → Value} {ops : Array Oper} {rest : List Oper} {o : Oper} {a : Act} {w : World} {Q : Exit → Act → World → Prop} (hgd : o.guard = none) (x : Operand) (T : TypeId) (ho : o.op = .range T x)
    {K E : TypeId} (hT : Try.prog.underlying T = some (.map K E)) {M : Nat} {m : List (κ × β)} (hm : MapIs kenc venc w M m) (hx : a.eval x = .map (some M))
    (h : ∀ w', RangesM kenc venc w' M w.heap.size m m → w.grownBy w' none → w'.heap.size = w.heap.size + 1 → wpList Try.prog ops Q rest (a.put o.dst (.pointer (some ⟨w.heap.size, 0, none⟩))) w') : wpList Try.prog ops Q (o :: rest) a w := by
  refine wpList_plain hgd fun K' hK' => ?_
  obtain ⟨w', hrun, r1, r2, r3⟩ := run_range_m hT hm
  unfold Oper.wp
  simp only [execOp, ho, hx, Sem.run_bind, hrun, Result.andThen_ok, Sem.run_pure]
  exact hK' _ _ (h w' r1 r2 r3)

theorem wpList_next_m {κ β : Type} {kenc : κ → Value} {venc : β → Value} {ops : Array Oper} {todo : List Oper} {o : Oper} {a : Act} {w : World} {Q : Exit → Act → World → Prop} (hgd : o.guard = none) (x : Operand) (ho : o.op = .next x false)
    {M r : Nat} {m rest : List (κ × β)} (hm : RangesM kenc venc w M r m rest) (hx : a.eval x = .pointer (some ⟨r, 0, none⟩))
    (hDone : rest = [] → wpList Try.prog ops Q todo (a.put o.dst (.tuple #[.bool false])) w)
    (hMore : ∀ (i : Nat) (p : κ × β) (w' : World), rest[i]? = some p → RangesM kenc venc w' M r m (rest.eraseIdx i) → w.grownBy w' (some r) → w'.heap.size = w.heap.size →
      (Instr.entry (.pointer (some ⟨r, 0, none⟩))).run Try.prog w' = .ok (.tuple #[kenc p.1, venc p.2]) w' → wpList Try.prog ops Q todo (a.put o.dst (.tuple #[.bool true, kenc p.1, venc p.2])) w') : wpList Try.prog ops Q (o :: todo) a w := by
  refine wpList_plain hgd fun K' hK' => ?_
  unfold Oper.wp
  rcases hm.next o.type with ⟨h0, hrun⟩ | ⟨i, p, w', hp, hrun, hrg, hgr, hsz, hen⟩
  · simp only [execOp, ho, hx, Sem.run_bind, hrun, Result.andThen_ok, Sem.run_pure]
    exact hK' _ _ (hDone h0)
  · simp only [execOp, ho, hx, Sem.run_bind, hrun, Result.andThen_ok, Sem.run_pure]
    exact hK' _ _ (hMore i p w' hp hrg hgr hsz hen)

theorem eraseIdx_perm {α : Type} {l : List α} {i : Nat} {x : α} (h : l[i]? = some x) : l.Perm (x :: l.eraseIdx i) := by
  induction l generalizing i with
  | nil => simp at h
  | cons a l ih =>
    cases i with
    | zero => simp at h; subst h; exact List.Perm.refl _
    | succ i =>
      have := ih (i := i) (by simpa using h)
      rw [List.eraseIdx_cons_succ]
      exact (this.cons a).trans (List.Perm.swap _ _ _)

end Go.Proofs.Ytgdmgeihgkbjaaa
