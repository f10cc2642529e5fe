/- A map from names to rows of places that the call makes: m[n] = append(m[n], i) -/
import Derived.Test.YtgdmgeihgkbjaaaKind
namespace Go.Proofs.Ytgdmgeihgkbjaaa
open Go.RowKit Go.Shelf

section
variable {κ β : Type} [DecidableEq κ] {kenc : κ → Value} {venc : β → Value} {F : Fence} {n : Nat}

theorem wpListIn_entry {T K E : TypeId} (hT : Try.prog.underlying T = some (.map K E)) (hk : KeyOK K kenc) {z : β} (hz : ∀ w, (zeroValue E).run Try.prog w = .ok (venc z) w) {w : World} {b : Nat} {m : List (κ × β)} (hm : MapIs kenc venc w b m)
    {ops : Array Oper} {rest : List Oper} {o : Oper} {a : Act} {Q : Exit → Act → World → Prop} (hg : o.guard = none) (x y : Operand) (ho : o.op = .mapEntry T x y) (hx : a.eval x = .map (some b)) (k : κ) (hy : a.eval y = kenc k)
    (h : ∀ w' (st : Nat), w.grownBy w' (some b) → w'.heap.size = w.heap.size → EntryIs kenc venc w' b (withKey m k z) k st → wpListIn F n Try.prog ops Q rest (a.put o.dst (.tuple #[venc ((look m k).getD z), .int .i64 (st : Int)])) w') : wpListIn F n Try.prog ops Q (o :: rest) a w := by
  refine wpListIn_plain hg fun K' hK' => ?_
  obtain ⟨w', st, hr, h1, h2, h3⟩ := run_entry_m hT hk hz hm k
  unfold Oper.wpIn
  refine ⟨by simp [Oper.about, ho], ?_⟩
  rw [Oper.semAt_plain F _ _ (by rw [ho]; intro c hc'; cases hc')]
  simp only [execOp, ho, hx, hy, Sem.run_bind, hr, Result.andThen_ok, Sem.run_pure]
  exact hK' _ _ (h w' st h1 h2 h3)

theorem wpListIn_estore {T : TypeId} {w : World} {b : Nat} {m : List (κ × β)} {k : κ} {st : Nat} (hm : EntryIs kenc venc w b m k st)
    {ops : Array Oper} {rest : List Oper} {o : Oper} {a : Act} {Q : Exit → Act → World → Prop} (hg : o.guard = none) (x y z : Operand) (ho : o.op = .entryStore T x y z) (hx : a.eval x = .map (some b)) (hy : a.eval y = .int .i64 (st : Int)) (v : β) (hz : a.eval z = venc v)
    (h : ∀ w', w.grownBy w' (some b) → w'.heap.size = w.heap.size → MapIs kenc venc w' b (put m k v) → wpListIn F n Try.prog ops Q rest (a.put o.dst undef) w') : wpListIn F n Try.prog ops Q (o :: rest) a w := by
  refine wpListIn_plain hg fun K' hK' => ?_
  obtain ⟨w', hr, h1, h2, h3⟩ := run_store_m (T := T) hm v
  have hr' : (Instr.entryStore T (.map (some b)) (.int .i64 (st : Int)) (venc v)).run Try.prog w = .ok () w' := hr
  unfold Oper.wpIn
  refine ⟨by simp [Oper.about, ho], ?_⟩
  rw [Oper.semAt_plain F _ _ (by rw [ho]; intro c hc'; cases hc')]
  simp only [execOp, ho, hx, hy, hz, Sem.run_bind, hr', Result.andThen_ok, Sem.run_pure]
  exact hK' _ _ (h w' h1 h2 h3)

end

def slNil : Value := .slice none 0 0
theorem zero30 (w : World) : (zeroValue 30).run Try.prog w = .ok (id slNil) w := by simp [go_sem, slNil]

def natV (i : Nat) : Value := .int .i64 (i : Int)

/-- The map Ms holds, of each name with steps in p, the row of their places; the rows lie in blocks of their own. -/
structure GroupI (base : Nat) (W : World) (Ms : Nat) (m : List (Nm × Value)) (p : List Sn) : Prop where
  map : MapIs nmV id W Ms m
  own : ∀ n v, look m n = some v → W.ownsRow base 3 1 v (idxN n p 0).length ((idxN n p 0).map natV)
  non : ∀ n, look m n = none → idxN n p 0 = []
  apart : ∀ n n' v v' g, look m n = some v → look m n' = some v' → v.ownBlock = some g → v'.ownBlock = some g → n = n'
  low : Ms < base

theorem GroupI.new (W : World) (base : Nat) (h : W.heap.size < base) : GroupI base (W.alloc (.map #[] 0)) W.heap.size [] [] :=
  ⟨MapIs.new W, fun _ _ h => by simp [look] at h, fun _ _ => rfl, fun _ _ _ _ _ h => by simp [look] at h, h⟩

theorem GroupI.kept {base : Nat} {W W' : World} {Ms : Nat} {m : List (Nm × Value)} {p : List Sn} (h : GroupI base W Ms m p) (hm : W'.heap[Ms]? = W.heap[Ms]?) (hb : ∀ k c t f, base ≤ k → W.heap[k]? = some (.cells c t f) → W'.heap[k]? = some (.cells c t f)) : GroupI base W' Ms m p := by
  refine ⟨h.map.kept hm, fun n v hl => ?_, h.non, h.apart, h.low⟩
  obtain ⟨h1, h2⟩ := h.own n v hl
  refine ⟨h1, ?_⟩
  rcases h2 with h2 | ⟨g, cap, cur, e1, e2, e3, e4⟩
  · exact .inl h2
  · exact .inr ⟨g, cap, cur, e1, e2, hb g _ _ _ e2 e3, e4⟩

theorem GroupI.alloc {base : Nat} {W : World} {Ms : Nat} {m : List (Nm × Value)} {p : List Sn} (h : GroupI base W Ms m p) (o : Obj) : GroupI base (W.alloc o) Ms m p :=
  h.kept (Below.heap_alloc W o _ h.map.lt) (fun _ _ _ _ _ hk => (Below.heap_alloc W o _ (lt_of_heap hk)).trans hk)

/-- The value that the entry holds ahead of the append. -/
theorem GroupI.old {base : Nat} {W : World} {Ms : Nat} {m : List (Nm × Value)} {p : List Sn} (h : GroupI base W Ms m p) (n : Nm) : W.ownsRow base 3 1 ((look m n).getD slNil) (idxN n p 0).length ((idxN n p 0).map natV) := by
  cases hl : look m n with
  | none => rw [h.non n hl]; exact World.ownsRow_nil _ _ _ _
  | some v => exact h.own n v hl

theorem look_withKey (m : List (Nm × Value)) (n n' : Nm) : look (withKey m n slNil) n' = if n = n' then some ((look m n).getD slNil) else look m n' := by
  unfold withKey
  cases hl : look m n with
  | none =>
    rw [look_put]
    by_cases e : n = n'
    · simp [e]
    · simp [e]
  | some v =>
    by_cases e : n = n'
    · subst e; simp [hl]
    · simp [e]

theorem look_put_with (m : List (Nm × Value)) (n n' : Nm) (v : Value) : look (put (withKey m n slNil) n v) n' = if n = n' then some v else look m n' := by
  rw [look_put]
  by_cases e : n = n'
  · simp [e]
  · rw [if_neg e, look_withKey, if_neg e, if_neg e]

/-- One step more. -/
theorem GroupI.snoc {base : Nat} {W W3 : World} {Ms : Nat} {m : List (Nm × Value)} {p : List Sn} {x : Sn} (h : GroupI base W Ms m p) {v' : Value} (hm : MapIs nmV id W3 Ms (put (withKey m x.n slNil) x.n v'))
    (hown : W3.ownsRow base 3 1 v' ((idxN x.n p 0).length + 1) ((idxN x.n p 0).map natV ++ [natV p.length]))
    (hkeep : ∀ k c t f, base ≤ k → ((look m x.n).getD slNil).ownBlock ≠ some k → W.heap[k]? = some (.cells c t f) → W3.heap[k]? = some (.cells c t f))
    (hloc : v'.ownBlock = ((look m x.n).getD slNil).ownBlock ∨ ∃ g, v'.ownBlock = some g ∧ W.heap.size ≤ g) : GroupI base W3 Ms (put (withKey m x.n slNil) x.n v') (p ++ [x]) := by
  have hnew : ∀ n v g, look m n = some v → n ≠ x.n → v.ownBlock = some g → v'.ownBlock ≠ some g := by
    intro n v g hl hne hg hg'
    rcases hloc with e | ⟨g', e, hlt⟩
    · rw [e] at hg'
      cases hlx : look m x.n with
      | none => rw [hlx] at hg'; cases hg'
      | some u =>
        rw [hlx] at hg'
        exact hne (h.apart n x.n v u g hl hlx hg hg')
    · rw [e] at hg'
      cases hg'
      have := ((h.own n v hl).lt g hg).2
      omega
  refine ⟨hm, fun n v hl => ?_, fun n hl => ?_, fun n n' v u g hl hl' hg hg' => ?_, h.low⟩
  · rw [look_put_with] at hl
    rw [idxN_snoc]
    by_cases e : x.n = n
    · subst e
      rw [if_pos rfl] at hl
      cases hl
      rw [if_pos rfl]
      simpa using hown
    · rw [if_neg e] at hl
      rw [if_neg e]
      obtain ⟨h1, h2⟩ := h.own n v hl
      refine ⟨h1, ?_⟩
      rcases h2 with h2 | ⟨g, cap, cur, e1, e2, e3, e4⟩
      · exact .inl h2
      · refine .inr ⟨g, cap, cur, e1, e2, hkeep g _ _ _ e2 (fun hh => ?_) e3, e4⟩
        cases hlx : look m x.n with
        | none => rw [hlx] at hh; cases hh
        | some u =>
          rw [hlx] at hh
          exact e (h.apart x.n n u v g hlx hl hh (by rw [e1]; rfl))
  · rw [look_put_with] at hl
    by_cases e : x.n = n
    · rw [if_pos e] at hl; cases hl
    · rw [if_neg e] at hl
      rw [idxN_snoc, if_neg e]
      exact h.non n hl
  · rw [look_put_with] at hl hl'
    by_cases e : x.n = n
    · by_cases e' : x.n = n'
      · rw [← e, ← e']
      · rw [if_pos e] at hl
        rw [if_neg e'] at hl'
        cases hl
        exact absurd hg (hnew n' u g hl' (fun h => e' h.symm) hg')
    · rw [if_neg e] at hl
      by_cases e' : x.n = n'
      · rw [if_pos e'] at hl'
        cases hl'
        exact absurd hg' (hnew n v g hl (fun h => e h.symm) hg)
      · rw [if_neg e'] at hl'
        exact h.apart n n' v u g hl hl' hg hg'

end Go.Proofs.Ytgdmgeihgkbjaaa
