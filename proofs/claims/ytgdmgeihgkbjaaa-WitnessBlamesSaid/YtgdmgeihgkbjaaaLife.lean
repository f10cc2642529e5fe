/- 'order.lives': the lives of names; the plain side and 'once' -/
import Derived.Test.YtgdmgeihgkbjaaaNmKey
namespace Go.Proofs.Ytgdmgeihgkbjaaa
open Go.RowKit Go.Shelf

structure Lf where
  b : Int
  c : Int
  a : Int
  d : Int
  deriving DecidableEq, Repr, Inhabited

def Lf.arr (f : Lf) : Array Value := #[.int .i64 f.b, .int .i64 f.c, .int .i64 f.a, .int .i64 f.d]

/-- One step of a history, on the lives so far. -/
def livP (i : Nat) (x : Sn) (m : List (Nm × Lf)) : Option (List (Nm × Lf)) :=
  if x.n.good then
    match look m x.n with
    | none => if x.k = 0 then some (put m x.n ⟨(i : Int) + 1, 0, 0, 0⟩) else none
    | some f =>
      if x.k = 1 ∨ x.k = 2 then (if f.c = 0 ∧ 0 ≤ x.b ∧ x.b < 32 then some m else none)
      else if x.k = 3 then (if f.c = 0 then some (put m x.n { f with c := (i : Int) + 1 }) else none)
      else if x.k = 4 then (if f.a = 0 ∧ (x.e ≠ 0 ∨ 0 < f.c) then some (put m x.n { f with a := (i : Int) + 1 }) else none)
      else if x.k = 5 then (if f.d = 0 ∧ 0 < f.c then some (put m x.n { f with d := (i : Int) + 1 }) else none)
      else none
  else none

def livesF : Nat → List Sn → List (Nm × Lf) → Option (List (Nm × Lf))
  | _, [], m => some m
  | i, x :: r, m => (livP i x m).bind (livesF (i + 1) r)

def livesP (l : List Sn) : Option (List (Nm × Lf)) := livesF 0 l []

/-- With the blocks in which the lives lie. -/
abbrev LM := List (Nm × (Nat × Lf))
def lfPtr (v : Nat × Lf) : Value := .pointer (some ⟨v.1, 0, none⟩)
def projL (m : LM) : List (Nm × Lf) := m.map fun p => (p.1, p.2.2)

theorem look_proj (m : LM) (n : Nm) : look (projL m) n = (look m n).map (·.2) := by
  induction m with
  | nil => rfl
  | cons p m ih =>
    unfold look projL at ih ⊢
    by_cases h : p.1 = n
    · simp [h]
    · simpa [h] using ih

theorem put_proj (m : LM) (n : Nm) (v : Nat × Lf) : put (projL m) n v.2 = projL (put m n v) := by
  induction m with
  | nil => rfl
  | cons p m ih =>
    unfold projL at ih ⊢
    simp only [List.map_cons, put]
    by_cases h : p.1 = n
    · simp [h]
    · simp [h, ih]

theorem mem_put {κ β : Type} [DecidableEq κ] {m : List (κ × β)} {k : κ} {v : β} {p : κ × β} (h : p ∈ put m k v) : p = (k, v) ∨ p ∈ m := by
  induction m with
  | nil => simp [put] at h; exact .inl h
  | cons q m ih =>
    simp only [put] at h
    split at h
    · rcases List.mem_cons.1 h with h | h
      · exact .inl h
      · exact .inr (by simp [h])
    · rcases List.mem_cons.1 h with h | h
      · exact .inr (by simp [h])
      · exact (ih h).imp id (fun h => by simp [h])

theorem look_mem {κ β : Type} [DecidableEq κ] {m : List (κ × β)} {k : κ} {v : β} (h : look m k = some v) : (k, v) ∈ m := by
  unfold look at h
  obtain ⟨p, hp, rfl⟩ := Option.map_eq_some_iff.1 h
  have h1 := List.find?_some hp
  have h2 := List.mem_of_find?_eq_some hp
  simp at h1
  rw [← h1]
  exact h2

/-- The map M holds the lives m; each lies in a block of its own. -/
structure LivesAt (base M : Nat) (W : World) (m : LM) : Prop where
  map : MapIs nmV lfPtr W M m
  at_ : ∀ p ∈ m, base ≤ p.2.1 ∧ W.heap[p.2.1]? = some (.cells p.2.2.arr 86 (0, 0))
  apart : m.Pairwise fun p q => p.2.1 ≠ q.2.1
  keys : m.Pairwise fun p q => p.1 ≠ q.1
  low : base ≤ M

theorem put_same_ptr {m : LM} {n : Nm} {b : Nat} {f f' : Lf} (h : look m n = some (b, f)) : (put m n (b, f')).map (fun p => (nmV p.1, lfPtr p.2)) = m.map (fun p => (nmV p.1, lfPtr p.2)) := by
  induction m with
  | nil => cases h
  | cons p m ih =>
    unfold look at h
    simp only [put]
    by_cases hp : p.1 = n
    · simp [hp] at h
      subst hp
      simp [lfPtr, h]
    · rw [if_neg hp]
      have : look m n = some (b, f) := by unfold look; simpa [hp] using h
      simp [ih this]

theorem put_keys {m : LM} {n : Nm} {v v' : Nat × Lf} (h : look m n = some v) : (put m n v').map (·.1) = m.map (·.1) := by
  induction m with
  | nil => cases h
  | cons p m ih =>
    unfold look at h
    simp only [put]
    by_cases hp : p.1 = n
    · simp [hp]
    · rw [if_neg hp]
      have : look m n = some v := by unfold look; simpa [hp] using h
      simp [ih this]

theorem put_blocks {m : LM} {n : Nm} {b : Nat} {f f' : Lf} (h : look m n = some (b, f)) : (put m n (b, f')).map (·.2.1) = m.map (·.2.1) := by
  induction m with
  | nil => cases h
  | cons p m ih =>
    unfold look at h
    simp only [put]
    by_cases hp : p.1 = n
    · simp [hp] at h
      simp [hp, h]
    · rw [if_neg hp]
      have : look m n = some (b, f) := by unfold look; simpa [hp] using h
      simp [ih this]

theorem put_new {m : LM} {n : Nm} {v : Nat × Lf} (h : look m n = none) : put m n v = m ++ [(n, v)] := by
  induction m with
  | nil => rfl
  | cons p m ih =>
    unfold look at h
    by_cases hp : p.1 = n
    · simp [hp] at h
    · have : look m n = none := by unfold look; simpa [hp] using h
      simp [put, hp, ih this]

theorem look_none_keys {m : LM} {n : Nm} (h : look m n = none) : ∀ p ∈ m, p.1 ≠ n := by
  intro p hp e
  unfold look at h
  simp only [Option.map_eq_none_iff, List.find?_eq_none] at h
  exact h p hp (by simp [e])

/-- In a list whose blocks are apart, whoever lies in b is the one. -/
theorem apart_one {m : LM} (h : m.Pairwise fun p q => p.2.1 ≠ q.2.1) {p q : Nm × (Nat × Lf)} (hp : p ∈ m) (hq : q ∈ m) (e : p.2.1 = q.2.1) : p = q := by
  induction m with
  | nil => cases hp
  | cons x m ih =>
    obtain ⟨h1, h2⟩ := List.pairwise_cons.1 h
    rcases List.mem_cons.1 hp with ep | kp <;> rcases List.mem_cons.1 hq with eq | kq
    · rw [ep, eq]
    · exact absurd (by rw [← ep]; exact e) (h1 q kq)
    · exact absurd (by rw [← eq]; exact e.symm) (h1 p kp)
    · exact ih h2 kp kq

theorem mem_put_other {m : LM} {n : Nm} {v : Nat × Lf} (hk : m.Pairwise fun p q => p.1 ≠ q.1) {p : Nm × (Nat × Lf)} (h : p ∈ put m n v) : p = (n, v) ∨ (p ∈ m ∧ p.1 ≠ n) := by
  induction m with
  | nil => simp [put] at h; exact .inl h
  | cons q m ih =>
    obtain ⟨h1, h2⟩ := List.pairwise_cons.1 hk
    simp only [put] at h
    split at h
    · rename_i hq
      rcases List.mem_cons.1 h with h | h
      · exact .inl h
      · exact .inr ⟨by simp [h], fun e => h1 p h (by rw [hq, e])⟩
    · rename_i hq
      rcases List.mem_cons.1 h with h | h
      · subst h; exact .inr ⟨by simp, hq⟩
      · exact (ih h2 h).imp id (fun h => ⟨by simp [h.1], h.2⟩)

/-- A life is turned. -/
theorem LivesAt.turn {base M : Nat} {W W' : World} {m : LM} (h : LivesAt base M W m) {n : Nm} {b : Nat} {f f' : Lf} (hl : look m n = some (b, f)) (hg : W.grownBy W' (some b)) (hb : W'.heap[b]? = some (.cells f'.arr 86 (0, 0))) :
    LivesAt base M W' (put m n (b, f')) := by
  have hmem := look_mem hl
  have hM : M ≠ b := by
    rintro rfl
    obtain ⟨es, c, h1, _⟩ := h.map
    have := (h.at_ _ hmem).2
    rw [h1] at this
    cases this
  refine ⟨?_, ?_, ?_, ?_, h.low⟩
  · obtain ⟨es, c, h1, h2, h3⟩ := h.map.kept (w' := W') (hg.block _ h.map.lt (fun e => hM (by cases e; rfl)))
    exact ⟨es, c, h1, by rw [h2]; exact (put_same_ptr hl).symm, h3⟩
  · intro p hp
    rcases mem_put_other h.keys hp with rfl | ⟨hp, hne⟩
    · exact ⟨(h.at_ _ hmem).1, hb⟩
    · refine ⟨(h.at_ p hp).1, cells_turn (h.at_ p hp).2 hg (fun e => hne ?_)⟩
      have := apart_one h.apart hp hmem e
      rw [this]
  · have := h.apart
    rw [← List.pairwise_map (f := fun p : Nm × (Nat × Lf) => p.2.1) (R := fun a b => a ≠ b)] at this ⊢
    rwa [put_blocks hl]
  · have := h.keys
    rw [← List.pairwise_map (f := fun p : Nm × (Nat × Lf) => p.1) (R := fun a b => a ≠ b)] at this ⊢
    rwa [put_keys hl]

/-- A new life: the block is laid, then the map is written. -/
theorem LivesAt.born {base M : Nat} {W W' : World} {m : LM} (h : LivesAt base M W m) {n : Nm} {f : Lf} (hl : look m n = none) (hbase : base ≤ W.heap.size) (hg : (W.alloc (.cells f.arr 86)).grownBy W' (some M))
    (hm : MapIs nmV lfPtr W' M (put m n (W.heap.size, f))) : LivesAt base M W' (put m n (W.heap.size, f)) := by
  have hM : M < W.heap.size := h.map.lt
  have hnew : W'.heap[W.heap.size]? = some (.cells f.arr 86 (0, 0)) := cells_turn (heap_alloc_new W _) hg (by omega)
  refine ⟨hm, ?_, ?_, ?_, h.low⟩
  · intro p hp
    rcases mem_put hp with rfl | hp
    · exact ⟨hbase, hnew⟩
    · refine ⟨(h.at_ p hp).1, cells_turn ((Below.heap_alloc W _ _ (lt_of_heap (h.at_ p hp).2)).trans (h.at_ p hp).2) hg (fun e => ?_)⟩
      obtain ⟨es, c, h1, _⟩ := h.map
      have := (h.at_ p hp).2
      rw [e, h1] at this
      cases this
  · rw [put_new hl, List.pairwise_append]
    refine ⟨h.apart, by simp, ?_⟩
    intro p hp q hq
    simp at hq
    subst hq
    have := lt_of_heap (h.at_ p hp).2
    simp
    omega
  · rw [put_new hl, List.pairwise_append]
    refine ⟨h.keys, by simp, ?_⟩
    intro p hp q hq
    simp at hq
    subst hq
    exact look_none_keys hl p hp

theorem LivesAt.kept {base M : Nat} {W W' : World} {m : LM} (h : LivesAt base M W m) (hb : ∀ k, base ≤ k → k < W.heap.size → W'.heap[k]? = W.heap[k]?) : LivesAt base M W' m :=
  ⟨h.map.kept (hb _ h.low h.map.lt), fun p hp => ⟨(h.at_ p hp).1, (hb _ (h.at_ p hp).1 (lt_of_heap (h.at_ p hp).2)).trans (h.at_ p hp).2⟩, h.apart, h.keys, h.low⟩

/-- 'once': a place that is set for the first time. -/
theorem once_any (B o : Nat) (v i : Int) (w : World) (hc : w.cell? ⟨B, o, none⟩ = some (.int .i64 v)) (hf : w.frozen? ⟨B, o, none⟩ = false) :
    Calls Try.prog 68 #[.pointer (some ⟨B, o, none⟩), .int .i64 i] w fun e w' => e = .returned (.bool (v == 0)) ∧ w' = w.setCell ⟨B, o, none⟩ (.int .i64 (wrap64 (i + 1))) := by
  go_enter Try.func68, Try.ntmps68
  go_wp2
  go_ret
  exact ⟨rfl, rfl⟩

end Go.Proofs.Ytgdmgeihgkbjaaa
