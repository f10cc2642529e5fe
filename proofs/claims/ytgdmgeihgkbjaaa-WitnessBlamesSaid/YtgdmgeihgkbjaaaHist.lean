/- Histories that may be, and the order of those that were decided: the plain law. -/
import Derived.Test.YtgdmgeihgkbjaaaLife
import Derived.Test.YtgdmgeihgkbjaaaScan
namespace Go.Proofs.Ytgdmgeihgkbjaaa
open Go.RowKit

/-- Has n a step of kind k in p? -/
def isC (k : Int) (n : Nm) (p : List Sn) : Bool := p.any (hit k n)

theorem isC_append (k : Int) (n : Nm) (p r : List Sn) : isC k n (p ++ r) = (isC k n p || isC k n r) := by simp [isC]
theorem isC_nil (k : Int) (n : Nm) : isC k n [] = false := rfl
theorem isC_cons (k : Int) (n : Nm) (x : Sn) (r : List Sn) : isC k n (x :: r) = (hit k n x || isC k n r) := rfl
theorem isC_one (k : Int) (n : Nm) (x : Sn) : isC k n [x] = hit k n x := by simp [isC]
theorem isC_mem {k : Int} {n : Nm} {p : List Sn} : isC k n p = true ↔ ∃ x ∈ p, x.k = k ∧ x.n = n := by
  simp [isC, hit]

theorem firstAt_no {k : Int} {n : Nm} : ∀ {l : List Sn} {i : Nat}, isC k n l = false → firstAt k n l i = -1
  | [], _, _ => rfl
  | x :: r, i, h => by
    rw [isC_cons, Bool.or_eq_false_iff] at h
    rw [firstAt, h.1]
    simpa using firstAt_no h.2

theorem firstAt_yes {k : Int} {n : Nm} : ∀ {l : List Sn} {i : Nat}, isC k n l = true → ∃ q x, firstAt k n l i = ((i + q : Nat) : Int) ∧ l[q]? = some x ∧ hit k n x = true ∧ isC k n (l.take q) = false
  | [], _, h => by cases h
  | x :: r, i, h => by
    rw [isC_cons] at h
    by_cases hx : hit k n x = true
    · exact ⟨0, x, by simp [firstAt, hx], rfl, hx, rfl⟩
    · have hx' : hit k n x = false := by simpa using hx
      rw [hx', Bool.false_or] at h
      obtain ⟨q, y, h1, h2, h3, h4⟩ := firstAt_yes (i := i + 1) h
      refine ⟨q + 1, y, ?_, by simpa using h2, h3, by simp [isC_cons, hx', h4]⟩
      simp only [firstAt, hx', Bool.false_eq_true, if_false, h1]
      omega

theorem firstAt_app {k : Int} {n : Nm} : ∀ {p r : List Sn} {i : Nat}, firstAt k n (p ++ r) i = if isC k n p then firstAt k n p i else firstAt k n r (i + p.length)
  | [], r, i => by simp [isC_nil]
  | x :: p, r, i => by
    simp only [List.cons_append, firstAt, isC_cons]
    by_cases hx : hit k n x = true
    · simp [hx]
    · have hx' : hit k n x = false := by simpa using hx
      simp only [hx', Bool.false_eq_true, if_false, Bool.false_or, firstAt_app (p := p), List.length_cons]
      rw [show i + 1 + p.length = i + (p.length + 1) by omega]

theorem firstAt_ge {k : Int} {n : Nm} {l : List Sn} : isC k n l = true ↔ 0 ≤ firstAt k n l 0 := by
  cases h : isC k n l with
  | false => rw [firstAt_no h]; simp
  | true =>
    obtain ⟨q, x, h1, _⟩ := firstAt_yes (i := 0) h
    rw [h1]; simp

theorem firstAt_lt {k : Int} {n : Nm} {l : List Sn} : firstAt k n l 0 < l.length := by
  cases h : isC k n l with
  | false => rw [firstAt_no h]; omega
  | true =>
    obtain ⟨q, x, h1, h2, _⟩ := firstAt_yes (i := 0) h
    have := (List.getElem?_eq_some_iff.1 h2).1
    rw [h1]; omega

theorem firstAt_snoc {k : Int} {n : Nm} {p : List Sn} {x : Sn} : firstAt k n (p ++ [x]) 0 = if isC k n p then firstAt k n p 0 else if hit k n x then (p.length : Int) else -1 := by
  rw [firstAt_app]
  split
  · rfl
  · simp [firstAt]

/-- May x be the next step behind p? -/
def stepOK (p : List Sn) (x : Sn) : Bool :=
  x.n.good && (bif isC 0 x.n p then
    (if x.k = 1 ∨ x.k = 2 then !isC 3 x.n p && decide (0 ≤ x.b ∧ x.b < 32)
     else if x.k = 3 then !isC 3 x.n p
     else if x.k = 4 then !isC 4 x.n p && (decide (x.e ≠ 0) || isC 3 x.n p)
     else if x.k = 5 then !isC 5 x.n p && isC 3 x.n p
     else false)
    else decide (x.k = 0))

def mayF : List Sn → List Sn → Bool
  | _, [] => true
  | p, x :: r => stepOK p x && mayF (p ++ [x]) r

/-- May the history be? -/
def mayP (l : List Sn) : Bool := mayF [] l

/-- What the lives hold behind p. -/
def LvInv (p : List Sn) (m : List (Nm × Lf)) : Prop :=
  (∀ n, look m n = if isC 0 n p then some ⟨firstAt 0 n p 0 + 1, firstAt 3 n p 0 + 1, firstAt 4 n p 0 + 1, firstAt 5 n p 0 + 1⟩ else none) ∧ ∀ n, isC 0 n p = false → ∀ k, isC k n p = false

theorem lvInv_nil : LvInv [] [] := ⟨fun _ => rfl, fun _ _ _ => rfl⟩

theorem hit_iff {k : Int} {n : Nm} {x : Sn} : hit k n x = true ↔ x.k = k ∧ x.n = n := by simp [hit]
theorem hit_no {k : Int} {n : Nm} {x : Sn} (h : ¬ (x.k = k ∧ x.n = n)) : hit k n x = false := by
  cases e : hit k n x with
  | false => rfl
  | true => exact absurd (hit_iff.1 e) h

theorem fa_zero {k : Int} {n : Nm} {p : List Sn} : firstAt k n p 0 + 1 = 0 ↔ isC k n p = false := by
  cases h : isC k n p with
  | false => rw [firstAt_no h]; simp
  | true => have := firstAt_ge.1 h; simp; omega

theorem fa_pos {k : Int} {n : Nm} {p : List Sn} : 0 < firstAt k n p 0 + 1 ↔ isC k n p = true := by
  rw [firstAt_ge]; omega

theorem livP_step {p : List Sn} {m : List (Nm × Lf)} (h : LvInv p m) (x : Sn) :
    (stepOK p x = true → ∃ m', livP p.length x m = some m' ∧ LvInv (p ++ [x]) m') ∧ (stepOK p x = false → livP p.length x m = none) := by
  obtain ⟨h1, h2⟩ := h
  unfold stepOK livP
  cases hg : x.n.good
  · simp
  simp only [Bool.true_and, if_true]
  have hl := h1 x.n
  cases hb : isC 0 x.n p
  · rw [hb] at hl
    simp only [Bool.false_eq_true, if_false] at hl
    rw [hl]
    by_cases hk : x.k = 0
    · simp only [hk, decide_true, cond_false, forall_const, if_true, Bool.true_eq_false, false_implies, and_true]
      refine ⟨_, rfl, fun n => ?_, fun n hn k => ?_⟩
      · rw [look_put]
        by_cases hn : x.n = n
        · subst hn
          have e0 : hit 0 x.n x = true := hit_iff.2 ⟨hk, rfl⟩
          have e3 : hit 3 x.n x = false := hit_no (by omega)
          have e4 : hit 4 x.n x = false := hit_no (by omega)
          have e5 : hit 5 x.n x = false := hit_no (by omega)
          simp only [if_true, isC_append, isC_one, e0, Bool.or_true, firstAt_snoc, hb, h2 x.n hb, e3, e4, e5, Bool.false_eq_true, if_false]
          rfl
        · have e : ∀ k, hit k n x = false := fun k => hit_no (fun h => hn h.2)
          simp only [hn, if_false, h1, isC_append, isC_one, e, Bool.or_false, firstAt_snoc]
          split
          · congr 2 <;> (split <;> (try rfl); rename_i h; rw [firstAt_no (by simpa using h)]; rfl)
          · rfl
      · rw [isC_append, isC_one] at hn ⊢
        rw [Bool.or_eq_false_iff] at hn
        have hne : x.n ≠ n := fun e => by
          have := hit_iff.2 ⟨hk, e⟩
          rw [this] at hn; cases hn.2
        rw [h2 n hn.1 k, hit_no (fun h => hne h.2)]; rfl
    · simp [hk]
  · rw [hb] at hl
    simp only [if_true] at hl
    rw [hl]
    simp only [cond_true]
    -- a turned life
    have upd : ∀ (k : Int) (f' : Lf), x.k = k → (k = 3 ∨ k = 4 ∨ k = 5) → isC k x.n p = false →
        f' = ⟨firstAt 0 x.n p 0 + 1, (if k = 3 then (p.length : Int) + 1 else firstAt 3 x.n p 0 + 1), (if k = 4 then (p.length : Int) + 1 else firstAt 4 x.n p 0 + 1), (if k = 5 then (p.length : Int) + 1 else firstAt 5 x.n p 0 + 1)⟩ → LvInv (p ++ [x]) (put m x.n f') := by
      intro k f' hk hk' hno hf'
      refine ⟨fun n => ?_, fun n hn k' => ?_⟩
      · rw [look_put]
        by_cases hn : x.n = n
        · subst hn
          have e0 : hit 0 x.n x = false := hit_no (by omega)
          simp only [if_true, isC_append, isC_one, hb, Bool.true_or, firstAt_snoc, hf']
          rcases hk' with rfl | rfl | rfl
          · have e4 : hit 4 x.n x = false := hit_no (by omega)
            have e5 : hit 5 x.n x = false := hit_no (by omega)
            have e3 : hit 3 x.n x = true := hit_iff.2 ⟨hk, rfl⟩
            simp only [hno, e3, e4, e5, Bool.false_eq_true, if_false, if_true]
            have g : ∀ j, (if isC j x.n p = true then firstAt j x.n p 0 else -1) = firstAt j x.n p 0 := fun j => by
              split
              · rfl
              · rename_i h; rw [firstAt_no (by simpa using h)]
            simp [g]
          · have e3 : hit 3 x.n x = false := hit_no (by omega)
            have e5 : hit 5 x.n x = false := hit_no (by omega)
            have e4 : hit 4 x.n x = true := hit_iff.2 ⟨hk, rfl⟩
            simp only [hno, e3, e4, e5, Bool.false_eq_true, if_false, if_true]
            have g : ∀ j, (if isC j x.n p = true then firstAt j x.n p 0 else -1) = firstAt j x.n p 0 := fun j => by
              split
              · rfl
              · rename_i h; rw [firstAt_no (by simpa using h)]
            simp [g]
          · have e3 : hit 3 x.n x = false := hit_no (by omega)
            have e4 : hit 4 x.n x = false := hit_no (by omega)
            have e5 : hit 5 x.n x = true := hit_iff.2 ⟨hk, rfl⟩
            simp only [hno, e3, e4, e5, Bool.false_eq_true, if_false, if_true]
            have g : ∀ j, (if isC j x.n p = true then firstAt j x.n p 0 else -1) = firstAt j x.n p 0 := fun j => by
              split
              · rfl
              · rename_i h; rw [firstAt_no (by simpa using h)]
            simp [g]
        · have e : ∀ k, hit k n x = false := fun k => hit_no (fun h => hn h.2)
          simp only [hn, if_false, h1, isC_append, isC_one, e, Bool.or_false, firstAt_snoc]
          split
          · congr 2 <;> (split <;> (try rfl); rename_i h; rw [firstAt_no (by simpa using h)]; rfl)
          · rfl
      · rw [isC_append, isC_one] at hn ⊢
        rw [Bool.or_eq_false_iff] at hn
        have hne : x.n ≠ n := fun e => by rw [← e, hb] at hn; cases hn.1
        rw [h2 n hn.1 k', hit_no (fun h => hne h.2)]; rfl
    by_cases k12 : x.k = 1 ∨ x.k = 2
    · simp only [k12, if_true]
      by_cases hc : isC 3 x.n p = false ∧ 0 ≤ x.b ∧ x.b < 32
      · obtain ⟨c1, c2, c3⟩ := hc
        simp only [c1, c2, c3, fa_zero.2 c1, Bool.not_false, Bool.true_and, and_self, decide_true, if_true, forall_const, Bool.true_eq_false, false_implies, and_true]
        refine ⟨m, rfl, fun n => ?_, fun n hn k => ?_⟩
        · have e : ∀ k, k = 0 ∨ k = 3 ∨ k = 4 ∨ k = 5 → hit k n x = false := fun k hk => hit_no (fun h => by omega)
          rw [h1, isC_append, isC_one, e 0 (by simp), Bool.or_false]
          simp only [firstAt_snoc, e 0 (by simp), e 3 (by simp), e 4 (by simp), e 5 (by simp)]
          split
          · congr 2 <;> (split <;> (try rfl); rename_i h; rw [firstAt_no (by simpa using h)]; rfl)
          · rfl
        · rw [isC_append, isC_one] at hn ⊢
          rw [Bool.or_eq_false_iff] at hn
          have hne : x.n ≠ n := fun e => by rw [← e, hb] at hn; cases hn.1
          rw [h2 n hn.1 k, hit_no (fun h => hne h.2)]; rfl
      · have h' : ¬ (firstAt 3 x.n p 0 + 1 = 0 ∧ 0 ≤ x.b ∧ x.b < 32) := fun h => hc ⟨fa_zero.1 h.1, h.2⟩
        rw [if_neg h']
        refine ⟨fun h => ?_, fun _ => rfl⟩
        exfalso; apply hc
        simpa using h
    simp only [k12, if_false]
    by_cases k3 : x.k = 3
    · simp only [k3, if_true]
      cases hc : isC 3 x.n p
      · simp only [fa_zero.2 hc, if_true, Bool.not_false, forall_const, Bool.true_eq_false, false_implies, and_true]
        exact ⟨_, rfl, upd 3 _ k3 (.inl rfl) hc rfl⟩
      · have : ¬ firstAt 3 x.n p 0 + 1 = 0 := fun h => by rw [fa_zero.1 h] at hc; cases hc
        simp [this]
    simp only [k3, if_false]
    by_cases k4 : x.k = 4
    · simp only [k4, if_true]
      cases hc : isC 4 x.n p
      · by_cases he : x.e ≠ 0 ∨ isC 3 x.n p = true
        · have he' : x.e ≠ 0 ∨ 0 < firstAt 3 x.n p 0 + 1 := he.imp id fa_pos.2
          have heb : (decide (x.e ≠ 0) || isC 3 x.n p) = true := by simpa using he
          rw [if_pos ⟨fa_zero.2 hc, he'⟩, heb]
          exact ⟨fun _ => ⟨_, rfl, upd 4 _ k4 (.inr (.inl rfl)) hc rfl⟩, fun h => by cases h⟩
        · have he' : ¬ (x.e ≠ 0 ∨ 0 < firstAt 3 x.n p 0 + 1) := fun h => he (h.imp id fa_pos.1)
          have heb : (decide (x.e ≠ 0) || isC 3 x.n p) = false := by
            cases hh : (decide (x.e ≠ 0) || isC 3 x.n p) with
            | false => rfl
            | true => exact absurd (by simpa using hh) he
          rw [if_neg (fun h => he' h.2), heb]
          exact ⟨fun h => by simp at h, fun _ => rfl⟩
      · have : ¬ firstAt 4 x.n p 0 + 1 = 0 := fun h => by rw [fa_zero.1 h] at hc; cases hc
        rw [if_neg (fun h => this h.1)]
        simp
    simp only [k4, if_false]
    by_cases k5 : x.k = 5
    · simp only [k5, if_true]
      cases hc : isC 5 x.n p
      · cases h3 : isC 3 x.n p
        · have : ¬ 0 < firstAt 3 x.n p 0 + 1 := fun h => by rw [fa_pos.1 h] at h3; cases h3
          rw [if_neg (fun h => this h.2)]
          simp
        · rw [if_pos ⟨fa_zero.2 hc, fa_pos.2 h3⟩]
          exact ⟨fun _ => ⟨_, rfl, upd 5 _ k5 (.inr (.inr rfl)) hc rfl⟩, fun h => by simp at h⟩
      · have : ¬ firstAt 5 x.n p 0 + 1 = 0 := fun h => by rw [fa_zero.1 h] at hc; cases hc
        rw [if_neg (fun h => this h.1)]
        simp
    simp [k5]

theorem livesF_step : ∀ (r p : List Sn) (m : List (Nm × Lf)), LvInv p m →
    (mayF p r = true → ∃ m', livesF p.length r m = some m' ∧ LvInv (p ++ r) m') ∧ (mayF p r = false → livesF p.length r m = none)
  | [], p, m, h => by simpa [mayF, livesF] using h
  | x :: r, p, m, h => by
    obtain ⟨s1, s2⟩ := livP_step h x
    unfold mayF livesF
    cases hs : stepOK p x
    · simp [s2 hs]
    · obtain ⟨m', e, h'⟩ := s1 hs
      have := livesF_step r (p ++ [x]) m' h'
      simpa [e] using this

/-- The lives, by the history's own words. -/
theorem lives_may {l : List Sn} (h : mayP l = true) : ∃ m, livesP l = some m ∧ LvInv l m := by
  obtain ⟨m, h1, h2⟩ := (livesF_step l [] [] lvInv_nil).1 h
  exact ⟨m, h1, by simpa using h2⟩
theorem lives_no {l : List Sn} (h : mayP l = false) : livesP l = none := (livesF_step l [] [] lvInv_nil).2 h
theorem may_of_lives {l : List Sn} {m : List (Nm × Lf)} (h : livesP l = some m) : mayP l = true ∧ LvInv l m := by
  cases hm : mayP l with
  | false => rw [lives_no hm] at h; cases h
  | true =>
    obtain ⟨m', e, h'⟩ := lives_may hm
    rw [h] at e; cases e
    exact ⟨rfl, h'⟩

/-! ### what may be, place by place -/

theorem mayF_app : ∀ (q p r : List Sn), mayF p (q ++ r) = (mayF p q && mayF (p ++ q) r)
  | [], p, r => by simp [mayF]
  | x :: q, p, r => by
    simp only [List.cons_append, mayF, mayF_app q, List.append_assoc, Bool.and_assoc, List.nil_append]

theorem mayP_take {l : List Sn} (h : mayP l = true) (n : Nat) : mayP (l.take n) = true := by
  unfold mayP at h ⊢
  rw [← List.take_append_drop n l, mayF_app] at h
  simp at h
  exact h.1

theorem mayF_at : ∀ (r p : List Sn), mayF p r = true ↔ ∀ i x, r[i]? = some x → stepOK (p ++ r.take i) x = true
  | [], p => by simp [mayF]
  | y :: r, p => by
    simp only [mayF, Bool.and_eq_true, mayF_at r]
    constructor
    · rintro ⟨h0, h⟩ i x hx
      cases i with
      | zero => simp at hx; subst hx; simpa using h0
      | succ i => have := h i x (by simpa using hx); simpa using this
    · intro h
      refine ⟨by simpa using h 0 y rfl, fun i x hx => ?_⟩
      have := h (i + 1) x (by simpa using hx)
      simpa using this

theorem mayP_at {l : List Sn} : mayP l = true ↔ ∀ i x, l[i]? = some x → stepOK (l.take i) x = true := by
  have := mayF_at l []
  unfold mayP
  simpa using this

end Go.Proofs.Ytgdmgeihgkbjaaa
