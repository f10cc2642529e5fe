/- The order of those that were decided: unique, and what the laws of chapter 27 say of it. -/
import Derived.Test.YtgdmgeihgkbjaaaHist
namespace Go.Proofs.Ytgdmgeihgkbjaaa
open Go.RowKit

/-- Who was decided, in the order of the calls of Commit. -/
def ordR (l : List Sn) : List Nm := (l.filter fun x => decide (x.k = 3) && isC 5 x.n l).map (·.n)

/-- A name has at most one step of a kind that comes once. -/
theorem once_kind {l : List Sn} (h : mayP l = true) {i j : Nat} {x y : Sn} (hi : l[i]? = some x) (hj : l[j]? = some y) (hk : x.k = y.k) (hn : x.n = y.n) (h3 : x.k ≠ 1 ∧ x.k ≠ 2) : i = j := by
  have key : ∀ {i j : Nat} {x y : Sn}, l[i]? = some x → l[j]? = some y → x.k = y.k → x.n = y.n → x.k ≠ 1 ∧ x.k ≠ 2 → i < j → False := by
    intro i j x y hi hj hk hn h3 hlt
    have hs := mayP_at.1 h j y hj
    have hin : isC y.k y.n (l.take j) = true := isC_mem.2 ⟨x, by
      rw [List.mem_iff_getElem?]
      exact ⟨i, by rw [List.getElem?_take, if_pos hlt]; exact hi⟩, hk, hn⟩
    unfold stepOK at hs
    simp only [Bool.and_eq_true] at hs
    obtain ⟨_, hs⟩ := hs
    have h1 : ¬ (y.k = 1 ∨ y.k = 2) := by rw [← hk]; omega
    cases hb : isC 0 y.n (l.take j)
    · rw [hb] at hs
      simp at hs
      rw [hs, hb] at hin
      cases hin
    · rw [hb] at hs
      simp only [cond_true, h1, if_false] at hs
      by_cases k3 : y.k = 3
      · rw [k3] at hin; simp [k3, hin] at hs
      by_cases k4 : y.k = 4
      · rw [k4] at hin; simp [k4, hin] at hs
      by_cases k5 : y.k = 5
      · rw [k5] at hin; simp [k5, hin] at hs
      simp [k3, k4, k5] at hs
  rcases Nat.lt_trichotomy i j with hlt | rfl | hlt
  · exact (key hi hj hk hn h3 hlt).elim
  · rfl
  · exact (key hj hi hk.symm hn.symm (by rw [← hk]; exact h3) hlt).elim

theorem first_at {l : List Sn} (h : mayP l = true) {i : Nat} {x : Sn} (hi : l[i]? = some x) (h3 : x.k ≠ 1 ∧ x.k ≠ 2) : firstAt x.k x.n l 0 = i := by
  have hin : isC x.k x.n l = true := isC_mem.2 ⟨x, List.mem_of_getElem? hi, rfl, rfl⟩
  obtain ⟨q, y, h1, h2, h4, _⟩ := firstAt_yes (i := 0) hin
  obtain ⟨e1, e2⟩ := hit_iff.1 h4
  have := once_kind h hi h2 e1.symm e2.symm h3
  rw [h1, this]; simp

/-- A done name has called Commit. -/
theorem done_commit {l : List Sn} (h : mayP l = true) {n : Nm} (hd : isC 5 n l = true) : isC 3 n l = true := by
  obtain ⟨q, y, h1, h2, h4, _⟩ := firstAt_yes (i := 0) hd
  obtain ⟨e1, e2⟩ := hit_iff.1 h4
  have hs := mayP_at.1 h q y h2
  unfold stepOK at hs
  simp only [Bool.and_eq_true] at hs
  obtain ⟨_, hs⟩ := hs
  cases hb : isC 0 y.n (l.take q)
  · rw [hb] at hs; simp at hs; omega
  · rw [hb] at hs
    simp [e1] at hs
    obtain ⟨x, hx, hk, hn⟩ := isC_mem.1 hs.2
    exact isC_mem.2 ⟨x, List.mem_of_mem_take hx, hk, hn.trans e2⟩

theorem mem_ordR {l : List Sn} (h : mayP l = true) {n : Nm} : n ∈ ordR l ↔ isC 5 n l = true := by
  unfold ordR
  simp only [List.mem_map, List.mem_filter, Bool.and_eq_true, decide_eq_true_eq]
  constructor
  · rintro ⟨x, ⟨_, _, h5⟩, rfl⟩; exact h5
  · intro h5
    obtain ⟨x, hx, hk, hn⟩ := isC_mem.1 (done_commit h h5)
    exact ⟨x, ⟨hx, hk, by rw [hn]; exact h5⟩, hn⟩

theorem pairwise_idx {α : Type} {R : α → α → Prop} : ∀ {l : List α}, (∀ (i j : Nat) (x y : α), l[i]? = some x → l[j]? = some y → i < j → R x y) → l.Pairwise R
  | [], _ => List.Pairwise.nil
  | a :: l, h => List.Pairwise.cons (fun b hb => by
      obtain ⟨j, hj⟩ := List.getElem?_of_mem hb
      exact h 0 (j + 1) a b rfl (by simpa using hj) (by omega)) (pairwise_idx fun i j x y hi hj hlt => h (i + 1) (j + 1) x y (by simpa using hi) (by simpa using hj) (by omega))

/-- The order is strictly by the places of Commit. -/
theorem ordR_sorted {l : List Sn} (h : mayP l = true) : (ordR l).Pairwise fun a b => firstAt 3 a l 0 < firstAt 3 b l 0 := by
  unfold ordR
  rw [List.pairwise_map]
  have : l.Pairwise fun x y => x.k = 3 → y.k = 3 → firstAt 3 x.n l 0 < firstAt 3 y.n l 0 := by
    refine pairwise_idx fun i j x y hi hj hlt hx hy => ?_
    have h1 := first_at h hi (by omega)
    have h2 := first_at h hj (by omega)
    rw [hx] at h1
    rw [hy] at h2
    rw [h1, h2]; omega
  have h2 := this.filter fun x => decide (x.k = 3) && isC 5 x.n l
  refine h2.imp_of_mem ?_
  intro a b ha hb hr
  simp only [List.mem_filter, Bool.and_eq_true, decide_eq_true_eq] at ha hb
  exact hr ha.2.1 hb.2.1

theorem ordR_nodup {l : List Sn} (h : mayP l = true) : (ordR l).Nodup :=
  (ordR_sorted h).imp fun hlt e => by rw [e] at hlt; omega

theorem perm_of_mem {α : Type} [BEq α] [LawfulBEq α] {a b : List α} (ha : a.Nodup) (hb : b.Nodup) (h : ∀ x, x ∈ a ↔ x ∈ b) : a.Perm b := by
  rw [List.perm_iff_count]
  intro x
  rw [ha.count, hb.count]
  simp [h x]

/-- Who sorts the decided by Commit has this order. -/
theorem ord_unique {l : List Sn} (h : mayP l = true) {out : List Nm} (hn : out.Nodup) (hm : ∀ n, n ∈ out ↔ isC 5 n l = true) (hs : out.Pairwise fun a b => firstAt 3 a l 0 ≤ firstAt 3 b l 0) : out = ordR l := by
  have hp : out.Perm (ordR l) := perm_of_mem hn (ordR_nodup h) (fun n => (hm n).trans (mem_ordR h).symm)
  refine hp.eq_of_pairwise (le := fun a b => firstAt 3 a l 0 ≤ firstAt 3 b l 0) ?_ hs ((ordR_sorted h).imp fun hlt => Int.le_of_lt hlt)
  intro a b ha hb hab hba
  have ha' := done_commit h ((hm a).1 ha)
  have hb' := done_commit h ((mem_ordR h).1 hb)
  obtain ⟨q, y, h1, h2, h4, _⟩ := firstAt_yes (i := 0) ha'
  obtain ⟨q', y', h1', h2', h4', _⟩ := firstAt_yes (i := 0) hb'
  have : q = q' := by omega
  subst this
  rw [h2] at h2'
  cases h2'
  exact (hit_iff.1 h4).2.symm.trans (hit_iff.1 h4').2

/-! ### the laws -/

/-- As many are decided as there are steps that say so. -/
theorem ordR_length {l : List Sn} (h : mayP l = true) : (ordR l).length = l.countP fun x => decide (x.k = 5) := by
  have hd : (((l.filter fun x => decide (x.k = 5)).map (·.n))).Nodup := by
    show List.Pairwise _ _
    rw [List.pairwise_map]
    have : l.Pairwise fun x y => x.k = 5 → y.k = 5 → x.n ≠ y.n := by
      refine pairwise_idx fun i j x y hi hj hlt hx hy e => ?_
      have := once_kind h hi hj (hx.trans hy.symm) e (by omega)
      omega
    have h2 := this.filter fun x => decide (x.k = 5)
    refine h2.imp_of_mem ?_
    intro a b ha hb hr
    simp only [List.mem_filter, decide_eq_true_eq] at ha hb
    exact hr ha.2 hb.2
  have hp : (ordR l).Perm ((l.filter fun x => decide (x.k = 5)).map (·.n)) := perm_of_mem (ordR_nodup h) hd (fun n => by
    rw [mem_ordR h, isC_mem]
    simp only [List.mem_map, List.mem_filter, decide_eq_true_eq]
    constructor
    · rintro ⟨x, hx, hk, hn⟩; exact ⟨x, ⟨hx, hk⟩, hn⟩
    · rintro ⟨x, ⟨hx, hk⟩, hn⟩; exact ⟨x, hx, hk, hn⟩)
  rw [hp.length_eq, List.length_map, List.countP_eq_length_filter]

/-- Whoever has a step has begun ahead of it. -/
theorem begin_ahead {l : List Sn} (h : mayP l = true) {i : Nat} {x : Sn} (hi : l[i]? = some x) (h0 : x.k ≠ 0) : firstAt 0 x.n l 0 < i ∧ isC 0 x.n l = true := by
  have hs := mayP_at.1 h i x hi
  unfold stepOK at hs
  simp only [Bool.and_eq_true] at hs
  obtain ⟨_, hs⟩ := hs
  cases hb : isC 0 x.n (l.take i)
  · rw [hb] at hs; simp at hs; exact absurd hs h0
  · obtain ⟨q, y, h1, h2, h4, _⟩ := firstAt_yes (i := 0) hb
    have hlt := (List.getElem?_eq_some_iff.1 h2).1
    rw [List.length_take] at hlt
    have e : firstAt 0 x.n l 0 = firstAt 0 x.n (l.take i) 0 := by
      rw [← List.take_append_drop i l, firstAt_app, List.take_append_drop, if_pos hb]
    refine ⟨by rw [e, h1]; omega, ?_⟩
    rw [← List.take_append_drop i l, isC_append, hb]; rfl

/-- The order extends real time. -/
theorem order_time {l : List Sn} (h : mayP l = true) {a b : Nm} (ha : isC 3 a l = true) (hc : firstAt 3 a l 0 < firstAt 3 b l 0) (h2 : firstAt 4 b l 0 < firstAt 0 a l 0) : ¬ firstAt 3 b l 0 < firstAt 4 b l 0 := by
  obtain ⟨q, y, e1, e2, e3, _⟩ := firstAt_yes (i := 0) ha
  obtain ⟨k1, rfl⟩ := hit_iff.1 e3
  have := (begin_ahead h e2 (by omega)).1
  omega

theorem filter_sub {α : Type} {p q : α → Bool} : ∀ (l : List α), (∀ x, p x = true → q x = true) → (l.filter p).Sublist (l.filter q)
  | [], _ => List.Sublist.slnil
  | x :: l, h => by
    have ih := filter_sub l h
    cases hp : p x with
    | true => rw [List.filter_cons_of_pos hp, List.filter_cons_of_pos (h x hp)]; exact ih.cons_cons x
    | false =>
      rw [List.filter_cons_of_neg (by simp [hp])]
      cases hq : q x with
      | true => rw [List.filter_cons_of_pos hq]; exact ih.cons x
      | false => rw [List.filter_cons_of_neg (by simp [hq])]; exact ih

/-- A head's order is a part of the whole's. -/
theorem ordR_take {l : List Sn} (n : Nat) : (ordR (l.take n)).Sublist (ordR l) := by
  unfold ordR
  refine List.Sublist.map _ ?_
  refine List.Sublist.trans (l₂ := (l.take n).filter fun x => decide (x.k = 3) && isC 5 x.n l) ?_ ((List.take_sublist n l).filter _)
  refine filter_sub (l.take n) ?_
  intro x hx
  simp only [Bool.and_eq_true, decide_eq_true_eq] at hx ⊢
  refine ⟨hx.1, ?_⟩
  rw [← List.take_append_drop n l, isC_append, hx.2]; rfl

/-- Going over b, how many of a were met. -/
def metF (a : List Nm) : List Nm → Nat → Nat
  | [], at_ => at_
  | x :: b, at_ => metF a b (if a[at_]? = some x then at_ + 1 else at_)

theorem metF_sub : ∀ (b a : List Nm) (k : Nat), (a.drop k).Sublist b → k ≤ a.length → metF a b k = a.length
  | [], a, k, h, hk => by
    have := List.sublist_nil.1 h
    simp [metF]
    have := congrArg List.length this
    simp at this; omega
  | x :: b, a, k, h, hk => by
    unfold metF
    by_cases hx : a[k]? = some x
    · rw [if_pos hx]
      refine metF_sub b a (k + 1) ?_ (List.getElem?_eq_some_iff.1 hx).1
      have e := drop_cons hx
      rw [e] at h
      exact List.cons_sublist_cons.1 h
    · rw [if_neg hx]
      refine metF_sub b a k ?_ hk
      cases hd : a.drop k with
      | nil => exact List.nil_sublist _
      | cons y r =>
        rw [hd] at h
        have hy : a[k]? = some y := by
          have := congrArg (fun t => t[0]?) hd
          simpa using this
        rcases List.sublist_cons_iff.1 h with h | ⟨r', e, h⟩
        · exact h
        · cases e
          exact absurd hy hx

end Go.Proofs.Ytgdmgeihgkbjaaa
