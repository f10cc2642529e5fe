/- Two transactions that do not clash may be done in either order: the plain law. -/
import Derived.Test.YtgdmgeihgkbjaaaClash
import Derived.Test.YtgdmgeihgkbjaaaTouchLaw
namespace Go.Proofs.Ytgdmgeihgkbjaaa

theorem fillX_k (s : List V8) (x : Sn) : (fillX s x).k = x.k := by unfold fillX; split <;> rfl
theorem fillX_b (s : List V8) (x : Sn) : (fillX s x).b = x.b := by unfold fillX; split <;> rfl
theorem stepSt_fill (s t : List V8) (x : Sn) : stepSt s (fillX t x) = stepSt s x := by
  unfold stepSt
  rw [fillX_k]
  split
  · rename_i hk
    simp [fillX, hk]
  · rfl

theorem fillX_fill (s : List V8) (x : Sn) : fillX s (fillX s x) = fillX s x := by
  unfold fillX
  by_cases hk : x.k = 2 <;> simp [hk]

theorem fillL_fill : ∀ (l : List Sn) (s : List V8), fillL s (fillL s l) = fillL s l
  | [], _ => rfl
  | x :: l, s => by simp only [fillL, fillX_fill, stepSt_fill, fillL_fill l]

theorem foldSt_fill : ∀ (l : List Sn) (s t : List V8), foldSt s (fillL t l) = foldSt s l
  | [], _, _ => rfl
  | x :: l, s, t => by
    simp only [fillL, foldSt, List.foldl_cons, stepSt_fill]
    exact foldSt_fill l (stepSt s x) (stepSt t x)

theorem mayL_fill : ∀ (l : List Sn) (s : List V8), mayL (fillL s l) = mayL l
  | [], _ => rfl
  | x :: l, s => by
    have := mayL_fill l (stepSt s x)
    unfold mayL at this ⊢
    simp only [fillL, List.all_cons, this, Sn.ok, Sn.rw, Sn.inB, fillX_k, fillX_b]

theorem toldP_self (m : List Sn) : toldP m (stepsOf m 0) = true := by
  unfold toldP
  rw [List.all_eq_true]
  rintro ⟨i, x⟩ hp
  have := (stepsOf_at m 0 i x hp).2
  simp only [Nat.sub_zero] at this
  simp [this]

/-- The block k is read ahead of a write of its own. -/
def rdB : List Sn → Int → Bool
  | [], _ => false
  | x :: r, k => if x.b = k then (if x.k = 2 then false else true) else rdB r k

theorem rdB_cons (x : Sn) (r : List Sn) (k : Int) : rdB (x :: r) k = if x.b = k then (if x.k = 2 then false else true) else rdB r k := rfl

theorem touch_reads (l : List Sn) (k : Int) : has (touchL l).1 k = rdB l k := by
  have gen : ∀ (l : List Sn) (p : IB × IB), has (l.foldl touchSt p).1 k = (has p.1 k || (!has p.2 k && rdB l k)) := by
    intro l
    induction l with
    | nil => intro p; simp [rdB]
    | cons x l ih =>
      intro p
      rw [List.foldl_cons, ih]
      unfold touchSt
      rw [rdB_cons]
      by_cases hk : x.k = 2
      · rw [if_pos hk]
        by_cases hb : x.b = k
        · simp [has_put, hb, hk]
        · simp [has_put, hb]
      · rw [if_neg hk]
        by_cases hh : has p.2 x.b = true
        · rw [if_pos hh]
          by_cases hb : x.b = k
          · subst hb; simp [hh]
          · simp [hb]
        · rw [if_neg hh]
          by_cases hb : x.b = k
          · subst hb
            simp only [has_put, hk, if_true, if_false, decide_true, Bool.true_or, Bool.and_true]
            simp at hh
            simp [hh]
          · simp [has_put, hb]
  have := gen l ([], [])
  simpa [touchL, has, look_nil] using this

theorem fillL_same : ∀ (l : List Sn) (s t : List V8), s.length = 32 → t.length = 32 → (∀ x ∈ l, 0 ≤ x.b) → (∀ k : Nat, rdB l k = true → s[k]? = t[k]?) → fillL s l = fillL t l
  | [], _, _, _, _, _, _ => rfl
  | x :: l, s, t, hs, ht, hb, h => by
    have hx := hb x (by simp)
    have hcast : ((x.b.toNat : Nat) : Int) = x.b := by omega
    have h1 : fillX s x = fillX t x := by
      unfold fillX
      by_cases hk : x.k = 2
      · simp [hk]
      · have := h x.b.toNat (by simp [rdB, hcast, hk])
        simp [hk, this]
    have h2 : fillL (stepSt s x) l = fillL (stepSt t x) l := by
      refine fillL_same l _ _ (by rw [stepSt_length, hs]) (by rw [stepSt_length, ht]) (fun y hy => hb y (by simp [hy])) (fun k hk => ?_)
      by_cases hk2 : x.k = 2
      · simp only [stepSt, hk2, if_true]
        by_cases hkb : x.b.toNat = k
        · rw [hkb, List.getElem?_set, List.getElem?_set]
          simp [hs, ht]
        · rw [List.getElem?_set_ne hkb, List.getElem?_set_ne hkb]
          refine h k ?_
          have : ¬ x.b = (k : Int) := by omega
          simp [rdB, this, hk]
      · simp only [stepSt, hk2, if_false]
        refine h k ?_
        by_cases hkb : x.b = (k : Int)
        · simp [rdB, hkb, hk2]
        · simp [rdB, hkb, hk]
    simp only [fillL, h1, h2]

theorem foldSt_at (k : Nat) : ∀ (l : List Sn) (s t : List V8), s.length = t.length → s[k]? = t[k]? → (foldSt s l)[k]? = (foldSt t l)[k]?
  | [], _, _, _, h => h
  | x :: l, s, t, hl, h => by
    refine foldSt_at k l (stepSt s x) (stepSt t x) (by rw [stepSt_length, stepSt_length, hl]) ?_
    unfold stepSt
    split
    · by_cases hkb : x.b.toNat = k
      · simp [List.getElem?_set, hkb, hl]
      · rw [List.getElem?_set_ne hkb, List.getElem?_set_ne hkb, h]
    · exact h

theorem meetL_false {x y : List Int} (h : meetL x y = false) (k : Nat) (hk : k < 32) : ¬ ((k : Int) ∈ x ∧ (k : Int) ∈ y) := by
  unfold meetL at h
  simp only [Bool.not_eq_false', decide_eq_true_eq] at h
  intro ⟨h1, h2⟩
  have := congrArg (fun l => l[k]?) h
  simp only [andL, List.getElem?_zipWith, mkL, List.getElem?_map, List.getElem?_range hk, Option.map_some, noB, List.getElem?_replicate, if_pos hk] at this
  simp [h1, h2] at this

theorem meetL_comm (x y : List Int) : meetL x y = meetL y x := by
  unfold meetL
  have : andL (mkL x) (mkL y) = andL (mkL y) (mkL x) := by
    unfold andL
    rw [List.zipWith_comm]
    congr 1
    funext a b
    exact Bool.and_comm _ _
  rw [this]

theorem clashL_comm (x y : List Sn) : clashL x y = clashL y x := by
  unfold clashL
  rw [meetL_comm (writesL y) (writesL x), meetL_comm (writesL y) (readsL x), meetL_comm (readsL y) (writesL x)]
  cases meetL (writesL x) (writesL y) <;> cases meetL (writesL x) (readsL y) <;> cases meetL (readsL x) (writesL y) <;> rfl

theorem readsL_mem {l : List Sn} (h : mayL l = true) (k : Nat) (hk : k < 32) : ((k : Int) ∈ readsL l) ↔ rdB l k = true := by
  unfold readsL
  rw [mem_upTo _ _ _ hk, touch_reads, stepsOf_all l 0 h]

/-- What x writes, y does not read ahead of a write of its own: y is filled alike ahead of x and behind. -/
theorem fill_apart {x y : List Sn} (hx : mayL x = true) (hy : mayL y = true) (h : meetL (writesL x) (readsL y) = false) (s : List V8) (hs : s.length = 32) : fillL (foldSt s x) y = fillL s y := by
  refine fillL_same y _ _ (by rw [foldSt_length, hs]) hs (fun z hz => (mayL_mem hy hz).2.1) (fun k hk => ?_)
  by_cases hk32 : k < 32
  · refine foldSt_get k x s ?_ (fun z hz => (mayL_mem hx hz).2.1)
    cases hw : x.any (isW k) with
    | false => rfl
    | true => exact absurd ⟨(writesL_mem hx k hk32).2 hw, (readsL_mem hy k hk32).2 hk⟩ (meetL_false h k hk32)
  · rw [List.getElem?_eq_none (by rw [foldSt_length]; omega), List.getElem?_eq_none (by omega)]

theorem fold_apart {x y : List Sn} (hx : mayL x = true) (hy : mayL y = true) (h : meetL (writesL x) (writesL y) = false) (s : List V8) (hs : s.length = 32) : foldSt (foldSt s x) y = foldSt (foldSt s y) x := by
  apply List.ext_getElem?
  intro k
  by_cases hk : k < 32
  · cases hwy : y.any (isW k) with
    | false =>
      rw [foldSt_get k y _ hwy (fun z hz => (mayL_mem hy hz).2.1)]
      exact foldSt_at k x s (foldSt s y) (by rw [foldSt_length]) (foldSt_get k y s hwy (fun z hz => (mayL_mem hy hz).2.1)).symm
    | true =>
      have hwx : x.any (isW k) = false := by
        cases hw : x.any (isW k) with
        | false => rfl
        | true => exact absurd ⟨(writesL_mem hx k hk).2 hw, (writesL_mem hy k hk).2 hwy⟩ (meetL_false h k hk)
      rw [foldSt_get k x _ hwx (fun z hz => (mayL_mem hx hz).2.1)]
      exact foldSt_at k y (foldSt s x) s (by rw [foldSt_length]) (foldSt_get k x s hwx (fun z hz => (mayL_mem hx hz).2.1))
  · rw [List.getElem?_eq_none (by rw [foldSt_length, foldSt_length]; omega), List.getElem?_eq_none (by rw [foldSt_length, foldSt_length]; omega)]

/-- **The law.** -/
theorem swap_law {x y : List Sn} (hx : mayL x = true) (hy : mayL y = true) (h : clashL x y = false) (s : List V8) (hs : s.length = 32) :
    allF s true 0 [fillL s x, fillL (foldSt s x) y] = (foldSt (foldSt s x) y, 2) ∧ allF s true 0 [fillL (foldSt s x) y, fillL s x] = (foldSt (foldSt s x) y, 2) := by
  simp only [clashL, Bool.or_eq_false_iff] at h
  obtain ⟨⟨h1, h2⟩, h3⟩ := h
  have e1 := fill_apart hx hy h2 s hs
  have e2 := fill_apart hy hx (by rw [meetL_comm]; exact h3) s hs
  have e3 := fold_apart hx hy h1 s hs
  constructor
  · simp only [allF, fillL_fill, foldSt_fill, toldP_self, Bool.and_self, if_true, Nat.zero_add, Nat.reduceAdd]
  · rw [e1]
    simp only [allF, fillL_fill, foldSt_fill, toldP_self, Bool.and_self, if_true, Nat.zero_add, Nat.reduceAdd]
    have e4 : fillL (foldSt s y) (fillL s x) = fillL s x := by rw [← e2, fillL_fill]
    rw [e4, toldP_self, ← e3]
    rfl

end Go.Proofs.Ytgdmgeihgkbjaaa
