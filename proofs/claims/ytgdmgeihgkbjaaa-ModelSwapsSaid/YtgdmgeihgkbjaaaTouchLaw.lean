/- What the blocks read and written are; what is not written stays. -/
import Derived.Test.YtgdmgeihgkbjaaaTouch
namespace Go.Proofs.Ytgdmgeihgkbjaaa

def isW (k : Int) (x : Sn) : Bool := decide (x.k = 2) && decide (x.b = k)

theorem has_put (m : IB) (b k : Int) : has (put m b true) k = (decide (b = k) || has m k) := by
  unfold has
  rw [look_put]
  by_cases h : b = k <;> simp [h]

theorem touch_writes (l : List Sn) (k : Int) : has (touchL l).2 k = l.any (isW k) := by
  have gen : ∀ (l : List Sn) (p : IB × IB), has (l.foldl touchSt p).2 k = (has p.2 k || l.any (isW k)) := by
    intro l
    induction l with
    | nil => intro p; simp
    | cons x l ih =>
      intro p
      rw [List.foldl_cons, ih, List.any_cons, ← Bool.or_assoc]
      congr 1
      unfold touchSt isW
      by_cases hk : x.k = 2
      · rw [if_pos hk, has_put]; simp [hk, Bool.or_comm]
      · rw [if_neg hk]; split <;> simp [hk]
  have := gen l ([], [])
  simpa [touchL, has, look_nil] using this

theorem mem_upTo (f : Int → Bool) (q : Nat) (k : Nat) (hk : k < q) : ((k : Int) ∈ upTo f q) ↔ f k = true := by
  unfold upTo
  simp only [List.mem_filter, List.mem_map, List.mem_range]
  constructor
  · exact fun h => h.2
  · exact fun h => ⟨⟨k, hk, rfl⟩, h⟩

theorem stepSt_get (s : List V8) (x : Sn) (k : Nat) (h : isW k x = false) (hx : 0 ≤ x.b) : (stepSt s x)[k]? = s[k]? := by
  unfold stepSt
  split
  · rename_i hk
    have : x.b.toNat ≠ k := by
      intro e
      simp [isW, hk] at h
      omega
    rw [List.getElem?_set_ne this]
  · rfl

theorem foldSt_get (k : Nat) : ∀ (l : List Sn) (s : List V8), l.any (isW k) = false → (∀ x ∈ l, 0 ≤ x.b) → (foldSt s l)[k]? = s[k]?
  | [], _, _, _ => rfl
  | x :: l, s, h, hx => by
    simp only [List.any_cons, Bool.or_eq_false_iff] at h
    have := foldSt_get k l (stepSt s x) h.2 (fun y hy => hx y (by simp [hy]))
    rw [stepSt_get s x k h.1 (hx x (by simp))] at this
    exact this

theorem mayL_mem {l : List Sn} (h : mayL l = true) {x : Sn} (hx : x ∈ l) : (x.k = 1 ∨ x.k = 2) ∧ 0 ≤ x.b ∧ x.b < 32 := by
  have := List.all_eq_true.1 h x hx
  simpa [Sn.ok, Sn.rw, Sn.inB] using this

theorem writesL_mem {l : List Sn} (h : mayL l = true) (k : Nat) (hk : k < 32) : ((k : Int) ∈ writesL l) ↔ l.any (isW k) = true := by
  unfold writesL
  rw [mem_upTo _ _ _ hk, touch_writes, stepsOf_all l 0 h]

theorem writesL_none {l : List Sn} (h : mayL l = true) (s : List V8) (k : Nat) (hk : k < 32) (hn : (k : Int) ∉ writesL l) : (foldSt s l)[k]? = s[k]? := by
  refine foldSt_get k l s ?_ (fun x hx => (mayL_mem h hx).2.1)
  rw [writesL_mem h k hk] at hn
  simpa using hn

theorem writesL_nil {l : List Sn} (h : mayL l = true) (s : List V8) (hs : s.length = 32) (hn : writesL l = []) : foldSt s l = s := by
  apply List.ext_getElem?
  intro k
  by_cases hk : k < 32
  · exact writesL_none h s k hk (by rw [hn]; simp)
  · rw [List.getElem?_eq_none (by rw [foldSt_length]; omega), List.getElem?_eq_none (by omega)]

end Go.Proofs.Ytgdmgeihgkbjaaa
