/- More arguments opened: names, values, rows of ints; a slice's capacity. -/
import Derived.Test.YtgdmgeihgkbjaaaOpen
namespace Go.Proofs.Ytgdmgeihgkbjaaa
open Go.ChangeShapes Go.WideShapes Go.ChangeAt Go.RowKit Go.Deep

set_option maxRecDepth 20000

def intC (n : Int) : List Value := [.int .i64 n]
abbrev IntsR := Rows intC 1

section
variable {H : Type} {enc : TypeId × Value → H} {w : World} {base : Nat} {spare : Nat → Bool} {held : Bool}

theorem open_cap {v : Value} {d : DataW H} {p : List MemPlace} {t e : TypeId} (ht : Try.prog.underlying t = some (.slice e)) (h : DataW.Trod enc Try.prog w base spare held t v d p) : ∀ a n c, v = .slice a n c → n ≤ c := by
  intro a n c hv
  subst hv
  obtain ⟨fuel, hf⟩ := h
  rcases open_slice ht (by simpa [Value.cells] using hf) with ⟨hcs, _⟩ | ⟨ad, len, cap, m, k, D, Pl, hcs, _, hl, _⟩
  · cases hcs; exact Nat.le_refl _
  · cases hcs; exact hl

theorem open_nm {r : Reach} {b0 : Nat} {v : Value} {d : DataW H} {p : List MemPlace} (hv : Value.okWide Try.prog w r b0 34 v) (h : DataW.Trod enc Try.prog w base spare held 34 v d p) : ∃ n : Nm, v = .agg #[.int .i64 n.s, .int .i64 n.i, .int .i64 n.t] := by
  simp only [Value.okWide, Try.underlying34] at hv
  obtain ⟨cs, rfl, _⟩ := hv
  obtain ⟨fuel, hf⟩ := h
  obtain ⟨n, he⟩ := trod_nm hf
  refine ⟨n, ?_⟩
  have : cs.toList = n.cells := he
  congr 1
  apply Array.toList_inj.1
  rw [this]; rfl

theorem open_v8 {r : Reach} {b0 : Nat} {v : Value} {d : DataW H} {p : List MemPlace} (hv : Value.okWide Try.prog w r b0 23 v) (h : DataW.Trod enc Try.prog w base spare held 23 v d p) : ∃ u : V8, v = v8Val u := by
  obtain ⟨cs, rfl⟩ := okWide_array Try.underlying23 hv
  obtain ⟨fuel, hf⟩ := h
  obtain ⟨u, he⟩ := trod_v8 hf
  refine ⟨u, ?_⟩
  have : cs.toList = u.cells := he
  unfold v8Val
  congr 1
  apply Array.toList_inj.1
  rw [this]; rfl

theorem open_intsR {v : Value} {d : DataW H} {p : List MemPlace} (hv : ∃ a n c, v = .slice a n c) (h : DataW.Trod enc Try.prog w base spare held 30 v d p) : ∃ l : List Int, IntsR w.heap.size w v l := by
  obtain ⟨a, n, c, rfl⟩ := hv
  obtain ⟨fuel, hf⟩ := h
  rcases open_slice Try.underlying30 (by simpa [Value.cells] using hf) with ⟨hcs, _⟩ | ⟨ad, len, cap, m, k, D, Pl, hcs, _, hl, _, hm, _, hx⟩
  · cases hcs
    exact ⟨[], Rows.nil _ _ _ _⟩
  · cases hcs
    have hle : n ≤ m := by rw [hm]; split <;> omega
    have each : ∀ i, i < n → ∃ s : Int, w.cell? (ad.add i) = some (.int .i64 s) := by
      intro i hi
      obtain ⟨cs', h1, h2⟩ := hx i (by omega)
      rw [cells3] at h1
      obtain ⟨_, hlen, hc⟩ := World.cells?_some h1
      obtain ⟨s, hs, _⟩ := DataW.trod_int Try.underlying3 h2
      subst hs
      refine ⟨s, ?_⟩
      have := hc 0 (by omega)
      rw [Nat.mul_one, add_add, Nat.add_zero] at this
      simpa using this
    obtain ⟨f, hf'⟩ := choose_lt (α := Int) each
    refine ⟨(List.range n).map f, some ad, c, by simp, (fun e => by cases e), ?_⟩
    intro b off s e hpos
    cases e
    rw [List.length_map, List.length_range] at hpos
    have hc0 := hf' 0 (by omega)
    have hs : s = none := by simpa [Addr.add] using World.cell?_spot hc0
    subst hs
    refine ⟨rfl, ?_, ?_⟩
    · have : w.cell? ⟨b, off, none⟩ = some (.int .i64 (f 0)) := by simpa [Addr.add] using hc0
      unfold World.cell? at this
      cases ho : w.heap[b]? with
      | none => rw [ho] at this; cases this
      | some o => exact lt_of_heap ho
    · intro i x hxi j cc hj
      have hi : i < n := by
        have := (List.getElem?_eq_some_iff.1 hxi).1
        simpa using this
      simp [hi] at hxi
      subst hxi
      have hj0 : j = 0 := by
        have := (List.getElem?_eq_some_iff.1 hj).1
        simp [intC] at this; exact this
      subst hj0
      simp [intC] at hj
      subst hj
      have := hf' i hi
      rw [add_plain] at this
      simpa using this

end
end Go.Proofs.Ytgdmgeihgkbjaaa
