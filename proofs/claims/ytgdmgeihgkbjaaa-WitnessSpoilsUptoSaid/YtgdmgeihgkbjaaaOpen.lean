/- The arguments opened: a state of the blocks by value, a history; the frame of a law. -/
import Derived.Test.YtgdmgeihgkbjaaaPd
import Derived.ProofKit
import Derived.OpenShut
import Derived.Deep.Slices
import Derived.ChangeOld
import Derived.Below
namespace Go.Proofs.Ytgdmgeihgkbjaaa
open Go.ChangeShapes Go.WideShapes Go.ChangeAt Go.RowKit Go.Deep

set_option maxRecDepth 20000

theorem Try.own : ownKnob Try.prog.godebug = none := by kernel_rfl
theorem Try.laidOut : laidOutB Try.prog = true := by kernel_rfl

theorem cells5 : Try.prog.cellsOf 5 = 1 := by kernel_rfl
theorem cells23 : Try.prog.cellsOf 23 = 8 := by kernel_rfl
theorem cells24 : Try.prog.cellsOf 24 = 256 := by kernel_rfl
theorem cells36 : Try.prog.cellsOf 36 = 14 := by kernel_rfl
theorem cells34 : Try.prog.cellsOf 34 = 3 := by kernel_rfl
theorem cells32 : Try.prog.cellsOf 32 = 1 := by kernel_rfl
theorem cells3 : Try.prog.cellsOf 3 = 1 := by kernel_rfl
theorem cells27 : Try.prog.cellsOf 27 = 1 := by kernel_rfl

section
variable {H : Type} {enc : TypeId × Value → H} {w : World} {base : Nat} {spare : Nat → Bool} {held : Bool} {fuel : Nat} {cs : List Value} {x : DataW H × List MemPlace}

theorem trod_v8 (h : DataW.trod enc Try.prog w base spare held fuel 23 cs = some x) : ∃ v : V8, cs = v.cells := by
  obtain ⟨xs, m, rfl, _, hl, hx, hi⟩ := DataW.trod_array Try.underlying23 h
  rw [cells23] at hl
  have one : ∀ i, i < 8 → ∃ n, (cs.drop i).take 1 = [.int .u8 n] := by
    intro i h8
    have h1 := hi i h8
    rw [cells5, Nat.mul_one, List.getElem?_eq_getElem (by omega)] at h1
    obtain ⟨n, hn, _⟩ := DataW.trod_int Try.underlying5 h1
    exact ⟨n, hn⟩
  match cs, hl with
  | [c0, c1, c2, c3, c4, c5, c6, c7], _ =>
    obtain ⟨n0, e0⟩ := one 0 (by omega)
    obtain ⟨n1, e1⟩ := one 1 (by omega)
    obtain ⟨n2, e2⟩ := one 2 (by omega)
    obtain ⟨n3, e3⟩ := one 3 (by omega)
    obtain ⟨n4, e4⟩ := one 4 (by omega)
    obtain ⟨n5, e5⟩ := one 5 (by omega)
    obtain ⟨n6, e6⟩ := one 6 (by omega)
    obtain ⟨n7, e7⟩ := one 7 (by omega)
    simp at e0 e1 e2 e3 e4 e5 e6 e7
    subst e0 e1 e2 e3 e4 e5 e6 e7
    exact ⟨⟨n0, n1, n2, n3, n4, n5, n6, n7⟩, rfl⟩

theorem rows_of {α : Type} {f : α → List Value} {k : Nat} (hf : ∀ x, (f x).length = k) : ∀ (n : Nat) (cs : List Value), cs.length = n * k → (∀ i, i < n → ∃ v, (cs.drop (i * k)).take k = f v) → ∃ s : List α, s.length = n ∧ cs = s.flatMap f
  | 0, cs, hl, _ => ⟨[], rfl, by simpa using hl⟩
  | n + 1, cs, hl, h => by
    obtain ⟨v, hv⟩ := h 0 (by omega)
    obtain ⟨s, hs, he⟩ := rows_of hf n (cs.drop k) (by rw [List.length_drop, hl, Nat.succ_mul]; omega) (fun i hi => by
      obtain ⟨u, hu⟩ := h (i + 1) (by omega)
      refine ⟨u, ?_⟩
      rw [List.drop_drop, ← hu, Nat.succ_mul, Nat.add_comm k])
    refine ⟨v :: s, by simp [hs], ?_⟩
    simp only [Nat.zero_mul, List.drop_zero] at hv
    rw [List.flatMap_cons, ← he, ← hv, List.take_append_drop]

theorem trod_st (h : DataW.trod enc Try.prog w base spare held fuel 24 cs = some x) : ∃ s : List V8, s.length = 32 ∧ cs = stCells s := by
  obtain ⟨xs, m, rfl, _, hl, hx, hi⟩ := DataW.trod_array Try.underlying24 h
  rw [cells24] at hl
  refine rows_of V8.cells_length 32 cs hl (fun i h32 => ?_)
  have h1 := hi i h32
  rw [cells23, List.getElem?_eq_getElem (by omega)] at h1
  exact trod_v8 h1

theorem trod_nm (h : DataW.trod enc Try.prog w base spare held fuel 34 cs = some x) : ∃ n : Nm, cs = n.cells := by
  obtain ⟨xs, m, rfl, _, hl, hx, hi⟩ := DataW.trod_struct Try.underlying34 h
  rw [cells34] at hl
  have h0 : DataW.trod enc Try.prog w base spare held m 3 ((cs.drop 0).take (Try.prog.cellsOf 3)) = xs[0]? := hi 0 _ rfl
  have h1 : DataW.trod enc Try.prog w base spare held m 3 ((cs.drop 1).take (Try.prog.cellsOf 3)) = xs[1]? := hi 1 _ rfl
  have h2 : DataW.trod enc Try.prog w base spare held m 3 ((cs.drop 2).take (Try.prog.cellsOf 3)) = xs[2]? := hi 2 _ rfl
  rw [cells3] at h0 h1 h2
  rw [List.getElem?_eq_getElem (by rw [hx]; simp)] at h0 h1 h2
  obtain ⟨n0, e0, _⟩ := DataW.trod_int Try.underlying3 h0
  obtain ⟨n1, e1, _⟩ := DataW.trod_int Try.underlying3 h1
  obtain ⟨n2, e2, _⟩ := DataW.trod_int Try.underlying3 h2
  match cs, hl with
  | [c0, c1, c2], _ =>
    simp at e0 e1 e2
    subst e0 e1 e2
    exact ⟨⟨n0, n1, n2⟩, rfl⟩

theorem trod_sn (h : DataW.trod enc Try.prog w base spare held fuel 36 cs = some x) : ∃ s : Sn, cs = s.cells := by
  obtain ⟨xs, m, rfl, _, hl, hx, hi⟩ := DataW.trod_struct Try.underlying36 h
  rw [cells36] at hl
  have h0 : DataW.trod enc Try.prog w base spare held m 32 ((cs.drop 0).take (Try.prog.cellsOf 32)) = xs[0]? := hi 0 _ rfl
  have h1 : DataW.trod enc Try.prog w base spare held m 34 ((cs.drop 1).take (Try.prog.cellsOf 34)) = xs[1]? := hi 1 _ rfl
  have h2 : DataW.trod enc Try.prog w base spare held m 3 ((cs.drop 4).take (Try.prog.cellsOf 3)) = xs[2]? := hi 2 _ rfl
  have h3 : DataW.trod enc Try.prog w base spare held m 23 ((cs.drop 5).take (Try.prog.cellsOf 23)) = xs[3]? := hi 3 _ rfl
  have h4 : DataW.trod enc Try.prog w base spare held m 27 ((cs.drop 13).take (Try.prog.cellsOf 27)) = xs[4]? := hi 4 _ rfl
  rw [cells32] at h0
  rw [cells34] at h1
  rw [cells3] at h2
  rw [cells23] at h3
  rw [cells27] at h4
  rw [List.getElem?_eq_getElem (by rw [hx]; simp)] at h0 h1 h2 h3 h4
  obtain ⟨k, e0, _⟩ := DataW.trod_int Try.underlying32 h0
  obtain ⟨n, e1⟩ := trod_nm h1
  obtain ⟨b, e2, _⟩ := DataW.trod_int Try.underlying3 h2
  obtain ⟨v, e3⟩ := trod_v8 h3
  obtain ⟨e, e4, _⟩ := DataW.trod_int Try.underlying27 h4
  match cs, hl with
  | [c0, c1, c2, c3, c4, c5, c6, c7, c8, c9, c10, c11, c12, c13], _ =>
    simp [Nm.cells, V8.cells] at e0 e1 e2 e3 e4
    obtain ⟨rfl, rfl, rfl⟩ := e1
    obtain ⟨rfl, rfl, rfl, rfl, rfl, rfl, rfl, rfl⟩ := e3
    subst e0 e2 e4
    exact ⟨⟨k, n, b, v, e⟩, rfl⟩

theorem open_sns {v : Value} {d : DataW H} {p : List MemPlace} (hv : ∃ a n c, v = .slice a n c) (h : DataW.Trod enc Try.prog w base spare held 25 v d p) : ∃ l : List Sn, Sns w.heap.size w v l := by
  obtain ⟨a, n, c, rfl⟩ := hv
  obtain ⟨fuel, hf⟩ := h
  rcases open_slice Try.underlying25 (by simpa [Value.cells] using hf) with ⟨hcs, _⟩ | ⟨ad, len, cap, m, k, D, Pl, hcs, _, hl, _, hm, _, hx⟩
  · cases hcs
    exact ⟨[], Rows.nil _ _ _ _⟩
  · cases hcs
    have hle : n ≤ m := by rw [hm]; split <;> omega
    have each : ∀ i, i < n → ∃ s : Sn, ∀ j cc, s.cells[j]? = some cc → w.cell? (ad.add (i * 14 + j)) = some cc := by
      intro i hi
      obtain ⟨cs', h1, h2⟩ := hx i (by omega)
      rw [cells36] at h1
      obtain ⟨_, hlen, hc⟩ := World.cells?_some h1
      obtain ⟨s, rfl⟩ := trod_sn h2
      refine ⟨s, fun j cc hj => ?_⟩
      have hj14 : j < 14 := (List.getElem?_eq_some_iff.1 hj).1
      have := hc j hj14
      rwa [add_add, hj] at this
    obtain ⟨f, hf'⟩ := choose_lt (α := Sn) each
    refine ⟨(List.range n).map f, some ad, c, by simp, (fun e => by cases e), ?_⟩
    intro b off s e hpos
    cases e
    rw [List.length_map, List.length_range] at hpos
    have hc0 := hf' 0 (by omega) 0 _ rfl
    have hs : s = none := by simpa [Addr.add] using World.cell?_spot hc0
    subst hs
    refine ⟨rfl, ?_, ?_⟩
    · have : w.cell? ⟨b, off, none⟩ = some (.int .i8 (f 0).k) := by simpa [Addr.add] using hc0
      unfold World.cell? at this
      cases ho : w.heap[b]? with
      | none => rw [ho] at this; cases this
      | some o => exact lt_of_heap ho
    · intro i x hxi j cc hj
      have hi : i < n := by
        have := (List.getElem?_eq_some_iff.1 hxi).1
        simpa using this
      simp [hi] at hxi
      subst hxi
      have := hf' i hi j cc hj
      rw [add_plain] at this
      rwa [Nat.add_assoc]


theorem okWide_array {r : Reach} {b0 : Nat} {t e : TypeId} {n : Nat} {v : Value} (ht : Try.prog.underlying t = some (.array n e)) (h : Value.okWide Try.prog w r b0 t v) : ∃ cs, v = .agg cs := by
  simp only [Value.okWide, ht] at h
  obtain ⟨cs, h1, _⟩ := h
  exact ⟨cs, h1⟩

theorem open_st {r : Reach} {b0 : Nat} {v : Value} {d : DataW H} {p : List MemPlace} (hv : Value.okWide Try.prog w r b0 24 v) (h : DataW.Trod enc Try.prog w base spare held 24 v d p) : ∃ s : List V8, s.length = 32 ∧ v = .agg (stArr s) := by
  obtain ⟨cs, rfl⟩ := okWide_array Try.underlying24 hv
  obtain ⟨fuel, hf⟩ := h
  obtain ⟨s, hs, he⟩ := trod_st hf
  refine ⟨s, hs, ?_⟩
  have : cs.toList = stCells s := he
  rw [stArr, ← this]

theorem trod_lts {v : Value} {t : TypeId} {d : DataW H} {p : List MemPlace} (h : DataW.Trod enc Try.prog w base spare held t v d p) : ∀ x ∈ p, x.block < w.heap.size := by
  obtain ⟨m, hm⟩ := h
  exact DataW.trod_lt m _ _ _ hm

end
end Go.Proofs.Ytgdmgeihgkbjaaa
