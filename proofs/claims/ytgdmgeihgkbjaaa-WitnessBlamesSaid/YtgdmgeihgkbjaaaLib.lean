/- Rows of values in memory, k cells each; what a walk reads of one of them. -/
import Derived.Test.YtgdmgeihgkbjaaaEq
namespace Go.Proofs.Ytgdmgeihgkbjaaa
open Go.RowKit

/-- From ⟨b, off⟩ on lie the values of l, k cells each. -/
def RowsAt {α : Type} (enc : α → List Value) (k : Nat) (w : World) (b off : Nat) (l : List α) : Prop :=
  ∀ i x, l[i]? = some x → ∀ j c, (enc x)[j]? = some c → w.cell? ⟨b, off + i * k + j, none⟩ = some c

/-- The slice value v holds l, in a block below B; or it is nil and l is empty. -/
def Rows {α : Type} (enc : α → List Value) (k : Nat) (B : Nat) (w : World) (v : Value) (l : List α) : Prop :=
  ∃ a cap, v = .slice a l.length cap ∧ (a = none → l = [] ∧ cap = 0) ∧ ∀ b off s, a = some ⟨b, off, s⟩ → 0 < l.length → s = none ∧ b < B ∧ RowsAt enc k w b off l

theorem RowsAt.below {α : Type} {enc : α → List Value} {k B : Nat} {w w' : World} {b off : Nat} {l : List α} (h : RowsAt enc k w b off l) (hb : b < B) (hw : Below B w w') : RowsAt enc k w' b off l :=
  fun i x hx j c hc => (hw.cell (p := ⟨b, off + i * k + j, none⟩) hb).trans (h i x hx j c hc)

theorem Rows.below {α : Type} {enc : α → List Value} {k B : Nat} {w w' : World} {v : Value} {l : List α} (h : Rows enc k B w v l) (hw : Below B w w') : Rows enc k B w' v l := by
  obtain ⟨a, cap, hv, hn, ha⟩ := h
  exact ⟨a, cap, hv, hn, fun b off s e h => ⟨(ha b off s e h).1, (ha b off s e h).2.1, (ha b off s e h).2.2.below (ha b off s e h).2.1 hw⟩⟩

theorem Rows.mono {α : Type} {enc : α → List Value} {k B B' : Nat} {w : World} {v : Value} {l : List α} (h : Rows enc k B w v l) (hB : B ≤ B') : Rows enc k B' w v l := by
  obtain ⟨a, cap, hv, hn, ha⟩ := h
  exact ⟨a, cap, hv, hn, fun b off s e h => ⟨(ha b off s e h).1, Nat.lt_of_lt_of_le (ha b off s e h).2.1 hB, (ha b off s e h).2.2⟩⟩

theorem Rows.nil {α : Type} (enc : α → List Value) (k B : Nat) (w : World) : Rows enc k B w (.slice none 0 0) ([] : List α) :=
  ⟨none, 0, rfl, fun _ => ⟨rfl, rfl⟩, fun _ _ _ e _ => by cases e⟩

/-- An element that is there: the slice is not nil. -/
theorem rows_some {α : Type} {enc : α → List Value} {k B : Nat} {w : World} {a : Option Addr} {cap : Nat} {l : List α} (hn : a = none → l = [] ∧ cap = 0)
    (ha : ∀ b off s, a = some ⟨b, off, s⟩ → 0 < l.length → s = none ∧ b < B ∧ RowsAt enc k w b off l) {q : Nat} (hq : q < l.length) : ∃ b off, a = some ⟨b, off, none⟩ ∧ b < B ∧ RowsAt enc k w b off l := by
  rcases a with _ | ⟨b, off, s⟩
  · have := (hn rfl).1
    subst this
    simp at hq
  · obtain ⟨rfl, h⟩ := ha b off s rfl (by omega)
    exact ⟨b, off, rfl, h⟩

abbrev Sns := Rows Sn.cells 14
abbrev Nms := Rows Nm.cells 3

def snAt (w : World) (b o : Nat) (x : Sn) : Prop :=
  w.cell? ⟨b, o, none⟩ = some (.int .i8 x.k) ∧ w.cell? ⟨b, o + 1, none⟩ = some (.int .i64 x.n.s) ∧ w.cell? ⟨b, o + 2, none⟩ = some (.int .i64 x.n.i) ∧ w.cell? ⟨b, o + 3, none⟩ = some (.int .i64 x.n.t) ∧
  w.cell? ⟨b, o + 4, none⟩ = some (.int .i64 x.b) ∧ w.cell? ⟨b, o + 5, none⟩ = some (.int .u8 x.v.a) ∧ w.cell? ⟨b, o + 6, none⟩ = some (.int .u8 x.v.b) ∧ w.cell? ⟨b, o + 7, none⟩ = some (.int .u8 x.v.c) ∧
  w.cell? ⟨b, o + 8, none⟩ = some (.int .u8 x.v.d) ∧ w.cell? ⟨b, o + 9, none⟩ = some (.int .u8 x.v.e) ∧ w.cell? ⟨b, o + 10, none⟩ = some (.int .u8 x.v.f) ∧ w.cell? ⟨b, o + 11, none⟩ = some (.int .u8 x.v.g) ∧
  w.cell? ⟨b, o + 12, none⟩ = some (.int .u8 x.v.h) ∧ w.cell? ⟨b, o + 13, none⟩ = some (.int .i64 x.e)

theorem RowsAt.sn {w : World} {b off : Nat} {l : List Sn} (h : RowsAt Sn.cells 14 w b off l) {q : Nat} {x : Sn} (hx : l[q]? = some x) : snAt w b (off + q * 14) x :=
  ⟨h q x hx 0 _ rfl, h q x hx 1 _ rfl, h q x hx 2 _ rfl, h q x hx 3 _ rfl, h q x hx 4 _ rfl, h q x hx 5 _ rfl, h q x hx 6 _ rfl, h q x hx 7 _ rfl, h q x hx 8 _ rfl, h q x hx 9 _ rfl, h q x hx 10 _ rfl, h q x hx 11 _ rfl, h q x hx 12 _ rfl, h q x hx 13 _ rfl⟩

theorem drop_cons {α : Type} {l : List α} {q : Nat} {x : α} (hx : l[q]? = some x) : l.drop q = x :: l.drop (q + 1) := by
  obtain ⟨h, rfl⟩ := List.getElem?_eq_some_iff.1 hx
  exact List.drop_eq_getElem_cons h

theorem drop_end {α : Type} {l : List α} {q : Nat} (h : ¬ q < l.length) : l.drop q = [] := List.drop_eq_nil_of_le (by omega)

theorem Below.drewN' {B : Nat} {a w : World} (h : Below B a w) (n : Nat) : Below B a (w.drewN n) := h.trans ⟨rfl, rfl, rfl, Nat.le_refl _, fun _ _ => rfl⟩

theorem below_alloc1 {w : World} (o : Obj) : Below w.heap.size w (w.alloc o) := (Below.refl _ _).alloc (Nat.le_refl _) _

end Go.Proofs.Ytgdmgeihgkbjaaa
