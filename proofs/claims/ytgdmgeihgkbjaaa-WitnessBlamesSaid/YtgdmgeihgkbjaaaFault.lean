/- Faults: the plain side of chapter 32 -/
import Derived.Test.YtgdmgeihgkbjaaaReplay
namespace Go.Proofs.Ytgdmgeihgkbjaaa
open Go.RowKit

structure Ft where
  i : Int
  n : Nm
  b : Int
  want : V8
  got : V8
  should : Nm
  was : Nm
  k : Int
  deriving DecidableEq, Repr, Inhabited

def Ft.cells (f : Ft) : List Value := .int .i64 f.i :: (f.n.cells ++ (.int .i64 f.b :: (f.want.cells ++ (f.got.cells ++ (f.should.cells ++ (f.was.cells ++ [.int .i8 f.k]))))))
def ftArr (f : Ft) : Array Value := #[.int .i64 f.i, .int .i64 f.n.s, .int .i64 f.n.i, .int .i64 f.n.t, .int .i64 f.b,
  .int .u8 f.want.a, .int .u8 f.want.b, .int .u8 f.want.c, .int .u8 f.want.d, .int .u8 f.want.e, .int .u8 f.want.f, .int .u8 f.want.g, .int .u8 f.want.h,
  .int .u8 f.got.a, .int .u8 f.got.b, .int .u8 f.got.c, .int .u8 f.got.d, .int .u8 f.got.e, .int .u8 f.got.f, .int .u8 f.got.g, .int .u8 f.got.h,
  .int .i64 f.should.s, .int .i64 f.should.i, .int .i64 f.should.t, .int .i64 f.was.s, .int .i64 f.was.i, .int .i64 f.was.t, .int .i8 f.k]

theorem ftArr_cells (f : Ft) : (ftArr f).toList = f.cells := rfl
theorem Ft.cells_length (f : Ft) : f.cells.length = 28 := rfl

def nz : Nm := ⟨0, 0, 0⟩
def sz : Sn := ⟨0, nz, 0, z0, 0⟩

/-- Who wrote v into block b last. -/
def lastW (p : List Sn) (b : Int) (v : V8) : Nm := p.foldl (fun a y => if y.k = 2 ∧ y.b = b ∧ y.v = v then y.n else a) nz

theorem lastW_snoc (p : List Sn) (y : Sn) (b : Int) (v : V8) : lastW (p ++ [y]) b v = if y.k = 2 ∧ y.b = b ∧ y.v = v then y.n else lastW p b v := by simp [lastW]

/-- The place of a name in the order, from 1 on; 0: it has none. -/
def placeOf (ns : List Nm) (n : Nm) : Int := match ns.findIdx? (· = n) with | some i => (i : Int) + 1 | none => 0

/-- A fault's kind. -/
def kindP (ns : List Nm) (n was : Nm) (got : V8) : Int :=
  if was = nz ∧ got ≠ z0 then 4
  else if was = n then 3
  else if was ≠ nz ∧ placeOf ns was = 0 then 2
  else if placeOf ns was > placeOf ns n then 1
  else 0

/-- A read that counts. -/
def ftOf (l : List Sn) (ns : List Nm) (h : List Sn) (n : Nm) (i : Nat) (x : Sn) : Ft :=
  let y := h[x.b.toNat]?.getD sz
  ⟨i, n, x.b, y.v, x.v, y.n, lastW (l.take i) x.b x.v, kindP ns n (lastW (l.take i) x.b x.v) x.v⟩

/-- The places of a name's steps. -/
def idxN (n : Nm) : List Sn → Nat → List Nat
  | [], _ => []
  | x :: r, i => if x.n = n then i :: idxN n r (i + 1) else idxN n r (i + 1)

/-- The reads that count, over places. -/
def emit (l : List Sn) (ns : List Nm) : List (Nm × Nat) → List Sn → List Ft
  | [], _ => []
  | (n, i) :: r, h =>
    match l[i]? with
    | none => emit l ns r h
    | some x => if x.k = 2 then emit l ns r (h.set x.b.toNat x) else if x.k = 1 then ftOf l ns h n i x :: emit l ns r h else emit l ns r h

def pairsP (l : List Sn) (ns : List Nm) : List (Nm × Nat) := ns.flatMap fun n => (idxN n l 0).map fun i => (n, i)
def h0 : List Sn := List.replicate 32 sz
/-- All reads that count. -/
def readsP (l : List Sn) : List Ft := emit l (ordR l) (pairsP l (ordR l)) h0
/-- A history's faults. -/
def wrongP (l : List Sn) : List Ft := (readsP l).filter fun f => decide (f.want ≠ f.got)

theorem idxN_mem : ∀ (l : List Sn) (n : Nm) (k i : Nat), i ∈ idxN n l k → k ≤ i ∧ ∃ x, l[i - k]? = some x ∧ x.n = n
  | [], _, _, _, h => by simp [idxN] at h
  | x :: r, n, k, i, h => by
    simp only [idxN] at h
    have key : i ∈ idxN n r (k + 1) → k ≤ i ∧ ∃ y, (x :: r)[i - k]? = some y ∧ y.n = n := fun h' => by
      obtain ⟨h1, y, h2, h3⟩ := idxN_mem r n (k + 1) i h'
      refine ⟨by omega, y, ?_, h3⟩
      have : i - k = (i - (k + 1)) + 1 := by omega
      rw [this]
      simpa using h2
    split at h
    · rcases List.mem_cons.1 h with rfl | h
      · exact ⟨Nat.le_refl _, x, by simp, by assumption⟩
      · exact key h
    · exact key h

theorem idxN_app (n : Nm) : ∀ (p r : List Sn) (k : Nat), idxN n (p ++ r) k = idxN n p k ++ idxN n r (k + p.length)
  | [], r, k => by simp [idxN]
  | x :: p, r, k => by
    simp only [List.cons_append, idxN, idxN_app n p r (k + 1), List.length_cons]
    rw [show k + 1 + p.length = k + (p.length + 1) by omega]
    split <;> simp

theorem idxN_snoc (n : Nm) (p : List Sn) (x : Sn) : idxN n (p ++ [x]) 0 = if x.n = n then idxN n p 0 ++ [p.length] else idxN n p 0 := by
  rw [idxN_app]
  simp only [idxN, Nat.zero_add]
  split <;> simp

theorem idxN_length (n : Nm) : ∀ (l : List Sn) (k : Nat), (idxN n l k).length ≤ l.length
  | [], _ => Nat.le_refl _
  | x :: r, k => by
    have := idxN_length n r (k + 1)
    simp only [idxN]
    split <;> simp <;> omega

end Go.Proofs.Ytgdmgeihgkbjaaa
