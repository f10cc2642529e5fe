/- float64 of a block's number, and back. -/
import Derived.Test.YtgdmgeihgkbjaaaState
namespace Go.Proofs.Ytgdmgeihgkbjaaa
open Go.RowKit Go.Shelf

def flV (n : Int) : Value := .float .f64 (FloatKind.f64.nearest n)
def cxV (a b : Int) : Value := .complex .f64 (FloatKind.f64.nearest a) (FloatKind.f64.nearest b)

theorem run_to_float (n : Int) (w : World) : (Go.convert 3 96 (.int .i64 n)).run Try.prog w = .ok (flV n) w := by
  unfold Go.convert
  simp [go_sem, Conv.intToFloat, flV]

theorem run_complex (a b : Int) (ats : Array TypeId) (t : TypeId) (w : World) : (Builtin.complex_ ats t #[flV a, flV b]).run Try.prog w = .ok (cxV a b) w := by
  rfl

theorem run_real (a b : Int) (ats : Array TypeId) (t : TypeId) (w : World) : (Builtin.real_ ats t #[cxV a b]).run Try.prog w = .ok (flV a) w := by
  rfl

theorem back : ∀ k : Fin 32, (FloatKind.f64.decode (FloatKind.f64.nearest (k.val : Int))).toInt .zero = some (k.val : Int) := by decide +kernel

theorem run_from_float (b : Int) (h0 : 0 ≤ b) (h1 : b < 32) (w : World) : (Go.convert 96 3 (flV b)).run Try.prog w = .ok (.int .i64 b) w := by
  have h := back ⟨b.toNat, by omega⟩
  have e : ((b.toNat : Nat) : Int) = b := by omega
  simp only [e] at h
  have hm : IntKind.i64.min ≤ b ∧ b ≤ IntKind.i64.max := by
    simp [IntKind.min, IntKind.max, IntKind.bits, IntKind.signed]; omega
  unfold Go.convert
  simp [go_sem, Conv.floatToInt, flV, h, hm]
  intro h2; omega

end Go.Proofs.Ytgdmgeihgkbjaaa
