/- The plain data of this seat: names, values, steps of a history; how their cells read. -/
import Derived.Test.YtgdmgeihgkbjaaaProg
import Derived.WalkKit
import Derived.WalkSpells
import Derived.WalkLawsBesides
import Derived.Deep.QuietTactic
import Derived.BigQuiet
import Derived.Lib.Hide
namespace Go.Proofs.Ytgdmgeihgkbjaaa
open Go.RowKit

structure Nm where
  s : Int
  i : Int
  t : Int
  deriving DecidableEq, Repr, Inhabited

structure V8 where
  a : Int
  b : Int
  c : Int
  d : Int
  e : Int
  f : Int
  g : Int
  h : Int
  deriving DecidableEq, Repr, Inhabited

structure Sn where
  k : Int
  n : Nm
  b : Int
  v : V8
  e : Int
  deriving DecidableEq, Repr, Inhabited

def Nm.cells (n : Nm) : List Value := [.int .i64 n.s, .int .i64 n.i, .int .i64 n.t]
def V8.cells (v : V8) : List Value := [.int .u8 v.a, .int .u8 v.b, .int .u8 v.c, .int .u8 v.d, .int .u8 v.e, .int .u8 v.f, .int .u8 v.g, .int .u8 v.h]
def Sn.cells (x : Sn) : List Value :=
  [.int .i8 x.k, .int .i64 x.n.s, .int .i64 x.n.i, .int .i64 x.n.t, .int .i64 x.b, .int .u8 x.v.a, .int .u8 x.v.b, .int .u8 x.v.c, .int .u8 x.v.d, .int .u8 x.v.e, .int .u8 x.v.f, .int .u8 x.v.g, .int .u8 x.v.h, .int .i64 x.e]

/-- 'record.within' -/
theorem within_any (n a b : Int) (w : World) :
    Calls Try.prog 79 #[.int .i64 n, .int .i64 a, .int .i64 b] w fun e w' => e = .returned (.bool (decide (a ≤ n ∧ n ≤ b))) ∧ w = w' := by
  by_cases h1 : a ≤ n
  · by_cases h2 : n ≤ b
    all_goals
      go_enter Try.func79, Try.ntmps79
      go_wp2
      go_ret
      exact ⟨by simp [h1, h2], rfl⟩
  · go_enter Try.func79, Try.ntmps79
    go_wp2
    go_ret
    exact ⟨by simp; omega, rfl⟩

def Nm.good (n : Nm) : Bool := decide (1 ≤ n.s ∧ n.s ≤ 1048576) && decide (1 ≤ n.i ∧ n.i ≤ 1048576) && decide (1 ≤ n.t ∧ n.t ≤ 1048576)

theorem good_of {s i t : Int} (h1 : decide (1 ≤ s ∧ s ≤ 1048576) = true) (h2 : decide (1 ≤ i ∧ i ≤ 1048576) = true) (h3 : decide (1 ≤ t ∧ t ≤ 1048576) = true) : Nm.good ⟨s, i, t⟩ = true := by
  unfold Nm.good; rw [h1, h2, h3]; rfl

set_option maxHeartbeats 400000 in
/-- 'record.Named' -/
theorem named_any (s i t : Int) (w : World) :
    Calls Try.prog 69 #[.agg #[.int .i64 s, .int .i64 i, .int .i64 t]] w fun e w' => e = .returned (.bool (Nm.good ⟨s, i, t⟩)) ∧ Below w.heap.size w w' := by
  have HB : ∀ o, Below w.heap.size w (w.alloc o) := fun o => (Below.refl _ _).alloc (Nat.le_refl _) _
  generalize h1 : decide (1 ≤ s ∧ s ≤ 1048576) = b1
  generalize h2 : decide (1 ≤ i ∧ i ≤ 1048576) = b2
  generalize h3 : decide (1 ≤ t ∧ t ≤ 1048576) = b3
  have hg : Nm.good ⟨s, i, t⟩ = (b1 && b2 && b3) := by unfold Nm.good; rw [h1, h2, h3]
  have c1 : ∀ w, Calls Try.prog 79 #[.int .i64 s, .int .i64 1, .int .i64 1048576] w fun e w' => e = .returned (.bool b1) ∧ w = w' := fun w => h1 ▸ within_any s 1 1048576 w
  have c2 : ∀ w, Calls Try.prog 79 #[.int .i64 i, .int .i64 1, .int .i64 1048576] w fun e w' => e = .returned (.bool b2) ∧ w = w' := fun w => h2 ▸ within_any i 1 1048576 w
  have c3 : ∀ w, Calls Try.prog 79 #[.int .i64 t, .int .i64 1, .int .i64 1048576] w fun e w' => e = .returned (.bool b3) ∧ w = w' := fun w => h3 ▸ within_any t 1 1048576 w
  have C1 := Lib.hid c1
  have C2 := Lib.hid c2
  have C3 := Lib.hid c3
  have HG := Lib.hid hg
  clear h1 h2 h3 c1 c2 c3 hg
  cases b1 <;> cases b2
  all_goals
    go_enter Try.func69, Try.ntmps69
    go_wp2_with fail
    refine (C1.out _).mono ?_
    rintro e w1 ⟨rfl, rfl⟩
    go_wp2_with fail
  · go_ret
    exact ⟨by rw [HG.out]; rfl, HB _⟩
  · go_ret
    exact ⟨by rw [HG.out]; rfl, HB _⟩
  · refine (C2.out _).mono ?_
    rintro e w1 ⟨rfl, rfl⟩
    go_wp2_with fail
    go_ret
    exact ⟨by rw [HG.out]; rfl, HB _⟩
  · refine (C2.out _).mono ?_
    rintro e w1 ⟨rfl, rfl⟩
    go_wp2_with fail
    refine (C3.out _).mono ?_
    rintro e w1 ⟨rfl, rfl⟩
    go_wp2_with fail
    go_ret
    exact ⟨by rw [HG.out]; cases b3 <;> rfl, HB _⟩

end Go.Proofs.Ytgdmgeihgkbjaaa
