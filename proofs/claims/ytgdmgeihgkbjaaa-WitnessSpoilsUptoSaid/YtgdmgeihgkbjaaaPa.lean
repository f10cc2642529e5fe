/- Several texts in one: Base, Eq, Lib, Iter, Draw, Draw2, Draw3, State, Float, NmSteps, Map -/
import Derived.Test.YtgdmgeihgkbjaaaProg
import Derived.WalkKit
import Derived.WalkSpells
import Derived.WalkLawsBesides
import Derived.Deep.QuietTactic
import Derived.BigQuiet
import Derived.Lib.Hide
import Derived.RangeFuncNested
import Derived.RangeFuncBound
import Derived.RangeFuncCalls
import Derived.RangeFuncLeaves
import Derived.Shelf.Abstract
import Derived.OwnWalkIn
import Derived.TacticsInMore
import Derived.LoopNIn
import Derived.LoopIn
import Derived.Maps.OwnIn
import Derived.OrdersIn
import Derived.Orders
/- The plain data of this seat: names, values, steps of a history; how their cells read. -/
namespace Go.Proofs.Ytgdmgeihgkbjaaa
open Go.RowKit

structure Nm where
  s : Int
  i : Int
  t : Int
  deriving DecidableEq, Repr, Inhabited

structure V8 where
  a : Int
  b : Int
  c : Int
  d : Int
  e : Int
  f : Int
  g : Int
  h : Int
  deriving DecidableEq, Repr, Inhabited

structure Sn where
  k : Int
  n : Nm
  b : Int
  v : V8
  e : Int
  deriving DecidableEq, Repr, Inhabited

def Nm.cells (n : Nm) : List Value := [.int .i64 n.s, .int .i64 n.i, .int .i64 n.t]
def V8.cells (v : V8) : List Value := [.int .u8 v.a, .int .u8 v.b, .int .u8 v.c, .int .u8 v.d, .int .u8 v.e, .int .u8 v.f, .int .u8 v.g, .int .u8 v.h]
def Sn.cells (x : Sn) : List Value :=
  [.int .i8 x.k, .int .i64 x.n.s, .int .i64 x.n.i, .int .i64 x.n.t, .int .i64 x.b, .int .u8 x.v.a, .int .u8 x.v.b, .int .u8 x.v.c, .int .u8 x.v.d, .int .u8 x.v.e, .int .u8 x.v.f, .int .u8 x.v.g, .int .u8 x.v.h, .int .i64 x.e]

/-- 'record.within' -/
theorem within_any (n a b : Int) (w : World) :
    Calls Try.prog 79 #[.int .i64 n, .int .i64 a, .int .i64 b] w fun e w' => e = .returned (.bool (decide (a ≤ n ∧ n ≤ b))) ∧ w = w' := by
  by_cases h1 : a ≤ n
  · by_cases h2 : n ≤ b
    all_goals
      go_enter Try.func79, Try.ntmps79
      go_wp2
      go_ret
      exact ⟨by simp [h1, h2], rfl⟩
  · go_enter Try.func79, Try.ntmps79
    go_wp2
    go_ret
    exact ⟨by simp; omega, rfl⟩

def Nm.good (n : Nm) : Bool := decide (1 ≤ n.s ∧ n.s ≤ 1048576) && decide (1 ≤ n.i ∧ n.i ≤ 1048576) && decide (1 ≤ n.t ∧ n.t ≤ 1048576)

theorem good_of {s i t : Int} (h1 : decide (1 ≤ s ∧ s ≤ 1048576) = true) (h2 : decide (1 ≤ i ∧ i ≤ 1048576) = true) (h3 : decide (1 ≤ t ∧ t ≤ 1048576) = true) : Nm.good ⟨s, i, t⟩ = true := by
  unfold Nm.good; rw [h1, h2, h3]; rfl

set_option maxHeartbeats 400000 in
/-- 'record.Named' -/
theorem named_any (s i t : Int) (w : World) :
    Calls Try.prog 69 #[.agg #[.int .i64 s, .int .i64 i, .int .i64 t]] w fun e w' => e = .returned (.bool (Nm.good ⟨s, i, t⟩)) ∧ Below w.heap.size w w' := by
  have HB : ∀ o, Below w.heap.size w (w.alloc o) := fun o => (Below.refl _ _).alloc (Nat.le_refl _) _
  generalize h1 : decide (1 ≤ s ∧ s ≤ 1048576) = b1
  generalize h2 : decide (1 ≤ i ∧ i ≤ 1048576) = b2
  generalize h3 : decide (1 ≤ t ∧ t ≤ 1048576) = b3
  have hg : Nm.good ⟨s, i, t⟩ = (b1 && b2 && b3) := by unfold Nm.good; rw [h1, h2, h3]
  have c1 : ∀ w, Calls Try.prog 79 #[.int .i64 s, .int .i64 1, .int .i64 1048576] w fun e w' => e = .returned (.bool b1) ∧ w = w' := fun w => h1 ▸ within_any s 1 1048576 w
  have c2 : ∀ w, Calls Try.prog 79 #[.int .i64 i, .int .i64 1, .int .i64 1048576] w fun e w' => e = .returned (.bool b2) ∧ w = w' := fun w => h2 ▸ within_any i 1 1048576 w
  have c3 : ∀ w, Calls Try.prog 79 #[.int .i64 t, .int .i64 1, .int .i64 1048576] w fun e w' => e = .returned (.bool b3) ∧ w = w' := fun w => h3 ▸ within_any t 1 1048576 w
  have C1 := Lib.hid c1
  have C2 := Lib.hid c2
  have C3 := Lib.hid c3
  have HG := Lib.hid hg
  clear h1 h2 h3 c1 c2 c3 hg
  cases b1 <;> cases b2
  all_goals
    go_enter Try.func69, Try.ntmps69
    go_wp2_with fail
    refine (C1.out _).mono ?_
    rintro e w1 ⟨rfl, rfl⟩
    go_wp2_with fail
  · go_ret
    exact ⟨by rw [HG.out]; rfl, HB _⟩
  · go_ret
    exact ⟨by rw [HG.out]; rfl, HB _⟩
  · refine (C2.out _).mono ?_
    rintro e w1 ⟨rfl, rfl⟩
    go_wp2_with fail
    go_ret
    exact ⟨by rw [HG.out]; rfl, HB _⟩
  · refine (C2.out _).mono ?_
    rintro e w1 ⟨rfl, rfl⟩
    go_wp2_with fail
    refine (C3.out _).mono ?_
    rintro e w1 ⟨rfl, rfl⟩
    go_wp2_with fail
    go_ret
    exact ⟨by rw [HG.out]; cases b3 <;> rfl, HB _⟩

end Go.Proofs.Ytgdmgeihgkbjaaa
/- '==' and '!=' on this seat's structs and arrays, as one decision on the data. -/
namespace Go.Proofs.Ytgdmgeihgkbjaaa
open Go.RowKit

section
variable {P : Program}

theorem run_equalIn_array (w : World) (d : Nat) (t e : TypeId) (len n : Nat) (xs ys : Array Value) (g : Nat → Bool) (ht : P.underlying t = some (.array len e)) (hn : (sizeOf e).run P w = .ok n w)
    (h : ∀ i, i < len → ∃ a b, (part e xs (i * n)).run P w = .ok a w ∧ (part e ys (i * n)).run P w = .ok b w ∧ (Op.equalIn d e a b).run P w = .ok (g i) w) :
    (Op.equalIn (d + 1) t (.agg xs) (.agg ys)).run P w = .ok ((List.range len).all g) w := by
  simp only [Op.equalIn, Sem.run_bind, run_underlying ht, Result.andThen_ok, hn]
  simp only [Std.Legacy.Range.forIn_eq_forIn_range', Std.Legacy.Range.size, Nat.sub_zero, Nat.add_sub_cancel, Nat.div_one, List.range_eq_range']
  have h' : ∀ i ∈ List.range' 0 len, ∃ a b, (part e xs (i * n)).run P w = .ok a w ∧ (part e ys (i * n)).run P w = .ok b w ∧ (Op.equalIn d e a b).run P w = .ok (g i) w := fun i hi => h i (by simp [List.mem_range'_1] at hi; omega)
  clear h
  generalize List.range' 0 len = l at h'
  induction l with
  | nil => simp
  | cons i l ih =>
    obtain ⟨a, b, h1, h2, h3⟩ := h' i (by simp)
    simp only [List.forIn_cons, Sem.run_bind, h1, h2, h3, Result.andThen_ok, List.all_cons]
    cases hg : g i
    · simp
    · simp only [Bool.not_true, Bool.false_eq_true, if_false, Sem.run_pure, Result.andThen_ok, Bool.true_and]
      exact ih (fun j hj => h' j (by simp [hj]))

end

theorem eqFields_cons {P : Program} {d : Nat} {xs ys : Array Value} {f : Field} {fs : List Field} {w : World} {a b : Value} {r s : Bool} (hn : f.name ≠ "_")
    (h1 : (part f.type xs f.offset).run P w = .ok a w) (h2 : (part f.type ys f.offset).run P w = .ok b w) (h3 : (Op.equalIn d f.type a b).run P w = .ok r w)
    (h4 : (Op.eqFields d xs ys fs).run P w = .ok s w) : (Op.eqFields d xs ys (f :: fs)).run P w = .ok (r && s) w := by
  simp only [Op.eqFields, hn, ne_eq, not_false_eq_true, if_true, Sem.run_bind, h1, h2, h3, Result.andThen_ok]
  cases r
  · simp
  · simpa using h4

theorem eqFields_nil {P : Program} {d : Nat} {xs ys : Array Value} {w : World} : (Op.eqFields d xs ys []).run P w = .ok true w := by simp [Op.eqFields]

theorem eqIn_nm (d : Nat) (a b : Nm) (w : World) :
    (Op.equalIn (d + 2) 34 (.agg #[.int .i64 a.s, .int .i64 a.i, .int .i64 a.t]) (.agg #[.int .i64 b.s, .int .i64 b.i, .int .i64 b.t])).run Try.prog w = .ok (decide (a = b)) w := by
  have e : decide (a = b) = (a.s == b.s && (a.i == b.i && a.t == b.t)) := by
    obtain ⟨a1, a2, a3⟩ := a
    obtain ⟨b1, b2, b3⟩ := b
    simp only [Nm.mk.injEq, Bool.decide_and]
    rfl
  rw [e]
  cases h1 : (a.s == b.s) <;> cases h2 : (a.i == b.i) <;> cases h3 : (a.t == b.t) <;> simp [go_sem, h1, h2, h3]

def V8.at (v : V8) : Nat → Int
  | 0 => v.a | 1 => v.b | 2 => v.c | 3 => v.d | 4 => v.e | 5 => v.f | 6 => v.g | _ => v.h

theorem eqIn_v8 (d : Nat) (a b : V8) (w : World) :
    (Op.equalIn (d + 2) 23 (.agg #[.int .u8 a.a, .int .u8 a.b, .int .u8 a.c, .int .u8 a.d, .int .u8 a.e, .int .u8 a.f, .int .u8 a.g, .int .u8 a.h])
      (.agg #[.int .u8 b.a, .int .u8 b.b, .int .u8 b.c, .int .u8 b.d, .int .u8 b.e, .int .u8 b.f, .int .u8 b.g, .int .u8 b.h])).run Try.prog w = .ok (decide (a = b)) w := by
  have h := run_equalIn_array (P := Try.prog) w (d + 1) 23 5 8 1 #[.int .u8 a.a, .int .u8 a.b, .int .u8 a.c, .int .u8 a.d, .int .u8 a.e, .int .u8 a.f, .int .u8 a.g, .int .u8 a.h]
    #[.int .u8 b.a, .int .u8 b.b, .int .u8 b.c, .int .u8 b.d, .int .u8 b.e, .int .u8 b.f, .int .u8 b.g, .int .u8 b.h] (fun i => a.at i == b.at i) Try.underlying23 (by simp [go_sem])
    (fun i hi => by
      refine ⟨.int .u8 (a.at i), .int .u8 (b.at i), ?_, ?_, ?_⟩
      · match i, hi with
        | 0, _ | 1, _ | 2, _ | 3, _ | 4, _ | 5, _ | 6, _ | 7, _ => simp [go_sem, V8.at]
      · match i, hi with
        | 0, _ | 1, _ | 2, _ | 3, _ | 4, _ | 5, _ | 6, _ | 7, _ => simp [go_sem, V8.at]
      · simp [go_sem])
  have e : decide (a = b) = (List.range 8).all (fun i => a.at i == b.at i) := by
    obtain ⟨a1, a2, a3, a4, a5, a6, a7, a8⟩ := a
    obtain ⟨b1, b2, b3, b4, b5, b6, b7, b8⟩ := b
    simp only [V8.mk.injEq, List.range, List.range.loop, List.all_cons, List.all_nil, V8.at, Bool.and_true]
    rw [Bool.eq_iff_iff]
    simp
  rw [e]
  exact h

theorem eqIn_sn (d : Nat) (a b : Sn) (w : World) :
    (Op.equalIn (d + 3) 36 (.agg #[.int .i8 a.k, .int .i64 a.n.s, .int .i64 a.n.i, .int .i64 a.n.t, .int .i64 a.b, .int .u8 a.v.a, .int .u8 a.v.b, .int .u8 a.v.c, .int .u8 a.v.d, .int .u8 a.v.e, .int .u8 a.v.f, .int .u8 a.v.g, .int .u8 a.v.h, .int .i64 a.e])
      (.agg #[.int .i8 b.k, .int .i64 b.n.s, .int .i64 b.n.i, .int .i64 b.n.t, .int .i64 b.b, .int .u8 b.v.a, .int .u8 b.v.b, .int .u8 b.v.c, .int .u8 b.v.d, .int .u8 b.v.e, .int .u8 b.v.f, .int .u8 b.v.g, .int .u8 b.v.h, .int .i64 b.e])).run Try.prog w = .ok (decide (a = b)) w := by
  have e : decide (a = b) = (a.k == b.k && (decide (a.n = b.n) && (a.b == b.b && (decide (a.v = b.v) && a.e == b.e)))) := by
    obtain ⟨a1, a2, a3, a4, a5⟩ := a
    obtain ⟨b1, b2, b3, b4, b5⟩ := b
    simp only [Sn.mk.injEq, Bool.decide_and]
    rfl
  have hn := eqIn_nm d a.n b.n w
  have hv := eqIn_v8 d a.v b.v w
  rw [e, run_equalIn_agg _ _ _ _ _ (by simp [go_sem]) (by simp [go_sem])]
  simp only [Program.fieldsOf, Try.underlying36]
  refine eqFields_cons (by decide) (a := .int .i8 a.k) (b := .int .i8 b.k) (by simp [go_sem]) (by simp [go_sem]) (by simp [go_sem]) ?_
  refine eqFields_cons (by decide) (by simp [go_sem]) (by simp [go_sem]) hn ?_
  refine eqFields_cons (by decide) (a := .int .i64 a.b) (b := .int .i64 b.b) (by simp [go_sem]) (by simp [go_sem]) (by simp [go_sem]) ?_
  refine eqFields_cons (by decide) (by simp [go_sem]) (by simp [go_sem]) hv ?_
  rw [← Bool.and_true (a.e == b.e)]
  exact eqFields_cons (by decide) (a := .int .i64 a.e) (b := .int .i64 b.e) (by simp [go_sem]) (by simp [go_sem]) (by simp [go_sem]) eqFields_nil

theorem eql_nm (a b : Nm) (w : World) : (binOp .eql 34 (.agg #[.int .i64 a.s, .int .i64 a.i, .int .i64 a.t]) (.agg #[.int .i64 b.s, .int .i64 b.i, .int .i64 b.t])).run Try.prog w = .ok (.bool (decide (a = b))) w := by
  rw [run_eql_struct, eqIn_nm 9998 a b w]; rfl

theorem neq_nm (a b : Nm) (w : World) : (binOp .neq 34 (.agg #[.int .i64 a.s, .int .i64 a.i, .int .i64 a.t]) (.agg #[.int .i64 b.s, .int .i64 b.i, .int .i64 b.t])).run Try.prog w = .ok (.bool (!decide (a = b))) w := by
  rw [run_neq_struct, eqIn_nm 9998 a b w]; rfl

theorem eql_v8 (a b : V8) (w : World) : (binOp .eql 23 (.agg #[.int .u8 a.a, .int .u8 a.b, .int .u8 a.c, .int .u8 a.d, .int .u8 a.e, .int .u8 a.f, .int .u8 a.g, .int .u8 a.h]) (.agg #[.int .u8 b.a, .int .u8 b.b, .int .u8 b.c, .int .u8 b.d, .int .u8 b.e, .int .u8 b.f, .int .u8 b.g, .int .u8 b.h])).run Try.prog w = .ok (.bool (decide (a = b))) w := by
  rw [run_eql_struct, eqIn_v8 9998 a b w]; rfl

theorem neq_v8 (a b : V8) (w : World) : (binOp .neq 23 (.agg #[.int .u8 a.a, .int .u8 a.b, .int .u8 a.c, .int .u8 a.d, .int .u8 a.e, .int .u8 a.f, .int .u8 a.g, .int .u8 a.h]) (.agg #[.int .u8 b.a, .int .u8 b.b, .int .u8 b.c, .int .u8 b.d, .int .u8 b.e, .int .u8 b.f, .int .u8 b.g, .int .u8 b.h])).run Try.prog w = .ok (.bool (!decide (a = b))) w := by
  rw [run_neq_struct, eqIn_v8 9998 a b w]; rfl

theorem eql_sn (a b : Sn) (w : World) : (binOp .eql 36 (.agg #[.int .i8 a.k, .int .i64 a.n.s, .int .i64 a.n.i, .int .i64 a.n.t, .int .i64 a.b, .int .u8 a.v.a, .int .u8 a.v.b, .int .u8 a.v.c, .int .u8 a.v.d, .int .u8 a.v.e, .int .u8 a.v.f, .int .u8 a.v.g, .int .u8 a.v.h, .int .i64 a.e]) (.agg #[.int .i8 b.k, .int .i64 b.n.s, .int .i64 b.n.i, .int .i64 b.n.t, .int .i64 b.b, .int .u8 b.v.a, .int .u8 b.v.b, .int .u8 b.v.c, .int .u8 b.v.d, .int .u8 b.v.e, .int .u8 b.v.f, .int .u8 b.v.g, .int .u8 b.v.h, .int .i64 b.e])).run Try.prog w = .ok (.bool (decide (a = b))) w := by
  rw [run_eql_struct, eqIn_sn 9997 a b w]; rfl

theorem neq_sn (a b : Sn) (w : World) : (binOp .neq 36 (.agg #[.int .i8 a.k, .int .i64 a.n.s, .int .i64 a.n.i, .int .i64 a.n.t, .int .i64 a.b, .int .u8 a.v.a, .int .u8 a.v.b, .int .u8 a.v.c, .int .u8 a.v.d, .int .u8 a.v.e, .int .u8 a.v.f, .int .u8 a.v.g, .int .u8 a.v.h, .int .i64 a.e]) (.agg #[.int .i8 b.k, .int .i64 b.n.s, .int .i64 b.n.i, .int .i64 b.n.t, .int .i64 b.b, .int .u8 b.v.a, .int .u8 b.v.b, .int .u8 b.v.c, .int .u8 b.v.d, .int .u8 b.v.e, .int .u8 b.v.f, .int .u8 b.v.g, .int .u8 b.v.h, .int .i64 b.e])).run Try.prog w = .ok (.bool (!decide (a = b))) w := by
  rw [run_neq_struct, eqIn_sn 9997 a b w]; rfl

theorem eql_nm_z (a : Nm) (w : World) : (binOp .eql 34 (.agg #[.int .i64 a.s, .int .i64 a.i, .int .i64 a.t]) (.agg #[.int .i64 0, .int .i64 0, .int .i64 0])).run Try.prog w = .ok (.bool (decide (a = ⟨0, 0, 0⟩))) w := eql_nm a ⟨0, 0, 0⟩ w

theorem neq_nm_z (a : Nm) (w : World) : (binOp .neq 34 (.agg #[.int .i64 a.s, .int .i64 a.i, .int .i64 a.t]) (.agg #[.int .i64 0, .int .i64 0, .int .i64 0])).run Try.prog w = .ok (.bool (!decide (a = ⟨0, 0, 0⟩))) w := neq_nm a ⟨0, 0, 0⟩ w

theorem eql_v8_z (a : V8) (w : World) : (binOp .eql 23 (.agg #[.int .u8 a.a, .int .u8 a.b, .int .u8 a.c, .int .u8 a.d, .int .u8 a.e, .int .u8 a.f, .int .u8 a.g, .int .u8 a.h]) (.agg #[.int .u8 0, .int .u8 0, .int .u8 0, .int .u8 0, .int .u8 0, .int .u8 0, .int .u8 0, .int .u8 0])).run Try.prog w = .ok (.bool (decide (a = ⟨0, 0, 0, 0, 0, 0, 0, 0⟩))) w := eql_v8 a ⟨0, 0, 0, 0, 0, 0, 0, 0⟩ w

theorem neq_v8_z (a : V8) (w : World) : (binOp .neq 23 (.agg #[.int .u8 a.a, .int .u8 a.b, .int .u8 a.c, .int .u8 a.d, .int .u8 a.e, .int .u8 a.f, .int .u8 a.g, .int .u8 a.h]) (.agg #[.int .u8 0, .int .u8 0, .int .u8 0, .int .u8 0, .int .u8 0, .int .u8 0, .int .u8 0, .int .u8 0])).run Try.prog w = .ok (.bool (!decide (a = ⟨0, 0, 0, 0, 0, 0, 0, 0⟩))) w := neq_v8 a ⟨0, 0, 0, 0, 0, 0, 0, 0⟩ w

end Go.Proofs.Ytgdmgeihgkbjaaa
/- Rows of values in memory, k cells each; what a walk reads of one of them. -/
namespace Go.Proofs.Ytgdmgeihgkbjaaa
open Go.RowKit

/-- From ⟨b, off⟩ on lie the values of l, k cells each. -/
def RowsAt {α : Type} (enc : α → List Value) (k : Nat) (w : World) (b off : Nat) (l : List α) : Prop :=
  ∀ i x, l[i]? = some x → ∀ j c, (enc x)[j]? = some c → w.cell? ⟨b, off + i * k + j, none⟩ = some c

/-- The slice value v holds l, in a block below B; or it is nil and l is empty. -/
def Rows {α : Type} (enc : α → List Value) (k : Nat) (B : Nat) (w : World) (v : Value) (l : List α) : Prop :=
  ∃ a cap, v = .slice a l.length cap ∧ (a = none → l = [] ∧ cap = 0) ∧ ∀ b off s, a = some ⟨b, off, s⟩ → 0 < l.length → s = none ∧ b < B ∧ RowsAt enc k w b off l

theorem RowsAt.below {α : Type} {enc : α → List Value} {k B : Nat} {w w' : World} {b off : Nat} {l : List α} (h : RowsAt enc k w b off l) (hb : b < B) (hw : Below B w w') : RowsAt enc k w' b off l :=
  fun i x hx j c hc => (hw.cell (p := ⟨b, off + i * k + j, none⟩) hb).trans (h i x hx j c hc)

theorem Rows.below {α : Type} {enc : α → List Value} {k B : Nat} {w w' : World} {v : Value} {l : List α} (h : Rows enc k B w v l) (hw : Below B w w') : Rows enc k B w' v l := by
  obtain ⟨a, cap, hv, hn, ha⟩ := h
  exact ⟨a, cap, hv, hn, fun b off s e h => ⟨(ha b off s e h).1, (ha b off s e h).2.1, (ha b off s e h).2.2.below (ha b off s e h).2.1 hw⟩⟩

theorem Rows.mono {α : Type} {enc : α → List Value} {k B B' : Nat} {w : World} {v : Value} {l : List α} (h : Rows enc k B w v l) (hB : B ≤ B') : Rows enc k B' w v l := by
  obtain ⟨a, cap, hv, hn, ha⟩ := h
  exact ⟨a, cap, hv, hn, fun b off s e h => ⟨(ha b off s e h).1, Nat.lt_of_lt_of_le (ha b off s e h).2.1 hB, (ha b off s e h).2.2⟩⟩

theorem Rows.nil {α : Type} (enc : α → List Value) (k B : Nat) (w : World) : Rows enc k B w (.slice none 0 0) ([] : List α) :=
  ⟨none, 0, rfl, fun _ => ⟨rfl, rfl⟩, fun _ _ _ e _ => by cases e⟩

/-- An element that is there: the slice is not nil. -/
theorem rows_some {α : Type} {enc : α → List Value} {k B : Nat} {w : World} {a : Option Addr} {cap : Nat} {l : List α} (hn : a = none → l = [] ∧ cap = 0)
    (ha : ∀ b off s, a = some ⟨b, off, s⟩ → 0 < l.length → s = none ∧ b < B ∧ RowsAt enc k w b off l) {q : Nat} (hq : q < l.length) : ∃ b off, a = some ⟨b, off, none⟩ ∧ b < B ∧ RowsAt enc k w b off l := by
  rcases a with _ | ⟨b, off, s⟩
  · have := (hn rfl).1
    subst this
    simp at hq
  · obtain ⟨rfl, h⟩ := ha b off s rfl (by omega)
    exact ⟨b, off, rfl, h⟩

abbrev Sns := Rows Sn.cells 14
abbrev Nms := Rows Nm.cells 3

def snAt (w : World) (b o : Nat) (x : Sn) : Prop :=
  w.cell? ⟨b, o, none⟩ = some (.int .i8 x.k) ∧ w.cell? ⟨b, o + 1, none⟩ = some (.int .i64 x.n.s) ∧ w.cell? ⟨b, o + 2, none⟩ = some (.int .i64 x.n.i) ∧ w.cell? ⟨b, o + 3, none⟩ = some (.int .i64 x.n.t) ∧
  w.cell? ⟨b, o + 4, none⟩ = some (.int .i64 x.b) ∧ w.cell? ⟨b, o + 5, none⟩ = some (.int .u8 x.v.a) ∧ w.cell? ⟨b, o + 6, none⟩ = some (.int .u8 x.v.b) ∧ w.cell? ⟨b, o + 7, none⟩ = some (.int .u8 x.v.c) ∧
  w.cell? ⟨b, o + 8, none⟩ = some (.int .u8 x.v.d) ∧ w.cell? ⟨b, o + 9, none⟩ = some (.int .u8 x.v.e) ∧ w.cell? ⟨b, o + 10, none⟩ = some (.int .u8 x.v.f) ∧ w.cell? ⟨b, o + 11, none⟩ = some (.int .u8 x.v.g) ∧
  w.cell? ⟨b, o + 12, none⟩ = some (.int .u8 x.v.h) ∧ w.cell? ⟨b, o + 13, none⟩ = some (.int .i64 x.e)

theorem RowsAt.sn {w : World} {b off : Nat} {l : List Sn} (h : RowsAt Sn.cells 14 w b off l) {q : Nat} {x : Sn} (hx : l[q]? = some x) : snAt w b (off + q * 14) x :=
  ⟨h q x hx 0 _ rfl, h q x hx 1 _ rfl, h q x hx 2 _ rfl, h q x hx 3 _ rfl, h q x hx 4 _ rfl, h q x hx 5 _ rfl, h q x hx 6 _ rfl, h q x hx 7 _ rfl, h q x hx 8 _ rfl, h q x hx 9 _ rfl, h q x hx 10 _ rfl, h q x hx 11 _ rfl, h q x hx 12 _ rfl, h q x hx 13 _ rfl⟩

theorem drop_cons {α : Type} {l : List α} {q : Nat} {x : α} (hx : l[q]? = some x) : l.drop q = x :: l.drop (q + 1) := by
  obtain ⟨h, rfl⟩ := List.getElem?_eq_some_iff.1 hx
  exact List.drop_eq_getElem_cons h

theorem drop_end {α : Type} {l : List α} {q : Nat} (h : ¬ q < l.length) : l.drop q = [] := List.drop_eq_nil_of_le (by omega)

theorem Below.drewN' {B : Nat} {a w : World} (h : Below B a w) (n : Nat) : Below B a (w.drewN n) := h.trans ⟨rfl, rfl, rfl, Nat.le_refl _, fun _ _ => rfl⟩

theorem below_alloc1 {w : World} (o : Obj) : Below w.heap.size w (w.alloc o) := (Below.refl _ _).alloc (Nat.le_refl _) _

end Go.Proofs.Ytgdmgeihgkbjaaa
/- What a round of a range over a function keeps: the iterators' blocks, all that lay below the call. -/
namespace Go.Proofs.Ytgdmgeihgkbjaaa
open Go.RowKit Go.Shelf

/-- The box bo holds a slice whose row is block k. -/
def rowOf (bo : Option Nat) (W : World) (k : Nat) : Prop := ∃ b o s n c, bo = some b ∧ W.cell? ⟨b, 0, none⟩ = some (.slice (some ⟨k, o, s⟩) n c)

def isData (o : Obj) : Prop := o.isCells = true ∨ o.isWalk = true

/-- What an iterator asks of a round: all data below n₀, and from n₁ on, but for the row that the box bo holds, lie as they lay. -/
structure Keep (n₀ n₁ : Nat) (bo : Option Nat) (W W' : World) : Prop where
  os : W'.os = W.os
  tape : W'.tape = W.tape
  output : W'.output = W.output
  size : W.heap.size ≤ W'.heap.size
  same : ∀ k o, (k < n₀ ∨ n₁ ≤ k ∧ ¬ rowOf bo W k) → W.heap[k]? = some o → isData o → W'.heap[k]? = some o
  row : ∀ k, rowOf bo W' k → rowOf bo W k ∨ W.heap.size ≤ k

theorem lt_of_heap {W : World} {k : Nat} {o : Obj} (h : W.heap[k]? = some o) : k < W.heap.size := (Array.getElem?_eq_some_iff.1 h).1

theorem Keep.refl (n₀ n₁ : Nat) (bo : Option Nat) (W : World) : Keep n₀ n₁ bo W W := ⟨rfl, rfl, rfl, Nat.le_refl _, fun _ _ _ h _ => h, fun _ h => .inl h⟩

theorem Keep.trans {n₀ n₁ : Nat} {bo : Option Nat} {A B C : World} (h : Keep n₀ n₁ bo A B) (k : Keep n₀ n₁ bo B C) : Keep n₀ n₁ bo A C :=
  ⟨k.os.trans h.os, k.tape.trans h.tape, k.output.trans h.output, Nat.le_trans h.size k.size,
    fun j o hj hA ho => k.same j o (hj.imp id fun ⟨h1, h2⟩ => ⟨h1, fun hr => (h.row j hr).elim h2 fun hs => by have := lt_of_heap hA; omega⟩) (h.same j o hj hA ho) ho,
    fun j hj => (k.row j hj).elim (h.row j) fun hs => .inr (Nat.le_trans h.size hs)⟩

theorem Keep.book {n₀ n₁ : Nat} {bo : Option Nat} {w : World} (hbo : ∀ b, bo = some b → b < w.heap.size) (W : World) (l : Nat) (o o' : Obj) (hl : w.heap.size ≤ l) (h : W.heap[l]? = some o) (h1 : o.isCells = false) (h2 : o.isWalk = false) :
    Keep n₀ n₁ bo W (W.putObj l o') := by
  refine ⟨rfl, rfl, rfl, by simp, fun k ok _ hk hd => ?_, fun k hk => .inl ?_⟩
  · have : k ≠ l := by
      rintro rfl
      rw [h] at hk
      cases hk
      rcases hd with hd | hd <;> simp_all
    exact (World.putObj_heap_other this).trans hk
  · obtain ⟨b, o, s, n, c, hb, hc⟩ := hk
    have := hbo b hb
    exact ⟨b, o, s, n, c, hb, (World.cell?_of_block (w := W) (a := ⟨b, 0, none⟩) (World.putObj_heap_other (show b ≠ l by omega))).symm.trans hc⟩

/-- What the body of a round does: it writes blocks from n₀ to n₁, the row of bo, new blocks. -/
structure Rnd (n₀ n₁ : Nat) (bo : Option Nat) (W W' : World) : Prop where
  os : W'.os = W.os
  tape : W'.tape = W.tape
  output : W'.output = W.output
  size : W.heap.size ≤ W'.heap.size
  same : ∀ k o, (k < n₀ ∨ n₁ ≤ k ∧ (o.isCells = false ∨ ¬ rowOf bo W k)) → W.heap[k]? = some o → W'.heap[k]? = some o
  row : ∀ k, rowOf bo W' k → rowOf bo W k ∨ W.heap.size ≤ k

theorem Rnd.keep {n₀ n₁ : Nat} {bo : Option Nat} {W W' : World} (h : Rnd n₀ n₁ bo W W') : Keep n₀ n₁ bo W W' :=
  ⟨h.os, h.tape, h.output, h.size, fun k o hk hW _ => h.same k o (hk.imp id fun x => ⟨x.1, .inr x.2⟩) hW, h.row⟩

theorem Rnd.from {n₀ n₁ : Nat} {bo : Option Nat} {W W' : World} (h : Rnd n₀ n₁ bo W W') {B : Nat} (hB : n₁ ≤ B) : KeepsFrom B W W' :=
  ⟨h.size, fun k o hk hW ho => h.same k o (.inr ⟨by omega, .inl ho⟩) hW⟩

theorem Rnd.below {n₀ n₁ : Nat} {bo : Option Nat} {w W W' : World} (h : Rnd n₀ n₁ bo W W') (hb : Below n₀ w W) (hn : n₀ ≤ w.heap.size) : Below n₀ w W' :=
  hb.trans ⟨h.os, h.tape, h.output, h.size, fun k hk => by
    have hlt : k < W.heap.size := Nat.lt_of_lt_of_le (Nat.lt_of_lt_of_le hk hn) hb.size
    rw [h.same k _ (.inl hk) (Array.getElem?_eq_getElem hlt), Array.getElem?_eq_getElem hlt]⟩

theorem Rnd.refl (n₀ n₁ : Nat) (bo : Option Nat) (W : World) : Rnd n₀ n₁ bo W W := ⟨rfl, rfl, rfl, Nat.le_refl _, fun _ _ _ h => h, fun _ h => .inl h⟩

theorem Rnd.trans {n₀ n₁ : Nat} {bo : Option Nat} {A B C : World} (h : Rnd n₀ n₁ bo A B) (k : Rnd n₀ n₁ bo B C) : Rnd n₀ n₁ bo A C :=
  ⟨k.os.trans h.os, k.tape.trans h.tape, k.output.trans h.output, Nat.le_trans h.size k.size,
    fun j o hj hA => k.same j o (hj.imp id fun ⟨h1, h2⟩ => ⟨h1, h2.imp id fun h2 hr => (h.row j hr).elim h2 fun hs => by have := lt_of_heap hA; omega⟩) (h.same j o hj hA),
    fun j hj => (k.row j hj).elim (h.row j) fun hs => .inr (Nat.le_trans h.size hs)⟩

theorem rowOf_of_block {bo : Option Nat} {W W' : World} (h : ∀ b, bo = some b → W'.heap[b]? = W.heap[b]?) {k : Nat} (hr : rowOf bo W' k) : rowOf bo W k := by
  obtain ⟨b, o, s, n, c, hb, hc⟩ := hr
  exact ⟨b, o, s, n, c, hb, (World.cell?_of_block (w := W) (a := ⟨b, 0, none⟩) (h b hb)).symm.trans hc⟩

/-- A callee that turns nothing that was there. -/
theorem Rnd.of_below {n₀ n₁ : Nat} {bo : Option Nat} {W W' : World} (h : Below W.heap.size W W') (hbo : ∀ b, bo = some b → b < W.heap.size) : Rnd n₀ n₁ bo W W' :=
  ⟨h.os, h.tape, h.output, h.size, fun k _ _ hW => (h.block k (lt_of_heap hW)).trans hW, fun _ hk => .inl (rowOf_of_block (fun b hb => h.block b (hbo b hb)) hk)⟩

theorem Rnd.alloc {n₀ n₁ : Nat} {bo : Option Nat} {W : World} (o : Obj) (hbo : ∀ b, bo = some b → b < W.heap.size) : Rnd n₀ n₁ bo W (W.alloc o) :=
  Rnd.of_below (below_alloc1 o) hbo

theorem Rnd.drewN {n₀ n₁ : Nat} {bo : Option Nat} (W : World) (n : Nat) : Rnd n₀ n₁ bo W (W.drewN n) :=
  ⟨rfl, rfl, rfl, Nat.le_refl _, fun _ _ _ h => h, fun _ hk => .inl hk⟩

/-- One block of the caller's own is turned; the box bo is not. -/
theorem Rnd.turn {n₀ n₁ : Nat} {bo : Option Nat} {W W' : World} {j : Nat} (hg : W.grownBy W' (some j)) (h0 : n₀ ≤ j) (h1 : j < n₁) (hbo : ∀ b, bo = some b → b < W.heap.size ∧ b ≠ j) : Rnd n₀ n₁ bo W W' :=
  ⟨hg.os, hg.tape, hg.output, hg.size, fun k _ hk hW => (hg.block k (lt_of_heap hW) (fun e => by cases e; rcases hk with hk | hk <;> omega)).trans hW,
    fun _ hk => .inl (rowOf_of_block (fun b hb => hg.block b (hbo b hb).1 (fun e => (hbo b hb).2 (by cases e; rfl))) hk)⟩

/-- A new block that is written before the round ends. -/
theorem Rnd.turnNew {n₀ n₁ : Nat} {bo : Option Nat} {W W' W'' : World} {j : Nat} (h : Rnd n₀ n₁ bo W W') (hg : W'.grownBy W'' (some j)) (h0 : W.heap.size ≤ j) (hbo : ∀ b, bo = some b → b < W.heap.size) : Rnd n₀ n₁ bo W W'' :=
  ⟨hg.os.trans h.os, hg.tape.trans h.tape, hg.output.trans h.output, Nat.le_trans h.size hg.size,
    fun k o hk hW => (hg.block k (Nat.lt_of_lt_of_le (lt_of_heap hW) h.size) (fun e => by cases e; have := lt_of_heap hW; omega)).trans (h.same k o hk hW),
    fun k hk => h.row k (rowOf_of_block (fun b hb => hg.block b (Nat.lt_of_lt_of_le (hbo b hb) h.size) (fun e => by cases e; have := hbo _ hb; omega)) hk)⟩

/-- 'out = append(out, ..)': out lies in the box B. -/
theorem Rnd.append {n₀ n₁ B : Nat} {W w1 : World} {t e : TypeId} {size : Nat} {v v' : Value} {k m : Nat} {xs ys : List Value} {tmp : Obj}
    (hv : Boxed W B t v) (hte : t ≠ e) (h0 : n₀ ≤ B) (h1 : B < n₁) (hrow : W.ownsRow n₀ e size v k xs) (hown' : w1.ownsRow n₀ e size v' m ys) (hgrow : (W.alloc tmp).grownBy w1 v.ownBlock)
    (hloc : v'.ownBlock = v.ownBlock ∨ v'.ownBlock = some (W.alloc tmp).heap.size) :
    Rnd n₀ n₁ (some B) W (w1.setCell ⟨B, 0, none⟩ v') ∧ Boxed w1 B t v ∧ Boxed (w1.setCell ⟨B, 0, none⟩ v') B t v' ∧ (w1.setCell ⟨B, 0, none⟩ v').ownsRow n₀ e size v' m ys ∧
    ∀ k o, k ≠ B → v.ownBlock ≠ some k → W.heap[k]? = some o → (w1.setCell ⟨B, 0, none⟩ v').heap[k]? = some o := by
  have hv1 : Boxed w1 B t v := (hv.alloc tmp).kept hgrow (hv.not_row hte hrow)
  refine ⟨⟨hgrow.os, hgrow.tape, hgrow.output, by have := hgrow.size; simp [World.setCell] at this ⊢; omega, fun j o hj hW => ?_, fun j hj => ?_⟩, hv1, hv1.set v', hown'.kept (grownBy_setCell' w1 B v') (.inr (hv1.not_row hte hown').symm), fun j o hjB hjv hW => ?_⟩
  · have hjB : j ≠ B := by rcases hj with hj | hj <;> omega
    rw [Below.heap_setCell _ _ _ j hjB, hgrow.block j (by have := lt_of_heap hW; simp; omega) ?_, Below.heap_alloc _ _ _ (lt_of_heap hW)]
    · exact hW
    · intro ej
      rcases hrow.2 with ⟨rfl, _⟩ | ⟨g, cap, cur, rfl, hb, hg, _⟩
      · simp [Value.ownBlock] at ej
      · obtain rfl : g = j := by simpa [Value.ownBlock] using ej.symm
        rcases hj with hj | ⟨_, hj | hj⟩
        · omega
        · rw [hg] at hW; cases hW; cases hj
        · exact hj ⟨B, _, _, _, _, rfl, hv.cell⟩
  · obtain ⟨b, o, s, n, c, hb, hc⟩ := hj
    cases hb
    rw [(hv1.set v').cell] at hc
    cases hc
    rcases hloc with hl | hl
    · left
      rcases hrow.2 with ⟨rfl, _⟩ | ⟨g, cap, cur, rfl, _, _, _⟩
      · simp [Value.ownBlock] at hl
      · simp [Value.ownBlock] at hl
        subst hl
        exact ⟨B, _, _, _, _, rfl, hv.cell⟩
    · right
      simp [Value.ownBlock] at hl
      omega
  · rw [Below.heap_setCell _ _ _ j hjB, hgrow.block j (by have := lt_of_heap hW; simp; omega) (fun e => hjv e.symm), Below.heap_alloc _ _ _ (lt_of_heap hW)]
    exact hW

theorem ownsRow_slice {W : World} {base : Nat} {e : TypeId} {size n : Nat} {v : Value} {xs : List Value} (h : W.ownsRow base e size v n xs) : ∃ a c, v = .slice a n c := by
  rcases h.2 with ⟨rfl, rfl⟩ | ⟨g, cap, _, rfl, _⟩
  · exact ⟨none, 0, rfl⟩
  · exact ⟨_, cap, rfl⟩

theorem Keep.cell {n₀ n₁ : Nat} {bo : Option Nat} {W W' : World} (h : Keep n₀ n₁ bo W W') {a : Addr} {v : Value} (hk : a.block < n₀ ∨ n₁ ≤ a.block ∧ ¬ rowOf bo W a.block) (hc : W.cell? a = some v) : W'.cell? a = some v := by
  have hc' := hc
  unfold World.cell? at hc'
  cases ho : W.heap[a.block]? with
  | none => rw [ho] at hc'; cases hc'
  | some o =>
    have hd : isData o := by rw [ho] at hc'; cases o <;> first | exact .inl rfl | cases hc'
    exact (World.cell?_of_block ((h.same _ _ hk ho hd).trans ho.symm)).trans hc

theorem RowsAt.keep {α : Type} {enc : α → List Value} {k n₀ n₁ : Nat} {bo : Option Nat} {W W' : World} {b off : Nat} {l : List α} (h : RowsAt enc k W b off l) (hk : Keep n₀ n₁ bo W W') (hb : b < n₀) : RowsAt enc k W' b off l :=
  fun i x hx j c hc => hk.cell (a := ⟨b, off + i * k + j, none⟩) (.inl hb) (h i x hx j c hc)

theorem from_turn {B : Nat} {W W' : World} {j : Nat} (hg : W.grownBy W' (some j)) (hj : j < B ∨ ∃ c t f, W.heap[j]? = some (.cells c t f)) : KeepsFrom B W W' :=
  ⟨hg.size, fun k o hB hW ho => (hg.block k (lt_of_heap hW) (fun e => by
    cases e
    rcases hj with hj | ⟨c, t, f, hj⟩
    · omega
    · rw [hj] at hW; cases hW; cases ho)).trans hW⟩

theorem from_below {B : Nat} {W W' : World} (h : Below W.heap.size W W') : KeepsFrom B W W' :=
  ⟨h.size, fun k _ _ hW _ => (h.block k (lt_of_heap hW)).trans hW⟩

/-- The iterator g, with what it has captured, hands out ys. -/
def SeqC {β : Type} (n : Nat) (g : Nat) (lb : Array Value) (encs : β → Array Value) (Kp : World → World → Prop) (ys : List β) (w : World) : Prop :=
  SeqStopsK Fence.wide n Try.prog g lb (fun x : { b // b ∈ ys } => encs x.1) Kp (fun xs => xs.map (·.1) = ys) (fun pre => pre.map (·.1) <+: ys) ys.length w

/-- J abides a new block. -/
theorem abides_alloc {β : Type} {B : Nat} {J : β → World → Prop} (h : AbidesFrom B J) {s : β} {W : World} (o : Obj) (hs : J s W) : J s (W.alloc o) :=
  h s W _ none hs (World.grownBy_alloc W o none) (fun _ e => by cases e)

theorem abides_drewN {β : Type} {B : Nat} {J : β → World → Prop} (h : AbidesFrom B J) {s : β} {W : World} (n : Nat) (hs : J s W) : J s (W.drewN n) :=
  h s W _ none hs ⟨rfl, rfl, rfl, Nat.le_refl _, fun _ _ _ => rfl⟩ (fun _ e => by cases e)

end Go.Proofs.Ytgdmgeihgkbjaaa
/- A region that draws its order: an invariant over what has been carried out serves every order. -/
namespace Go.Proofs.Ytgdmgeihgkbjaaa
open Go.RowKit Go.Shelf

/-- A Bool that hangs on what has been carried out (simp does not open it). -/
def selB (b x y : Bool) : Bool := bif b then x else y

def upd (L : Nat → Bool) (k : Nat) : Nat → Bool := fun j => (j == k) || L j

/-- Operation k (o) carries the invariant on. -/
def StepOK (F : Fence) (n : Nat) (P : Program) (ops : Array Oper) (Q : Exit → Act → World → Prop) (S : (Nat → Bool) → Act → World → Prop) (k : Nat) (o : Oper) : Prop :=
  ∀ L a w, S L a w → L k = false → (o.after.toList.all fun e => !Region.binds .any e || L e.on) = true →
    if Region.wanted o (yielded ops a.tmps) then o.wpIn F n P a w (S (upd L k)) Q else S (upd L k) (a.put o.dst undef) w

/-- What has been carried out, its edges have been too. -/
def Closed (ops : Array Oper) (L : Nat → Bool) : Prop := ∀ i o, ops[i]? = some o → L i = true → (o.after.toList.all fun e => !Region.binds .any e || L e.on) = true

theorem Closed.upd {ops : Array Oper} {L : Nat → Bool} {k : Nat} {o : Oper} (h : Closed ops L) (hk : ops[k]? = some o) (hd : (o.after.toList.all fun e => !Region.binds .any e || L e.on) = true) : Closed ops (upd L k) := by
  have lift : ∀ o' : Oper, (o'.after.toList.all fun e => !Region.binds .any e || L e.on) = true → (o'.after.toList.all fun e => !Region.binds .any e || Ytgdmgeihgkbjaaa.upd L k e.on) = true := by
    intro o' h'
    rw [List.all_eq_true] at h' ⊢
    intro e he
    have := h' e he
    unfold Ytgdmgeihgkbjaaa.upd
    cases hb : Region.binds .any e
    · simp
    · simp only [hb, Bool.not_true, Bool.false_or] at this ⊢
      rw [this, Bool.or_true]
  intro i o' ho hi
  refine lift o' ?_
  by_cases hik : i = k
  · subst hik
    rw [hk] at ho
    cases ho
    exact hd
  · have : L i = true := by simpa [Ytgdmgeihgkbjaaa.upd, hik] using hi
    exact h i o' ho this

def StepsOK (F : Fence) (n : Nat) (P : Program) (ops : Array Oper) (Q : Exit → Act → World → Prop) (S : (Nat → Bool) → Act → World → Prop) : Nat → List Oper → Prop
  | _, [] => True
  | k, o :: r => StepOK F n P ops Q S k o ∧ StepsOK F n P ops Q S (k + 1) r

theorem StepsOK.get {F : Fence} {n : Nat} {P : Program} {ops : Array Oper} {Q : Exit → Act → World → Prop} {S : (Nat → Bool) → Act → World → Prop} :
    ∀ (l : List Oper) (k : Nat), StepsOK F n P ops Q S k l → ∀ i o, l[i]? = some o → StepOK F n P ops Q S (k + i) o
  | [], _, _, i, o, h => by simp at h
  | x :: l, k, hs, 0, o, h => by simp at h; subst h; exact hs.1
  | x :: l, k, hs, i + 1, o, h => by
    have := StepsOK.get l (k + 1) hs.2 i o (by simpa using h)
    rwa [Nat.add_assoc, Nat.add_comm 1 i] at this

/-- Each edge leads back. -/
def backward (ops : List Oper) : Bool := (ops.zipIdx).all fun (o, i) => o.after.toList.all fun e => !Region.binds .any e || decide (e.on < i)

theorem ready_nil {ops : Array Oper} {listed : Array Bool} (hb : backward ops.toList = true) (hr : Region.ready .any ops listed = []) (hsz : listed.size = ops.size) : ∀ i, i < ops.size → listed.getD i false = true := by
  intro i
  induction i using Nat.strongRecOn with
  | _ i ih =>
    intro hi
    have hn : i ∉ Region.ready .any ops listed := by rw [hr]; simp
    unfold Region.ready at hn
    simp only [List.mem_filter, List.mem_range, not_and, Bool.not_eq_true] at hn
    have := hn hi
    have ho : ops[i]? = some ops[i] := Array.getElem?_eq_getElem hi
    rw [ho] at this
    simp only [Option.map_some, Option.getD_some] at this
    have hall : (ops[i].after.all fun e => !Region.binds .any e || listed.getD e.on false) = true := by
      rw [← Array.all_toList]
      unfold backward at hb
      rw [List.all_eq_true] at hb
      have hb' := hb (ops[i], i) (by rw [List.mem_zipIdx_iff_getElem?]; simp)
      simp only [List.all_eq_true] at hb' ⊢
      intro e he
      have := hb' e he
      rcases hbd : Region.binds .any e with _ | _
      · simp
      · simp only [hbd, Bool.not_true, Bool.false_or, decide_eq_true_eq] at this ⊢
        exact ih e.on this (by omega)
    rw [hall, Bool.and_true] at this
    have hlt : i < listed.size := by omega
    simp [hlt] at this ⊢
    exact this

theorem wpAnyIn_inv {F : Fence} {n : Nat} {P : Program} {ops : Array Oper} {Q : Exit → Act → World → Prop} (hF : ∀ f, F.fn f) (hb : backward ops.toList = true) (S : (Nat → Bool) → Act → World → Prop) (hs : StepsOK F n P ops Q S 0 ops.toList)
    (he : ∀ L a w, S L a w → (∀ i, i < ops.size → L i = true) → Q .normal a w) :
    ∀ (fuel : Nat) (listed : Array Bool) (a : Act) (w : World), listed.size = ops.size → listed.toList.count false ≤ fuel → S (fun i => listed.getD i false) a w → wpAnyIn F n P .any ops Q fuel listed a w := by
  intro fuel
  induction fuel with
  | zero =>
    intro listed a w hsz hc hS
    have hall : ∀ i, i < ops.size → listed.getD i false = true := by
      intro i hi
      have hc0 : listed.toList.count false = 0 := by omega
      have hnm := List.count_eq_zero.1 hc0
      have hlt : i < listed.size := by omega
      simp only [Array.getD_eq_getD_getElem?, Array.getElem?_eq_getElem hlt, Option.getD_some]
      cases hv : listed[i] with
      | true => rfl
      | false => exact absurd (by rw [Array.mem_toList_iff]; exact hv ▸ Array.getElem_mem hlt) hnm
    refine ⟨?_, he _ _ _ hS hall⟩
    unfold Region.ready
    rw [List.filter_eq_nil_iff]
    intro i hi
    have hi' : i < ops.size := by simpa using hi
    have := hall i hi'
    have hlt : i < listed.size := by omega
    simp [hlt] at this ⊢
    intro h
    rw [this] at h
    cases h
  | succ fuel ih =>
    intro listed a w hsz hc hS
    refine ⟨fun hr => he _ _ _ hS (ready_nil hb hr hsz), fun i hi => ?_⟩
    unfold Region.ready at hi
    simp only [List.mem_filter, List.mem_range, Bool.and_eq_true] at hi
    obtain ⟨hlt, hnl, hdeps⟩ := hi
    have ho : ops[i]? = some ops[i] := Array.getElem?_eq_getElem hlt
    rw [ho] at hdeps
    simp only [Option.map_some, Option.getD_some] at hdeps
    have hll : i < listed.size := by omega
    have hfalse : listed[i] = false := by simpa [hll] using hnl
    have hstep := StepsOK.get ops.toList 0 hs i ops[i] (by simp)
    rw [Nat.zero_add] at hstep
    have h := hstep (fun j => listed.getD j false) a w hS (by simp [hll, hfalse]) (by rw [Array.all_toList]; exact hdeps)
    have hnext : ∀ a' w', S (upd (fun j => listed.getD j false) i) a' w' → wpAnyIn F n P .any ops Q fuel (listed.setIfInBounds i true) a' w' := by
      intro a' w' hS'
      refine ih _ a' w' (by simpa using hsz) ?_ ?_
      · have hcs : (listed.setIfInBounds i true).toList.count false + 1 = listed.toList.count false := by
          rw [Array.toList_setIfInBounds]
          have hmem : listed.toList[i]'(by simpa using hll) = false := by simpa using hfalse
          rw [List.count_set (by simpa using hll)]
          have hpos : 0 < listed.toList.count false := List.count_pos_iff.2 (by rw [← hmem]; exact List.getElem_mem _)
          simp only [hmem, beq_self_eq_true, if_true]
          rw [if_neg (by decide)]
          omega
        omega
      · have e : (fun j => (listed.setIfInBounds i true).getD j false) = upd (fun j => listed.getD j false) i := by
          funext j
          unfold upd
          by_cases hj : j = i
          · subst hj; simp [hll]
          · simp [hj, Ne.symm hj]
        rw [e]
        exact hS'
    unfold wpOpIn
    simp only [ho]
    split
    · rename_i hw
      rw [if_pos hw] at h
      exact Oper.wpIn_mono hnext h
    · rename_i hw
      rw [if_neg hw] at h
      exact ⟨fun f _ => hF f, hnext _ _ h⟩

/-- **A region that draws its order, by an invariant over what has been carried out.** -/
theorem wpIn_region_inv {F : Fence} {n : Nat} {P : Program} {id : Nat} {l : List Oper} {Q : Exit → Act → World → Prop} {a : Act} {w : World} (hm : P.follows .mixedOrders = true) (hF : ∀ f, F.fn f) (hb : backward l = true)
    (S : (Nat → Bool) → Act → World → Prop) (h0 : S (fun _ => false) a w.drew) (hs : StepsOK F n P l.toArray Q S 0 l) (he : ∀ L a w, S L a w → (∀ i, i < l.length → L i = true) → Q .normal a w) :
    (Code.region id l.toArray true).wpIn F n P Q a w :=
  wpIn_region_any hm (wpAnyIn_inv hF (by simpa using hb) S (by simpa using hs) (by simpa using he) _ _ _ _ (by simp) (by simp) (by
    have e : (fun i => (Array.replicate l.toArray.size false).getD i false) = (fun _ => false) := by
      funext i
      simp only [Array.getD_eq_getD_getElem?, Array.getElem?_replicate]
      split <;> rfl
    rw [e]
    exact h0))

/-- Operation k (o) carries the invariant on, from a closed stage. -/
def StepC (F : Fence) (n : Nat) (P : Program) (ops : Array Oper) (Q : Exit → Act → World → Prop) (S : (Nat → Bool) → Act → World → Prop) (k : Nat) (o : Oper) : Prop :=
  ∀ L a w, S L a w → Closed ops L → L k = false → (o.after.toList.all fun e => !Region.binds .any e || L e.on) = true →
    if Region.wanted o (yielded ops a.tmps) then o.wpIn F n P a w (S (upd L k)) Q else S (upd L k) (a.put o.dst undef) w

def StepsC (F : Fence) (n : Nat) (P : Program) (ops : Array Oper) (Q : Exit → Act → World → Prop) (S : (Nat → Bool) → Act → World → Prop) : Nat → List Oper → Prop
  | _, [] => True
  | k, o :: r => StepC F n P ops Q S k o ∧ StepsC F n P ops Q S (k + 1) r

theorem StepsC.ok {F : Fence} {n : Nat} {P : Program} {ops : Array Oper} {Q : Exit → Act → World → Prop} {S : (Nat → Bool) → Act → World → Prop} :
    ∀ (l : List Oper) (k : Nat), (∀ i o, l[i]? = some o → ops[k + i]? = some o) → StepsC F n P ops Q S k l → StepsOK F n P ops Q (fun L a w => S L a w ∧ Closed ops L) k l
  | [], _, _, _ => trivial
  | o :: l, k, hl, h => by
    refine ⟨?_, StepsC.ok l (k + 1) (fun i o' hi => by have := hl (i + 1) o' (by simpa using hi); rwa [Nat.add_assoc, Nat.add_comm 1 i]) h.2⟩
    have hk : ops[k]? = some o := by simpa using hl 0 o (by simp)
    rintro L a w ⟨hS, hcl⟩ hkf hd
    have h1 := h.1 L a w hS hcl hkf hd
    split
    · rename_i hw
      rw [if_pos hw] at h1
      exact Oper.wpIn_mono (fun a w hs => ⟨hs, hcl.upd hk hd⟩) h1
    · rename_i hw
      rw [if_neg hw] at h1
      exact ⟨h1, hcl.upd hk hd⟩

/-- **The rule, with the stage known to be closed.** -/
theorem wpIn_region_closed {F : Fence} {n : Nat} {P : Program} {id : Nat} {l : List Oper} {Q : Exit → Act → World → Prop} {a : Act} {w : World} (hm : P.follows .mixedOrders = true) (hF : ∀ f, F.fn f) (hb : backward l = true)
    (S : (Nat → Bool) → Act → World → Prop) (h0 : S (fun _ => false) a w.drew) (hs : StepsC F n P l.toArray Q S 0 l) (he : ∀ L a w, S L a w → (∀ i, i < l.length → L i = true) → Q .normal a w) :
    (Code.region id l.toArray true).wpIn F n P Q a w :=
  wpIn_region_inv hm hF hb (fun L a w => S L a w ∧ Closed l.toArray L) ⟨h0, fun _ _ _ h => by cases h⟩ (StepsC.ok l 0 (by simp) hs) (fun L a w h => he L a w h.1)

theorem opIn_load {F : Fence} {n : Nat} {P : Program} {o : Oper} {a : Act} {w : World} {K : Act → World → Prop} {Q : Exit → Act → World → Prop} (ty : TypeId) (x : Operand) (ho : o.op = .load ty x)
    (ad : Addr) (hx : a.eval x = .pointer (some ad)) (v : Value) (hl : (loadVar ty ad).run P w = .ok v w) (h : K (a.put o.dst v) w) : o.wpIn F n P a w K Q := by
  unfold Oper.wpIn
  refine ⟨by simp [Oper.about, ho], ?_⟩
  rw [Oper.semAt_plain F _ _ (by rw [ho]; intro c hc'; cases hc')]
  simp only [execOp, ho, hx, Instr.loadAt, Instr.sureAddr, Sem.run_bind, Sem.run_pure, Result.andThen_ok, hl]
  exact h

theorem opIn_store {F : Fence} {n : Nat} {P : Program} {o : Oper} {a : Act} {w w' : World} {K : Act → World → Prop} {Q : Exit → Act → World → Prop} (ty : TypeId) (x y : Operand) (ho : o.op = .store ty x y)
    (ad : Addr) (hx : a.eval x = .pointer (some ad)) (v : Value) (hy : a.eval y = v) (hl : (storeVar ty ad v).run P w = .ok () w') (h : K (a.put o.dst undef) w') : o.wpIn F n P a w K Q := by
  unfold Oper.wpIn
  refine ⟨by simp [Oper.about, ho], ?_⟩
  rw [Oper.semAt_plain F _ _ (by rw [ho]; intro c hc'; cases hc')]
  simp only [execOp, ho, hx, hy, Instr.storeAt, Instr.sureAddr, Sem.run_bind, Sem.run_pure, Result.andThen_ok, hl]
  exact h

theorem opIn_value {F : Fence} {n : Nat} {P : Program} {o : Oper} {a : Act} {w : World} {K : Act → World → Prop} {Q : Exit → Act → World → Prop} (hc : ∀ c, o.op ≠ .call c) (hd : ∀ c, o.op ≠ .defer c) (hg : ∀ c, o.op ≠ .go c)
    {v : Value} {w' : World} (hr : (execOp a.eval o).run P w = .ok (.value v) w') (h : K (a.put o.dst v) w') : o.wpIn F n P a w K Q := by
  unfold Oper.wpIn
  refine ⟨?_, ?_⟩
  · intro f hf
    unfold Oper.about at hf
    cases ho : o.op <;> simp_all
  · rw [Oper.semAt_plain F _ _ (by intro c hc'; exact hd c hc'), hr]
    exact h

/-- A call of a Go function inside such a region. -/
theorem opIn_call {n : Nat} {o : Oper} {a : Act} {w : World} {K : Act → World → Prop} {Q : Exit → Act → World → Prop} (hd : ∀ c, o.op ≠ .defer c) {f : FuncId} {args : Array Value} (hr : (execOp a.eval o).run Try.prog w = .ok (.enter f args) w)
    {R : Ending → World → Prop} (hc : CallsIn Fence.wide n Try.prog f args w R) (hR : ∀ e w', R e w' → ∃ r, e = .returned r ∧ K (a.put o.dst r) w') : o.wpIn Fence.wide (n + 1) Try.prog a w K Q := by
  unfold Oper.wpIn
  refine ⟨fun _ _ => trivial, ?_⟩
  rw [Oper.semAt_plain _ _ _ (by intro c hc'; exact hd c hc'), hr, Oper.uponIn_enter]
  refine ⟨fun _ => by omega, hc.mono ?_⟩
  intro e w' h
  obtain ⟨r, rfl, hk⟩ := hR e w' h
  exact hk

theorem stepOK_plain {F : Fence} {n : Nat} {P : Program} {ops : Array Oper} {Q : Exit → Act → World → Prop} {S : (Nat → Bool) → Act → World → Prop} {k : Nat} {o : Oper} (hg : o.guard = none)
    (h : ∀ L a w, S L a w → L k = false → (o.after.toList.all fun e => !Region.binds .any e || L e.on) = true → o.wpIn F n P a w (S (upd L k)) Q) : StepOK F n P ops Q S k o := by
  intro L a w hS hk hd
  have : Region.wanted o (yielded ops a.tmps) = true := by simp [Region.wanted, hg]
  rw [if_pos this]
  exact h L a w hS hk hd

theorem mixed : Try.prog.follows .mixedOrders = true := by kernel_rfl

end Go.Proofs.Ytgdmgeihgkbjaaa
/- Regions that draw their order: the rule with the frame said by what is written; for plain walks too. -/
namespace Go.Proofs.Ytgdmgeihgkbjaaa
open Go.RowKit Go.Shelf

/-- What slot d is written with, and by which operation. -/
def slotOf : List (Nat × Nat × Value) → Nat → Option (Nat × Value)
  | [], _ => none
  | (k, d, v) :: r, i => if d = i then some (k, v) else slotOf r i

/-- The frame a, in which operation k has written v into slot d, if it has been carried out. -/
def frameOf (L : Nat → Bool) (a : Act) (ps : List (Nat × Nat × Value)) : Act :=
  ⟨a.tmps.mapIdx fun i u => match slotOf ps i with | some (k, v) => bif L k then v else u | none => u, a.defers⟩

/-- All has been written. -/
def putAll (a : Act) : List (Nat × Nat × Value) → Act
  | [] => a
  | (_, d, v) :: r => (putAll a r).put (some d) v

theorem act_ext {a b : Act} (h : ∀ i : Nat, a.tmps[i]? = b.tmps[i]?) (hd : a.defers = b.defers) : a = b := by
  obtain ⟨t, d⟩ := a
  obtain ⟨t', d'⟩ := b
  cases hd
  congr 1
  exact Array.ext_getElem? h

theorem frame_get (L : Nat → Bool) (a : Act) (ps : List (Nat × Nat × Value)) (i : Nat) : (frameOf L a ps).tmps[i]? = (a.tmps[i]?).map fun u => match slotOf ps i with | some (k, v) => bif L k then v else u | none => u := by
  simp only [frameOf, Array.getElem?_mapIdx]

theorem frameOf_none (ps : List (Nat × Nat × Value)) (a : Act) : frameOf (fun _ => false) a ps = a := by
  refine act_ext (fun i => ?_) rfl
  rw [frame_get]
  cases a.tmps[i]? with
  | none => rfl
  | some u => simp only [Option.map_some]; cases slotOf ps i <;> rfl

/-- Operation k writes slot d, and no other. -/
def keysOK (ps : List (Nat × Nat × Value)) (k d : Nat) : Bool := ps.all fun p => (p.1 == k) == (p.2.1 == d)

theorem slotOf_mem : ∀ (ps : List (Nat × Nat × Value)) (i k : Nat) (v : Value), slotOf ps i = some (k, v) → (k, i, v) ∈ ps
  | [], _, _, _, h => by cases h
  | (k', d', v') :: r, i, k, v, h => by
    simp only [slotOf] at h
    split at h
    · cases h; rename_i e; subst e; simp
    · exact List.mem_cons_of_mem _ (slotOf_mem r i k v h)

theorem keys_iff {ps : List (Nat × Nat × Value)} {k d : Nat} (h : keysOK ps k d = true) {i k' : Nat} {v' : Value} (hs : slotOf ps i = some (k', v')) : (k' = k ↔ i = d) := by
  have := List.all_eq_true.1 h _ (slotOf_mem ps i k' v' hs)
  simp only [beq_iff_eq] at this
  constructor
  · intro e; subst e; simpa using this.symm
  · intro e; subst e; simpa using this

theorem frame_put {L : Nat → Bool} {a : Act} {ps : List (Nat × Nat × Value)} {k d : Nat} {v : Value} (h1 : slotOf ps d = some (k, v)) (h2 : keysOK ps k d = true) : (frameOf L a ps).put (some d) v = frameOf (upd L k) a ps := by
  refine act_ext (fun i => ?_) rfl
  simp only [Act.put, Array.getElem?_setIfInBounds, frame_get]
  by_cases hi : d = i
  · subst hi
    have hsz : (frameOf L a ps).tmps.size = a.tmps.size := by simp [frameOf]
    rw [if_pos rfl, hsz, h1]
    by_cases hd : d < a.tmps.size
    · simp [hd, upd]
    · simp [hd]
  · rw [if_neg hi]
    cases a.tmps[i]? with
    | none => rfl
    | some u =>
      simp only [Option.map_some]
      cases hs : slotOf ps i with
      | none => rfl
      | some kv =>
        obtain ⟨k', v'⟩ := kv
        have hk : ¬ k' = k := fun e => hi ((keys_iff h2 hs).1 e).symm
        have : upd L k k' = L k' := by simp [upd, hk]
        simp only [this]

theorem frame_skip {L : Nat → Bool} {a : Act} {ps : List (Nat × Nat × Value)} {k : Nat} (h : (ps.all fun p => !(p.1 == k)) = true) : frameOf (upd L k) a ps = frameOf L a ps := by
  refine act_ext (fun i => ?_) rfl
  rw [frame_get, frame_get]
  cases a.tmps[i]? with
  | none => rfl
  | some u =>
    simp only [Option.map_some]
    cases hs : slotOf ps i with
    | none => rfl
    | some kv =>
      obtain ⟨k', v'⟩ := kv
      have hk : ¬ k' = k := by
        have := List.all_eq_true.1 h _ (slotOf_mem ps i k' v' hs)
        simpa using this
      have : upd L k k' = L k' := by simp [upd, hk]
      simp only [this]

theorem frame_putNone {L : Nat → Bool} {a : Act} {ps : List (Nat × Nat × Value)} {k : Nat} {v : Value} (h : (ps.all fun p => !(p.1 == k)) = true) : (frameOf L a ps).put none v = frameOf (upd L k) a ps := (frame_skip h).symm

/-- A slot that is not written in the region, put out of it (an operation that is passed over): it held nothing. -/
theorem frame_putUndef {L : Nat → Bool} {a : Act} {ps : List (Nat × Nat × Value)} {k d : Nat} (h : (ps.all fun p => !(p.1 == k)) = true) (h1 : slotOf ps d = none) (h2 : a.tmps.getD d undef = undef) : (frameOf L a ps).put (some d) undef = frameOf (upd L k) a ps := by
  rw [frame_skip h]
  refine act_ext (fun i => ?_) rfl
  simp only [Act.put, Array.getElem?_setIfInBounds]
  by_cases hi : d = i
  · subst hi
    have hsz : (frameOf L a ps).tmps.size = a.tmps.size := by simp [frameOf]
    rw [if_pos rfl, hsz, frame_get, h1]
    by_cases hd : d < a.tmps.size
    · simp [hd] at h2 ⊢
      exact h2.symm
    · simp [hd]
  · rw [if_neg hi]

theorem frame_tmp {L : Nat → Bool} {a : Act} {ps : List (Nat × Nat × Value)} {k d : Nat} {v : Value} (h1 : slotOf ps d = some (k, v)) (hL : L k = true) (hd : d < a.tmps.size) : (frameOf L a ps).tmps[d]? = some v := by
  rw [frame_get, h1, Array.getElem?_eq_getElem hd]
  simp [hL]

theorem frame_in {L : Nat → Bool} {a : Act} {ps : List (Nat × Nat × Value)} {k d : Nat} {v : Value} (h1 : slotOf ps d = some (k, v)) (hL : L k = true) (hd : d < a.tmps.size) : (frameOf L a ps).eval (.tmp d) = v := by
  simp only [Act.eval, Array.getD_eq_getD_getElem?, frame_tmp h1 hL hd, Option.getD_some]

theorem frame_out {L : Nat → Bool} {a : Act} {ps : List (Nat × Nat × Value)} {d : Nat} (h1 : slotOf ps d = none) : (frameOf L a ps).eval (.tmp d) = a.eval (.tmp d) := by
  simp only [Act.eval, Array.getD_eq_getD_getElem?, frame_get, h1]
  cases a.tmps[d]? <;> rfl

theorem frame_tout {L : Nat → Bool} {a : Act} {ps : List (Nat × Nat × Value)} {d : Nat} {v : Value} (h1 : slotOf ps d = none) (h2 : a.tmps[d]? = some v) : (frameOf L a ps).tmps[d]? = some v := by
  rw [frame_get, h1, h2]; rfl

theorem frame_oute {L : Nat → Bool} {a : Act} {ps : List (Nat × Nat × Value)} {d : Nat} {v : Value} (h1 : slotOf ps d = none) (h2 : a.tmps[d]? = some v) : (frameOf L a ps).eval (.tmp d) = v := by
  simp only [Act.eval, Array.getD_eq_getD_getElem?, frame_tout h1 h2, Option.getD_some]

theorem frame_const {L : Nat → Bool} {a : Act} {ps : List (Nat × Nat × Value)} (v : Value) : (frameOf L a ps).eval (.const v) = v := rfl
theorem frame_func {L : Nat → Bool} {a : Act} {ps : List (Nat × Nat × Value)} (f : FuncId) : (frameOf L a ps).eval (.func f) = .func (.func f) #[] #[] := rfl

/-- No slot is written twice. -/
def onceOnly : List (Nat × Nat × Value) → Bool
  | [] => true
  | p :: r => (r.all fun q => !(q.2.1 == p.2.1)) && onceOnly r

theorem frame_all {L : Nat → Bool} {a : Act} : ∀ {ps : List (Nat × Nat × Value)}, (∀ p ∈ ps, L p.1 = true) → onceOnly ps = true → frameOf L a ps = putAll a ps := by
  intro ps
  induction ps with
  | nil =>
    intro _ _
    refine act_ext (fun i => ?_) rfl
    rw [frame_get, putAll]
    cases a.tmps[i]? <;> rfl
  | cons p r ih =>
    intro hall hn
    obtain ⟨k, d, v⟩ := p
    simp only [onceOnly, Bool.and_eq_true] at hn
    rw [putAll, ← ih (fun p hp => hall p (List.mem_cons_of_mem _ hp)) hn.2]
    refine act_ext (fun i => ?_) rfl
    simp only [Act.put, Array.getElem?_setIfInBounds, frame_get, slotOf]
    have hsz : (frameOf L a r).tmps.size = a.tmps.size := by simp [frameOf]
    by_cases hi : d = i
    · subst hi
      rw [if_pos rfl, if_pos rfl, hsz]
      have := hall (k, d, v) (by simp)
      by_cases hd : d < a.tmps.size
      · simp [hd]; simp [this]
      · simp [hd]
    · rw [if_neg hi, if_neg hi]

/-- **The rule, inside a fence.** -/
theorem wpIn_region_frame {F : Fence} {n : Nat} {P : Program} {id : Nat} {l : List Oper} {Q : Exit → Act → World → Prop} {a : Act} {w : World} (hm : P.follows .mixedOrders = true) (hF : ∀ f, F.fn f) (hb : backward l = true)
    (ps : List (Nat × Nat × Value)) (T : (Nat → Bool) → World → Prop) (h0 : T (fun _ => false) w.drew) (hs : ∀ a0 ps0, a0 = a → ps0 = ps → StepsC F n P l.toArray Q (fun L aa Wx => aa = frameOf L a0 ps0 ∧ T L Wx) 0 l)
    (hk : (ps.all fun p => decide (p.1 < l.length)) = true) (ho : onceOnly ps = true) (he : ∀ L w, T L w → (∀ i, i < l.length → L i = true) → Q .normal (putAll a ps) w) :
    (Code.region id l.toArray true).wpIn F n P Q a w :=
  wpIn_region_closed hm hF hb (fun L aa Wx => aa = frameOf L a ps ∧ T L Wx) ⟨(frameOf_none ps a).symm, h0⟩ (hs a ps rfl rfl) (fun L aa Wx h hall => by
    obtain ⟨rfl, hT⟩ := h
    rw [frame_all (fun p hp => hall p.1 (by simpa using List.all_eq_true.1 hk p hp)) ho]
    exact he L Wx hT hall)

/-- The rule where a call's results are not known beforehand. -/
theorem wpIn_region_frameE {E : Type} {F : Fence} {n : Nat} {P : Program} {id : Nat} {l : List Oper} {Q : Exit → Act → World → Prop} {a : Act} {w : World} (hm : P.follows .mixedOrders = true) (hF : ∀ f, F.fn f) (hb : backward l = true)
    (ps : E → List (Nat × Nat × Value)) (T : E → (Nat → Bool) → World → Prop) (e0 : E) (h0 : T e0 (fun _ => false) w.drew) (hs : ∀ a0 ps0, a0 = a → ps0 = ps → StepsC F n P l.toArray Q (fun L aa Wx => ∃ e, aa = frameOf L a0 (ps0 e) ∧ T e L Wx) 0 l)
    (hk : ∀ e, ((ps e).all fun p => decide (p.1 < l.length)) = true) (ho : ∀ e, onceOnly (ps e) = true) (he : ∀ e L w, T e L w → (∀ i, i < l.length → L i = true) → Q .normal (putAll a (ps e)) w) :
    (Code.region id l.toArray true).wpIn F n P Q a w :=
  wpIn_region_closed hm hF hb (fun L aa Wx => ∃ e, aa = frameOf L a (ps e) ∧ T e L Wx) ⟨e0, (frameOf_none (ps e0) a).symm, h0⟩ (hs a ps rfl rfl) (fun L aa Wx h hall => by
    obtain ⟨e, rfl, hT⟩ := h
    rw [frame_all (fun p hp => hall p.1 (by simpa using List.all_eq_true.1 (hk e) p hp)) (ho e)]
    exact he e L Wx hT hall)

/-! ### The same for a plain walk -/

def StepCP (P : Program) (ops : Array Oper) (Q : Exit → Act → World → Prop) (S : (Nat → Bool) → Act → World → Prop) (k : Nat) (o : Oper) : Prop :=
  ∀ L a w, S L a w → Closed ops L → L k = false → (o.after.toList.all fun e => !Region.binds .any e || L e.on) = true →
    if Region.wanted o (yielded ops a.tmps) then o.wp P a w (S (upd L k)) Q else S (upd L k) (a.put o.dst undef) w

def StepsCP (P : Program) (ops : Array Oper) (Q : Exit → Act → World → Prop) (S : (Nat → Bool) → Act → World → Prop) : Nat → List Oper → Prop
  | _, [] => True
  | k, o :: r => StepCP P ops Q S k o ∧ StepsCP P ops Q S (k + 1) r

theorem StepsCP.get {P : Program} {ops : Array Oper} {Q : Exit → Act → World → Prop} {S : (Nat → Bool) → Act → World → Prop} :
    ∀ (l : List Oper) (k : Nat), StepsCP P ops Q S k l → ∀ i o, l[i]? = some o → StepCP P ops Q S (k + i) o
  | [], _, _, i, o, h => by simp at h
  | x :: l, k, hs, 0, o, h => by simp at h; subst h; exact hs.1
  | x :: l, k, hs, i + 1, o, h => by
    have := StepsCP.get l (k + 1) hs.2 i o (by simpa using h)
    rwa [Nat.add_assoc, Nat.add_comm 1 i] at this

theorem wpAny_inv {P : Program} {ops : Array Oper} {Q : Exit → Act → World → Prop} (hb : backward ops.toList = true) (S : (Nat → Bool) → Act → World → Prop) (hs : StepsCP P ops Q S 0 ops.toList)
    (he : ∀ L a w, S L a w → (∀ i, i < ops.size → L i = true) → Q .normal a w) :
    ∀ (fuel : Nat) (listed : Array Bool) (a : Act) (w : World), listed.size = ops.size → listed.toList.count false ≤ fuel → S (fun i => listed.getD i false) a w → Closed ops (fun i => listed.getD i false) → wpAny P .any ops Q fuel listed a w := by
  intro fuel
  induction fuel with
  | zero =>
    intro listed a w hsz hc hS _
    have hall : ∀ i, i < ops.size → listed.getD i false = true := by
      intro i hi
      have hc0 : listed.toList.count false = 0 := by omega
      have hnm := List.count_eq_zero.1 hc0
      have hlt : i < listed.size := by omega
      simp only [Array.getD_eq_getD_getElem?, Array.getElem?_eq_getElem hlt, Option.getD_some]
      cases hv : listed[i] with
      | true => rfl
      | false => exact absurd (by rw [Array.mem_toList_iff]; exact hv ▸ Array.getElem_mem hlt) hnm
    refine ⟨?_, he _ _ _ hS hall⟩
    unfold Region.ready
    rw [List.filter_eq_nil_iff]
    intro i hi
    have hi' : i < ops.size := by simpa using hi
    have := hall i hi'
    have hlt : i < listed.size := by omega
    simp [hlt] at this ⊢
    intro h
    rw [this] at h
    cases h
  | succ fuel ih =>
    intro listed a w hsz hc hS hcl
    refine ⟨fun hr => he _ _ _ hS (ready_nil hb hr hsz), fun i hi => ?_⟩
    unfold Region.ready at hi
    simp only [List.mem_filter, List.mem_range, Bool.and_eq_true] at hi
    obtain ⟨hlt, hnl, hdeps⟩ := hi
    have ho : ops[i]? = some ops[i] := Array.getElem?_eq_getElem hlt
    rw [ho] at hdeps
    simp only [Option.map_some, Option.getD_some] at hdeps
    have hll : i < listed.size := by omega
    have hfalse : listed[i] = false := by simpa [hll] using hnl
    have hstep := StepsCP.get ops.toList 0 hs i ops[i] (by simp)
    rw [Nat.zero_add] at hstep
    have hd : (ops[i].after.toList.all fun e => !Region.binds .any e || (fun j => listed.getD j false) e.on) = true := by rw [Array.all_toList]; exact hdeps
    have h := hstep (fun j => listed.getD j false) a w hS hcl (by simp [hll, hfalse]) hd
    have hcl' := hcl.upd ho hd
    have hnext : ∀ a' w', S (upd (fun j => listed.getD j false) i) a' w' → wpAny P .any ops Q fuel (listed.setIfInBounds i true) a' w' := by
      intro a' w' hS'
      have e : (fun j => (listed.setIfInBounds i true).getD j false) = upd (fun j => listed.getD j false) i := by
        funext j
        unfold upd
        by_cases hj : j = i
        · subst hj; simp [hll]
        · simp [hj, Ne.symm hj]
      refine ih _ a' w' (by simpa using hsz) ?_ (by rw [e]; exact hS') (by rw [e]; exact hcl')
      have hcs : (listed.setIfInBounds i true).toList.count false + 1 = listed.toList.count false := by
        rw [Array.toList_setIfInBounds]
        have hmem : listed.toList[i]'(by simpa using hll) = false := by simpa using hfalse
        rw [List.count_set (by simpa using hll)]
        have hpos : 0 < listed.toList.count false := List.count_pos_iff.2 (by rw [← hmem]; exact List.getElem_mem _)
        simp only [hmem, beq_self_eq_true, if_true]
        rw [if_neg (by decide)]
        omega
      omega
    unfold wpOp
    simp only [ho]
    split
    · rename_i hw
      rw [if_pos hw] at h
      exact .inl (Oper.wp_mono hnext h)
    · rename_i hw
      rw [if_neg hw] at h
      exact hnext _ _ h

theorem wp_region_inv {P : Program} {id : Nat} {l : List Oper} {Q : Exit → Act → World → Prop} {a : Act} {w : World} (hm : P.follows .mixedOrders = true) (hb : backward l = true)
    (S : (Nat → Bool) → Act → World → Prop) (h0 : S (fun _ => false) a w.drew) (hs : StepsCP P l.toArray Q S 0 l) (he : ∀ L a w, S L a w → (∀ i, i < l.length → L i = true) → Q .normal a w) :
    (Code.region id l.toArray true).wp P Q a w := by
  have e : (fun i => (Array.replicate l.toArray.size false).getD i false) = (fun _ => false) := by
    funext i
    simp only [Array.getD_eq_getD_getElem?, Array.getElem?_replicate]
    split <;> rfl
  refine wp_region_any hm (wpAny_inv (by simpa using hb) S (by simpa using hs) (fun L aa Wx h hall => he L aa Wx h (by simpa using hall)) _ _ _ _ (by simp) (by simp) ?_ ?_)
  · rw [e]; exact h0
  · rw [e]; intro _ _ _ h; cases h

theorem wp_region_frame {P : Program} {id : Nat} {l : List Oper} {Q : Exit → Act → World → Prop} {a : Act} {w : World} (hm : P.follows .mixedOrders = true) (hb : backward l = true)
    (ps : List (Nat × Nat × Value)) (T : (Nat → Bool) → World → Prop) (h0 : T (fun _ => false) w.drew) (hs : ∀ a0 ps0, a0 = a → ps0 = ps → StepsCP P l.toArray Q (fun L aa Wx => aa = frameOf L a0 ps0 ∧ T L Wx) 0 l)
    (hk : (ps.all fun p => decide (p.1 < l.length)) = true) (ho : onceOnly ps = true) (he : ∀ L w, T L w → (∀ i, i < l.length → L i = true) → Q .normal (putAll a ps) w) :
    (Code.region id l.toArray true).wp P Q a w :=
  wp_region_inv hm hb (fun L aa Wx => aa = frameOf L a ps ∧ T L Wx) ⟨(frameOf_none ps a).symm, h0⟩ (hs a ps rfl rfl) (fun L aa Wx h hall => by
    obtain ⟨rfl, hT⟩ := h
    rw [frame_all (fun p hp => hall p.1 (by simpa using List.all_eq_true.1 hk p hp)) ho]
    exact he L Wx hT hall)

theorem wp_region_frameE {E : Type} {P : Program} {id : Nat} {l : List Oper} {Q : Exit → Act → World → Prop} {a : Act} {w : World} (hm : P.follows .mixedOrders = true) (hb : backward l = true)
    (ps : E → List (Nat × Nat × Value)) (T : E → (Nat → Bool) → World → Prop) (e0 : E) (h0 : T e0 (fun _ => false) w.drew) (hs : ∀ a0 ps0, a0 = a → ps0 = ps → StepsCP P l.toArray Q (fun L aa Wx => ∃ e, aa = frameOf L a0 (ps0 e) ∧ T e L Wx) 0 l)
    (hk : ∀ e, ((ps e).all fun p => decide (p.1 < l.length)) = true) (ho : ∀ e, onceOnly (ps e) = true) (he : ∀ e L w, T e L w → (∀ i, i < l.length → L i = true) → Q .normal (putAll a (ps e)) w) :
    (Code.region id l.toArray true).wp P Q a w :=
  wp_region_inv hm hb (fun L aa Wx => ∃ e, aa = frameOf L a (ps e) ∧ T e L Wx) ⟨e0, (frameOf_none (ps e0) a).symm, h0⟩ (hs a ps rfl rfl) (fun L aa Wx h hall => by
    obtain ⟨e, rfl, hT⟩ := h
    rw [frame_all (fun p hp => hall p.1 (by simpa using List.all_eq_true.1 (hk e) p hp)) (ho e)]
    exact he e L Wx hT hall)

theorem op_value {o : Oper} {a : Act} {w : World} {K : Act → World → Prop} {Q : Exit → Act → World → Prop} {v : Value} {w' : World} (hr : (execOp a.eval o).run Try.prog w = .ok (.value v) w') (h : K (a.put o.dst v) w') : o.wp Try.prog a w K Q := by
  unfold Oper.wp
  rw [hr]
  exact h

theorem op_skip {o : Oper} {a : Act} {w : World} {K : Act → World → Prop} {Q : Exit → Act → World → Prop} {w' : World} (hr : (execOp a.eval o).run Try.prog w = .ok .skip w') (h : K (a.put o.dst undef) w') : o.wp Try.prog a w K Q := by
  unfold Oper.wp
  rw [hr]
  exact h

theorem op_callP {o : Oper} {a : Act} {w : World} {K : Act → World → Prop} {Q : Exit → Act → World → Prop} {f : FuncId} {args : Array Value} (hr : (execOp a.eval o).run Try.prog w = .ok (.enter f args) w)
    {R : Ending → World → Prop} (hc : Calls Try.prog f args w R) (hR : ∀ e w', R e w' → ∃ r, e = .returned r ∧ K (a.put o.dst r) w') : o.wp Try.prog a w K Q := by
  unfold Oper.wp
  rw [hr]
  refine hc.mono ?_
  intro e w' h
  obtain ⟨r, rfl, hk⟩ := hR e w' h
  exact hk

end Go.Proofs.Ytgdmgeihgkbjaaa
/- A region that draws its order and hands on to a loop's body: the call of yield; results not known beforehand. -/
namespace Go.Proofs.Ytgdmgeihgkbjaaa
open Go.RowKit Go.Shelf

/-- An operation that hands back a value, at the wide fence: a builtin's call too. -/
theorem opIn_valueW {n : Nat} {o : Oper} {a : Act} {w : World} {K : Act → World → Prop} {Q : Exit → Act → World → Prop} (hd : ∀ c, o.op ≠ .defer c)
    {v : Value} {w' : World} (hr : (execOp a.eval o).run Try.prog w = .ok (.value v) w') (h : K (a.put o.dst v) w') : o.wpIn Fence.wide n Try.prog a w K Q := by
  unfold Oper.wpIn
  refine ⟨fun _ _ => trivial, ?_⟩
  rw [Oper.semAt_plain _ _ _ (by intro c hc'; exact hd c hc'), hr]
  exact h

/-- The call of yield. -/
theorem opIn_round {n : Nat} {o : Oper} {a : Act} {w : World} {K : Act → World → Prop} {Q : Exit → Act → World → Prop} (hd : ∀ c, o.op ≠ .defer c) {l : Nat} {f : FuncId} {tmps : Array Value} {assign body : Code}
    (hr : (execOp a.eval o).run Try.prog w = .ok (.round l f tmps assign body) w) {R : Ending → World → Prop} (hc : RoundIn Fence.wide n Try.prog l f tmps assign body w R) (hR : ∀ e w', R e w' → ∃ r, e = .returned r ∧ K (a.put o.dst r) w') :
    o.wpIn Fence.wide (n + 1) Try.prog a w K Q := by
  unfold Oper.wpIn
  refine ⟨fun _ _ => trivial, ?_⟩
  rw [Oper.semAt_plain _ _ _ (by intro c hc'; exact hd c hc'), hr, Oper.uponIn_round]
  refine ⟨fun _ => by omega, hc.mono ?_⟩
  intro e w' h
  obtain ⟨r, rfl, hk⟩ := hR e w' h
  exact hk

/-- Two lists of what is written: the same slots by the same operations; the same values wherever the operation has been carried out. -/
inductive SameW (L : Nat → Bool) : List (Nat × Nat × Value) → List (Nat × Nat × Value) → Prop
  | nil : SameW L [] []
  | cons {k d : Nat} {v v' : Value} {r r' : List (Nat × Nat × Value)} (h : L k = true → v = v') (t : SameW L r r') : SameW L ((k, d, v) :: r) ((k, d, v') :: r')

theorem SameW.slot {L : Nat → Bool} {ps ps' : List (Nat × Nat × Value)} (h : SameW L ps ps') (i : Nat) : (slotOf ps i = none ∧ slotOf ps' i = none) ∨ ∃ k v v', slotOf ps i = some (k, v) ∧ slotOf ps' i = some (k, v') ∧ (L k = true → v = v') := by
  induction h with
  | nil => exact .inl ⟨rfl, rfl⟩
  | @cons k d v v' r r' h t ih =>
    simp only [slotOf]
    by_cases hd : d = i
    · rw [if_pos hd, if_pos hd]; exact .inr ⟨k, v, v', rfl, rfl, h⟩
    · rw [if_neg hd, if_neg hd]; exact ih

theorem frame_swap {L : Nat → Bool} {a : Act} {ps ps' : List (Nat × Nat × Value)} (h : SameW L ps ps') : frameOf L a ps = frameOf L a ps' := by
  refine act_ext (fun i => ?_) rfl
  rw [frame_get, frame_get]
  cases a.tmps[i]? with
  | none => rfl
  | some u =>
    simp only [Option.map_some]
    rcases h.slot i with ⟨h1, h2⟩ | ⟨k, v, v', h1, h2, h3⟩
    · rw [h1, h2]
    · rw [h1, h2]
      cases hL : L k with
      | false => simp [hL]
      | true => rw [h3 hL]

/-- The world ahead of the call and behind it. -/
def YT (w0 : World) (Post : Bool → World → Prop) (d : Bool) (e : Bool) (W : World) : Prop := (d = false → W = w0) ∧ (d = true → Post e W)

theorem YT.start {w0 : World} {Post : Bool → World → Prop} {e : Bool} : YT w0 Post false e w0 := ⟨fun _ => rfl, fun h => by cases h⟩

end Go.Proofs.Ytgdmgeihgkbjaaa
/- The blocks' state, [32]Value: how it lies in memory; reading and writing one value. -/
namespace Go.Proofs.Ytgdmgeihgkbjaaa
open Go.RowKit

def v8Val (v : V8) : Value := .agg #[.int .u8 v.a, .int .u8 v.b, .int .u8 v.c, .int .u8 v.d, .int .u8 v.e, .int .u8 v.f, .int .u8 v.g, .int .u8 v.h]
def stCells (s : List V8) : List Value := s.flatMap V8.cells
def stArr (s : List V8) : Array Value := (stCells s).toArray

theorem V8.cells_length (v : V8) : v.cells.length = 8 := rfl

theorem flat_length {α : Type} {f : α → List Value} {k : Nat} (h : ∀ x, (f x).length = k) (s : List α) : (s.flatMap f).length = s.length * k := by
  induction s with
  | nil => simp
  | cons x s ih => simp [List.flatMap_cons, h x, ih, Nat.succ_mul, Nat.add_comm]

theorem flat_get {α : Type} {f : α → List Value} {k : Nat} (h : ∀ x, (f x).length = k) : ∀ (s : List α) (i : Nat) (x : α), s[i]? = some x → ∀ j, j < k → (s.flatMap f)[i * k + j]? = (f x)[j]? := by
  intro s
  induction s with
  | nil => intro i x hx; simp at hx
  | cons y s ih =>
    intro i x hx j hj
    cases i with
    | zero =>
      simp at hx
      subst hx
      rw [List.flatMap_cons, List.getElem?_append_left (by rw [h]; omega)]
      simp
    | succ i =>
      rw [List.flatMap_cons, List.getElem?_append_right (by rw [h, Nat.succ_mul]; omega), h]
      have : (i + 1) * k + j - k = i * k + j := by rw [Nat.succ_mul]; omega
      rw [this]
      exact ih i x (by simpa using hx) j hj

/-- A list with the values vs put in from place o on. -/
def splice (cs : List Value) (o : Nat) (vs : List Value) : List Value := cs.take o ++ vs ++ cs.drop (o + vs.length)

theorem flat_set {α : Type} {f : α → List Value} {k : Nat} (h : ∀ x, (f x).length = k) : ∀ (s : List α) (i : Nat) (x : α), i < s.length → splice (s.flatMap f) (i * k) (f x) = (s.set i x).flatMap f := by
  intro s
  induction s with
  | nil => intro i x hi; simp at hi
  | cons y s ih =>
    intro i x hi
    cases i with
    | zero =>
      have hy := h y
      simp [splice, List.flatMap_cons, h x, ← hy]
    | succ i =>
      have := ih i x (by simpa using hi)
      rw [List.set_cons_succ, List.flatMap_cons, List.flatMap_cons, ← this]
      have e1 : (i + 1) * k = (f y).length + i * k := by rw [h, Nat.succ_mul]; omega
      simp only [splice, e1, Nat.add_assoc, List.take_length_add_append, List.drop_length_add_append, List.append_assoc]

theorem stArr_size (s : List V8) : (stArr s).size = s.length * 8 := by
  simp [stArr, stCells, flat_length V8.cells_length]

section
variable {P : Program}

/-- A list of values put into a row of cells, one by one. -/
theorem run_storeCells_row (w : World) (g o : Nat) (cs : List Value) (t : TypeId) (vs : List Value) (hg : w.heap[g]? = some (.cells cs.toArray t (0, 0))) (hfit : o + vs.length ≤ cs.length) (h1 : ∀ v ∈ vs, v.oneCell' = true) :
    (storeCells ⟨g, o, none⟩ vs).run P w = .ok () (w.setRow g (splice cs o vs).toArray) := by
  have h := run_storeCells_at P g o t vs 0 cs.toArray w (by simpa using hg) (by simpa using hfit) h1
  have e : (Addr.add ⟨g, o, none⟩ 0) = ⟨g, o, none⟩ := by simp [Addr.add]
  simp only [Nat.add_zero] at h
  simpa [splice] using h

theorem wpList_load {ops : Array Oper} {rest : List Oper} {o : Oper} {a : Act} {w : World} {Q : Exit → Act → World → Prop} (hgd : o.guard = none) (ty : TypeId) (x : Operand) (ho : o.op = .load ty x)
    (ad : Addr) (hx : a.eval x = .pointer (some ad)) (v : Value) (hl : (loadVar ty ad).run P w = .ok v w) (h : wpList P ops Q rest (a.put o.dst v) w) : wpList P ops Q (o :: rest) a w :=
  wpList_plain hgd fun K hK => by
    unfold Oper.wp execOp
    simp only [ho, hx, Instr.loadAt, Instr.sureAddr, Sem.run_bind, Sem.run_pure, Result.andThen_ok, hl]
    exact hK _ _ h

theorem wpListIn_load {F : Fence} {n : Nat} {ops : Array Oper} {rest : List Oper} {o : Oper} {a : Act} {w : World} {Q : Exit → Act → World → Prop} (hgd : o.guard = none) (ty : TypeId) (x : Operand) (ho : o.op = .load ty x)
    (ad : Addr) (hx : a.eval x = .pointer (some ad)) (v : Value) (hl : (loadVar ty ad).run P w = .ok v w) (h : wpListIn F n P ops Q rest (a.put o.dst v) w) : wpListIn F n P ops Q (o :: rest) a w :=
  wpListIn_plain hgd fun K hK => by
    unfold Oper.wpIn
    refine ⟨by simp [Oper.about, ho], ?_⟩
    rw [Oper.semAt_plain F _ _ (by rw [ho]; intro c hc'; cases hc')]
    simp only [execOp, ho, hx, Instr.loadAt, Instr.sureAddr, Sem.run_bind, Sem.run_pure, Result.andThen_ok, hl]
    exact hK _ _ h

theorem wpList_store {ops : Array Oper} {rest : List Oper} {o : Oper} {a : Act} {w w' : World} {Q : Exit → Act → World → Prop} (hgd : o.guard = none) (ty : TypeId) (x y : Operand) (ho : o.op = .store ty x y)
    (ad : Addr) (hx : a.eval x = .pointer (some ad)) (v : Value) (hy : a.eval y = v) (hl : (storeVar ty ad v).run P w = .ok () w') (h : wpList P ops Q rest (a.put o.dst undef) w') : wpList P ops Q (o :: rest) a w :=
  wpList_plain hgd fun K hK => by
    unfold Oper.wp execOp
    simp only [ho, hx, hy, Instr.storeAt, Instr.sureAddr, Sem.run_bind, Sem.run_pure, Result.andThen_ok, hl]
    exact hK _ _ h

theorem wpListIn_store {F : Fence} {n : Nat} {ops : Array Oper} {rest : List Oper} {o : Oper} {a : Act} {w w' : World} {Q : Exit → Act → World → Prop} (hgd : o.guard = none) (ty : TypeId) (x y : Operand) (ho : o.op = .store ty x y)
    (ad : Addr) (hx : a.eval x = .pointer (some ad)) (v : Value) (hy : a.eval y = v) (hl : (storeVar ty ad v).run P w = .ok () w') (h : wpListIn F n P ops Q rest (a.put o.dst undef) w') : wpListIn F n P ops Q (o :: rest) a w :=
  wpListIn_plain hgd fun K hK => by
    unfold Oper.wpIn
    refine ⟨by simp [Oper.about, ho], ?_⟩
    rw [Oper.semAt_plain F _ _ (by rw [ho]; intro c hc'; cases hc')]
    simp only [execOp, ho, hx, hy, Instr.storeAt, Instr.sureAddr, Sem.run_bind, Sem.run_pure, Result.andThen_ok, hl]
    exact hK _ _ h

end

theorem results_cct {P : Program} {fn : Func} {p q t : Tmp} {ty uy : TypeId} (h : fn.results = #[.cell p ty, .cell q uy, .tmp t]) {tmps : Array Value} {w : World} {a b : Addr} {u v x : Value} (hp : tmps.getD p undef = .pointer (some a)) (ha : (loadVar ty a).run P w = .ok u w)
    (hq : tmps.getD q undef = .pointer (some b)) (hb : (loadVar uy b).run P w = .ok v w) (ht : tmps.getD t undef = x) : (results fn tmps).run P w = .ok (.tuple #[u, v, x]) w := by
  rw [Array.getD_eq_getD_getElem?] at hp hq ht
  simp [results, h, hp, hq, ht, asAddr, ha, hb]

theorem V8.cells_one (v : V8) : ∀ c ∈ v.cells, c.oneCell' = true := by
  intro c hc
  simp only [V8.cells, List.mem_cons, List.not_mem_nil, or_false] at hc
  rcases hc with rfl | rfl | rfl | rfl | rfl | rfl | rfl | rfl <;> rfl

theorem Sn.cells_one (x : Sn) : ∀ c ∈ x.cells, c.oneCell' = true := by
  intro c hc
  simp only [Sn.cells, List.mem_cons, List.not_mem_nil, or_false] at hc
  rcases hc with rfl | rfl | rfl | rfl | rfl | rfl | rfl | rfl | rfl | rfl | rfl | rfl | rfl | rfl <;> rfl

/-- Reading one value of the blocks' state. -/
theorem ld_st {w : World} {B i : Nat} {s : List V8} {v : V8} {t : TypeId} {fr : Nat × Nat} (hB : w.heap[B]? = some (.cells (stArr s) t fr)) (hi : s[i]? = some v) :
    (loadVar 23 ⟨B, i * 8, none⟩).run Try.prog w = .ok (v8Val v) w := by
  have hc : ∀ j c, v.cells[j]? = some c → w.cell? ⟨B, i * 8 + j, none⟩ = some c := by
    intro j c hj
    have hj8 : j < 8 := by
      have := (List.getElem?_eq_some_iff.1 hj).1
      simpa [V8.cells] using this
    rw [cell_of_row w B _ _ t fr hB]
    simp only [stArr, stCells, List.getElem?_toArray]
    rw [flat_get V8.cells_length s i v hi j hj8]
    exact hj
  have c0 : w.cell? ⟨B, i * 8, none⟩ = some (.int .u8 v.a) := hc 0 _ rfl
  have c1 := hc 1 _ rfl
  have c2 := hc 2 _ rfl
  have c3 := hc 3 _ rfl
  have c4 := hc 4 _ rfl
  have c5 := hc 5 _ rfl
  have c6 := hc 6 _ rfl
  have c7 := hc 7 _ rfl
  simp [go_sem, c0, c1, c2, c3, c4, c5, c6, c7, v8Val]

/-- Writing one value of the blocks' state. -/
theorem st_st {w : World} {B i : Nat} {s : List V8} (v : V8) {t : TypeId} (hB : w.heap[B]? = some (.cells (stArr s) t (0, 0))) (hi : i < s.length) :
    (storeVar 23 ⟨B, i * 8, none⟩ (v8Val v)).run Try.prog w = .ok () (w.setRow B (stArr (s.set i v))) := by
  have h := run_storeCells_row (P := Try.prog) w B (i * 8) (stCells s) t v.cells hB (by rw [V8.cells_length]; simp only [stCells, flat_length V8.cells_length]; omega) v.cells_one
  rw [stCells, flat_set V8.cells_length s i v hi] at h
  have hs : ((v8Val v).cells.size ≠ 8) = False := by simp [v8Val, Value.cells]
  simp only [storeVar, Sem.run_bind, Try.sizeOf23, Result.andThen_ok, hs, if_false]
  exact h

theorem stArr_one (s : List V8) : (stArr s).all (·.oneCell') = true := by
  rw [Array.all_eq_true_iff_forall_mem]
  intro c hc
  simp only [stArr, stCells, List.mem_toArray, List.mem_flatMap] at hc
  obtain ⟨v, _, hv⟩ := hc
  exact v.cells_one c hv

theorem info24 : (Try.prog.info? 24).map (·.size) = some 256 := by kernel_rfl

theorem ld_all {w : World} {B : Nat} {s : List V8} {t : TypeId} {fr : Nat × Nat} (hB : w.heap[B]? = some (.cells (stArr s) t fr)) (hs : s.length = 32) : (loadVar 24 ⟨B, 0, none⟩).run Try.prog w = .ok (.agg (stArr s)) w :=
  run_loadVar_row w B t 24 (stArr s) fr _ hB Try.underlying24 rfl (by rw [stArr_size, hs]; exact info24)

theorem st_all {w : World} {B : Nat} {s : List V8} (s' : List V8) {t : TypeId} (hB : w.heap[B]? = some (.cells (stArr s) t (0, 0))) (hs : s.length = 32) (hs' : s'.length = 32) :
    (storeVar 24 ⟨B, 0, none⟩ (.agg (stArr s'))).run Try.prog w = .ok () (w.setRow B (stArr s')) :=
  run_storeVar_row w B t 24 (stArr s) (stArr s') hB (by rw [stArr_size, hs']; exact info24) (by rw [stArr_size, stArr_size, hs, hs']) (stArr_one s')

/-- A step's own block. -/
def snArr (x : Sn) : Array Value := #[.int .i8 x.k, .int .i64 x.n.s, .int .i64 x.n.i, .int .i64 x.n.t, .int .i64 x.b, .int .u8 x.v.a, .int .u8 x.v.b, .int .u8 x.v.c, .int .u8 x.v.d, .int .u8 x.v.e, .int .u8 x.v.f, .int .u8 x.v.g, .int .u8 x.v.h, .int .i64 x.e]

theorem snArr_at {w : World} {B : Nat} {x : Sn} {t : TypeId} {fr : Nat × Nat} (h : w.heap[B]? = some (.cells (snArr x) t fr)) :
    w.cell? ⟨B, 0, none⟩ = some (.int .i8 x.k) ∧ w.cell? ⟨B, 1, none⟩ = some (.int .i64 x.n.s) ∧ w.cell? ⟨B, 2, none⟩ = some (.int .i64 x.n.i) ∧ w.cell? ⟨B, 3, none⟩ = some (.int .i64 x.n.t) ∧
    w.cell? ⟨B, 4, none⟩ = some (.int .i64 x.b) ∧ w.cell? ⟨B, 5, none⟩ = some (.int .u8 x.v.a) ∧ w.cell? ⟨B, 6, none⟩ = some (.int .u8 x.v.b) ∧ w.cell? ⟨B, 7, none⟩ = some (.int .u8 x.v.c) ∧
    w.cell? ⟨B, 8, none⟩ = some (.int .u8 x.v.d) ∧ w.cell? ⟨B, 9, none⟩ = some (.int .u8 x.v.e) ∧ w.cell? ⟨B, 10, none⟩ = some (.int .u8 x.v.f) ∧ w.cell? ⟨B, 11, none⟩ = some (.int .u8 x.v.g) ∧
    w.cell? ⟨B, 12, none⟩ = some (.int .u8 x.v.h) ∧ w.cell? ⟨B, 13, none⟩ = some (.int .i64 x.e) := by
  refine ⟨?_, ?_, ?_, ?_, ?_, ?_, ?_, ?_, ?_, ?_, ?_, ?_, ?_, ?_⟩ <;> (rw [cell_of_row w B _ _ t fr h]; rfl)

theorem ld_sn {w : World} {B : Nat} {x : Sn} {t : TypeId} {fr : Nat × Nat} (h : w.heap[B]? = some (.cells (snArr x) t fr)) : (loadVar 36 ⟨B, 0, none⟩).run Try.prog w = .ok (.agg (snArr x)) w :=
  run_loadVar_row w B t 36 (snArr x) fr _ h Try.underlying36 rfl (by kernel_rfl)

theorem st_sn {w : World} {B : Nat} {x : Sn} (u : V8) {t : TypeId} (h : w.heap[B]? = some (.cells (snArr x) t (0, 0))) :
    (storeVar 23 ⟨B, 5, none⟩ (v8Val u)).run Try.prog w = .ok () (w.setRow B (snArr { x with v := u })) := by
  have h' := run_storeCells_row (P := Try.prog) w B 5 (snArr x).toList t u.cells (by simpa using h) (by simp [snArr, V8.cells]) u.cells_one
  have hs : ((v8Val u).cells.size ≠ 8) = False := by simp [v8Val, Value.cells]
  simp only [storeVar, Sem.run_bind, Try.sizeOf23, Result.andThen_ok, hs, if_false]
  exact h'

theorem grownBy_setRow (w : World) (g : Nat) (cs : Array Value) : w.grownBy (w.setRow g cs) (some g) :=
  ⟨rfl, rfl, rfl, by simp, fun k _ hk => setRow_other w g k cs (fun e => hk (by rw [e]))⟩

theorem wpListIn_store_st {F : Fence} {n : Nat} {ops : Array Oper} {rest : List Oper} {o : Oper} {a : Act} {w : World} {Q : Exit → Act → World → Prop} (hgd : o.guard = none) (x y : Operand) (ho : o.op = .store 23 x y)
    (B i : Nat) (hx : a.eval x = .pointer (some ⟨B, i * 8, none⟩)) (v : V8) (hy : a.eval y = v8Val v) {s : List V8} {t : TypeId} (hB : w.heap[B]? = some (.cells (stArr s) t (0, 0))) (hi : i < s.length)
    (h : ∀ w', w.grownBy w' (some B) → w'.heap[B]? = some (.cells (stArr (s.set i v)) t (0, 0)) → wpListIn F n Try.prog ops Q rest (a.put o.dst undef) w') : wpListIn F n Try.prog ops Q (o :: rest) a w :=
  wpListIn_store hgd 23 x y ho ⟨B, i * 8, none⟩ hx (v8Val v) hy (st_st v hB hi) (h _ (grownBy_setRow _ _ _) (setRow_heap w B _ _ t _ hB))

theorem wpListIn_store_sn {F : Fence} {n : Nat} {ops : Array Oper} {rest : List Oper} {o : Oper} {a : Act} {w : World} {Q : Exit → Act → World → Prop} (hgd : o.guard = none) (x y : Operand) (ho : o.op = .store 23 x y)
    (B : Nat) (hx : a.eval x = .pointer (some ⟨B, 5, none⟩)) (v : V8) (hy : a.eval y = v8Val v) {u : Sn} {t : TypeId} (hB : w.heap[B]? = some (.cells (snArr u) t (0, 0)))
    (h : ∀ w', w.grownBy w' (some B) → w'.heap[B]? = some (.cells (snArr { u with v := v }) t (0, 0)) → wpListIn F n Try.prog ops Q rest (a.put o.dst undef) w') : wpListIn F n Try.prog ops Q (o :: rest) a w :=
  wpListIn_store hgd 23 x y ho ⟨B, 5, none⟩ hx (v8Val v) hy (st_sn v hB) (h _ (grownBy_setRow _ _ _) (setRow_heap w B _ _ t _ hB))

theorem cells_new (w : World) (cs : List Value) (t : TypeId) : ∀ j u, cs[j]? = some u → (w.alloc (.cells cs.toArray t)).cell? ((⟨w.heap.size, 0, none⟩ : Addr).add j) = some u := by
  intro j u hu
  have e : (⟨w.heap.size, 0, none⟩ : Addr).add j = ⟨w.heap.size, j, none⟩ := by unfold Addr.add; split <;> simp_all
  rw [e, cell_of_row _ _ _ _ t (0, 0) (heap_alloc_new w _)]
  simpa using hu

/-- A slice's own row is not a block of another element type. -/
theorem not_row {W : World} {B : Nat} {cs : Array Value} {fr : Nat × Nat} {t e : TypeId} (h : W.heap[B]? = some (.cells cs t fr)) (hte : t ≠ e) {base size k : Nat} {v : Value} {xs : List Value} (hr : W.ownsRow base e size v k xs) : v.ownBlock ≠ some B := by
  rcases hr.2 with ⟨rfl, _⟩ | ⟨g, cap, cur, rfl, _, hgb, _⟩
  · simp [Value.ownBlock]
  · intro e'
    obtain rfl : B = g := by simpa [Value.ownBlock] using e'.symm
    rw [h] at hgb
    cases hgb
    exact hte rfl

/-- A slice of the call's own, read as rows. -/
theorem owns_rows {α : Type} {enc : α → List Value} {k : Nat} (hk : ∀ x, (enc x).length = k) {W : World} {base : Nat} {e : TypeId} {a : Option Addr} {c : Nat} {r : List α} {n : Nat} (h : W.ownsRow base e k (.slice a n c) n (r.flatMap enc)) (hr : 0 < r.length) (hn' : n = r.length) :
    ∃ g, a = some ⟨g, 0, none⟩ ∧ base ≤ g ∧ g < W.heap.size ∧ RowsAt enc k W g 0 r := by
  subst hn'
  rcases h.2 with ⟨_, h0⟩ | ⟨g, cap, cur, hv, hb, hg, hn, _, _, ht⟩
  · omega
  · cases hv
    refine ⟨g, rfl, hb, lt_of_heap hg, fun i x hx j cc hc => ?_⟩
    have hj : j < k := by
      have := (List.getElem?_eq_some_iff.1 hc).1
      rwa [hk] at this
    have hi : i < r.length := (List.getElem?_eq_some_iff.1 hx).1
    have hlt : i * k + j < r.length * k := by
      have := Nat.mul_le_mul_right k hi
      rw [Nat.succ_mul] at this
      omega
    have := flat_get hk r i x hx j hj
    rw [← ht, List.getElem?_take, if_pos hlt, hc] at this
    rw [cell_of_row W g _ cur e (0, 0) hg, Nat.zero_add]
    simpa using this

theorem Sn.cells_length (x : Sn) : x.cells.length = 14 := rfl

theorem owns_turn {W W' : World} {j : Nat} {base : Nat} {e : TypeId} {size n : Nat} {v : Value} {xs : List Value} (h : W.ownsRow base e size v n xs) (hg : W.grownBy W' (some j)) (hj : v.ownBlock ≠ some j) : W'.ownsRow base e size v n xs :=
  h.kept hg (.inr hj)

theorem cells_turn {W W' : World} {j k : Nat} {o : Obj} (h : W.heap[k]? = some o) (hg : W.grownBy W' (some j)) (hj : k ≠ j) : W'.heap[k]? = some o :=
  (hg.block k (lt_of_heap h) (fun e => hj (by cases e; rfl))).trans h

/-- A block of cells is not the block that is no cells. -/
theorem kept_cells {B : Nat} {W W' : World} {row : Option Nat} (hg : W.grownBy W' row) (hr : ∀ r, row = some r → B ≤ r ∧ ∃ o : Obj, W.heap[r]? = some o ∧ o.isCells = false) {k : Nat} {c : Array Value} {t : TypeId} {f : Nat × Nat}
    (h : W.heap[k]? = some (.cells c t f)) : W'.heap[k]? = some (.cells c t f) :=
  (hg.block k (lt_of_heap h) (fun e => by obtain ⟨_, o, ho, hc⟩ := hr k e.symm; rw [h] at ho; cases ho; cases hc)).trans h

theorem kept_owns {B : Nat} {W W' : World} {row : Option Nat} (hg : W.grownBy W' row) (hr : ∀ r, row = some r → B ≤ r ∧ ∃ o : Obj, W.heap[r]? = some o ∧ o.isCells = false) {base : Nat} {e : TypeId} {size n : Nat} {v : Value} {xs : List Value}
    (h : W.ownsRow base e size v n xs) : W'.ownsRow base e size v n xs := by
  refine h.kept hg ?_
  rcases h.2 with ⟨rfl, _⟩ | ⟨g, cap, cur, rfl, _, hgb, _⟩
  · exact .inl rfl
  · refine .inr fun e' => ?_
    obtain ⟨_, o, ho, hc⟩ := hr g (by simpa [Value.ownBlock] using e'.symm)
    rw [hgb] at ho; cases ho; cases hc

theorem kept_below {n₀ B : Nat} {w W W' : World} {row : Option Nat} (h : Below n₀ w W) (hn : n₀ ≤ w.heap.size) (hB : n₀ ≤ B) (hg : W.grownBy W' row) (hr : ∀ r, row = some r → B ≤ r ∧ ∃ o : Obj, W.heap[r]? = some o ∧ o.isCells = false) : Below n₀ w W' :=
  h.grown hg (Nat.le_trans hn h.size) (fun k e => Nat.le_trans hB (hr k e).1)

end Go.Proofs.Ytgdmgeihgkbjaaa
/- float64 of a block's number, and back. -/
namespace Go.Proofs.Ytgdmgeihgkbjaaa
open Go.RowKit Go.Shelf

def flV (n : Int) : Value := .float .f64 (FloatKind.f64.nearest n)
def cxV (a b : Int) : Value := .complex .f64 (FloatKind.f64.nearest a) (FloatKind.f64.nearest b)

theorem run_to_float (n : Int) (w : World) : (Go.convert 3 96 (.int .i64 n)).run Try.prog w = .ok (flV n) w := by
  unfold Go.convert
  simp [go_sem, Conv.intToFloat, flV]

theorem run_complex (a b : Int) (ats : Array TypeId) (t : TypeId) (w : World) : (Builtin.complex_ ats t #[flV a, flV b]).run Try.prog w = .ok (cxV a b) w := by
  rfl

theorem run_real (a b : Int) (ats : Array TypeId) (t : TypeId) (w : World) : (Builtin.real_ ats t #[cxV a b]).run Try.prog w = .ok (flV a) w := by
  rfl

theorem back : ∀ k : Fin 32, (FloatKind.f64.decode (FloatKind.f64.nearest (k.val : Int))).toInt .zero = some (k.val : Int) := by decide +kernel

theorem run_from_float (b : Int) (h0 : 0 ≤ b) (h1 : b < 32) (w : World) : (Go.convert 96 3 (flV b)).run Try.prog w = .ok (.int .i64 b) w := by
  have h := back ⟨b.toNat, by omega⟩
  have e : ((b.toNat : Nat) : Int) = b := by omega
  simp only [e] at h
  have hm : IntKind.i64.min ≤ b ∧ b ≤ IntKind.i64.max := by
    simp [IntKind.min, IntKind.max, IntKind.bits, IntKind.signed]; omega
  unfold Go.convert
  simp [go_sem, Conv.floatToInt, flV, h, hm]
  intro h2; omega

end Go.Proofs.Ytgdmgeihgkbjaaa
/- 'order.steps': the iterator over a name's reads and writes -/
namespace Go.Proofs.Ytgdmgeihgkbjaaa
open Go.RowKit Go.Shelf
attribute [local go_sem] Oper.semAt_some

/-- A name's reads and writes, each with its place. -/
def nmSteps (n : Nm) : List Sn → Nat → List (Nat × Sn)
  | [], _ => []
  | x :: r, i => if x.n = n ∧ (x.k = 1 ∨ x.k = 2) then (i, x) :: nmSteps n r (i + 1) else nmSteps n r (i + 1)

def encPX (b off : Nat) (p : Nat × Sn) : Array Value := #[cxV p.2.b (p.1 : Int), .pointer (some ⟨b, off + p.1 * 14, none⟩)]

/-- 'order.steps': both arguments are boxed; the function value captures the boxes. -/
theorem steps56_any (v : Value) (n : Nm) (w : World) (hv : ∃ a m c, v = .slice a m c) :
    Calls Try.prog 56 #[v, .agg #[.int .i64 n.s, .int .i64 n.i, .int .i64 n.t]] w fun e w' => e = .returned (.func (.func 73) #[] #[.pointer (some ⟨w.heap.size, 0, none⟩), .pointer (some ⟨w.heap.size + 1, 0, none⟩)]) ∧
      (w.alloc (.cells #[v] 25)).alloc (.cells #[.int .i64 n.s, .int .i64 n.i, .int .i64 n.t] 34) = w' := by
  obtain ⟨a, m, c, rfl⟩ := hv
  go_enter Try.func56, Try.ntmps56
  go_wp2
  go_ret
  exact ⟨rfl, rfl⟩

theorem rowOf_none {W : World} {k : Nat} : ¬ rowOf none W k := by rintro ⟨b, _, _, _, _, h, _⟩; cases h

theorem keep_drew {n₀ n₁ : Nat} {W : World} : Keep n₀ n₁ none W W.drew := ⟨rfl, rfl, rfl, Nat.le_refl _, fun _ _ _ h _ => h, fun _ h => absurd h rowOf_none⟩

set_option maxRecDepth 100000 in
set_option maxHeartbeats 6000000 in
theorem steps73_in (n : Nat) (Bl Bn n₀ n₁ b off : Nat) (a : Option Addr) (cap : Nat) (l : List Sn) (nm : Nm) (hl : l.length ≤ 100000) (w : World)
    (ha : 0 < l.length → a = some ⟨b, off, none⟩ ∧ b < n₀ ∧ RowsAt Sn.cells 14 w b off l) (hn₀ : n₀ ≤ w.heap.size) (h1l : n₁ ≤ Bl) (h1n : n₁ ≤ Bn)
    (hBl : w.cell? ⟨Bl, 0, none⟩ = some (.slice a l.length cap)) (hBn : w.heap[Bn]? = some (.cells #[.int .i64 nm.s, .int .i64 nm.i, .int .i64 nm.t] 34 (0, 0))) :
    SeqC (n + 2) 73 #[.pointer (some ⟨Bl, 0, none⟩), .pointer (some ⟨Bn, 0, none⟩)] (encPX b off) (Keep n₀ n₁ none) (nmSteps nm l 0) w := by
  intro lp J Jx W hW hJ hJx hY h0
  have hBlW : W.cell? ⟨Bl, 0, none⟩ = some (.slice a l.length cap) := (hW.cell (p := ⟨Bl, 0, none⟩) (block_lt_of_cell hBl)).trans hBl
  have hBnW : W.heap[Bn]? = some (.cells #[.int .i64 nm.s, .int .i64 nm.i, .int .i64 nm.t] 34 (0, 0)) := (hW.block _ (lt_of_heap hBn)).trans hBn
  have haW : 0 < l.length → a = some ⟨b, off, none⟩ ∧ b < n₀ ∧ RowsAt Sn.cells 14 W b off l := fun h => ⟨(ha h).1, (ha h).2.1, (ha h).2.2.below (Nat.lt_of_lt_of_le (ha h).2.1 hn₀) hW⟩
  have HA := Lib.hid haW
  have HY := Lib.hid hY
  have HJ := Lib.hid hJ
  have HBL := Lib.hid hBlW
  have HBN := Lib.hid hBnW
  clear ha haW hY hJ hJx hBl hBn hBnW
  refine callsIn_of_wp Try.func73 rfl trivial ?_ rfl
  simp only [Try.ntmps73, List.size_toArray, List.length_cons, List.length_nil, Nat.reduceAdd, Nat.reduceSub, Array.replicate_succ, Array.replicate_zero, List.push_toArray, List.append_toArray, List.nil_append, List.cons_append]
  gi_wp2
  gi_loopw [8] (fun i wr => ∃ (q : Nat) (pre : List { p // p ∈ nmSteps nm l 0 }), q ≤ l.length ∧ i = .int .i64 q ∧ J pre wr ∧ Keep n₀ n₁ none W wr ∧ pre.map (·.1) ++ nmSteps nm (l.drop q) q = nmSteps nm l 0)
    (fun i _ => l.length - (intOf i).toNat)
  case atStart => exact ⟨0, [], Nat.zero_le _, rfl, h0, Keep.refl _ _ _ _, rfl⟩
  case round =>
    obtain ⟨q, pre, hq, rfl, hJs, hK, hpre⟩ := hrel
    have HP := Lib.hid hpre
    have HKD : Hid (Keep n₀ n₁ none W wr.drew) := hK.trans keep_drew
    have hl1 : wr.cell? ⟨Bl, 0, none⟩ = some (.slice a l.length cap) := hK.cell (a := ⟨Bl, 0, none⟩) (.inr ⟨h1l, rowOf_none⟩) HBL.out
    have HL1 := Lib.hid hl1
    clear hpre hBlW
    by_cases hlt : q < l.length
    · obtain ⟨x, hx⟩ : ∃ x, l[q]? = some x := ⟨_, List.getElem?_eq_getElem hlt⟩
      obtain ⟨rfl, hb, hr⟩ := HA.out (by omega)
      obtain ⟨w0, hw0⟩ : ∃ w0, wr.drew = w0 := ⟨_, rfl⟩
      have hK0 : Keep n₀ n₁ none W w0 := hw0 ▸ HKD.out
      obtain ⟨c0, c1, c2, c3, c4, _⟩ := (hr.keep hK0 hb).sn hx
      have hbn : w0.heap[Bn]? = some (.cells #[.int .i64 nm.s, .int .i64 nm.i, .int .i64 nm.t] 34 (0, 0)) := hK0.same _ _ (.inr ⟨h1n, rowOf_none⟩) HBN.out (.inl rfl)
      have m0 : w0.cell? ⟨Bn, 0, none⟩ = some (.int .i64 nm.s) := by rw [cell_of_row w0 _ _ _ 34 (0, 0) hbn]; rfl
      have m1 : w0.cell? ⟨Bn, 1, none⟩ = some (.int .i64 nm.i) := by rw [cell_of_row w0 _ _ _ 34 (0, 0) hbn]; rfl
      have m2 : w0.cell? ⟨Bn, 2, none⟩ = some (.int .i64 nm.t) := by rw [cell_of_row w0 _ _ _ 34 (0, 0) hbn]; rfl
      have hJd : J pre w0 := hw0 ▸ abides_drewN HJ.out 1 hJs
      rw [hw0] at HKD
      have HX := Lib.hid hx
      have HJD := Lib.hid hJd
      have HW0 := Lib.hid hw0
      clear hr hx hJs hK hbn hJd hw0 hK0 hl1
      have hl1 := HL1.out
      gi_wp2_with fail
      clear hl1
      have hen := eql_nm x.n nm
      by_cases hit : x.n = nm
      · have hEq : ∀ w, (binOp .eql 34 (.agg #[.int .i64 x.n.s, .int .i64 x.n.i, .int .i64 x.n.t]) (.agg #[.int .i64 nm.s, .int .i64 nm.i, .int .i64 nm.t])).run Try.prog w = .ok (.bool true) w := fun w => by rw [hen, decide_eq_true hit]
        clear hen
        by_cases hk12 : x.k = 1 ∨ x.k = 2
        · have hcons : nmSteps nm (l.drop q) q = (q, x) :: nmSteps nm (l.drop (q + 1)) (q + 1) := by rw [drop_cons HX.out, nmSteps, if_pos ⟨hit, hk12⟩]
          have he := HP.out
          rw [hcons] at he
          have hmem : (q, x) ∈ nmSteps nm l 0 := by
            have : (q, x) ∈ pre.map (·.1) ++ (q, x) :: nmSteps nm (l.drop (q + 1)) (q + 1) := by simp
            exact he ▸ this
          have hlen : pre.length < (nmSteps nm l 0).length := by
            have := congrArg List.length he
            simp at this
            omega
          have hnext : (pre ++ [(⟨(q, x), hmem⟩ : { p // p ∈ nmSteps nm l 0 })]).map (·.1) ++ nmSteps nm (l.drop (q + 1)) (q + 1) = nmSteps nm l 0 := by simpa using he
          clear he
          obtain ⟨fn, tmps, assign, body, hy, hR⟩ := HY.out pre ⟨(q, x), hmem⟩ w0 HJD.out hlen
          simp only [encPX] at hy
          have HNX := Lib.hid hnext
          clear hnext hcons hlen
          by_cases hk1 : x.k = 1
          · have e1 : (x.k == 1) = true := by simp [hk1]
            clear hk12 hk1 hit
            -- BEGIN NA
            refine wpIn_region_frameE (E := Bool) mixed (fun _ => trivial) (by kernel_rfl) (fun e => [(0, 14, .pointer (some ⟨b, off + q * 14, none⟩)), (1, 15, .pointer (some ⟨b, off + q * 14, none⟩)), (2, 16, .pointer (some ⟨b, off + q * 14 + 1, none⟩)), (3, 17, .agg #[.int .i64 x.n.s, .int .i64 x.n.i, .int .i64 x.n.t]), (4, 18, .agg #[.int .i64 nm.s, .int .i64 nm.i, .int .i64 nm.t]), (5, 19, .bool true), (6, 20, .bool true), (7, 21, .pointer (some ⟨b, off + q * 14, none⟩)), (8, 22, .pointer (some ⟨b, off + q * 14, none⟩)), (9, 23, .pointer (some ⟨b, off + q * 14, none⟩)), (10, 24, .int .i8 x.k), (11, 25, .bool true), (12, 26, .bool true), (13, 27, undef), (14, 28, undef), (15, 29, undef), (16, 30, undef), (17, 31, undef), (18, 32, .bool true), (19, 33, .bool true), (20, 34, .bool true), (21, 35, .func (.yield lp) #[] #[]), (22, 36, .pointer (some ⟨b, off + q * 14, none⟩)), (23, 37, .pointer (some ⟨b, off + q * 14, none⟩)), (24, 38, .pointer (some ⟨b, off + q * 14 + 4, none⟩)), (25, 39, .int .i64 x.b), (26, 40, flV x.b), (27, 41, .int .i64 (q : Int)), (28, 42, flV (q : Int)), (29, 43, cxV x.b (q : Int)), (30, 44, .pointer (some ⟨b, off + q * 14, none⟩)), (31, 45, .bool e), (32, 46, .bool !e), (33, 47, .bool !e)]) (fun e L Wx => YT w0 (fun e W3 => (e = true ∧ J (pre ++ [⟨(q, x), hmem⟩]) W3 ∧ Keep n₀ n₁ none w0 W3) ∨ (e = false ∧ Jx (pre ++ [⟨(q, x), hmem⟩]) W3)) (L 31) e Wx) true ?_ ?_ (fun _ => by rfl) (fun _ => by rfl) ?_
            · exact HW0.out ▸ YT.start
            · intro a0 ps ha0 hps
              have hsz : a0.tmps.size = 49 := by rw [ha0]; rfl
              have u0 : a0.tmps[0]? = some (.func (.yield lp) #[] #[]) := by rw [ha0]; rfl
              have u2 : a0.tmps[2]? = some (.pointer (some ⟨Bn, 0, none⟩)) := by rw [ha0]; rfl
              have u4 : a0.tmps[4]? = some (.int .i64 (q : Int)) := by rw [ha0]; rfl
              have u5 : a0.tmps[5]? = some (.pointer (some ⟨b, off + q * 14, none⟩)) := by rw [ha0]; rfl
              have n0 : ∀ e, slotOf (ps e) 0 = none := by rw [hps]; intro e; rfl
              have n2 : ∀ e, slotOf (ps e) 2 = none := by rw [hps]; intro e; rfl
              have n4 : ∀ e, slotOf (ps e) 4 = none := by rw [hps]; intro e; rfl
              have n5 : ∀ e, slotOf (ps e) 5 = none := by rw [hps]; intro e; rfl
              have k14 : ∀ e, slotOf (ps e) 14 = some (0, .pointer (some ⟨b, off + q * 14, none⟩)) := by rw [hps]; intro e; rfl
              have q14 : ∀ e, keysOK (ps e) 0 14 = true := by rw [hps]; intro e; rfl
              have k15 : ∀ e, slotOf (ps e) 15 = some (1, .pointer (some ⟨b, off + q * 14, none⟩)) := by rw [hps]; intro e; rfl
              have q15 : ∀ e, keysOK (ps e) 1 15 = true := by rw [hps]; intro e; rfl
              have k16 : ∀ e, slotOf (ps e) 16 = some (2, .pointer (some ⟨b, off + q * 14 + 1, none⟩)) := by rw [hps]; intro e; rfl
              have q16 : ∀ e, keysOK (ps e) 2 16 = true := by rw [hps]; intro e; rfl
              have k17 : ∀ e, slotOf (ps e) 17 = some (3, .agg #[.int .i64 x.n.s, .int .i64 x.n.i, .int .i64 x.n.t]) := by rw [hps]; intro e; rfl
              have q17 : ∀ e, keysOK (ps e) 3 17 = true := by rw [hps]; intro e; rfl
              have k18 : ∀ e, slotOf (ps e) 18 = some (4, .agg #[.int .i64 nm.s, .int .i64 nm.i, .int .i64 nm.t]) := by rw [hps]; intro e; rfl
              have q18 : ∀ e, keysOK (ps e) 4 18 = true := by rw [hps]; intro e; rfl
              have k19 : ∀ e, slotOf (ps e) 19 = some (5, .bool true) := by rw [hps]; intro e; rfl
              have q19 : ∀ e, keysOK (ps e) 5 19 = true := by rw [hps]; intro e; rfl
              have k20 : ∀ e, slotOf (ps e) 20 = some (6, .bool true) := by rw [hps]; intro e; rfl
              have q20 : ∀ e, keysOK (ps e) 6 20 = true := by rw [hps]; intro e; rfl
              have k21 : ∀ e, slotOf (ps e) 21 = some (7, .pointer (some ⟨b, off + q * 14, none⟩)) := by rw [hps]; intro e; rfl
              have q21 : ∀ e, keysOK (ps e) 7 21 = true := by rw [hps]; intro e; rfl
              have k22 : ∀ e, slotOf (ps e) 22 = some (8, .pointer (some ⟨b, off + q * 14, none⟩)) := by rw [hps]; intro e; rfl
              have q22 : ∀ e, keysOK (ps e) 8 22 = true := by rw [hps]; intro e; rfl
              have k23 : ∀ e, slotOf (ps e) 23 = some (9, .pointer (some ⟨b, off + q * 14, none⟩)) := by rw [hps]; intro e; rfl
              have q23 : ∀ e, keysOK (ps e) 9 23 = true := by rw [hps]; intro e; rfl
              have k24 : ∀ e, slotOf (ps e) 24 = some (10, .int .i8 x.k) := by rw [hps]; intro e; rfl
              have q24 : ∀ e, keysOK (ps e) 10 24 = true := by rw [hps]; intro e; rfl
              have k25 : ∀ e, slotOf (ps e) 25 = some (11, .bool true) := by rw [hps]; intro e; rfl
              have q25 : ∀ e, keysOK (ps e) 11 25 = true := by rw [hps]; intro e; rfl
              have k26 : ∀ e, slotOf (ps e) 26 = some (12, .bool true) := by rw [hps]; intro e; rfl
              have q26 : ∀ e, keysOK (ps e) 12 26 = true := by rw [hps]; intro e; rfl
              have k27 : ∀ e, slotOf (ps e) 27 = some (13, undef) := by rw [hps]; intro e; rfl
              have q27 : ∀ e, keysOK (ps e) 13 27 = true := by rw [hps]; intro e; rfl
              have k28 : ∀ e, slotOf (ps e) 28 = some (14, undef) := by rw [hps]; intro e; rfl
              have q28 : ∀ e, keysOK (ps e) 14 28 = true := by rw [hps]; intro e; rfl
              have k29 : ∀ e, slotOf (ps e) 29 = some (15, undef) := by rw [hps]; intro e; rfl
              have q29 : ∀ e, keysOK (ps e) 15 29 = true := by rw [hps]; intro e; rfl
              have k30 : ∀ e, slotOf (ps e) 30 = some (16, undef) := by rw [hps]; intro e; rfl
              have q30 : ∀ e, keysOK (ps e) 16 30 = true := by rw [hps]; intro e; rfl
              have k31 : ∀ e, slotOf (ps e) 31 = some (17, undef) := by rw [hps]; intro e; rfl
              have q31 : ∀ e, keysOK (ps e) 17 31 = true := by rw [hps]; intro e; rfl
              have k32 : ∀ e, slotOf (ps e) 32 = some (18, .bool true) := by rw [hps]; intro e; rfl
              have q32 : ∀ e, keysOK (ps e) 18 32 = true := by rw [hps]; intro e; rfl
              have k33 : ∀ e, slotOf (ps e) 33 = some (19, .bool true) := by rw [hps]; intro e; rfl
              have q33 : ∀ e, keysOK (ps e) 19 33 = true := by rw [hps]; intro e; rfl
              have k34 : ∀ e, slotOf (ps e) 34 = some (20, .bool true) := by rw [hps]; intro e; rfl
              have q34 : ∀ e, keysOK (ps e) 20 34 = true := by rw [hps]; intro e; rfl
              have k35 : ∀ e, slotOf (ps e) 35 = some (21, .func (.yield lp) #[] #[]) := by rw [hps]; intro e; rfl
              have q35 : ∀ e, keysOK (ps e) 21 35 = true := by rw [hps]; intro e; rfl
              have k36 : ∀ e, slotOf (ps e) 36 = some (22, .pointer (some ⟨b, off + q * 14, none⟩)) := by rw [hps]; intro e; rfl
              have q36 : ∀ e, keysOK (ps e) 22 36 = true := by rw [hps]; intro e; rfl
              have k37 : ∀ e, slotOf (ps e) 37 = some (23, .pointer (some ⟨b, off + q * 14, none⟩)) := by rw [hps]; intro e; rfl
              have q37 : ∀ e, keysOK (ps e) 23 37 = true := by rw [hps]; intro e; rfl
              have k38 : ∀ e, slotOf (ps e) 38 = some (24, .pointer (some ⟨b, off + q * 14 + 4, none⟩)) := by rw [hps]; intro e; rfl
              have q38 : ∀ e, keysOK (ps e) 24 38 = true := by rw [hps]; intro e; rfl
              have k39 : ∀ e, slotOf (ps e) 39 = some (25, .int .i64 x.b) := by rw [hps]; intro e; rfl
              have q39 : ∀ e, keysOK (ps e) 25 39 = true := by rw [hps]; intro e; rfl
              have k40 : ∀ e, slotOf (ps e) 40 = some (26, flV x.b) := by rw [hps]; intro e; rfl
              have q40 : ∀ e, keysOK (ps e) 26 40 = true := by rw [hps]; intro e; rfl
              have k41 : ∀ e, slotOf (ps e) 41 = some (27, .int .i64 (q : Int)) := by rw [hps]; intro e; rfl
              have q41 : ∀ e, keysOK (ps e) 27 41 = true := by rw [hps]; intro e; rfl
              have k42 : ∀ e, slotOf (ps e) 42 = some (28, flV (q : Int)) := by rw [hps]; intro e; rfl
              have q42 : ∀ e, keysOK (ps e) 28 42 = true := by rw [hps]; intro e; rfl
              have k43 : ∀ e, slotOf (ps e) 43 = some (29, cxV x.b (q : Int)) := by rw [hps]; intro e; rfl
              have q43 : ∀ e, keysOK (ps e) 29 43 = true := by rw [hps]; intro e; rfl
              have k44 : ∀ e, slotOf (ps e) 44 = some (30, .pointer (some ⟨b, off + q * 14, none⟩)) := by rw [hps]; intro e; rfl
              have q44 : ∀ e, keysOK (ps e) 30 44 = true := by rw [hps]; intro e; rfl
              have k45 : ∀ e, slotOf (ps e) 45 = some (31, .bool e) := by rw [hps]; intro e; rfl
              have q45 : ∀ e, keysOK (ps e) 31 45 = true := by rw [hps]; intro e; rfl
              have k46 : ∀ e, slotOf (ps e) 46 = some (32, .bool !e) := by rw [hps]; intro e; rfl
              have q46 : ∀ e, keysOK (ps e) 32 46 = true := by rw [hps]; intro e; rfl
              have k47 : ∀ e, slotOf (ps e) 47 = some (33, .bool !e) := by rw [hps]; intro e; rfl
              have q47 : ∀ e, keysOK (ps e) 33 47 = true := by rw [hps]; intro e; rfl
              clear ha0
              refine ⟨?_, ?_, ?_, ?_, ?_, ?_, ?_, ?_, ?_, ?_, ?_, ?_, ?_, ?_, ?_, ?_, ?_, ?_, ?_, ?_, ?_, ?_, ?_, ?_, ?_, ?_, ?_, ?_, ?_, ?_, ?_, ?_, ?_, ?_, trivial⟩
              · rintro L _ Wx ⟨e, rfl, hT⟩ hcl hk hd
                rw [if_pos (by simp [Region.wanted])]
                refine opIn_valueW (by intro c h; cases h) (v := .pointer (some ⟨b, off + q * 14, none⟩)) (w' := Wx) (by simp [execOp, go_sem, frame_tout (n5 _) u5]) ⟨e, frame_put (k14 _) (q14 _), ?_⟩
                simpa [upd] using hT
              · rintro L _ Wx ⟨e, rfl, hT⟩ hcl hk hd
                have hL0 : L 0 = true := by have h := hd; simp [Region.binds] at h; simp [h]
                rw [if_pos (by simp [Region.wanted])]
                refine opIn_valueW (by intro c h; cases h) (v := .pointer (some ⟨b, off + q * 14, none⟩)) (w' := Wx) (by simp [execOp, go_sem, frame_tmp (k14 _) hL0 (Nat.lt_of_lt_of_eq (by decide : 14 < 49) hsz.symm)]) ⟨e, frame_put (k15 _) (q15 _), ?_⟩
                simpa [upd] using hT
              · rintro L _ Wx ⟨e, rfl, hT⟩ hcl hk hd
                have hL1 : L 1 = true := by have h := hd; simp [Region.binds] at h; simp [h]
                rw [if_pos (by simp [Region.wanted])]
                refine opIn_valueW (by intro c h; cases h) (v := .pointer (some ⟨b, off + q * 14 + 1, none⟩)) (w' := Wx) (by simp [execOp, go_sem, frame_tmp (k15 _) hL1 (Nat.lt_of_lt_of_eq (by decide : 15 < 49) hsz.symm)]) ⟨e, frame_put (k16 _) (q16 _), ?_⟩
                simpa [upd] using hT
              · rintro L _ Wx ⟨e, rfl, hT⟩ hcl hk hd
                have hL2 : L 2 = true := by have h := hd; simp [Region.binds] at h; simp [h]
                have hN : L 31 = false := by
                  cases hh : L 31 with
                  | false => rfl
                  | true =>
                    have h20 := hcl 31 _ rfl (by simp [hh])
                    simp [Region.binds] at h20
                    have h19 := hcl 20 _ rfl (by simp [h20])
                    simp [Region.binds] at h19
                    have h6 := hcl 19 _ rfl (by simp [h19])
                    simp [Region.binds] at h6
                    have h5 := hcl 6 _ rfl (by simp [h6])
                    simp [Region.binds] at h5
                    have h3 := hcl 5 _ rfl (by simp [h5])
                    simp [Region.binds] at h3
                    simp [hk] at h3
                rw [if_pos (by simp [Region.wanted])]
                refine opIn_valueW (by intro c h; cases h) (v := .agg #[.int .i64 x.n.s, .int .i64 x.n.i, .int .i64 x.n.t]) (w' := Wx) (by simp [execOp, go_sem, frame_tmp (k16 _) hL2 (Nat.lt_of_lt_of_eq (by decide : 16 < 49) hsz.symm), hT.1 hN, c1, c2, c3]) ⟨e, frame_put (k17 _) (q17 _), ?_⟩
                simpa [upd] using hT
              · rintro L _ Wx ⟨e, rfl, hT⟩ hcl hk hd
                have hN : L 31 = false := by
                  cases hh : L 31 with
                  | false => rfl
                  | true =>
                    have h20 := hcl 31 _ rfl (by simp [hh])
                    simp [Region.binds] at h20
                    have h19 := hcl 20 _ rfl (by simp [h20])
                    simp [Region.binds] at h19
                    have h6 := hcl 19 _ rfl (by simp [h19])
                    simp [Region.binds] at h6
                    have h5 := hcl 6 _ rfl (by simp [h6])
                    simp [Region.binds] at h5
                    have h4 := hcl 5 _ rfl (by simp [h5])
                    simp [Region.binds] at h4
                    simp [hk] at h4
                rw [if_pos (by simp [Region.wanted])]
                refine opIn_valueW (by intro c h; cases h) (v := .agg #[.int .i64 nm.s, .int .i64 nm.i, .int .i64 nm.t]) (w' := Wx) (by simp [execOp, go_sem, frame_tout (n2 _) u2, hT.1 hN, m0, m1, m2]) ⟨e, frame_put (k18 _) (q18 _), ?_⟩
                simpa [upd] using hT
              · rintro L _ Wx ⟨e, rfl, hT⟩ hcl hk hd
                have hL3 : L 3 = true := by have h := hd; simp [Region.binds] at h; simp [h]
                have hL4 : L 4 = true := by have h := hd; simp [Region.binds] at h; simp [h]
                rw [if_pos (by simp [Region.wanted])]
                refine opIn_valueW (by intro c h; cases h) (v := .bool true) (w' := Wx) (by simp [execOp, go_sem, frame_tmp (k17 _) hL3 (Nat.lt_of_lt_of_eq (by decide : 17 < 49) hsz.symm), frame_tmp (k18 _) hL4 (Nat.lt_of_lt_of_eq (by decide : 18 < 49) hsz.symm), hEq]) ⟨e, frame_put (k19 _) (q19 _), ?_⟩
                simpa [upd] using hT
              · rintro L _ Wx ⟨e, rfl, hT⟩ hcl hk hd
                have hL5 : L 5 = true := by have h := hd; simp [Region.binds] at h; simp [h]
                rw [if_pos (by simp [Region.wanted])]
                refine opIn_valueW (by intro c h; cases h) (v := .bool true) (w' := Wx) (by simp [execOp, go_sem, frame_tmp (k19 _) hL5 (Nat.lt_of_lt_of_eq (by decide : 19 < 49) hsz.symm)]) ⟨e, frame_put (k20 _) (q20 _), ?_⟩
                simpa [upd] using hT
              · rintro L _ Wx ⟨e, rfl, hT⟩ hcl hk hd
                have hL6 : L 6 = true := by have h := hd; simp [Region.binds] at h; simp [h]
                rw [if_pos (by simp [Region.wanted, yielded, frame_tmp (k20 _) hL6 (Nat.lt_of_lt_of_eq (by decide : 20 < 49) hsz.symm)])]
                refine opIn_valueW (by intro c h; cases h) (v := .pointer (some ⟨b, off + q * 14, none⟩)) (w' := Wx) (by simp [execOp, go_sem, frame_tout (n5 _) u5]) ⟨e, frame_put (k21 _) (q21 _), ?_⟩
                simpa [upd] using hT
              · rintro L _ Wx ⟨e, rfl, hT⟩ hcl hk hd
                have hL6 : L 6 = true := by have h := hd; simp [Region.binds] at h; simp [h]
                have hL7 : L 7 = true := by have h := hd; simp [Region.binds] at h; simp [h]
                rw [if_pos (by simp [Region.wanted, yielded, frame_tmp (k20 _) hL6 (Nat.lt_of_lt_of_eq (by decide : 20 < 49) hsz.symm)])]
                refine opIn_valueW (by intro c h; cases h) (v := .pointer (some ⟨b, off + q * 14, none⟩)) (w' := Wx) (by simp [execOp, go_sem, frame_tmp (k21 _) hL7 (Nat.lt_of_lt_of_eq (by decide : 21 < 49) hsz.symm)]) ⟨e, frame_put (k22 _) (q22 _), ?_⟩
                simpa [upd] using hT
              · rintro L _ Wx ⟨e, rfl, hT⟩ hcl hk hd
                have hL6 : L 6 = true := by have h := hd; simp [Region.binds] at h; simp [h]
                have hL8 : L 8 = true := by have h := hd; simp [Region.binds] at h; simp [h]
                rw [if_pos (by simp [Region.wanted, yielded, frame_tmp (k20 _) hL6 (Nat.lt_of_lt_of_eq (by decide : 20 < 49) hsz.symm)])]
                refine opIn_valueW (by intro c h; cases h) (v := .pointer (some ⟨b, off + q * 14, none⟩)) (w' := Wx) (by simp [execOp, go_sem, frame_tmp (k22 _) hL8 (Nat.lt_of_lt_of_eq (by decide : 22 < 49) hsz.symm)]) ⟨e, frame_put (k23 _) (q23 _), ?_⟩
                simpa [upd] using hT
              · rintro L _ Wx ⟨e, rfl, hT⟩ hcl hk hd
                have hL6 : L 6 = true := by have h := hd; simp [Region.binds] at h; simp [h]
                have hL9 : L 9 = true := by have h := hd; simp [Region.binds] at h; simp [h]
                have hN : L 31 = false := by
                  cases hh : L 31 with
                  | false => rfl
                  | true =>
                    have h20 := hcl 31 _ rfl (by simp [hh])
                    simp [Region.binds] at h20
                    have h19 := hcl 20 _ rfl (by simp [h20])
                    simp [Region.binds] at h19
                    have h18 := hcl 19 _ rfl (by simp [h19])
                    simp [Region.binds] at h18
                    have h12 := hcl 18 _ rfl (by simp [h18])
                    simp [Region.binds] at h12
                    have h11 := hcl 12 _ rfl (by simp [h12])
                    simp [Region.binds] at h11
                    have h10 := hcl 11 _ rfl (by simp [h11])
                    simp [Region.binds] at h10
                    simp [hk] at h10
                rw [if_pos (by simp [Region.wanted, yielded, frame_tmp (k20 _) hL6 (Nat.lt_of_lt_of_eq (by decide : 20 < 49) hsz.symm)])]
                refine opIn_valueW (by intro c h; cases h) (v := .int .i8 x.k) (w' := Wx) (by simp [execOp, go_sem, frame_tmp (k23 _) hL9 (Nat.lt_of_lt_of_eq (by decide : 23 < 49) hsz.symm), hT.1 hN, c0]) ⟨e, frame_put (k24 _) (q24 _), ?_⟩
                simpa [upd] using hT
              · rintro L _ Wx ⟨e, rfl, hT⟩ hcl hk hd
                have hL6 : L 6 = true := by have h := hd; simp [Region.binds] at h; simp [h]
                have hL10 : L 10 = true := by have h := hd; simp [Region.binds] at h; simp [h]
                rw [if_pos (by simp [Region.wanted, yielded, frame_tmp (k20 _) hL6 (Nat.lt_of_lt_of_eq (by decide : 20 < 49) hsz.symm)])]
                refine opIn_valueW (by intro c h; cases h) (v := .bool true) (w' := Wx) (by simp [execOp, go_sem, frame_tmp (k24 _) hL10 (Nat.lt_of_lt_of_eq (by decide : 24 < 49) hsz.symm), e1]) ⟨e, frame_put (k25 _) (q25 _), ?_⟩
                simpa [upd] using hT
              · rintro L _ Wx ⟨e, rfl, hT⟩ hcl hk hd
                have hL6 : L 6 = true := by have h := hd; simp [Region.binds] at h; simp [h]
                have hL11 : L 11 = true := by have h := hd; simp [Region.binds] at h; simp [h]
                rw [if_pos (by simp [Region.wanted, yielded, frame_tmp (k20 _) hL6 (Nat.lt_of_lt_of_eq (by decide : 20 < 49) hsz.symm)])]
                refine opIn_valueW (by intro c h; cases h) (v := .bool true) (w' := Wx) (by simp [execOp, go_sem, frame_tmp (k25 _) hL11 (Nat.lt_of_lt_of_eq (by decide : 25 < 49) hsz.symm)]) ⟨e, frame_put (k26 _) (q26 _), ?_⟩
                simpa [upd] using hT
              · rintro L _ Wx ⟨e, rfl, hT⟩ hcl hk hd
                have hL12 : L 12 = true := by have h := hd; simp [Region.binds] at h; simp [h]
                rw [if_neg (by simp [Region.wanted, yielded, frame_tmp (k26 _) hL12 (Nat.lt_of_lt_of_eq (by decide : 26 < 49) hsz.symm)])]
                refine ⟨e, frame_put (k27 _) (q27 _), ?_⟩
                simpa [upd] using hT
              · rintro L _ Wx ⟨e, rfl, hT⟩ hcl hk hd
                have hL12 : L 12 = true := by have h := hd; simp [Region.binds] at h; simp [h]
                rw [if_neg (by simp [Region.wanted, yielded, frame_tmp (k26 _) hL12 (Nat.lt_of_lt_of_eq (by decide : 26 < 49) hsz.symm)])]
                refine ⟨e, frame_put (k28 _) (q28 _), ?_⟩
                simpa [upd] using hT
              · rintro L _ Wx ⟨e, rfl, hT⟩ hcl hk hd
                have hL12 : L 12 = true := by have h := hd; simp [Region.binds] at h; simp [h]
                rw [if_neg (by simp [Region.wanted, yielded, frame_tmp (k26 _) hL12 (Nat.lt_of_lt_of_eq (by decide : 26 < 49) hsz.symm)])]
                refine ⟨e, frame_put (k29 _) (q29 _), ?_⟩
                simpa [upd] using hT
              · rintro L _ Wx ⟨e, rfl, hT⟩ hcl hk hd
                have hL12 : L 12 = true := by have h := hd; simp [Region.binds] at h; simp [h]
                have hN : L 31 = false := by
                  cases hh : L 31 with
                  | false => rfl
                  | true =>
                    have h20 := hcl 31 _ rfl (by simp [hh])
                    simp [Region.binds] at h20
                    have h19 := hcl 20 _ rfl (by simp [h20])
                    simp [Region.binds] at h19
                    have h18 := hcl 19 _ rfl (by simp [h19])
                    simp [Region.binds] at h18
                    have h17 := hcl 18 _ rfl (by simp [h18])
                    simp [Region.binds] at h17
                    have h16 := hcl 17 _ rfl (by simp [h17])
                    simp [Region.binds] at h16
                    simp [hk] at h16
                rw [if_neg (by simp [Region.wanted, yielded, frame_tmp (k26 _) hL12 (Nat.lt_of_lt_of_eq (by decide : 26 < 49) hsz.symm)])]
                refine ⟨e, frame_put (k30 _) (q30 _), ?_⟩
                simpa [upd] using hT
              · rintro L _ Wx ⟨e, rfl, hT⟩ hcl hk hd
                have hL12 : L 12 = true := by have h := hd; simp [Region.binds] at h; simp [h]
                rw [if_neg (by simp [Region.wanted, yielded, frame_tmp (k26 _) hL12 (Nat.lt_of_lt_of_eq (by decide : 26 < 49) hsz.symm)])]
                refine ⟨e, frame_put (k31 _) (q31 _), ?_⟩
                simpa [upd] using hT
              · rintro L _ Wx ⟨e, rfl, hT⟩ hcl hk hd
                have hL6 : L 6 = true := by have h := hd; simp [Region.binds] at h; simp [h]
                have hL12 : L 12 = true := by have h := hd; simp [Region.binds] at h; simp [h]
                have hL17 : L 17 = true := by have h := hd; simp [Region.binds] at h; simp [h]
                rw [if_pos (by simp [Region.wanted, yielded, frame_tmp (k20 _) hL6 (Nat.lt_of_lt_of_eq (by decide : 20 < 49) hsz.symm)])]
                refine opIn_valueW (by intro c h; cases h) (v := .bool true) (w' := Wx) (by simp [execOp, go_sem, frame_tmp (k26 _) hL12 (Nat.lt_of_lt_of_eq (by decide : 26 < 49) hsz.symm), frame_tmp (k31 _) hL17 (Nat.lt_of_lt_of_eq (by decide : 31 < 49) hsz.symm)]) ⟨e, frame_put (k32 _) (q32 _), ?_⟩
                simpa [upd] using hT
              · rintro L _ Wx ⟨e, rfl, hT⟩ hcl hk hd
                have hL6 : L 6 = true := by have h := hd; simp [Region.binds] at h; simp [h]
                have hL18 : L 18 = true := by have h := hd; simp [Region.binds] at h; simp [h]
                rw [if_pos (by simp [Region.wanted])]
                refine opIn_valueW (by intro c h; cases h) (v := .bool true) (w' := Wx) (by simp [execOp, go_sem, frame_tmp (k20 _) hL6 (Nat.lt_of_lt_of_eq (by decide : 20 < 49) hsz.symm), frame_tmp (k32 _) hL18 (Nat.lt_of_lt_of_eq (by decide : 32 < 49) hsz.symm)]) ⟨e, frame_put (k33 _) (q33 _), ?_⟩
                simpa [upd] using hT
              · rintro L _ Wx ⟨e, rfl, hT⟩ hcl hk hd
                have hL19 : L 19 = true := by have h := hd; simp [Region.binds] at h; simp [h]
                rw [if_pos (by simp [Region.wanted])]
                refine opIn_valueW (by intro c h; cases h) (v := .bool true) (w' := Wx) (by simp [execOp, go_sem, frame_tmp (k33 _) hL19 (Nat.lt_of_lt_of_eq (by decide : 33 < 49) hsz.symm)]) ⟨e, frame_put (k34 _) (q34 _), ?_⟩
                simpa [upd] using hT
              · rintro L _ Wx ⟨e, rfl, hT⟩ hcl hk hd
                have hL20 : L 20 = true := by have h := hd; simp [Region.binds] at h; simp [h]
                rw [if_pos (by simp [Region.wanted, yielded, frame_tmp (k34 _) hL20 (Nat.lt_of_lt_of_eq (by decide : 34 < 49) hsz.symm)])]
                refine opIn_valueW (by intro c h; cases h) (v := .func (.yield lp) #[] #[]) (w' := Wx) (by simp [execOp, go_sem, frame_tout (n0 _) u0]) ⟨e, frame_put (k35 _) (q35 _), ?_⟩
                simpa [upd] using hT
              · rintro L _ Wx ⟨e, rfl, hT⟩ hcl hk hd
                have hL20 : L 20 = true := by have h := hd; simp [Region.binds] at h; simp [h]
                rw [if_pos (by simp [Region.wanted, yielded, frame_tmp (k34 _) hL20 (Nat.lt_of_lt_of_eq (by decide : 34 < 49) hsz.symm)])]
                refine opIn_valueW (by intro c h; cases h) (v := .pointer (some ⟨b, off + q * 14, none⟩)) (w' := Wx) (by simp [execOp, go_sem, frame_tout (n5 _) u5]) ⟨e, frame_put (k36 _) (q36 _), ?_⟩
                simpa [upd] using hT
              · rintro L _ Wx ⟨e, rfl, hT⟩ hcl hk hd
                have hL20 : L 20 = true := by have h := hd; simp [Region.binds] at h; simp [h]
                have hL22 : L 22 = true := by have h := hd; simp [Region.binds] at h; simp [h]
                rw [if_pos (by simp [Region.wanted, yielded, frame_tmp (k34 _) hL20 (Nat.lt_of_lt_of_eq (by decide : 34 < 49) hsz.symm)])]
                refine opIn_valueW (by intro c h; cases h) (v := .pointer (some ⟨b, off + q * 14, none⟩)) (w' := Wx) (by simp [execOp, go_sem, frame_tmp (k36 _) hL22 (Nat.lt_of_lt_of_eq (by decide : 36 < 49) hsz.symm)]) ⟨e, frame_put (k37 _) (q37 _), ?_⟩
                simpa [upd] using hT
              · rintro L _ Wx ⟨e, rfl, hT⟩ hcl hk hd
                have hL20 : L 20 = true := by have h := hd; simp [Region.binds] at h; simp [h]
                have hL23 : L 23 = true := by have h := hd; simp [Region.binds] at h; simp [h]
                rw [if_pos (by simp [Region.wanted, yielded, frame_tmp (k34 _) hL20 (Nat.lt_of_lt_of_eq (by decide : 34 < 49) hsz.symm)])]
                refine opIn_valueW (by intro c h; cases h) (v := .pointer (some ⟨b, off + q * 14 + 4, none⟩)) (w' := Wx) (by simp [execOp, go_sem, frame_tmp (k37 _) hL23 (Nat.lt_of_lt_of_eq (by decide : 37 < 49) hsz.symm)]) ⟨e, frame_put (k38 _) (q38 _), ?_⟩
                simpa [upd] using hT
              · rintro L _ Wx ⟨e, rfl, hT⟩ hcl hk hd
                have hL20 : L 20 = true := by have h := hd; simp [Region.binds] at h; simp [h]
                have hL24 : L 24 = true := by have h := hd; simp [Region.binds] at h; simp [h]
                have hN : L 31 = false := by
                  cases hh : L 31 with
                  | false => rfl
                  | true =>
                    have h29 := hcl 31 _ rfl (by simp [hh])
                    simp [Region.binds] at h29
                    have h26 := hcl 29 _ rfl (by simp [h29])
                    simp [Region.binds] at h26
                    have h25 := hcl 26 _ rfl (by simp [h26])
                    simp [Region.binds] at h25
                    simp [hk] at h25
                rw [if_pos (by simp [Region.wanted, yielded, frame_tmp (k34 _) hL20 (Nat.lt_of_lt_of_eq (by decide : 34 < 49) hsz.symm)])]
                refine opIn_valueW (by intro c h; cases h) (v := .int .i64 x.b) (w' := Wx) (by simp [execOp, go_sem, frame_tmp (k38 _) hL24 (Nat.lt_of_lt_of_eq (by decide : 38 < 49) hsz.symm), hT.1 hN, c4]) ⟨e, frame_put (k39 _) (q39 _), ?_⟩
                simpa [upd] using hT
              · rintro L _ Wx ⟨e, rfl, hT⟩ hcl hk hd
                have hL20 : L 20 = true := by have h := hd; simp [Region.binds] at h; simp [h]
                have hL25 : L 25 = true := by have h := hd; simp [Region.binds] at h; simp [h]
                rw [if_pos (by simp [Region.wanted, yielded, frame_tmp (k34 _) hL20 (Nat.lt_of_lt_of_eq (by decide : 34 < 49) hsz.symm)])]
                refine opIn_valueW (by intro c h; cases h) (v := flV x.b) (w' := Wx) (by simp [execOp, go_sem, frame_tmp (k39 _) hL25 (Nat.lt_of_lt_of_eq (by decide : 39 < 49) hsz.symm), run_to_float]) ⟨e, frame_put (k40 _) (q40 _), ?_⟩
                simpa [upd] using hT
              · rintro L _ Wx ⟨e, rfl, hT⟩ hcl hk hd
                have hL20 : L 20 = true := by have h := hd; simp [Region.binds] at h; simp [h]
                rw [if_pos (by simp [Region.wanted, yielded, frame_tmp (k34 _) hL20 (Nat.lt_of_lt_of_eq (by decide : 34 < 49) hsz.symm)])]
                refine opIn_valueW (by intro c h; cases h) (v := .int .i64 (q : Int)) (w' := Wx) (by simp [execOp, go_sem, frame_tout (n4 _) u4]) ⟨e, frame_put (k41 _) (q41 _), ?_⟩
                simpa [upd] using hT
              · rintro L _ Wx ⟨e, rfl, hT⟩ hcl hk hd
                have hL20 : L 20 = true := by have h := hd; simp [Region.binds] at h; simp [h]
                have hL27 : L 27 = true := by have h := hd; simp [Region.binds] at h; simp [h]
                rw [if_pos (by simp [Region.wanted, yielded, frame_tmp (k34 _) hL20 (Nat.lt_of_lt_of_eq (by decide : 34 < 49) hsz.symm)])]
                refine opIn_valueW (by intro c h; cases h) (v := flV (q : Int)) (w' := Wx) (by simp [execOp, go_sem, frame_tmp (k41 _) hL27 (Nat.lt_of_lt_of_eq (by decide : 41 < 49) hsz.symm), run_to_float]) ⟨e, frame_put (k42 _) (q42 _), ?_⟩
                simpa [upd] using hT
              · rintro L _ Wx ⟨e, rfl, hT⟩ hcl hk hd
                have hL20 : L 20 = true := by have h := hd; simp [Region.binds] at h; simp [h]
                have hL26 : L 26 = true := by have h := hd; simp [Region.binds] at h; simp [h]
                have hL28 : L 28 = true := by have h := hd; simp [Region.binds] at h; simp [h]
                rw [if_pos (by simp [Region.wanted, yielded, frame_tmp (k34 _) hL20 (Nat.lt_of_lt_of_eq (by decide : 34 < 49) hsz.symm)])]
                refine opIn_valueW (by intro c h; cases h) (v := cxV x.b (q : Int)) (w' := Wx) (by simp [go_sem, frame_tmp (k40 _) hL26 (Nat.lt_of_lt_of_eq (by decide : 40 < 49) hsz.symm), frame_tmp (k42 _) hL28 (Nat.lt_of_lt_of_eq (by decide : 42 < 49) hsz.symm), run_complex]) ⟨e, frame_put (k43 _) (q43 _), ?_⟩
                simpa [upd] using hT
              · rintro L _ Wx ⟨e, rfl, hT⟩ hcl hk hd
                have hL20 : L 20 = true := by have h := hd; simp [Region.binds] at h; simp [h]
                rw [if_pos (by simp [Region.wanted, yielded, frame_tmp (k34 _) hL20 (Nat.lt_of_lt_of_eq (by decide : 34 < 49) hsz.symm)])]
                refine opIn_valueW (by intro c h; cases h) (v := .pointer (some ⟨b, off + q * 14, none⟩)) (w' := Wx) (by simp [execOp, go_sem, frame_tout (n5 _) u5]) ⟨e, frame_put (k44 _) (q44 _), ?_⟩
                simpa [upd] using hT
              · rintro L _ Wx ⟨e, rfl, hT⟩ hcl hk hd
                have hL20 : L 20 = true := by have h := hd; simp [Region.binds] at h; simp [h]
                have hL21 : L 21 = true := by have h := hd; simp [Region.binds] at h; simp [h]
                have hL29 : L 29 = true := by have h := hd; simp [Region.binds] at h; simp [h]
                have hL30 : L 30 = true := by have h := hd; simp [Region.binds] at h; simp [h]
                rw [if_pos (by simp [Region.wanted, yielded, frame_tmp (k34 _) hL20 (Nat.lt_of_lt_of_eq (by decide : 34 < 49) hsz.symm)])]
                obtain rfl : Wx = w0 := hT.1 hk
                have hN32 : L 32 = false := by
                  cases hh : L 32 with
                  | false => rfl
                  | true =>
                    have h31 := hcl 32 _ rfl (by simp [hh])
                    simp [Region.binds] at h31
                    simp [hk] at h31
                have hN33 : L 33 = false := by
                  cases hh : L 33 with
                  | false => rfl
                  | true =>
                    have h32 := hcl 33 _ rfl (by simp [hh])
                    simp [Region.binds] at h32
                    simp [hN32] at h32
                refine opIn_round (by intro c h; cases h) (l := lp) (f := fn) (tmps := tmps) (assign := assign) (body := body) (by simp [go_sem, frame_tmp (k35 _) hL21 (Nat.lt_of_lt_of_eq (by decide : 35 < 49) hsz.symm), frame_tmp (k43 _) hL29 (Nat.lt_of_lt_of_eq (by decide : 43 < 49) hsz.symm), frame_tmp (k44 _) hL30 (Nat.lt_of_lt_of_eq (by decide : 44 < 49) hsz.symm), hy]) hR ?_
                rintro e2 W3 (⟨rfl, hJ3, hk3⟩ | ⟨rfl, hJx3⟩)
                · refine ⟨_, rfl, true, ?_, ?_⟩
                  · rw [← frame_put (k45 true) (q45 true)]
                    congr 1
                    rw [hps]
                    exact frame_swap (.cons (fun _ => rfl) (.cons (fun _ => rfl) (.cons (fun _ => rfl) (.cons (fun _ => rfl) (.cons (fun _ => rfl) (.cons (fun _ => rfl) (.cons (fun _ => rfl) (.cons (fun _ => rfl) (.cons (fun _ => rfl) (.cons (fun _ => rfl) (.cons (fun _ => rfl) (.cons (fun _ => rfl) (.cons (fun _ => rfl) (.cons (fun _ => rfl) (.cons (fun _ => rfl) (.cons (fun _ => rfl) (.cons (fun _ => rfl) (.cons (fun _ => rfl) (.cons (fun _ => rfl) (.cons (fun _ => rfl) (.cons (fun _ => rfl) (.cons (fun _ => rfl) (.cons (fun _ => rfl) (.cons (fun _ => rfl) (.cons (fun _ => rfl) (.cons (fun _ => rfl) (.cons (fun _ => rfl) (.cons (fun _ => rfl) (.cons (fun _ => rfl) (.cons (fun _ => rfl) (.cons (fun _ => rfl) (.cons (fun h => by rw [hk] at h; cases h) (.cons (fun h => by rw [hN32] at h; cases h) (.cons (fun h => by rw [hN33] at h; cases h) .nil))))))))))))))))))))))))))))))))))
                  · exact ⟨fun h => by simp [upd] at h, fun _ => .inl ⟨rfl, hJ3, hk3⟩⟩
                · refine ⟨_, rfl, false, ?_, ?_⟩
                  · rw [← frame_put (k45 false) (q45 false)]
                    congr 1
                    rw [hps]
                    exact frame_swap (.cons (fun _ => rfl) (.cons (fun _ => rfl) (.cons (fun _ => rfl) (.cons (fun _ => rfl) (.cons (fun _ => rfl) (.cons (fun _ => rfl) (.cons (fun _ => rfl) (.cons (fun _ => rfl) (.cons (fun _ => rfl) (.cons (fun _ => rfl) (.cons (fun _ => rfl) (.cons (fun _ => rfl) (.cons (fun _ => rfl) (.cons (fun _ => rfl) (.cons (fun _ => rfl) (.cons (fun _ => rfl) (.cons (fun _ => rfl) (.cons (fun _ => rfl) (.cons (fun _ => rfl) (.cons (fun _ => rfl) (.cons (fun _ => rfl) (.cons (fun _ => rfl) (.cons (fun _ => rfl) (.cons (fun _ => rfl) (.cons (fun _ => rfl) (.cons (fun _ => rfl) (.cons (fun _ => rfl) (.cons (fun _ => rfl) (.cons (fun _ => rfl) (.cons (fun _ => rfl) (.cons (fun _ => rfl) (.cons (fun h => by rw [hk] at h; cases h) (.cons (fun h => by rw [hN32] at h; cases h) (.cons (fun h => by rw [hN33] at h; cases h) .nil))))))))))))))))))))))))))))))))))
                  · exact ⟨fun h => by simp [upd] at h, fun _ => .inr ⟨rfl, hJx3⟩⟩
              · rintro L _ Wx ⟨e, rfl, hT⟩ hcl hk hd
                have hL20 : L 20 = true := by have h := hd; simp [Region.binds] at h; simp [h]
                have hL31 : L 31 = true := by have h := hd; simp [Region.binds] at h; simp [h]
                rw [if_pos (by simp [Region.wanted, yielded, frame_tmp (k34 _) hL20 (Nat.lt_of_lt_of_eq (by decide : 34 < 49) hsz.symm)])]
                refine opIn_valueW (by intro c h; cases h) (v := .bool !e) (w' := Wx) (by simp [execOp, go_sem, frame_tmp (k45 _) hL31 (Nat.lt_of_lt_of_eq (by decide : 45 < 49) hsz.symm)]) ⟨e, frame_put (k46 _) (q46 _), ?_⟩
                simpa [upd] using hT
              · rintro L _ Wx ⟨e, rfl, hT⟩ hcl hk hd
                have hL20 : L 20 = true := by have h := hd; simp [Region.binds] at h; simp [h]
                have hL32 : L 32 = true := by have h := hd; simp [Region.binds] at h; simp [h]
                rw [if_pos (by simp [Region.wanted])]
                refine opIn_valueW (by intro c h; cases h) (v := .bool !e) (w' := Wx) (by simp [execOp, go_sem, frame_tmp (k34 _) hL20 (Nat.lt_of_lt_of_eq (by decide : 34 < 49) hsz.symm), frame_tmp (k46 _) hL32 (Nat.lt_of_lt_of_eq (by decide : 46 < 49) hsz.symm)]) ⟨e, frame_put (k47 _) (q47 _), ?_⟩
                simpa [upd] using hT
            · rintro e L W' hT hall
              have hA31 : L 31 = true := hall 31 (by simp)
              simp only [putAll, Act.put, List.setIfInBounds_toArray, List.set_cons_succ, List.set_cons_zero]
              rcases hT.2 hA31 with ⟨rfl, hJ3, hk3⟩ | ⟨rfl, hJx3⟩
              · have HJ3 := Lib.hid hJ3
                have HK3 := Lib.hid hk3
                clear hT hall hJ3 hk3
                gi_wp2
                go_roundw
                case rel => exact ⟨q + 1, _, by omega, by go_num, HJ3.out, (HKD.out).trans HK3.out, HNX.out⟩
                case measure => simp [intOf]; omega
              · have HJx3 := Lib.hid hJx3
                clear hT hall hJx3
                gi_wp2
                refine bodyPost_ret (results_none rfl _ _ _) rfl ?_
                exact ⟨⟨_, rfl⟩, .inr ⟨_, ⟨_, HNX.out⟩, HJx3.out⟩⟩
            -- END NA
          · have e1 : (x.k == 1) = false := by simp [hk1]
            have e2 : (x.k == 2) = true := by simp; omega
            clear hk12 hk1 hit
            -- BEGIN NB
            refine wpIn_region_frameE (E := Bool) mixed (fun _ => trivial) (by kernel_rfl) (fun e => [(0, 14, .pointer (some ⟨b, off + q * 14, none⟩)), (1, 15, .pointer (some ⟨b, off + q * 14, none⟩)), (2, 16, .pointer (some ⟨b, off + q * 14 + 1, none⟩)), (3, 17, .agg #[.int .i64 x.n.s, .int .i64 x.n.i, .int .i64 x.n.t]), (4, 18, .agg #[.int .i64 nm.s, .int .i64 nm.i, .int .i64 nm.t]), (5, 19, .bool true), (6, 20, .bool true), (7, 21, .pointer (some ⟨b, off + q * 14, none⟩)), (8, 22, .pointer (some ⟨b, off + q * 14, none⟩)), (9, 23, .pointer (some ⟨b, off + q * 14, none⟩)), (10, 24, .int .i8 x.k), (11, 25, .bool false), (12, 26, .bool false), (13, 27, .pointer (some ⟨b, off + q * 14, none⟩)), (14, 28, .pointer (some ⟨b, off + q * 14, none⟩)), (15, 29, .pointer (some ⟨b, off + q * 14, none⟩)), (16, 30, .int .i8 x.k), (17, 31, .bool true), (18, 32, .bool true), (19, 33, .bool true), (20, 34, .bool true), (21, 35, .func (.yield lp) #[] #[]), (22, 36, .pointer (some ⟨b, off + q * 14, none⟩)), (23, 37, .pointer (some ⟨b, off + q * 14, none⟩)), (24, 38, .pointer (some ⟨b, off + q * 14 + 4, none⟩)), (25, 39, .int .i64 x.b), (26, 40, flV x.b), (27, 41, .int .i64 (q : Int)), (28, 42, flV (q : Int)), (29, 43, cxV x.b (q : Int)), (30, 44, .pointer (some ⟨b, off + q * 14, none⟩)), (31, 45, .bool e), (32, 46, .bool !e), (33, 47, .bool !e)]) (fun e L Wx => YT w0 (fun e W3 => (e = true ∧ J (pre ++ [⟨(q, x), hmem⟩]) W3 ∧ Keep n₀ n₁ none w0 W3) ∨ (e = false ∧ Jx (pre ++ [⟨(q, x), hmem⟩]) W3)) (L 31) e Wx) true ?_ ?_ (fun _ => by rfl) (fun _ => by rfl) ?_
            · exact HW0.out ▸ YT.start
            · intro a0 ps ha0 hps
              have hsz : a0.tmps.size = 49 := by rw [ha0]; rfl
              have u0 : a0.tmps[0]? = some (.func (.yield lp) #[] #[]) := by rw [ha0]; rfl
              have u2 : a0.tmps[2]? = some (.pointer (some ⟨Bn, 0, none⟩)) := by rw [ha0]; rfl
              have u4 : a0.tmps[4]? = some (.int .i64 (q : Int)) := by rw [ha0]; rfl
              have u5 : a0.tmps[5]? = some (.pointer (some ⟨b, off + q * 14, none⟩)) := by rw [ha0]; rfl
              have n0 : ∀ e, slotOf (ps e) 0 = none := by rw [hps]; intro e; rfl
              have n2 : ∀ e, slotOf (ps e) 2 = none := by rw [hps]; intro e; rfl
              have n4 : ∀ e, slotOf (ps e) 4 = none := by rw [hps]; intro e; rfl
              have n5 : ∀ e, slotOf (ps e) 5 = none := by rw [hps]; intro e; rfl
              have k14 : ∀ e, slotOf (ps e) 14 = some (0, .pointer (some ⟨b, off + q * 14, none⟩)) := by rw [hps]; intro e; rfl
              have q14 : ∀ e, keysOK (ps e) 0 14 = true := by rw [hps]; intro e; rfl
              have k15 : ∀ e, slotOf (ps e) 15 = some (1, .pointer (some ⟨b, off + q * 14, none⟩)) := by rw [hps]; intro e; rfl
              have q15 : ∀ e, keysOK (ps e) 1 15 = true := by rw [hps]; intro e; rfl
              have k16 : ∀ e, slotOf (ps e) 16 = some (2, .pointer (some ⟨b, off + q * 14 + 1, none⟩)) := by rw [hps]; intro e; rfl
              have q16 : ∀ e, keysOK (ps e) 2 16 = true := by rw [hps]; intro e; rfl
              have k17 : ∀ e, slotOf (ps e) 17 = some (3, .agg #[.int .i64 x.n.s, .int .i64 x.n.i, .int .i64 x.n.t]) := by rw [hps]; intro e; rfl
              have q17 : ∀ e, keysOK (ps e) 3 17 = true := by rw [hps]; intro e; rfl
              have k18 : ∀ e, slotOf (ps e) 18 = some (4, .agg #[.int .i64 nm.s, .int .i64 nm.i, .int .i64 nm.t]) := by rw [hps]; intro e; rfl
              have q18 : ∀ e, keysOK (ps e) 4 18 = true := by rw [hps]; intro e; rfl
              have k19 : ∀ e, slotOf (ps e) 19 = some (5, .bool true) := by rw [hps]; intro e; rfl
              have q19 : ∀ e, keysOK (ps e) 5 19 = true := by rw [hps]; intro e; rfl
              have k20 : ∀ e, slotOf (ps e) 20 = some (6, .bool true) := by rw [hps]; intro e; rfl
              have q20 : ∀ e, keysOK (ps e) 6 20 = true := by rw [hps]; intro e; rfl
              have k21 : ∀ e, slotOf (ps e) 21 = some (7, .pointer (some ⟨b, off + q * 14, none⟩)) := by rw [hps]; intro e; rfl
              have q21 : ∀ e, keysOK (ps e) 7 21 = true := by rw [hps]; intro e; rfl
              have k22 : ∀ e, slotOf (ps e) 22 = some (8, .pointer (some ⟨b, off + q * 14, none⟩)) := by rw [hps]; intro e; rfl
              have q22 : ∀ e, keysOK (ps e) 8 22 = true := by rw [hps]; intro e; rfl
              have k23 : ∀ e, slotOf (ps e) 23 = some (9, .pointer (some ⟨b, off + q * 14, none⟩)) := by rw [hps]; intro e; rfl
              have q23 : ∀ e, keysOK (ps e) 9 23 = true := by rw [hps]; intro e; rfl
              have k24 : ∀ e, slotOf (ps e) 24 = some (10, .int .i8 x.k) := by rw [hps]; intro e; rfl
              have q24 : ∀ e, keysOK (ps e) 10 24 = true := by rw [hps]; intro e; rfl
              have k25 : ∀ e, slotOf (ps e) 25 = some (11, .bool false) := by rw [hps]; intro e; rfl
              have q25 : ∀ e, keysOK (ps e) 11 25 = true := by rw [hps]; intro e; rfl
              have k26 : ∀ e, slotOf (ps e) 26 = some (12, .bool false) := by rw [hps]; intro e; rfl
              have q26 : ∀ e, keysOK (ps e) 12 26 = true := by rw [hps]; intro e; rfl
              have k27 : ∀ e, slotOf (ps e) 27 = some (13, .pointer (some ⟨b, off + q * 14, none⟩)) := by rw [hps]; intro e; rfl
              have q27 : ∀ e, keysOK (ps e) 13 27 = true := by rw [hps]; intro e; rfl
              have k28 : ∀ e, slotOf (ps e) 28 = some (14, .pointer (some ⟨b, off + q * 14, none⟩)) := by rw [hps]; intro e; rfl
              have q28 : ∀ e, keysOK (ps e) 14 28 = true := by rw [hps]; intro e; rfl
              have k29 : ∀ e, slotOf (ps e) 29 = some (15, .pointer (some ⟨b, off + q * 14, none⟩)) := by rw [hps]; intro e; rfl
              have q29 : ∀ e, keysOK (ps e) 15 29 = true := by rw [hps]; intro e; rfl
              have k30 : ∀ e, slotOf (ps e) 30 = some (16, .int .i8 x.k) := by rw [hps]; intro e; rfl
              have q30 : ∀ e, keysOK (ps e) 16 30 = true := by rw [hps]; intro e; rfl
              have k31 : ∀ e, slotOf (ps e) 31 = some (17, .bool true) := by rw [hps]; intro e; rfl
              have q31 : ∀ e, keysOK (ps e) 17 31 = true := by rw [hps]; intro e; rfl
              have k32 : ∀ e, slotOf (ps e) 32 = some (18, .bool true) := by rw [hps]; intro e; rfl
              have q32 : ∀ e, keysOK (ps e) 18 32 = true := by rw [hps]; intro e; rfl
              have k33 : ∀ e, slotOf (ps e) 33 = some (19, .bool true) := by rw [hps]; intro e; rfl
              have q33 : ∀ e, keysOK (ps e) 19 33 = true := by rw [hps]; intro e; rfl
              have k34 : ∀ e, slotOf (ps e) 34 = some (20, .bool true) := by rw [hps]; intro e; rfl
              have q34 : ∀ e, keysOK (ps e) 20 34 = true := by rw [hps]; intro e; rfl
              have k35 : ∀ e, slotOf (ps e) 35 = some (21, .func (.yield lp) #[] #[]) := by rw [hps]; intro e; rfl
              have q35 : ∀ e, keysOK (ps e) 21 35 = true := by rw [hps]; intro e; rfl
              have k36 : ∀ e, slotOf (ps e) 36 = some (22, .pointer (some ⟨b, off + q * 14, none⟩)) := by rw [hps]; intro e; rfl
              have q36 : ∀ e, keysOK (ps e) 22 36 = true := by rw [hps]; intro e; rfl
              have k37 : ∀ e, slotOf (ps e) 37 = some (23, .pointer (some ⟨b, off + q * 14, none⟩)) := by rw [hps]; intro e; rfl
              have q37 : ∀ e, keysOK (ps e) 23 37 = true := by rw [hps]; intro e; rfl
              have k38 : ∀ e, slotOf (ps e) 38 = some (24, .pointer (some ⟨b, off + q * 14 + 4, none⟩)) := by rw [hps]; intro e; rfl
              have q38 : ∀ e, keysOK (ps e) 24 38 = true := by rw [hps]; intro e; rfl
              have k39 : ∀ e, slotOf (ps e) 39 = some (25, .int .i64 x.b) := by rw [hps]; intro e; rfl
              have q39 : ∀ e, keysOK (ps e) 25 39 = true := by rw [hps]; intro e; rfl
              have k40 : ∀ e, slotOf (ps e) 40 = some (26, flV x.b) := by rw [hps]; intro e; rfl
              have q40 : ∀ e, keysOK (ps e) 26 40 = true := by rw [hps]; intro e; rfl
              have k41 : ∀ e, slotOf (ps e) 41 = some (27, .int .i64 (q : Int)) := by rw [hps]; intro e; rfl
              have q41 : ∀ e, keysOK (ps e) 27 41 = true := by rw [hps]; intro e; rfl
              have k42 : ∀ e, slotOf (ps e) 42 = some (28, flV (q : Int)) := by rw [hps]; intro e; rfl
              have q42 : ∀ e, keysOK (ps e) 28 42 = true := by rw [hps]; intro e; rfl
              have k43 : ∀ e, slotOf (ps e) 43 = some (29, cxV x.b (q : Int)) := by rw [hps]; intro e; rfl
              have q43 : ∀ e, keysOK (ps e) 29 43 = true := by rw [hps]; intro e; rfl
              have k44 : ∀ e, slotOf (ps e) 44 = some (30, .pointer (some ⟨b, off + q * 14, none⟩)) := by rw [hps]; intro e; rfl
              have q44 : ∀ e, keysOK (ps e) 30 44 = true := by rw [hps]; intro e; rfl
              have k45 : ∀ e, slotOf (ps e) 45 = some (31, .bool e) := by rw [hps]; intro e; rfl
              have q45 : ∀ e, keysOK (ps e) 31 45 = true := by rw [hps]; intro e; rfl
              have k46 : ∀ e, slotOf (ps e) 46 = some (32, .bool !e) := by rw [hps]; intro e; rfl
              have q46 : ∀ e, keysOK (ps e) 32 46 = true := by rw [hps]; intro e; rfl
              have k47 : ∀ e, slotOf (ps e) 47 = some (33, .bool !e) := by rw [hps]; intro e; rfl
              have q47 : ∀ e, keysOK (ps e) 33 47 = true := by rw [hps]; intro e; rfl
              clear ha0
              refine ⟨?_, ?_, ?_, ?_, ?_, ?_, ?_, ?_, ?_, ?_, ?_, ?_, ?_, ?_, ?_, ?_, ?_, ?_, ?_, ?_, ?_, ?_, ?_, ?_, ?_, ?_, ?_, ?_, ?_, ?_, ?_, ?_, ?_, ?_, trivial⟩
              · rintro L _ Wx ⟨e, rfl, hT⟩ hcl hk hd
                rw [if_pos (by simp [Region.wanted])]
                refine opIn_valueW (by intro c h; cases h) (v := .pointer (some ⟨b, off + q * 14, none⟩)) (w' := Wx) (by simp [execOp, go_sem, frame_tout (n5 _) u5]) ⟨e, frame_put (k14 _) (q14 _), ?_⟩
                simpa [upd] using hT
              · rintro L _ Wx ⟨e, rfl, hT⟩ hcl hk hd
                have hL0 : L 0 = true := by have h := hd; simp [Region.binds] at h; simp [h]
                rw [if_pos (by simp [Region.wanted])]
                refine opIn_valueW (by intro c h; cases h) (v := .pointer (some ⟨b, off + q * 14, none⟩)) (w' := Wx) (by simp [execOp, go_sem, frame_tmp (k14 _) hL0 (Nat.lt_of_lt_of_eq (by decide : 14 < 49) hsz.symm)]) ⟨e, frame_put (k15 _) (q15 _), ?_⟩
                simpa [upd] using hT
              · rintro L _ Wx ⟨e, rfl, hT⟩ hcl hk hd
                have hL1 : L 1 = true := by have h := hd; simp [Region.binds] at h; simp [h]
                rw [if_pos (by simp [Region.wanted])]
                refine opIn_valueW (by intro c h; cases h) (v := .pointer (some ⟨b, off + q * 14 + 1, none⟩)) (w' := Wx) (by simp [execOp, go_sem, frame_tmp (k15 _) hL1 (Nat.lt_of_lt_of_eq (by decide : 15 < 49) hsz.symm)]) ⟨e, frame_put (k16 _) (q16 _), ?_⟩
                simpa [upd] using hT
              · rintro L _ Wx ⟨e, rfl, hT⟩ hcl hk hd
                have hL2 : L 2 = true := by have h := hd; simp [Region.binds] at h; simp [h]
                have hN : L 31 = false := by
                  cases hh : L 31 with
                  | false => rfl
                  | true =>
                    have h20 := hcl 31 _ rfl (by simp [hh])
                    simp [Region.binds] at h20
                    have h19 := hcl 20 _ rfl (by simp [h20])
                    simp [Region.binds] at h19
                    have h6 := hcl 19 _ rfl (by simp [h19])
                    simp [Region.binds] at h6
                    have h5 := hcl 6 _ rfl (by simp [h6])
                    simp [Region.binds] at h5
                    have h3 := hcl 5 _ rfl (by simp [h5])
                    simp [Region.binds] at h3
                    simp [hk] at h3
                rw [if_pos (by simp [Region.wanted])]
                refine opIn_valueW (by intro c h; cases h) (v := .agg #[.int .i64 x.n.s, .int .i64 x.n.i, .int .i64 x.n.t]) (w' := Wx) (by simp [execOp, go_sem, frame_tmp (k16 _) hL2 (Nat.lt_of_lt_of_eq (by decide : 16 < 49) hsz.symm), hT.1 hN, c1, c2, c3]) ⟨e, frame_put (k17 _) (q17 _), ?_⟩
                simpa [upd] using hT
              · rintro L _ Wx ⟨e, rfl, hT⟩ hcl hk hd
                have hN : L 31 = false := by
                  cases hh : L 31 with
                  | false => rfl
                  | true =>
                    have h20 := hcl 31 _ rfl (by simp [hh])
                    simp [Region.binds] at h20
                    have h19 := hcl 20 _ rfl (by simp [h20])
                    simp [Region.binds] at h19
                    have h6 := hcl 19 _ rfl (by simp [h19])
                    simp [Region.binds] at h6
                    have h5 := hcl 6 _ rfl (by simp [h6])
                    simp [Region.binds] at h5
                    have h4 := hcl 5 _ rfl (by simp [h5])
                    simp [Region.binds] at h4
                    simp [hk] at h4
                rw [if_pos (by simp [Region.wanted])]
                refine opIn_valueW (by intro c h; cases h) (v := .agg #[.int .i64 nm.s, .int .i64 nm.i, .int .i64 nm.t]) (w' := Wx) (by simp [execOp, go_sem, frame_tout (n2 _) u2, hT.1 hN, m0, m1, m2]) ⟨e, frame_put (k18 _) (q18 _), ?_⟩
                simpa [upd] using hT
              · rintro L _ Wx ⟨e, rfl, hT⟩ hcl hk hd
                have hL3 : L 3 = true := by have h := hd; simp [Region.binds] at h; simp [h]
                have hL4 : L 4 = true := by have h := hd; simp [Region.binds] at h; simp [h]
                rw [if_pos (by simp [Region.wanted])]
                refine opIn_valueW (by intro c h; cases h) (v := .bool true) (w' := Wx) (by simp [execOp, go_sem, frame_tmp (k17 _) hL3 (Nat.lt_of_lt_of_eq (by decide : 17 < 49) hsz.symm), frame_tmp (k18 _) hL4 (Nat.lt_of_lt_of_eq (by decide : 18 < 49) hsz.symm), hEq]) ⟨e, frame_put (k19 _) (q19 _), ?_⟩
                simpa [upd] using hT
              · rintro L _ Wx ⟨e, rfl, hT⟩ hcl hk hd
                have hL5 : L 5 = true := by have h := hd; simp [Region.binds] at h; simp [h]
                rw [if_pos (by simp [Region.wanted])]
                refine opIn_valueW (by intro c h; cases h) (v := .bool true) (w' := Wx) (by simp [execOp, go_sem, frame_tmp (k19 _) hL5 (Nat.lt_of_lt_of_eq (by decide : 19 < 49) hsz.symm)]) ⟨e, frame_put (k20 _) (q20 _), ?_⟩
                simpa [upd] using hT
              · rintro L _ Wx ⟨e, rfl, hT⟩ hcl hk hd
                have hL6 : L 6 = true := by have h := hd; simp [Region.binds] at h; simp [h]
                rw [if_pos (by simp [Region.wanted, yielded, frame_tmp (k20 _) hL6 (Nat.lt_of_lt_of_eq (by decide : 20 < 49) hsz.symm)])]
                refine opIn_valueW (by intro c h; cases h) (v := .pointer (some ⟨b, off + q * 14, none⟩)) (w' := Wx) (by simp [execOp, go_sem, frame_tout (n5 _) u5]) ⟨e, frame_put (k21 _) (q21 _), ?_⟩
                simpa [upd] using hT
              · rintro L _ Wx ⟨e, rfl, hT⟩ hcl hk hd
                have hL6 : L 6 = true := by have h := hd; simp [Region.binds] at h; simp [h]
                have hL7 : L 7 = true := by have h := hd; simp [Region.binds] at h; simp [h]
                rw [if_pos (by simp [Region.wanted, yielded, frame_tmp (k20 _) hL6 (Nat.lt_of_lt_of_eq (by decide : 20 < 49) hsz.symm)])]
                refine opIn_valueW (by intro c h; cases h) (v := .pointer (some ⟨b, off + q * 14, none⟩)) (w' := Wx) (by simp [execOp, go_sem, frame_tmp (k21 _) hL7 (Nat.lt_of_lt_of_eq (by decide : 21 < 49) hsz.symm)]) ⟨e, frame_put (k22 _) (q22 _), ?_⟩
                simpa [upd] using hT
              · rintro L _ Wx ⟨e, rfl, hT⟩ hcl hk hd
                have hL6 : L 6 = true := by have h := hd; simp [Region.binds] at h; simp [h]
                have hL8 : L 8 = true := by have h := hd; simp [Region.binds] at h; simp [h]
                rw [if_pos (by simp [Region.wanted, yielded, frame_tmp (k20 _) hL6 (Nat.lt_of_lt_of_eq (by decide : 20 < 49) hsz.symm)])]
                refine opIn_valueW (by intro c h; cases h) (v := .pointer (some ⟨b, off + q * 14, none⟩)) (w' := Wx) (by simp [execOp, go_sem, frame_tmp (k22 _) hL8 (Nat.lt_of_lt_of_eq (by decide : 22 < 49) hsz.symm)]) ⟨e, frame_put (k23 _) (q23 _), ?_⟩
                simpa [upd] using hT
              · rintro L _ Wx ⟨e, rfl, hT⟩ hcl hk hd
                have hL6 : L 6 = true := by have h := hd; simp [Region.binds] at h; simp [h]
                have hL9 : L 9 = true := by have h := hd; simp [Region.binds] at h; simp [h]
                have hN : L 31 = false := by
                  cases hh : L 31 with
                  | false => rfl
                  | true =>
                    have h20 := hcl 31 _ rfl (by simp [hh])
                    simp [Region.binds] at h20
                    have h19 := hcl 20 _ rfl (by simp [h20])
                    simp [Region.binds] at h19
                    have h18 := hcl 19 _ rfl (by simp [h19])
                    simp [Region.binds] at h18
                    have h12 := hcl 18 _ rfl (by simp [h18])
                    simp [Region.binds] at h12
                    have h11 := hcl 12 _ rfl (by simp [h12])
                    simp [Region.binds] at h11
                    have h10 := hcl 11 _ rfl (by simp [h11])
                    simp [Region.binds] at h10
                    simp [hk] at h10
                rw [if_pos (by simp [Region.wanted, yielded, frame_tmp (k20 _) hL6 (Nat.lt_of_lt_of_eq (by decide : 20 < 49) hsz.symm)])]
                refine opIn_valueW (by intro c h; cases h) (v := .int .i8 x.k) (w' := Wx) (by simp [execOp, go_sem, frame_tmp (k23 _) hL9 (Nat.lt_of_lt_of_eq (by decide : 23 < 49) hsz.symm), hT.1 hN, c0]) ⟨e, frame_put (k24 _) (q24 _), ?_⟩
                simpa [upd] using hT
              · rintro L _ Wx ⟨e, rfl, hT⟩ hcl hk hd
                have hL6 : L 6 = true := by have h := hd; simp [Region.binds] at h; simp [h]
                have hL10 : L 10 = true := by have h := hd; simp [Region.binds] at h; simp [h]
                rw [if_pos (by simp [Region.wanted, yielded, frame_tmp (k20 _) hL6 (Nat.lt_of_lt_of_eq (by decide : 20 < 49) hsz.symm)])]
                refine opIn_valueW (by intro c h; cases h) (v := .bool false) (w' := Wx) (by simp [execOp, go_sem, frame_tmp (k24 _) hL10 (Nat.lt_of_lt_of_eq (by decide : 24 < 49) hsz.symm), e1]) ⟨e, frame_put (k25 _) (q25 _), ?_⟩
                simpa [upd] using hT
              · rintro L _ Wx ⟨e, rfl, hT⟩ hcl hk hd
                have hL6 : L 6 = true := by have h := hd; simp [Region.binds] at h; simp [h]
                have hL11 : L 11 = true := by have h := hd; simp [Region.binds] at h; simp [h]
                rw [if_pos (by simp [Region.wanted, yielded, frame_tmp (k20 _) hL6 (Nat.lt_of_lt_of_eq (by decide : 20 < 49) hsz.symm)])]
                refine opIn_valueW (by intro c h; cases h) (v := .bool false) (w' := Wx) (by simp [execOp, go_sem, frame_tmp (k25 _) hL11 (Nat.lt_of_lt_of_eq (by decide : 25 < 49) hsz.symm)]) ⟨e, frame_put (k26 _) (q26 _), ?_⟩
                simpa [upd] using hT
              · rintro L _ Wx ⟨e, rfl, hT⟩ hcl hk hd
                have hL12 : L 12 = true := by have h := hd; simp [Region.binds] at h; simp [h]
                rw [if_pos (by simp [Region.wanted, yielded, frame_tmp (k26 _) hL12 (Nat.lt_of_lt_of_eq (by decide : 26 < 49) hsz.symm)])]
                refine opIn_valueW (by intro c h; cases h) (v := .pointer (some ⟨b, off + q * 14, none⟩)) (w' := Wx) (by simp [execOp, go_sem, frame_tout (n5 _) u5]) ⟨e, frame_put (k27 _) (q27 _), ?_⟩
                simpa [upd] using hT
              · rintro L _ Wx ⟨e, rfl, hT⟩ hcl hk hd
                have hL12 : L 12 = true := by have h := hd; simp [Region.binds] at h; simp [h]
                have hL13 : L 13 = true := by have h := hd; simp [Region.binds] at h; simp [h]
                rw [if_pos (by simp [Region.wanted, yielded, frame_tmp (k26 _) hL12 (Nat.lt_of_lt_of_eq (by decide : 26 < 49) hsz.symm)])]
                refine opIn_valueW (by intro c h; cases h) (v := .pointer (some ⟨b, off + q * 14, none⟩)) (w' := Wx) (by simp [execOp, go_sem, frame_tmp (k27 _) hL13 (Nat.lt_of_lt_of_eq (by decide : 27 < 49) hsz.symm)]) ⟨e, frame_put (k28 _) (q28 _), ?_⟩
                simpa [upd] using hT
              · rintro L _ Wx ⟨e, rfl, hT⟩ hcl hk hd
                have hL12 : L 12 = true := by have h := hd; simp [Region.binds] at h; simp [h]
                have hL14 : L 14 = true := by have h := hd; simp [Region.binds] at h; simp [h]
                rw [if_pos (by simp [Region.wanted, yielded, frame_tmp (k26 _) hL12 (Nat.lt_of_lt_of_eq (by decide : 26 < 49) hsz.symm)])]
                refine opIn_valueW (by intro c h; cases h) (v := .pointer (some ⟨b, off + q * 14, none⟩)) (w' := Wx) (by simp [execOp, go_sem, frame_tmp (k28 _) hL14 (Nat.lt_of_lt_of_eq (by decide : 28 < 49) hsz.symm)]) ⟨e, frame_put (k29 _) (q29 _), ?_⟩
                simpa [upd] using hT
              · rintro L _ Wx ⟨e, rfl, hT⟩ hcl hk hd
                have hL12 : L 12 = true := by have h := hd; simp [Region.binds] at h; simp [h]
                have hL15 : L 15 = true := by have h := hd; simp [Region.binds] at h; simp [h]
                have hN : L 31 = false := by
                  cases hh : L 31 with
                  | false => rfl
                  | true =>
                    have h20 := hcl 31 _ rfl (by simp [hh])
                    simp [Region.binds] at h20
                    have h19 := hcl 20 _ rfl (by simp [h20])
                    simp [Region.binds] at h19
                    have h18 := hcl 19 _ rfl (by simp [h19])
                    simp [Region.binds] at h18
                    have h17 := hcl 18 _ rfl (by simp [h18])
                    simp [Region.binds] at h17
                    have h16 := hcl 17 _ rfl (by simp [h17])
                    simp [Region.binds] at h16
                    simp [hk] at h16
                rw [if_pos (by simp [Region.wanted, yielded, frame_tmp (k26 _) hL12 (Nat.lt_of_lt_of_eq (by decide : 26 < 49) hsz.symm)])]
                refine opIn_valueW (by intro c h; cases h) (v := .int .i8 x.k) (w' := Wx) (by simp [execOp, go_sem, frame_tmp (k29 _) hL15 (Nat.lt_of_lt_of_eq (by decide : 29 < 49) hsz.symm), hT.1 hN, c0]) ⟨e, frame_put (k30 _) (q30 _), ?_⟩
                simpa [upd] using hT
              · rintro L _ Wx ⟨e, rfl, hT⟩ hcl hk hd
                have hL12 : L 12 = true := by have h := hd; simp [Region.binds] at h; simp [h]
                have hL16 : L 16 = true := by have h := hd; simp [Region.binds] at h; simp [h]
                rw [if_pos (by simp [Region.wanted, yielded, frame_tmp (k26 _) hL12 (Nat.lt_of_lt_of_eq (by decide : 26 < 49) hsz.symm)])]
                refine opIn_valueW (by intro c h; cases h) (v := .bool true) (w' := Wx) (by simp [execOp, go_sem, frame_tmp (k30 _) hL16 (Nat.lt_of_lt_of_eq (by decide : 30 < 49) hsz.symm), e2]) ⟨e, frame_put (k31 _) (q31 _), ?_⟩
                simpa [upd] using hT
              · rintro L _ Wx ⟨e, rfl, hT⟩ hcl hk hd
                have hL6 : L 6 = true := by have h := hd; simp [Region.binds] at h; simp [h]
                have hL12 : L 12 = true := by have h := hd; simp [Region.binds] at h; simp [h]
                have hL17 : L 17 = true := by have h := hd; simp [Region.binds] at h; simp [h]
                rw [if_pos (by simp [Region.wanted, yielded, frame_tmp (k20 _) hL6 (Nat.lt_of_lt_of_eq (by decide : 20 < 49) hsz.symm)])]
                refine opIn_valueW (by intro c h; cases h) (v := .bool true) (w' := Wx) (by simp [execOp, go_sem, frame_tmp (k26 _) hL12 (Nat.lt_of_lt_of_eq (by decide : 26 < 49) hsz.symm), frame_tmp (k31 _) hL17 (Nat.lt_of_lt_of_eq (by decide : 31 < 49) hsz.symm)]) ⟨e, frame_put (k32 _) (q32 _), ?_⟩
                simpa [upd] using hT
              · rintro L _ Wx ⟨e, rfl, hT⟩ hcl hk hd
                have hL6 : L 6 = true := by have h := hd; simp [Region.binds] at h; simp [h]
                have hL18 : L 18 = true := by have h := hd; simp [Region.binds] at h; simp [h]
                rw [if_pos (by simp [Region.wanted])]
                refine opIn_valueW (by intro c h; cases h) (v := .bool true) (w' := Wx) (by simp [execOp, go_sem, frame_tmp (k20 _) hL6 (Nat.lt_of_lt_of_eq (by decide : 20 < 49) hsz.symm), frame_tmp (k32 _) hL18 (Nat.lt_of_lt_of_eq (by decide : 32 < 49) hsz.symm)]) ⟨e, frame_put (k33 _) (q33 _), ?_⟩
                simpa [upd] using hT
              · rintro L _ Wx ⟨e, rfl, hT⟩ hcl hk hd
                have hL19 : L 19 = true := by have h := hd; simp [Region.binds] at h; simp [h]
                rw [if_pos (by simp [Region.wanted])]
                refine opIn_valueW (by intro c h; cases h) (v := .bool true) (w' := Wx) (by simp [execOp, go_sem, frame_tmp (k33 _) hL19 (Nat.lt_of_lt_of_eq (by decide : 33 < 49) hsz.symm)]) ⟨e, frame_put (k34 _) (q34 _), ?_⟩
                simpa [upd] using hT
              · rintro L _ Wx ⟨e, rfl, hT⟩ hcl hk hd
                have hL20 : L 20 = true := by have h := hd; simp [Region.binds] at h; simp [h]
                rw [if_pos (by simp [Region.wanted, yielded, frame_tmp (k34 _) hL20 (Nat.lt_of_lt_of_eq (by decide : 34 < 49) hsz.symm)])]
                refine opIn_valueW (by intro c h; cases h) (v := .func (.yield lp) #[] #[]) (w' := Wx) (by simp [execOp, go_sem, frame_tout (n0 _) u0]) ⟨e, frame_put (k35 _) (q35 _), ?_⟩
                simpa [upd] using hT
              · rintro L _ Wx ⟨e, rfl, hT⟩ hcl hk hd
                have hL20 : L 20 = true := by have h := hd; simp [Region.binds] at h; simp [h]
                rw [if_pos (by simp [Region.wanted, yielded, frame_tmp (k34 _) hL20 (Nat.lt_of_lt_of_eq (by decide : 34 < 49) hsz.symm)])]
                refine opIn_valueW (by intro c h; cases h) (v := .pointer (some ⟨b, off + q * 14, none⟩)) (w' := Wx) (by simp [execOp, go_sem, frame_tout (n5 _) u5]) ⟨e, frame_put (k36 _) (q36 _), ?_⟩
                simpa [upd] using hT
              · rintro L _ Wx ⟨e, rfl, hT⟩ hcl hk hd
                have hL20 : L 20 = true := by have h := hd; simp [Region.binds] at h; simp [h]
                have hL22 : L 22 = true := by have h := hd; simp [Region.binds] at h; simp [h]
                rw [if_pos (by simp [Region.wanted, yielded, frame_tmp (k34 _) hL20 (Nat.lt_of_lt_of_eq (by decide : 34 < 49) hsz.symm)])]
                refine opIn_valueW (by intro c h; cases h) (v := .pointer (some ⟨b, off + q * 14, none⟩)) (w' := Wx) (by simp [execOp, go_sem, frame_tmp (k36 _) hL22 (Nat.lt_of_lt_of_eq (by decide : 36 < 49) hsz.symm)]) ⟨e, frame_put (k37 _) (q37 _), ?_⟩
                simpa [upd] using hT
              · rintro L _ Wx ⟨e, rfl, hT⟩ hcl hk hd
                have hL20 : L 20 = true := by have h := hd; simp [Region.binds] at h; simp [h]
                have hL23 : L 23 = true := by have h := hd; simp [Region.binds] at h; simp [h]
                rw [if_pos (by simp [Region.wanted, yielded, frame_tmp (k34 _) hL20 (Nat.lt_of_lt_of_eq (by decide : 34 < 49) hsz.symm)])]
                refine opIn_valueW (by intro c h; cases h) (v := .pointer (some ⟨b, off + q * 14 + 4, none⟩)) (w' := Wx) (by simp [execOp, go_sem, frame_tmp (k37 _) hL23 (Nat.lt_of_lt_of_eq (by decide : 37 < 49) hsz.symm)]) ⟨e, frame_put (k38 _) (q38 _), ?_⟩
                simpa [upd] using hT
              · rintro L _ Wx ⟨e, rfl, hT⟩ hcl hk hd
                have hL20 : L 20 = true := by have h := hd; simp [Region.binds] at h; simp [h]
                have hL24 : L 24 = true := by have h := hd; simp [Region.binds] at h; simp [h]
                have hN : L 31 = false := by
                  cases hh : L 31 with
                  | false => rfl
                  | true =>
                    have h29 := hcl 31 _ rfl (by simp [hh])
                    simp [Region.binds] at h29
                    have h26 := hcl 29 _ rfl (by simp [h29])
                    simp [Region.binds] at h26
                    have h25 := hcl 26 _ rfl (by simp [h26])
                    simp [Region.binds] at h25
                    simp [hk] at h25
                rw [if_pos (by simp [Region.wanted, yielded, frame_tmp (k34 _) hL20 (Nat.lt_of_lt_of_eq (by decide : 34 < 49) hsz.symm)])]
                refine opIn_valueW (by intro c h; cases h) (v := .int .i64 x.b) (w' := Wx) (by simp [execOp, go_sem, frame_tmp (k38 _) hL24 (Nat.lt_of_lt_of_eq (by decide : 38 < 49) hsz.symm), hT.1 hN, c4]) ⟨e, frame_put (k39 _) (q39 _), ?_⟩
                simpa [upd] using hT
              · rintro L _ Wx ⟨e, rfl, hT⟩ hcl hk hd
                have hL20 : L 20 = true := by have h := hd; simp [Region.binds] at h; simp [h]
                have hL25 : L 25 = true := by have h := hd; simp [Region.binds] at h; simp [h]
                rw [if_pos (by simp [Region.wanted, yielded, frame_tmp (k34 _) hL20 (Nat.lt_of_lt_of_eq (by decide : 34 < 49) hsz.symm)])]
                refine opIn_valueW (by intro c h; cases h) (v := flV x.b) (w' := Wx) (by simp [execOp, go_sem, frame_tmp (k39 _) hL25 (Nat.lt_of_lt_of_eq (by decide : 39 < 49) hsz.symm), run_to_float]) ⟨e, frame_put (k40 _) (q40 _), ?_⟩
                simpa [upd] using hT
              · rintro L _ Wx ⟨e, rfl, hT⟩ hcl hk hd
                have hL20 : L 20 = true := by have h := hd; simp [Region.binds] at h; simp [h]
                rw [if_pos (by simp [Region.wanted, yielded, frame_tmp (k34 _) hL20 (Nat.lt_of_lt_of_eq (by decide : 34 < 49) hsz.symm)])]
                refine opIn_valueW (by intro c h; cases h) (v := .int .i64 (q : Int)) (w' := Wx) (by simp [execOp, go_sem, frame_tout (n4 _) u4]) ⟨e, frame_put (k41 _) (q41 _), ?_⟩
                simpa [upd] using hT
              · rintro L _ Wx ⟨e, rfl, hT⟩ hcl hk hd
                have hL20 : L 20 = true := by have h := hd; simp [Region.binds] at h; simp [h]
                have hL27 : L 27 = true := by have h := hd; simp [Region.binds] at h; simp [h]
                rw [if_pos (by simp [Region.wanted, yielded, frame_tmp (k34 _) hL20 (Nat.lt_of_lt_of_eq (by decide : 34 < 49) hsz.symm)])]
                refine opIn_valueW (by intro c h; cases h) (v := flV (q : Int)) (w' := Wx) (by simp [execOp, go_sem, frame_tmp (k41 _) hL27 (Nat.lt_of_lt_of_eq (by decide : 41 < 49) hsz.symm), run_to_float]) ⟨e, frame_put (k42 _) (q42 _), ?_⟩
                simpa [upd] using hT
              · rintro L _ Wx ⟨e, rfl, hT⟩ hcl hk hd
                have hL20 : L 20 = true := by have h := hd; simp [Region.binds] at h; simp [h]
                have hL26 : L 26 = true := by have h := hd; simp [Region.binds] at h; simp [h]
                have hL28 : L 28 = true := by have h := hd; simp [Region.binds] at h; simp [h]
                rw [if_pos (by simp [Region.wanted, yielded, frame_tmp (k34 _) hL20 (Nat.lt_of_lt_of_eq (by decide : 34 < 49) hsz.symm)])]
                refine opIn_valueW (by intro c h; cases h) (v := cxV x.b (q : Int)) (w' := Wx) (by simp [go_sem, frame_tmp (k40 _) hL26 (Nat.lt_of_lt_of_eq (by decide : 40 < 49) hsz.symm), frame_tmp (k42 _) hL28 (Nat.lt_of_lt_of_eq (by decide : 42 < 49) hsz.symm), run_complex]) ⟨e, frame_put (k43 _) (q43 _), ?_⟩
                simpa [upd] using hT
              · rintro L _ Wx ⟨e, rfl, hT⟩ hcl hk hd
                have hL20 : L 20 = true := by have h := hd; simp [Region.binds] at h; simp [h]
                rw [if_pos (by simp [Region.wanted, yielded, frame_tmp (k34 _) hL20 (Nat.lt_of_lt_of_eq (by decide : 34 < 49) hsz.symm)])]
                refine opIn_valueW (by intro c h; cases h) (v := .pointer (some ⟨b, off + q * 14, none⟩)) (w' := Wx) (by simp [execOp, go_sem, frame_tout (n5 _) u5]) ⟨e, frame_put (k44 _) (q44 _), ?_⟩
                simpa [upd] using hT
              · rintro L _ Wx ⟨e, rfl, hT⟩ hcl hk hd
                have hL20 : L 20 = true := by have h := hd; simp [Region.binds] at h; simp [h]
                have hL21 : L 21 = true := by have h := hd; simp [Region.binds] at h; simp [h]
                have hL29 : L 29 = true := by have h := hd; simp [Region.binds] at h; simp [h]
                have hL30 : L 30 = true := by have h := hd; simp [Region.binds] at h; simp [h]
                rw [if_pos (by simp [Region.wanted, yielded, frame_tmp (k34 _) hL20 (Nat.lt_of_lt_of_eq (by decide : 34 < 49) hsz.symm)])]
                obtain rfl : Wx = w0 := hT.1 hk
                have hN32 : L 32 = false := by
                  cases hh : L 32 with
                  | false => rfl
                  | true =>
                    have h31 := hcl 32 _ rfl (by simp [hh])
                    simp [Region.binds] at h31
                    simp [hk] at h31
                have hN33 : L 33 = false := by
                  cases hh : L 33 with
                  | false => rfl
                  | true =>
                    have h32 := hcl 33 _ rfl (by simp [hh])
                    simp [Region.binds] at h32
                    simp [hN32] at h32
                refine opIn_round (by intro c h; cases h) (l := lp) (f := fn) (tmps := tmps) (assign := assign) (body := body) (by simp [go_sem, frame_tmp (k35 _) hL21 (Nat.lt_of_lt_of_eq (by decide : 35 < 49) hsz.symm), frame_tmp (k43 _) hL29 (Nat.lt_of_lt_of_eq (by decide : 43 < 49) hsz.symm), frame_tmp (k44 _) hL30 (Nat.lt_of_lt_of_eq (by decide : 44 < 49) hsz.symm), hy]) hR ?_
                rintro e2 W3 (⟨rfl, hJ3, hk3⟩ | ⟨rfl, hJx3⟩)
                · refine ⟨_, rfl, true, ?_, ?_⟩
                  · rw [← frame_put (k45 true) (q45 true)]
                    congr 1
                    rw [hps]
                    exact frame_swap (.cons (fun _ => rfl) (.cons (fun _ => rfl) (.cons (fun _ => rfl) (.cons (fun _ => rfl) (.cons (fun _ => rfl) (.cons (fun _ => rfl) (.cons (fun _ => rfl) (.cons (fun _ => rfl) (.cons (fun _ => rfl) (.cons (fun _ => rfl) (.cons (fun _ => rfl) (.cons (fun _ => rfl) (.cons (fun _ => rfl) (.cons (fun _ => rfl) (.cons (fun _ => rfl) (.cons (fun _ => rfl) (.cons (fun _ => rfl) (.cons (fun _ => rfl) (.cons (fun _ => rfl) (.cons (fun _ => rfl) (.cons (fun _ => rfl) (.cons (fun _ => rfl) (.cons (fun _ => rfl) (.cons (fun _ => rfl) (.cons (fun _ => rfl) (.cons (fun _ => rfl) (.cons (fun _ => rfl) (.cons (fun _ => rfl) (.cons (fun _ => rfl) (.cons (fun _ => rfl) (.cons (fun _ => rfl) (.cons (fun h => by rw [hk] at h; cases h) (.cons (fun h => by rw [hN32] at h; cases h) (.cons (fun h => by rw [hN33] at h; cases h) .nil))))))))))))))))))))))))))))))))))
                  · exact ⟨fun h => by simp [upd] at h, fun _ => .inl ⟨rfl, hJ3, hk3⟩⟩
                · refine ⟨_, rfl, false, ?_, ?_⟩
                  · rw [← frame_put (k45 false) (q45 false)]
                    congr 1
                    rw [hps]
                    exact frame_swap (.cons (fun _ => rfl) (.cons (fun _ => rfl) (.cons (fun _ => rfl) (.cons (fun _ => rfl) (.cons (fun _ => rfl) (.cons (fun _ => rfl) (.cons (fun _ => rfl) (.cons (fun _ => rfl) (.cons (fun _ => rfl) (.cons (fun _ => rfl) (.cons (fun _ => rfl) (.cons (fun _ => rfl) (.cons (fun _ => rfl) (.cons (fun _ => rfl) (.cons (fun _ => rfl) (.cons (fun _ => rfl) (.cons (fun _ => rfl) (.cons (fun _ => rfl) (.cons (fun _ => rfl) (.cons (fun _ => rfl) (.cons (fun _ => rfl) (.cons (fun _ => rfl) (.cons (fun _ => rfl) (.cons (fun _ => rfl) (.cons (fun _ => rfl) (.cons (fun _ => rfl) (.cons (fun _ => rfl) (.cons (fun _ => rfl) (.cons (fun _ => rfl) (.cons (fun _ => rfl) (.cons (fun _ => rfl) (.cons (fun h => by rw [hk] at h; cases h) (.cons (fun h => by rw [hN32] at h; cases h) (.cons (fun h => by rw [hN33] at h; cases h) .nil))))))))))))))))))))))))))))))))))
                  · exact ⟨fun h => by simp [upd] at h, fun _ => .inr ⟨rfl, hJx3⟩⟩
              · rintro L _ Wx ⟨e, rfl, hT⟩ hcl hk hd
                have hL20 : L 20 = true := by have h := hd; simp [Region.binds] at h; simp [h]
                have hL31 : L 31 = true := by have h := hd; simp [Region.binds] at h; simp [h]
                rw [if_pos (by simp [Region.wanted, yielded, frame_tmp (k34 _) hL20 (Nat.lt_of_lt_of_eq (by decide : 34 < 49) hsz.symm)])]
                refine opIn_valueW (by intro c h; cases h) (v := .bool !e) (w' := Wx) (by simp [execOp, go_sem, frame_tmp (k45 _) hL31 (Nat.lt_of_lt_of_eq (by decide : 45 < 49) hsz.symm)]) ⟨e, frame_put (k46 _) (q46 _), ?_⟩
                simpa [upd] using hT
              · rintro L _ Wx ⟨e, rfl, hT⟩ hcl hk hd
                have hL20 : L 20 = true := by have h := hd; simp [Region.binds] at h; simp [h]
                have hL32 : L 32 = true := by have h := hd; simp [Region.binds] at h; simp [h]
                rw [if_pos (by simp [Region.wanted])]
                refine opIn_valueW (by intro c h; cases h) (v := .bool !e) (w' := Wx) (by simp [execOp, go_sem, frame_tmp (k34 _) hL20 (Nat.lt_of_lt_of_eq (by decide : 34 < 49) hsz.symm), frame_tmp (k46 _) hL32 (Nat.lt_of_lt_of_eq (by decide : 46 < 49) hsz.symm)]) ⟨e, frame_put (k47 _) (q47 _), ?_⟩
                simpa [upd] using hT
            · rintro e L W' hT hall
              have hA31 : L 31 = true := hall 31 (by simp)
              simp only [putAll, Act.put, List.setIfInBounds_toArray, List.set_cons_succ, List.set_cons_zero]
              rcases hT.2 hA31 with ⟨rfl, hJ3, hk3⟩ | ⟨rfl, hJx3⟩
              · have HJ3 := Lib.hid hJ3
                have HK3 := Lib.hid hk3
                clear hT hall hJ3 hk3
                gi_wp2
                go_roundw
                case rel => exact ⟨q + 1, _, by omega, by go_num, HJ3.out, (HKD.out).trans HK3.out, HNX.out⟩
                case measure => simp [intOf]; omega
              · have HJx3 := Lib.hid hJx3
                clear hT hall hJx3
                gi_wp2
                refine bodyPost_ret (results_none rfl _ _ _) rfl ?_
                exact ⟨⟨_, rfl⟩, .inr ⟨_, ⟨_, HNX.out⟩, HJx3.out⟩⟩
            -- END NB
        · have e1 : (x.k == 1) = false := by simp; omega
          have e2 : (x.k == 2) = false := by simp; omega
          have HS : Hid (nmSteps nm (l.drop q) q = nmSteps nm (l.drop (q + 1)) (q + 1)) := by show _ = _; rw [drop_cons HX.out, nmSteps, if_neg (fun h => hk12 h.2)]
          clear hk12 hit
          -- BEGIN NC
          refine wpIn_region_frame mixed (fun _ => trivial) (by kernel_rfl) [(0, 14, .pointer (some ⟨b, off + q * 14, none⟩)), (1, 15, .pointer (some ⟨b, off + q * 14, none⟩)), (2, 16, .pointer (some ⟨b, off + q * 14 + 1, none⟩)), (3, 17, .agg #[.int .i64 x.n.s, .int .i64 x.n.i, .int .i64 x.n.t]), (4, 18, .agg #[.int .i64 nm.s, .int .i64 nm.i, .int .i64 nm.t]), (5, 19, .bool true), (6, 20, .bool true), (7, 21, .pointer (some ⟨b, off + q * 14, none⟩)), (8, 22, .pointer (some ⟨b, off + q * 14, none⟩)), (9, 23, .pointer (some ⟨b, off + q * 14, none⟩)), (10, 24, .int .i8 x.k), (11, 25, .bool false), (12, 26, .bool false), (13, 27, .pointer (some ⟨b, off + q * 14, none⟩)), (14, 28, .pointer (some ⟨b, off + q * 14, none⟩)), (15, 29, .pointer (some ⟨b, off + q * 14, none⟩)), (16, 30, .int .i8 x.k), (17, 31, .bool false), (18, 32, .bool false), (19, 33, .bool false), (20, 34, .bool false), (21, 35, undef), (22, 36, undef), (23, 37, undef), (24, 38, undef), (25, 39, undef), (26, 40, undef), (27, 41, undef), (28, 42, undef), (29, 43, undef), (30, 44, undef), (31, 45, undef), (32, 46, undef), (33, 47, .bool false)] (fun L Wx => Wx = w0) ?_ ?_ (by rfl) (by rfl) ?_
          · exact HW0.out
          · intro a0 ps ha0 hps
            have hsz : a0.tmps.size = 49 := by rw [ha0]; rfl
            have u0 : a0.tmps[0]? = some (.func (.yield lp) #[] #[]) := by rw [ha0]; rfl
            have u2 : a0.tmps[2]? = some (.pointer (some ⟨Bn, 0, none⟩)) := by rw [ha0]; rfl
            have u4 : a0.tmps[4]? = some (.int .i64 (q : Int)) := by rw [ha0]; rfl
            have u5 : a0.tmps[5]? = some (.pointer (some ⟨b, off + q * 14, none⟩)) := by rw [ha0]; rfl
            have n0 : slotOf ps 0 = none := by rw [hps]; rfl
            have n2 : slotOf ps 2 = none := by rw [hps]; rfl
            have n4 : slotOf ps 4 = none := by rw [hps]; rfl
            have n5 : slotOf ps 5 = none := by rw [hps]; rfl
            have k14 : slotOf ps 14 = some (0, .pointer (some ⟨b, off + q * 14, none⟩)) := by rw [hps]; rfl
            have q14 : keysOK ps 0 14 = true := by rw [hps]; rfl
            have k15 : slotOf ps 15 = some (1, .pointer (some ⟨b, off + q * 14, none⟩)) := by rw [hps]; rfl
            have q15 : keysOK ps 1 15 = true := by rw [hps]; rfl
            have k16 : slotOf ps 16 = some (2, .pointer (some ⟨b, off + q * 14 + 1, none⟩)) := by rw [hps]; rfl
            have q16 : keysOK ps 2 16 = true := by rw [hps]; rfl
            have k17 : slotOf ps 17 = some (3, .agg #[.int .i64 x.n.s, .int .i64 x.n.i, .int .i64 x.n.t]) := by rw [hps]; rfl
            have q17 : keysOK ps 3 17 = true := by rw [hps]; rfl
            have k18 : slotOf ps 18 = some (4, .agg #[.int .i64 nm.s, .int .i64 nm.i, .int .i64 nm.t]) := by rw [hps]; rfl
            have q18 : keysOK ps 4 18 = true := by rw [hps]; rfl
            have k19 : slotOf ps 19 = some (5, .bool true) := by rw [hps]; rfl
            have q19 : keysOK ps 5 19 = true := by rw [hps]; rfl
            have k20 : slotOf ps 20 = some (6, .bool true) := by rw [hps]; rfl
            have q20 : keysOK ps 6 20 = true := by rw [hps]; rfl
            have k21 : slotOf ps 21 = some (7, .pointer (some ⟨b, off + q * 14, none⟩)) := by rw [hps]; rfl
            have q21 : keysOK ps 7 21 = true := by rw [hps]; rfl
            have k22 : slotOf ps 22 = some (8, .pointer (some ⟨b, off + q * 14, none⟩)) := by rw [hps]; rfl
            have q22 : keysOK ps 8 22 = true := by rw [hps]; rfl
            have k23 : slotOf ps 23 = some (9, .pointer (some ⟨b, off + q * 14, none⟩)) := by rw [hps]; rfl
            have q23 : keysOK ps 9 23 = true := by rw [hps]; rfl
            have k24 : slotOf ps 24 = some (10, .int .i8 x.k) := by rw [hps]; rfl
            have q24 : keysOK ps 10 24 = true := by rw [hps]; rfl
            have k25 : slotOf ps 25 = some (11, .bool false) := by rw [hps]; rfl
            have q25 : keysOK ps 11 25 = true := by rw [hps]; rfl
            have k26 : slotOf ps 26 = some (12, .bool false) := by rw [hps]; rfl
            have q26 : keysOK ps 12 26 = true := by rw [hps]; rfl
            have k27 : slotOf ps 27 = some (13, .pointer (some ⟨b, off + q * 14, none⟩)) := by rw [hps]; rfl
            have q27 : keysOK ps 13 27 = true := by rw [hps]; rfl
            have k28 : slotOf ps 28 = some (14, .pointer (some ⟨b, off + q * 14, none⟩)) := by rw [hps]; rfl
            have q28 : keysOK ps 14 28 = true := by rw [hps]; rfl
            have k29 : slotOf ps 29 = some (15, .pointer (some ⟨b, off + q * 14, none⟩)) := by rw [hps]; rfl
            have q29 : keysOK ps 15 29 = true := by rw [hps]; rfl
            have k30 : slotOf ps 30 = some (16, .int .i8 x.k) := by rw [hps]; rfl
            have q30 : keysOK ps 16 30 = true := by rw [hps]; rfl
            have k31 : slotOf ps 31 = some (17, .bool false) := by rw [hps]; rfl
            have q31 : keysOK ps 17 31 = true := by rw [hps]; rfl
            have k32 : slotOf ps 32 = some (18, .bool false) := by rw [hps]; rfl
            have q32 : keysOK ps 18 32 = true := by rw [hps]; rfl
            have k33 : slotOf ps 33 = some (19, .bool false) := by rw [hps]; rfl
            have q33 : keysOK ps 19 33 = true := by rw [hps]; rfl
            have k34 : slotOf ps 34 = some (20, .bool false) := by rw [hps]; rfl
            have q34 : keysOK ps 20 34 = true := by rw [hps]; rfl
            have k35 : slotOf ps 35 = some (21, undef) := by rw [hps]; rfl
            have q35 : keysOK ps 21 35 = true := by rw [hps]; rfl
            have k36 : slotOf ps 36 = some (22, undef) := by rw [hps]; rfl
            have q36 : keysOK ps 22 36 = true := by rw [hps]; rfl
            have k37 : slotOf ps 37 = some (23, undef) := by rw [hps]; rfl
            have q37 : keysOK ps 23 37 = true := by rw [hps]; rfl
            have k38 : slotOf ps 38 = some (24, undef) := by rw [hps]; rfl
            have q38 : keysOK ps 24 38 = true := by rw [hps]; rfl
            have k39 : slotOf ps 39 = some (25, undef) := by rw [hps]; rfl
            have q39 : keysOK ps 25 39 = true := by rw [hps]; rfl
            have k40 : slotOf ps 40 = some (26, undef) := by rw [hps]; rfl
            have q40 : keysOK ps 26 40 = true := by rw [hps]; rfl
            have k41 : slotOf ps 41 = some (27, undef) := by rw [hps]; rfl
            have q41 : keysOK ps 27 41 = true := by rw [hps]; rfl
            have k42 : slotOf ps 42 = some (28, undef) := by rw [hps]; rfl
            have q42 : keysOK ps 28 42 = true := by rw [hps]; rfl
            have k43 : slotOf ps 43 = some (29, undef) := by rw [hps]; rfl
            have q43 : keysOK ps 29 43 = true := by rw [hps]; rfl
            have k44 : slotOf ps 44 = some (30, undef) := by rw [hps]; rfl
            have q44 : keysOK ps 30 44 = true := by rw [hps]; rfl
            have k45 : slotOf ps 45 = some (31, undef) := by rw [hps]; rfl
            have q45 : keysOK ps 31 45 = true := by rw [hps]; rfl
            have k46 : slotOf ps 46 = some (32, undef) := by rw [hps]; rfl
            have q46 : keysOK ps 32 46 = true := by rw [hps]; rfl
            have k47 : slotOf ps 47 = some (33, .bool false) := by rw [hps]; rfl
            have q47 : keysOK ps 33 47 = true := by rw [hps]; rfl
            clear ha0 hps
            refine ⟨?_, ?_, ?_, ?_, ?_, ?_, ?_, ?_, ?_, ?_, ?_, ?_, ?_, ?_, ?_, ?_, ?_, ?_, ?_, ?_, ?_, ?_, ?_, ?_, ?_, ?_, ?_, ?_, ?_, ?_, ?_, ?_, ?_, ?_, trivial⟩
            · rintro L _ Wx ⟨rfl, hT⟩ hcl hk hd
              rw [if_pos (by simp [Region.wanted])]
              refine opIn_valueW (by intro c h; cases h) (v := .pointer (some ⟨b, off + q * 14, none⟩)) (w' := Wx) (by simp [execOp, go_sem, frame_tout (n5) u5]) ⟨frame_put (k14) (q14), ?_⟩
              simpa [upd] using hT
            · rintro L _ Wx ⟨rfl, hT⟩ hcl hk hd
              have hL0 : L 0 = true := by have h := hd; simp [Region.binds] at h; simp [h]
              rw [if_pos (by simp [Region.wanted])]
              refine opIn_valueW (by intro c h; cases h) (v := .pointer (some ⟨b, off + q * 14, none⟩)) (w' := Wx) (by simp [execOp, go_sem, frame_tmp (k14) hL0 (Nat.lt_of_lt_of_eq (by decide : 14 < 49) hsz.symm)]) ⟨frame_put (k15) (q15), ?_⟩
              simpa [upd] using hT
            · rintro L _ Wx ⟨rfl, hT⟩ hcl hk hd
              have hL1 : L 1 = true := by have h := hd; simp [Region.binds] at h; simp [h]
              rw [if_pos (by simp [Region.wanted])]
              refine opIn_valueW (by intro c h; cases h) (v := .pointer (some ⟨b, off + q * 14 + 1, none⟩)) (w' := Wx) (by simp [execOp, go_sem, frame_tmp (k15) hL1 (Nat.lt_of_lt_of_eq (by decide : 15 < 49) hsz.symm)]) ⟨frame_put (k16) (q16), ?_⟩
              simpa [upd] using hT
            · rintro L _ Wx ⟨rfl, hT⟩ hcl hk hd
              have hL2 : L 2 = true := by have h := hd; simp [Region.binds] at h; simp [h]
              rw [if_pos (by simp [Region.wanted])]
              refine opIn_valueW (by intro c h; cases h) (v := .agg #[.int .i64 x.n.s, .int .i64 x.n.i, .int .i64 x.n.t]) (w' := Wx) (by simp [execOp, go_sem, frame_tmp (k16) hL2 (Nat.lt_of_lt_of_eq (by decide : 16 < 49) hsz.symm), hT, c1, c2, c3]) ⟨frame_put (k17) (q17), ?_⟩
              simpa [upd] using hT
            · rintro L _ Wx ⟨rfl, hT⟩ hcl hk hd
              rw [if_pos (by simp [Region.wanted])]
              refine opIn_valueW (by intro c h; cases h) (v := .agg #[.int .i64 nm.s, .int .i64 nm.i, .int .i64 nm.t]) (w' := Wx) (by simp [execOp, go_sem, frame_tout (n2) u2, hT, m0, m1, m2]) ⟨frame_put (k18) (q18), ?_⟩
              simpa [upd] using hT
            · rintro L _ Wx ⟨rfl, hT⟩ hcl hk hd
              have hL3 : L 3 = true := by have h := hd; simp [Region.binds] at h; simp [h]
              have hL4 : L 4 = true := by have h := hd; simp [Region.binds] at h; simp [h]
              rw [if_pos (by simp [Region.wanted])]
              refine opIn_valueW (by intro c h; cases h) (v := .bool true) (w' := Wx) (by simp [execOp, go_sem, frame_tmp (k17) hL3 (Nat.lt_of_lt_of_eq (by decide : 17 < 49) hsz.symm), frame_tmp (k18) hL4 (Nat.lt_of_lt_of_eq (by decide : 18 < 49) hsz.symm), hEq]) ⟨frame_put (k19) (q19), ?_⟩
              simpa [upd] using hT
            · rintro L _ Wx ⟨rfl, hT⟩ hcl hk hd
              have hL5 : L 5 = true := by have h := hd; simp [Region.binds] at h; simp [h]
              rw [if_pos (by simp [Region.wanted])]
              refine opIn_valueW (by intro c h; cases h) (v := .bool true) (w' := Wx) (by simp [execOp, go_sem, frame_tmp (k19) hL5 (Nat.lt_of_lt_of_eq (by decide : 19 < 49) hsz.symm)]) ⟨frame_put (k20) (q20), ?_⟩
              simpa [upd] using hT
            · rintro L _ Wx ⟨rfl, hT⟩ hcl hk hd
              have hL6 : L 6 = true := by have h := hd; simp [Region.binds] at h; simp [h]
              rw [if_pos (by simp [Region.wanted, yielded, frame_tmp (k20) hL6 (Nat.lt_of_lt_of_eq (by decide : 20 < 49) hsz.symm)])]
              refine opIn_valueW (by intro c h; cases h) (v := .pointer (some ⟨b, off + q * 14, none⟩)) (w' := Wx) (by simp [execOp, go_sem, frame_tout (n5) u5]) ⟨frame_put (k21) (q21), ?_⟩
              simpa [upd] using hT
            · rintro L _ Wx ⟨rfl, hT⟩ hcl hk hd
              have hL6 : L 6 = true := by have h := hd; simp [Region.binds] at h; simp [h]
              have hL7 : L 7 = true := by have h := hd; simp [Region.binds] at h; simp [h]
              rw [if_pos (by simp [Region.wanted, yielded, frame_tmp (k20) hL6 (Nat.lt_of_lt_of_eq (by decide : 20 < 49) hsz.symm)])]
              refine opIn_valueW (by intro c h; cases h) (v := .pointer (some ⟨b, off + q * 14, none⟩)) (w' := Wx) (by simp [execOp, go_sem, frame_tmp (k21) hL7 (Nat.lt_of_lt_of_eq (by decide : 21 < 49) hsz.symm)]) ⟨frame_put (k22) (q22), ?_⟩
              simpa [upd] using hT
            · rintro L _ Wx ⟨rfl, hT⟩ hcl hk hd
              have hL6 : L 6 = true := by have h := hd; simp [Region.binds] at h; simp [h]
              have hL8 : L 8 = true := by have h := hd; simp [Region.binds] at h; simp [h]
              rw [if_pos (by simp [Region.wanted, yielded, frame_tmp (k20) hL6 (Nat.lt_of_lt_of_eq (by decide : 20 < 49) hsz.symm)])]
              refine opIn_valueW (by intro c h; cases h) (v := .pointer (some ⟨b, off + q * 14, none⟩)) (w' := Wx) (by simp [execOp, go_sem, frame_tmp (k22) hL8 (Nat.lt_of_lt_of_eq (by decide : 22 < 49) hsz.symm)]) ⟨frame_put (k23) (q23), ?_⟩
              simpa [upd] using hT
            · rintro L _ Wx ⟨rfl, hT⟩ hcl hk hd
              have hL6 : L 6 = true := by have h := hd; simp [Region.binds] at h; simp [h]
              have hL9 : L 9 = true := by have h := hd; simp [Region.binds] at h; simp [h]
              rw [if_pos (by simp [Region.wanted, yielded, frame_tmp (k20) hL6 (Nat.lt_of_lt_of_eq (by decide : 20 < 49) hsz.symm)])]
              refine opIn_valueW (by intro c h; cases h) (v := .int .i8 x.k) (w' := Wx) (by simp [execOp, go_sem, frame_tmp (k23) hL9 (Nat.lt_of_lt_of_eq (by decide : 23 < 49) hsz.symm), hT, c0]) ⟨frame_put (k24) (q24), ?_⟩
              simpa [upd] using hT
            · rintro L _ Wx ⟨rfl, hT⟩ hcl hk hd
              have hL6 : L 6 = true := by have h := hd; simp [Region.binds] at h; simp [h]
              have hL10 : L 10 = true := by have h := hd; simp [Region.binds] at h; simp [h]
              rw [if_pos (by simp [Region.wanted, yielded, frame_tmp (k20) hL6 (Nat.lt_of_lt_of_eq (by decide : 20 < 49) hsz.symm)])]
              refine opIn_valueW (by intro c h; cases h) (v := .bool false) (w' := Wx) (by simp [execOp, go_sem, frame_tmp (k24) hL10 (Nat.lt_of_lt_of_eq (by decide : 24 < 49) hsz.symm), e1]) ⟨frame_put (k25) (q25), ?_⟩
              simpa [upd] using hT
            · rintro L _ Wx ⟨rfl, hT⟩ hcl hk hd
              have hL6 : L 6 = true := by have h := hd; simp [Region.binds] at h; simp [h]
              have hL11 : L 11 = true := by have h := hd; simp [Region.binds] at h; simp [h]
              rw [if_pos (by simp [Region.wanted, yielded, frame_tmp (k20) hL6 (Nat.lt_of_lt_of_eq (by decide : 20 < 49) hsz.symm)])]
              refine opIn_valueW (by intro c h; cases h) (v := .bool false) (w' := Wx) (by simp [execOp, go_sem, frame_tmp (k25) hL11 (Nat.lt_of_lt_of_eq (by decide : 25 < 49) hsz.symm)]) ⟨frame_put (k26) (q26), ?_⟩
              simpa [upd] using hT
            · rintro L _ Wx ⟨rfl, hT⟩ hcl hk hd
              have hL12 : L 12 = true := by have h := hd; simp [Region.binds] at h; simp [h]
              rw [if_pos (by simp [Region.wanted, yielded, frame_tmp (k26) hL12 (Nat.lt_of_lt_of_eq (by decide : 26 < 49) hsz.symm)])]
              refine opIn_valueW (by intro c h; cases h) (v := .pointer (some ⟨b, off + q * 14, none⟩)) (w' := Wx) (by simp [execOp, go_sem, frame_tout (n5) u5]) ⟨frame_put (k27) (q27), ?_⟩
              simpa [upd] using hT
            · rintro L _ Wx ⟨rfl, hT⟩ hcl hk hd
              have hL12 : L 12 = true := by have h := hd; simp [Region.binds] at h; simp [h]
              have hL13 : L 13 = true := by have h := hd; simp [Region.binds] at h; simp [h]
              rw [if_pos (by simp [Region.wanted, yielded, frame_tmp (k26) hL12 (Nat.lt_of_lt_of_eq (by decide : 26 < 49) hsz.symm)])]
              refine opIn_valueW (by intro c h; cases h) (v := .pointer (some ⟨b, off + q * 14, none⟩)) (w' := Wx) (by simp [execOp, go_sem, frame_tmp (k27) hL13 (Nat.lt_of_lt_of_eq (by decide : 27 < 49) hsz.symm)]) ⟨frame_put (k28) (q28), ?_⟩
              simpa [upd] using hT
            · rintro L _ Wx ⟨rfl, hT⟩ hcl hk hd
              have hL12 : L 12 = true := by have h := hd; simp [Region.binds] at h; simp [h]
              have hL14 : L 14 = true := by have h := hd; simp [Region.binds] at h; simp [h]
              rw [if_pos (by simp [Region.wanted, yielded, frame_tmp (k26) hL12 (Nat.lt_of_lt_of_eq (by decide : 26 < 49) hsz.symm)])]
              refine opIn_valueW (by intro c h; cases h) (v := .pointer (some ⟨b, off + q * 14, none⟩)) (w' := Wx) (by simp [execOp, go_sem, frame_tmp (k28) hL14 (Nat.lt_of_lt_of_eq (by decide : 28 < 49) hsz.symm)]) ⟨frame_put (k29) (q29), ?_⟩
              simpa [upd] using hT
            · rintro L _ Wx ⟨rfl, hT⟩ hcl hk hd
              have hL12 : L 12 = true := by have h := hd; simp [Region.binds] at h; simp [h]
              have hL15 : L 15 = true := by have h := hd; simp [Region.binds] at h; simp [h]
              rw [if_pos (by simp [Region.wanted, yielded, frame_tmp (k26) hL12 (Nat.lt_of_lt_of_eq (by decide : 26 < 49) hsz.symm)])]
              refine opIn_valueW (by intro c h; cases h) (v := .int .i8 x.k) (w' := Wx) (by simp [execOp, go_sem, frame_tmp (k29) hL15 (Nat.lt_of_lt_of_eq (by decide : 29 < 49) hsz.symm), hT, c0]) ⟨frame_put (k30) (q30), ?_⟩
              simpa [upd] using hT
            · rintro L _ Wx ⟨rfl, hT⟩ hcl hk hd
              have hL12 : L 12 = true := by have h := hd; simp [Region.binds] at h; simp [h]
              have hL16 : L 16 = true := by have h := hd; simp [Region.binds] at h; simp [h]
              rw [if_pos (by simp [Region.wanted, yielded, frame_tmp (k26) hL12 (Nat.lt_of_lt_of_eq (by decide : 26 < 49) hsz.symm)])]
              refine opIn_valueW (by intro c h; cases h) (v := .bool false) (w' := Wx) (by simp [execOp, go_sem, frame_tmp (k30) hL16 (Nat.lt_of_lt_of_eq (by decide : 30 < 49) hsz.symm), e2]) ⟨frame_put (k31) (q31), ?_⟩
              simpa [upd] using hT
            · rintro L _ Wx ⟨rfl, hT⟩ hcl hk hd
              have hL6 : L 6 = true := by have h := hd; simp [Region.binds] at h; simp [h]
              have hL12 : L 12 = true := by have h := hd; simp [Region.binds] at h; simp [h]
              have hL17 : L 17 = true := by have h := hd; simp [Region.binds] at h; simp [h]
              rw [if_pos (by simp [Region.wanted, yielded, frame_tmp (k20) hL6 (Nat.lt_of_lt_of_eq (by decide : 20 < 49) hsz.symm)])]
              refine opIn_valueW (by intro c h; cases h) (v := .bool false) (w' := Wx) (by simp [execOp, go_sem, frame_tmp (k26) hL12 (Nat.lt_of_lt_of_eq (by decide : 26 < 49) hsz.symm), frame_tmp (k31) hL17 (Nat.lt_of_lt_of_eq (by decide : 31 < 49) hsz.symm)]) ⟨frame_put (k32) (q32), ?_⟩
              simpa [upd] using hT
            · rintro L _ Wx ⟨rfl, hT⟩ hcl hk hd
              have hL6 : L 6 = true := by have h := hd; simp [Region.binds] at h; simp [h]
              have hL18 : L 18 = true := by have h := hd; simp [Region.binds] at h; simp [h]
              rw [if_pos (by simp [Region.wanted])]
              refine opIn_valueW (by intro c h; cases h) (v := .bool false) (w' := Wx) (by simp [execOp, go_sem, frame_tmp (k20) hL6 (Nat.lt_of_lt_of_eq (by decide : 20 < 49) hsz.symm), frame_tmp (k32) hL18 (Nat.lt_of_lt_of_eq (by decide : 32 < 49) hsz.symm)]) ⟨frame_put (k33) (q33), ?_⟩
              simpa [upd] using hT
            · rintro L _ Wx ⟨rfl, hT⟩ hcl hk hd
              have hL19 : L 19 = true := by have h := hd; simp [Region.binds] at h; simp [h]
              rw [if_pos (by simp [Region.wanted])]
              refine opIn_valueW (by intro c h; cases h) (v := .bool false) (w' := Wx) (by simp [execOp, go_sem, frame_tmp (k33) hL19 (Nat.lt_of_lt_of_eq (by decide : 33 < 49) hsz.symm)]) ⟨frame_put (k34) (q34), ?_⟩
              simpa [upd] using hT
            · rintro L _ Wx ⟨rfl, hT⟩ hcl hk hd
              have hL20 : L 20 = true := by have h := hd; simp [Region.binds] at h; simp [h]
              rw [if_neg (by simp [Region.wanted, yielded, frame_tmp (k34) hL20 (Nat.lt_of_lt_of_eq (by decide : 34 < 49) hsz.symm)])]
              refine ⟨frame_put (k35) (q35), ?_⟩
              simpa [upd] using hT
            · rintro L _ Wx ⟨rfl, hT⟩ hcl hk hd
              have hL20 : L 20 = true := by have h := hd; simp [Region.binds] at h; simp [h]
              rw [if_neg (by simp [Region.wanted, yielded, frame_tmp (k34) hL20 (Nat.lt_of_lt_of_eq (by decide : 34 < 49) hsz.symm)])]
              refine ⟨frame_put (k36) (q36), ?_⟩
              simpa [upd] using hT
            · rintro L _ Wx ⟨rfl, hT⟩ hcl hk hd
              have hL20 : L 20 = true := by have h := hd; simp [Region.binds] at h; simp [h]
              rw [if_neg (by simp [Region.wanted, yielded, frame_tmp (k34) hL20 (Nat.lt_of_lt_of_eq (by decide : 34 < 49) hsz.symm)])]
              refine ⟨frame_put (k37) (q37), ?_⟩
              simpa [upd] using hT
            · rintro L _ Wx ⟨rfl, hT⟩ hcl hk hd
              have hL20 : L 20 = true := by have h := hd; simp [Region.binds] at h; simp [h]
              rw [if_neg (by simp [Region.wanted, yielded, frame_tmp (k34) hL20 (Nat.lt_of_lt_of_eq (by decide : 34 < 49) hsz.symm)])]
              refine ⟨frame_put (k38) (q38), ?_⟩
              simpa [upd] using hT
            · rintro L _ Wx ⟨rfl, hT⟩ hcl hk hd
              have hL20 : L 20 = true := by have h := hd; simp [Region.binds] at h; simp [h]
              rw [if_neg (by simp [Region.wanted, yielded, frame_tmp (k34) hL20 (Nat.lt_of_lt_of_eq (by decide : 34 < 49) hsz.symm)])]
              refine ⟨frame_put (k39) (q39), ?_⟩
              simpa [upd] using hT
            · rintro L _ Wx ⟨rfl, hT⟩ hcl hk hd
              have hL20 : L 20 = true := by have h := hd; simp [Region.binds] at h; simp [h]
              rw [if_neg (by simp [Region.wanted, yielded, frame_tmp (k34) hL20 (Nat.lt_of_lt_of_eq (by decide : 34 < 49) hsz.symm)])]
              refine ⟨frame_put (k40) (q40), ?_⟩
              simpa [upd] using hT
            · rintro L _ Wx ⟨rfl, hT⟩ hcl hk hd
              have hL20 : L 20 = true := by have h := hd; simp [Region.binds] at h; simp [h]
              rw [if_neg (by simp [Region.wanted, yielded, frame_tmp (k34) hL20 (Nat.lt_of_lt_of_eq (by decide : 34 < 49) hsz.symm)])]
              refine ⟨frame_put (k41) (q41), ?_⟩
              simpa [upd] using hT
            · rintro L _ Wx ⟨rfl, hT⟩ hcl hk hd
              have hL20 : L 20 = true := by have h := hd; simp [Region.binds] at h; simp [h]
              rw [if_neg (by simp [Region.wanted, yielded, frame_tmp (k34) hL20 (Nat.lt_of_lt_of_eq (by decide : 34 < 49) hsz.symm)])]
              refine ⟨frame_put (k42) (q42), ?_⟩
              simpa [upd] using hT
            · rintro L _ Wx ⟨rfl, hT⟩ hcl hk hd
              have hL20 : L 20 = true := by have h := hd; simp [Region.binds] at h; simp [h]
              rw [if_neg (by simp [Region.wanted, yielded, frame_tmp (k34) hL20 (Nat.lt_of_lt_of_eq (by decide : 34 < 49) hsz.symm)])]
              refine ⟨frame_put (k43) (q43), ?_⟩
              simpa [upd] using hT
            · rintro L _ Wx ⟨rfl, hT⟩ hcl hk hd
              have hL20 : L 20 = true := by have h := hd; simp [Region.binds] at h; simp [h]
              rw [if_neg (by simp [Region.wanted, yielded, frame_tmp (k34) hL20 (Nat.lt_of_lt_of_eq (by decide : 34 < 49) hsz.symm)])]
              refine ⟨frame_put (k44) (q44), ?_⟩
              simpa [upd] using hT
            · rintro L _ Wx ⟨rfl, hT⟩ hcl hk hd
              have hL20 : L 20 = true := by have h := hd; simp [Region.binds] at h; simp [h]
              rw [if_neg (by simp [Region.wanted, yielded, frame_tmp (k34) hL20 (Nat.lt_of_lt_of_eq (by decide : 34 < 49) hsz.symm)])]
              refine ⟨frame_put (k45) (q45), ?_⟩
              simpa [upd] using hT
            · rintro L _ Wx ⟨rfl, hT⟩ hcl hk hd
              have hL20 : L 20 = true := by have h := hd; simp [Region.binds] at h; simp [h]
              rw [if_neg (by simp [Region.wanted, yielded, frame_tmp (k34) hL20 (Nat.lt_of_lt_of_eq (by decide : 34 < 49) hsz.symm)])]
              refine ⟨frame_put (k46) (q46), ?_⟩
              simpa [upd] using hT
            · rintro L _ Wx ⟨rfl, hT⟩ hcl hk hd
              have hL20 : L 20 = true := by have h := hd; simp [Region.binds] at h; simp [h]
              rw [if_pos (by simp [Region.wanted])]
              refine opIn_valueW (by intro c h; cases h) (v := .bool false) (w' := Wx) (by simp [execOp, go_sem, frame_tmp (k34) hL20 (Nat.lt_of_lt_of_eq (by decide : 34 < 49) hsz.symm)]) ⟨frame_put (k47) (q47), ?_⟩
              simpa [upd] using hT
          · rintro L W' hT hall
            simp only [putAll, Act.put, List.setIfInBounds_toArray, List.set_cons_succ, List.set_cons_zero]
            obtain rfl : W' = w0 := hT
            clear hall
            gi_wp2
            go_roundw
            case rel => exact ⟨q + 1, _, by omega, by go_num, HJD.out, HKD.out, HS.out ▸ HP.out⟩
            case measure => simp [intOf]; omega
          -- END NC
      · have hEq : ∀ w, (binOp .eql 34 (.agg #[.int .i64 x.n.s, .int .i64 x.n.i, .int .i64 x.n.t]) (.agg #[.int .i64 nm.s, .int .i64 nm.i, .int .i64 nm.t])).run Try.prog w = .ok (.bool false) w := fun w => by rw [hen, decide_eq_false hit]
        have HS : Hid (nmSteps nm (l.drop q) q = nmSteps nm (l.drop (q + 1)) (q + 1)) := by show _ = _; rw [drop_cons HX.out]; simp [nmSteps, hit]
        clear hen
        -- BEGIN ND
        refine wpIn_region_frame mixed (fun _ => trivial) (by kernel_rfl) [(0, 14, .pointer (some ⟨b, off + q * 14, none⟩)), (1, 15, .pointer (some ⟨b, off + q * 14, none⟩)), (2, 16, .pointer (some ⟨b, off + q * 14 + 1, none⟩)), (3, 17, .agg #[.int .i64 x.n.s, .int .i64 x.n.i, .int .i64 x.n.t]), (4, 18, .agg #[.int .i64 nm.s, .int .i64 nm.i, .int .i64 nm.t]), (5, 19, .bool false), (6, 20, .bool false), (7, 21, undef), (8, 22, undef), (9, 23, undef), (10, 24, undef), (11, 25, undef), (12, 26, undef), (13, 27, undef), (14, 28, undef), (15, 29, undef), (16, 30, undef), (17, 31, undef), (18, 32, undef), (19, 33, .bool false), (20, 34, .bool false), (21, 35, undef), (22, 36, undef), (23, 37, undef), (24, 38, undef), (25, 39, undef), (26, 40, undef), (27, 41, undef), (28, 42, undef), (29, 43, undef), (30, 44, undef), (31, 45, undef), (32, 46, undef), (33, 47, .bool false)] (fun L Wx => Wx = w0) ?_ ?_ (by rfl) (by rfl) ?_
        · exact HW0.out
        · intro a0 ps ha0 hps
          have hsz : a0.tmps.size = 49 := by rw [ha0]; rfl
          have u0 : a0.tmps[0]? = some (.func (.yield lp) #[] #[]) := by rw [ha0]; rfl
          have u2 : a0.tmps[2]? = some (.pointer (some ⟨Bn, 0, none⟩)) := by rw [ha0]; rfl
          have u4 : a0.tmps[4]? = some (.int .i64 (q : Int)) := by rw [ha0]; rfl
          have u5 : a0.tmps[5]? = some (.pointer (some ⟨b, off + q * 14, none⟩)) := by rw [ha0]; rfl
          have n0 : slotOf ps 0 = none := by rw [hps]; rfl
          have n2 : slotOf ps 2 = none := by rw [hps]; rfl
          have n4 : slotOf ps 4 = none := by rw [hps]; rfl
          have n5 : slotOf ps 5 = none := by rw [hps]; rfl
          have k14 : slotOf ps 14 = some (0, .pointer (some ⟨b, off + q * 14, none⟩)) := by rw [hps]; rfl
          have q14 : keysOK ps 0 14 = true := by rw [hps]; rfl
          have k15 : slotOf ps 15 = some (1, .pointer (some ⟨b, off + q * 14, none⟩)) := by rw [hps]; rfl
          have q15 : keysOK ps 1 15 = true := by rw [hps]; rfl
          have k16 : slotOf ps 16 = some (2, .pointer (some ⟨b, off + q * 14 + 1, none⟩)) := by rw [hps]; rfl
          have q16 : keysOK ps 2 16 = true := by rw [hps]; rfl
          have k17 : slotOf ps 17 = some (3, .agg #[.int .i64 x.n.s, .int .i64 x.n.i, .int .i64 x.n.t]) := by rw [hps]; rfl
          have q17 : keysOK ps 3 17 = true := by rw [hps]; rfl
          have k18 : slotOf ps 18 = some (4, .agg #[.int .i64 nm.s, .int .i64 nm.i, .int .i64 nm.t]) := by rw [hps]; rfl
          have q18 : keysOK ps 4 18 = true := by rw [hps]; rfl
          have k19 : slotOf ps 19 = some (5, .bool false) := by rw [hps]; rfl
          have q19 : keysOK ps 5 19 = true := by rw [hps]; rfl
          have k20 : slotOf ps 20 = some (6, .bool false) := by rw [hps]; rfl
          have q20 : keysOK ps 6 20 = true := by rw [hps]; rfl
          have k21 : slotOf ps 21 = some (7, undef) := by rw [hps]; rfl
          have q21 : keysOK ps 7 21 = true := by rw [hps]; rfl
          have k22 : slotOf ps 22 = some (8, undef) := by rw [hps]; rfl
          have q22 : keysOK ps 8 22 = true := by rw [hps]; rfl
          have k23 : slotOf ps 23 = some (9, undef) := by rw [hps]; rfl
          have q23 : keysOK ps 9 23 = true := by rw [hps]; rfl
          have k24 : slotOf ps 24 = some (10, undef) := by rw [hps]; rfl
          have q24 : keysOK ps 10 24 = true := by rw [hps]; rfl
          have k25 : slotOf ps 25 = some (11, undef) := by rw [hps]; rfl
          have q25 : keysOK ps 11 25 = true := by rw [hps]; rfl
          have k26 : slotOf ps 26 = some (12, undef) := by rw [hps]; rfl
          have q26 : keysOK ps 12 26 = true := by rw [hps]; rfl
          have k27 : slotOf ps 27 = some (13, undef) := by rw [hps]; rfl
          have q27 : keysOK ps 13 27 = true := by rw [hps]; rfl
          have k28 : slotOf ps 28 = some (14, undef) := by rw [hps]; rfl
          have q28 : keysOK ps 14 28 = true := by rw [hps]; rfl
          have k29 : slotOf ps 29 = some (15, undef) := by rw [hps]; rfl
          have q29 : keysOK ps 15 29 = true := by rw [hps]; rfl
          have k30 : slotOf ps 30 = some (16, undef) := by rw [hps]; rfl
          have q30 : keysOK ps 16 30 = true := by rw [hps]; rfl
          have k31 : slotOf ps 31 = some (17, undef) := by rw [hps]; rfl
          have q31 : keysOK ps 17 31 = true := by rw [hps]; rfl
          have k32 : slotOf ps 32 = some (18, undef) := by rw [hps]; rfl
          have q32 : keysOK ps 18 32 = true := by rw [hps]; rfl
          have k33 : slotOf ps 33 = some (19, .bool false) := by rw [hps]; rfl
          have q33 : keysOK ps 19 33 = true := by rw [hps]; rfl
          have k34 : slotOf ps 34 = some (20, .bool false) := by rw [hps]; rfl
          have q34 : keysOK ps 20 34 = true := by rw [hps]; rfl
          have k35 : slotOf ps 35 = some (21, undef) := by rw [hps]; rfl
          have q35 : keysOK ps 21 35 = true := by rw [hps]; rfl
          have k36 : slotOf ps 36 = some (22, undef) := by rw [hps]; rfl
          have q36 : keysOK ps 22 36 = true := by rw [hps]; rfl
          have k37 : slotOf ps 37 = some (23, undef) := by rw [hps]; rfl
          have q37 : keysOK ps 23 37 = true := by rw [hps]; rfl
          have k38 : slotOf ps 38 = some (24, undef) := by rw [hps]; rfl
          have q38 : keysOK ps 24 38 = true := by rw [hps]; rfl
          have k39 : slotOf ps 39 = some (25, undef) := by rw [hps]; rfl
          have q39 : keysOK ps 25 39 = true := by rw [hps]; rfl
          have k40 : slotOf ps 40 = some (26, undef) := by rw [hps]; rfl
          have q40 : keysOK ps 26 40 = true := by rw [hps]; rfl
          have k41 : slotOf ps 41 = some (27, undef) := by rw [hps]; rfl
          have q41 : keysOK ps 27 41 = true := by rw [hps]; rfl
          have k42 : slotOf ps 42 = some (28, undef) := by rw [hps]; rfl
          have q42 : keysOK ps 28 42 = true := by rw [hps]; rfl
          have k43 : slotOf ps 43 = some (29, undef) := by rw [hps]; rfl
          have q43 : keysOK ps 29 43 = true := by rw [hps]; rfl
          have k44 : slotOf ps 44 = some (30, undef) := by rw [hps]; rfl
          have q44 : keysOK ps 30 44 = true := by rw [hps]; rfl
          have k45 : slotOf ps 45 = some (31, undef) := by rw [hps]; rfl
          have q45 : keysOK ps 31 45 = true := by rw [hps]; rfl
          have k46 : slotOf ps 46 = some (32, undef) := by rw [hps]; rfl
          have q46 : keysOK ps 32 46 = true := by rw [hps]; rfl
          have k47 : slotOf ps 47 = some (33, .bool false) := by rw [hps]; rfl
          have q47 : keysOK ps 33 47 = true := by rw [hps]; rfl
          clear ha0 hps
          refine ⟨?_, ?_, ?_, ?_, ?_, ?_, ?_, ?_, ?_, ?_, ?_, ?_, ?_, ?_, ?_, ?_, ?_, ?_, ?_, ?_, ?_, ?_, ?_, ?_, ?_, ?_, ?_, ?_, ?_, ?_, ?_, ?_, ?_, ?_, trivial⟩
          · rintro L _ Wx ⟨rfl, hT⟩ hcl hk hd
            rw [if_pos (by simp [Region.wanted])]
            refine opIn_valueW (by intro c h; cases h) (v := .pointer (some ⟨b, off + q * 14, none⟩)) (w' := Wx) (by simp [execOp, go_sem, frame_tout (n5) u5]) ⟨frame_put (k14) (q14), ?_⟩
            simpa [upd] using hT
          · rintro L _ Wx ⟨rfl, hT⟩ hcl hk hd
            have hL0 : L 0 = true := by have h := hd; simp [Region.binds] at h; simp [h]
            rw [if_pos (by simp [Region.wanted])]
            refine opIn_valueW (by intro c h; cases h) (v := .pointer (some ⟨b, off + q * 14, none⟩)) (w' := Wx) (by simp [execOp, go_sem, frame_tmp (k14) hL0 (Nat.lt_of_lt_of_eq (by decide : 14 < 49) hsz.symm)]) ⟨frame_put (k15) (q15), ?_⟩
            simpa [upd] using hT
          · rintro L _ Wx ⟨rfl, hT⟩ hcl hk hd
            have hL1 : L 1 = true := by have h := hd; simp [Region.binds] at h; simp [h]
            rw [if_pos (by simp [Region.wanted])]
            refine opIn_valueW (by intro c h; cases h) (v := .pointer (some ⟨b, off + q * 14 + 1, none⟩)) (w' := Wx) (by simp [execOp, go_sem, frame_tmp (k15) hL1 (Nat.lt_of_lt_of_eq (by decide : 15 < 49) hsz.symm)]) ⟨frame_put (k16) (q16), ?_⟩
            simpa [upd] using hT
          · rintro L _ Wx ⟨rfl, hT⟩ hcl hk hd
            have hL2 : L 2 = true := by have h := hd; simp [Region.binds] at h; simp [h]
            rw [if_pos (by simp [Region.wanted])]
            refine opIn_valueW (by intro c h; cases h) (v := .agg #[.int .i64 x.n.s, .int .i64 x.n.i, .int .i64 x.n.t]) (w' := Wx) (by simp [execOp, go_sem, frame_tmp (k16) hL2 (Nat.lt_of_lt_of_eq (by decide : 16 < 49) hsz.symm), hT, c1, c2, c3]) ⟨frame_put (k17) (q17), ?_⟩
            simpa [upd] using hT
          · rintro L _ Wx ⟨rfl, hT⟩ hcl hk hd
            rw [if_pos (by simp [Region.wanted])]
            refine opIn_valueW (by intro c h; cases h) (v := .agg #[.int .i64 nm.s, .int .i64 nm.i, .int .i64 nm.t]) (w' := Wx) (by simp [execOp, go_sem, frame_tout (n2) u2, hT, m0, m1, m2]) ⟨frame_put (k18) (q18), ?_⟩
            simpa [upd] using hT
          · rintro L _ Wx ⟨rfl, hT⟩ hcl hk hd
            have hL3 : L 3 = true := by have h := hd; simp [Region.binds] at h; simp [h]
            have hL4 : L 4 = true := by have h := hd; simp [Region.binds] at h; simp [h]
            rw [if_pos (by simp [Region.wanted])]
            refine opIn_valueW (by intro c h; cases h) (v := .bool false) (w' := Wx) (by simp [execOp, go_sem, frame_tmp (k17) hL3 (Nat.lt_of_lt_of_eq (by decide : 17 < 49) hsz.symm), frame_tmp (k18) hL4 (Nat.lt_of_lt_of_eq (by decide : 18 < 49) hsz.symm), hEq]) ⟨frame_put (k19) (q19), ?_⟩
            simpa [upd] using hT
          · rintro L _ Wx ⟨rfl, hT⟩ hcl hk hd
            have hL5 : L 5 = true := by have h := hd; simp [Region.binds] at h; simp [h]
            rw [if_pos (by simp [Region.wanted])]
            refine opIn_valueW (by intro c h; cases h) (v := .bool false) (w' := Wx) (by simp [execOp, go_sem, frame_tmp (k19) hL5 (Nat.lt_of_lt_of_eq (by decide : 19 < 49) hsz.symm)]) ⟨frame_put (k20) (q20), ?_⟩
            simpa [upd] using hT
          · rintro L _ Wx ⟨rfl, hT⟩ hcl hk hd
            have hL6 : L 6 = true := by have h := hd; simp [Region.binds] at h; simp [h]
            rw [if_neg (by simp [Region.wanted, yielded, frame_tmp (k20) hL6 (Nat.lt_of_lt_of_eq (by decide : 20 < 49) hsz.symm)])]
            refine ⟨frame_put (k21) (q21), ?_⟩
            simpa [upd] using hT
          · rintro L _ Wx ⟨rfl, hT⟩ hcl hk hd
            have hL6 : L 6 = true := by have h := hd; simp [Region.binds] at h; simp [h]
            rw [if_neg (by simp [Region.wanted, yielded, frame_tmp (k20) hL6 (Nat.lt_of_lt_of_eq (by decide : 20 < 49) hsz.symm)])]
            refine ⟨frame_put (k22) (q22), ?_⟩
            simpa [upd] using hT
          · rintro L _ Wx ⟨rfl, hT⟩ hcl hk hd
            have hL6 : L 6 = true := by have h := hd; simp [Region.binds] at h; simp [h]
            rw [if_neg (by simp [Region.wanted, yielded, frame_tmp (k20) hL6 (Nat.lt_of_lt_of_eq (by decide : 20 < 49) hsz.symm)])]
            refine ⟨frame_put (k23) (q23), ?_⟩
            simpa [upd] using hT
          · rintro L _ Wx ⟨rfl, hT⟩ hcl hk hd
            have hL6 : L 6 = true := by have h := hd; simp [Region.binds] at h; simp [h]
            rw [if_neg (by simp [Region.wanted, yielded, frame_tmp (k20) hL6 (Nat.lt_of_lt_of_eq (by decide : 20 < 49) hsz.symm)])]
            refine ⟨frame_put (k24) (q24), ?_⟩
            simpa [upd] using hT
          · rintro L _ Wx ⟨rfl, hT⟩ hcl hk hd
            have hL6 : L 6 = true := by have h := hd; simp [Region.binds] at h; simp [h]
            rw [if_neg (by simp [Region.wanted, yielded, frame_tmp (k20) hL6 (Nat.lt_of_lt_of_eq (by decide : 20 < 49) hsz.symm)])]
            refine ⟨frame_put (k25) (q25), ?_⟩
            simpa [upd] using hT
          · rintro L _ Wx ⟨rfl, hT⟩ hcl hk hd
            have hL6 : L 6 = true := by have h := hd; simp [Region.binds] at h; simp [h]
            rw [if_neg (by simp [Region.wanted, yielded, frame_tmp (k20) hL6 (Nat.lt_of_lt_of_eq (by decide : 20 < 49) hsz.symm)])]
            refine ⟨frame_put (k26) (q26), ?_⟩
            simpa [upd] using hT
          · rintro L _ Wx ⟨rfl, hT⟩ hcl hk hd
            have hL12 : L 12 = true := by have h := hd; simp [Region.binds] at h; simp [h]
            rw [if_neg (by simp [Region.wanted, yielded, frame_tmp (k26) hL12 (Nat.lt_of_lt_of_eq (by decide : 26 < 49) hsz.symm), undef])]
            refine ⟨frame_put (k27) (q27), ?_⟩
            simpa [upd] using hT
          · rintro L _ Wx ⟨rfl, hT⟩ hcl hk hd
            have hL12 : L 12 = true := by have h := hd; simp [Region.binds] at h; simp [h]
            rw [if_neg (by simp [Region.wanted, yielded, frame_tmp (k26) hL12 (Nat.lt_of_lt_of_eq (by decide : 26 < 49) hsz.symm), undef])]
            refine ⟨frame_put (k28) (q28), ?_⟩
            simpa [upd] using hT
          · rintro L _ Wx ⟨rfl, hT⟩ hcl hk hd
            have hL12 : L 12 = true := by have h := hd; simp [Region.binds] at h; simp [h]
            rw [if_neg (by simp [Region.wanted, yielded, frame_tmp (k26) hL12 (Nat.lt_of_lt_of_eq (by decide : 26 < 49) hsz.symm), undef])]
            refine ⟨frame_put (k29) (q29), ?_⟩
            simpa [upd] using hT
          · rintro L _ Wx ⟨rfl, hT⟩ hcl hk hd
            have hL12 : L 12 = true := by have h := hd; simp [Region.binds] at h; simp [h]
            rw [if_neg (by simp [Region.wanted, yielded, frame_tmp (k26) hL12 (Nat.lt_of_lt_of_eq (by decide : 26 < 49) hsz.symm), undef])]
            refine ⟨frame_put (k30) (q30), ?_⟩
            simpa [upd] using hT
          · rintro L _ Wx ⟨rfl, hT⟩ hcl hk hd
            have hL12 : L 12 = true := by have h := hd; simp [Region.binds] at h; simp [h]
            rw [if_neg (by simp [Region.wanted, yielded, frame_tmp (k26) hL12 (Nat.lt_of_lt_of_eq (by decide : 26 < 49) hsz.symm), undef])]
            refine ⟨frame_put (k31) (q31), ?_⟩
            simpa [upd] using hT
          · rintro L _ Wx ⟨rfl, hT⟩ hcl hk hd
            have hL6 : L 6 = true := by have h := hd; simp [Region.binds] at h; simp [h]
            rw [if_neg (by simp [Region.wanted, yielded, frame_tmp (k20) hL6 (Nat.lt_of_lt_of_eq (by decide : 20 < 49) hsz.symm)])]
            refine ⟨frame_put (k32) (q32), ?_⟩
            simpa [upd] using hT
          · rintro L _ Wx ⟨rfl, hT⟩ hcl hk hd
            have hL6 : L 6 = true := by have h := hd; simp [Region.binds] at h; simp [h]
            rw [if_pos (by simp [Region.wanted])]
            refine opIn_valueW (by intro c h; cases h) (v := .bool false) (w' := Wx) (by simp [execOp, go_sem, frame_tmp (k20) hL6 (Nat.lt_of_lt_of_eq (by decide : 20 < 49) hsz.symm)]) ⟨frame_put (k33) (q33), ?_⟩
            simpa [upd] using hT
          · rintro L _ Wx ⟨rfl, hT⟩ hcl hk hd
            have hL19 : L 19 = true := by have h := hd; simp [Region.binds] at h; simp [h]
            rw [if_pos (by simp [Region.wanted])]
            refine opIn_valueW (by intro c h; cases h) (v := .bool false) (w' := Wx) (by simp [execOp, go_sem, frame_tmp (k33) hL19 (Nat.lt_of_lt_of_eq (by decide : 33 < 49) hsz.symm)]) ⟨frame_put (k34) (q34), ?_⟩
            simpa [upd] using hT
          · rintro L _ Wx ⟨rfl, hT⟩ hcl hk hd
            have hL20 : L 20 = true := by have h := hd; simp [Region.binds] at h; simp [h]
            rw [if_neg (by simp [Region.wanted, yielded, frame_tmp (k34) hL20 (Nat.lt_of_lt_of_eq (by decide : 34 < 49) hsz.symm)])]
            refine ⟨frame_put (k35) (q35), ?_⟩
            simpa [upd] using hT
          · rintro L _ Wx ⟨rfl, hT⟩ hcl hk hd
            have hL20 : L 20 = true := by have h := hd; simp [Region.binds] at h; simp [h]
            rw [if_neg (by simp [Region.wanted, yielded, frame_tmp (k34) hL20 (Nat.lt_of_lt_of_eq (by decide : 34 < 49) hsz.symm)])]
            refine ⟨frame_put (k36) (q36), ?_⟩
            simpa [upd] using hT
          · rintro L _ Wx ⟨rfl, hT⟩ hcl hk hd
            have hL20 : L 20 = true := by have h := hd; simp [Region.binds] at h; simp [h]
            rw [if_neg (by simp [Region.wanted, yielded, frame_tmp (k34) hL20 (Nat.lt_of_lt_of_eq (by decide : 34 < 49) hsz.symm)])]
            refine ⟨frame_put (k37) (q37), ?_⟩
            simpa [upd] using hT
          · rintro L _ Wx ⟨rfl, hT⟩ hcl hk hd
            have hL20 : L 20 = true := by have h := hd; simp [Region.binds] at h; simp [h]
            rw [if_neg (by simp [Region.wanted, yielded, frame_tmp (k34) hL20 (Nat.lt_of_lt_of_eq (by decide : 34 < 49) hsz.symm)])]
            refine ⟨frame_put (k38) (q38), ?_⟩
            simpa [upd] using hT
          · rintro L _ Wx ⟨rfl, hT⟩ hcl hk hd
            have hL20 : L 20 = true := by have h := hd; simp [Region.binds] at h; simp [h]
            rw [if_neg (by simp [Region.wanted, yielded, frame_tmp (k34) hL20 (Nat.lt_of_lt_of_eq (by decide : 34 < 49) hsz.symm)])]
            refine ⟨frame_put (k39) (q39), ?_⟩
            simpa [upd] using hT
          · rintro L _ Wx ⟨rfl, hT⟩ hcl hk hd
            have hL20 : L 20 = true := by have h := hd; simp [Region.binds] at h; simp [h]
            rw [if_neg (by simp [Region.wanted, yielded, frame_tmp (k34) hL20 (Nat.lt_of_lt_of_eq (by decide : 34 < 49) hsz.symm)])]
            refine ⟨frame_put (k40) (q40), ?_⟩
            simpa [upd] using hT
          · rintro L _ Wx ⟨rfl, hT⟩ hcl hk hd
            have hL20 : L 20 = true := by have h := hd; simp [Region.binds] at h; simp [h]
            rw [if_neg (by simp [Region.wanted, yielded, frame_tmp (k34) hL20 (Nat.lt_of_lt_of_eq (by decide : 34 < 49) hsz.symm)])]
            refine ⟨frame_put (k41) (q41), ?_⟩
            simpa [upd] using hT
          · rintro L _ Wx ⟨rfl, hT⟩ hcl hk hd
            have hL20 : L 20 = true := by have h := hd; simp [Region.binds] at h; simp [h]
            rw [if_neg (by simp [Region.wanted, yielded, frame_tmp (k34) hL20 (Nat.lt_of_lt_of_eq (by decide : 34 < 49) hsz.symm)])]
            refine ⟨frame_put (k42) (q42), ?_⟩
            simpa [upd] using hT
          · rintro L _ Wx ⟨rfl, hT⟩ hcl hk hd
            have hL20 : L 20 = true := by have h := hd; simp [Region.binds] at h; simp [h]
            rw [if_neg (by simp [Region.wanted, yielded, frame_tmp (k34) hL20 (Nat.lt_of_lt_of_eq (by decide : 34 < 49) hsz.symm)])]
            refine ⟨frame_put (k43) (q43), ?_⟩
            simpa [upd] using hT
          · rintro L _ Wx ⟨rfl, hT⟩ hcl hk hd
            have hL20 : L 20 = true := by have h := hd; simp [Region.binds] at h; simp [h]
            rw [if_neg (by simp [Region.wanted, yielded, frame_tmp (k34) hL20 (Nat.lt_of_lt_of_eq (by decide : 34 < 49) hsz.symm)])]
            refine ⟨frame_put (k44) (q44), ?_⟩
            simpa [upd] using hT
          · rintro L _ Wx ⟨rfl, hT⟩ hcl hk hd
            have hL20 : L 20 = true := by have h := hd; simp [Region.binds] at h; simp [h]
            rw [if_neg (by simp [Region.wanted, yielded, frame_tmp (k34) hL20 (Nat.lt_of_lt_of_eq (by decide : 34 < 49) hsz.symm)])]
            refine ⟨frame_put (k45) (q45), ?_⟩
            simpa [upd] using hT
          · rintro L _ Wx ⟨rfl, hT⟩ hcl hk hd
            have hL20 : L 20 = true := by have h := hd; simp [Region.binds] at h; simp [h]
            rw [if_neg (by simp [Region.wanted, yielded, frame_tmp (k34) hL20 (Nat.lt_of_lt_of_eq (by decide : 34 < 49) hsz.symm)])]
            refine ⟨frame_put (k46) (q46), ?_⟩
            simpa [upd] using hT
          · rintro L _ Wx ⟨rfl, hT⟩ hcl hk hd
            have hL20 : L 20 = true := by have h := hd; simp [Region.binds] at h; simp [h]
            rw [if_pos (by simp [Region.wanted])]
            refine opIn_valueW (by intro c h; cases h) (v := .bool false) (w' := Wx) (by simp [execOp, go_sem, frame_tmp (k34) hL20 (Nat.lt_of_lt_of_eq (by decide : 34 < 49) hsz.symm)]) ⟨frame_put (k47) (q47), ?_⟩
            simpa [upd] using hT
        · rintro L W' hT hall
          simp only [putAll, Act.put, List.setIfInBounds_toArray, List.set_cons_succ, List.set_cons_zero]
          obtain rfl : W' = w0 := hT
          clear hall
          gi_wp2
          go_roundw
          case rel => exact ⟨q + 1, _, by omega, by go_num, HJD.out, HKD.out, HS.out ▸ HP.out⟩
          case measure => simp [intOf]; omega
        -- END ND
    · gi_wp2
      go_end0
      exact ⟨⟨_, rfl⟩, .inl ⟨pre, by have := HP.out; rw [drop_end hlt] at this; simpa [nmSteps] using this, hJs⟩⟩

end Go.Proofs.Ytgdmgeihgkbjaaa
/- Maps of the calls' own: what a block of a map holds, as a list of keys and values; looking up, writing, clearing. -/
namespace Go.Proofs.Ytgdmgeihgkbjaaa
open Go.RowKit

/-- A kind of keys: how they are laid as values; that the model's own tests decide their equality. -/
structure KeyOK (K : TypeId) {κ : Type} [DecidableEq κ] (kenc : κ → Value) : Prop where
  chk : ∀ (e : Bool) (a : κ) (w : World), (Instr.checkKey e 10000 K (kenc a)).run Try.prog w = .ok () w
  find : ∀ (a : κ) (es : List MapEntry) (m : List κ) (w : World), es.map (·.key) = m.map kenc →
    (Instr.findKey K (kenc a) es).run Try.prog w = .ok ((m.findIdx? (· = a)).bind fun i => (es[i]?).map fun e => (i, e.val)) w
  same : ∀ (a : κ), Instr.sameBits 10000 (kenc a) (kenc a) = true

/-- Block b is a map that holds m, in the order in which its keys came. -/
def MapIs {κ β : Type} (kenc : κ → Value) (venc : β → Value) (w : World) (b : Nat) (m : List (κ × β)) : Prop :=
  ∃ es clock, w.heap[b]? = some (.map es clock) ∧ es.toList.map (fun e => (e.key, e.val)) = m.map (fun p => (kenc p.1, venc p.2)) ∧ (es.toList.map (·.born)).Nodup ∧ ∀ e ∈ es.toList, e.born < clock

/-- A key's value. -/
def look {κ β : Type} [DecidableEq κ] (m : List (κ × β)) (k : κ) : Option β := (m.find? (fun p => p.1 = k)).map (·.2)
/-- A key's value, set. -/
def put {κ β : Type} [DecidableEq κ] : List (κ × β) → κ → β → List (κ × β)
  | [], k, v => [(k, v)]
  | p :: m, k, v => if p.1 = k then (k, v) :: m else p :: put m k v

theorem look_put {κ β : Type} [DecidableEq κ] (m : List (κ × β)) (k k' : κ) (v : β) : look (put m k v) k' = if k = k' then some v else look m k' := by
  induction m with
  | nil =>
    unfold put look
    by_cases h : k = k' <;> simp [h]
  | cons p m ih =>
    unfold put
    by_cases hp : p.1 = k
    · rw [if_pos hp]
      unfold look
      by_cases h : k = k'
      · simp [h]
      · have : ¬ p.1 = k' := by rw [hp]; exact h
        simp [h, this]
    · rw [if_neg hp]
      unfold look at ih ⊢
      by_cases h : p.1 = k'
      · have : ¬ k = k' := fun e => hp (h.trans e.symm)
        simp [h, this]
      · simpa [h] using ih

theorem look_nil {κ β : Type} [DecidableEq κ] (k : κ) : look ([] : List (κ × β)) k = none := rfl

section
variable {κ β : Type} [DecidableEq κ] {kenc : κ → Value} {venc : β → Value}

theorem look_find (m : List (κ × β)) (k : κ) : look m k = ((m.map (·.1)).findIdx? (· = k)).bind fun i => (m[i]?).map (·.2) := by
  induction m with
  | nil => rfl
  | cons p m ih =>
    unfold look at ih ⊢
    by_cases h : p.1 = k
    · simp [List.findIdx?_cons, h]
    · simp only [List.map_cons, List.find?_cons, h, decide_false, List.findIdx?_cons, Bool.false_eq_true, if_false]
      rw [ih]
      cases (m.map (·.1)).findIdx? (· = k) <;> simp

omit [DecidableEq κ] in
theorem keys_of {es : List MapEntry} {m : List (κ × β)} (h : es.map (fun e => (e.key, e.val)) = m.map (fun p => (kenc p.1, venc p.2))) : es.map (·.key) = (m.map (·.1)).map kenc := by
  have := congrArg (List.map Prod.fst) h
  simpa [List.map_map, Function.comp_def] using this

omit [DecidableEq κ] in
theorem vals_of {es : List MapEntry} {m : List (κ × β)} (h : es.map (fun e => (e.key, e.val)) = m.map (fun p => (kenc p.1, venc p.2))) (i : Nat) : (es[i]?).map (·.val) = (m[i]?).map fun p => venc p.2 := by
  have := congrArg (fun l => l[i]?) h
  simp only [List.getElem?_map] at this
  cases h1 : es[i]? <;> cases h2 : m[i]? <;> simp_all

/-- The search for a key. -/
theorem run_find {K : TypeId} (hk : KeyOK K kenc) {es : List MapEntry} {m : List (κ × β)} (h : es.map (fun e => (e.key, e.val)) = m.map (fun p => (kenc p.1, venc p.2))) (k : κ) (w : World) :
    (Instr.findKey K (kenc k) es).run Try.prog w = .ok (((m.map (·.1)).findIdx? (· = k)).bind fun i => (es[i]?).map fun e => (i, e.val)) w :=
  hk.find k es (m.map (·.1)) w (keys_of h)

theorem run_look {T K E : TypeId} (hT : Try.prog.underlying T = some (.map K E)) (hk : KeyOK K kenc) {zero : Value} (hz : ∀ w, (zeroValue E).run Try.prog w = .ok zero w) {w : World} {b : Nat} {m : List (κ × β)} (hm : MapIs kenc venc w b m) (k : κ) :
    (Instr.lookup T (.map (some b)) (kenc k) false).run Try.prog w = .ok (((look m k).map venc).getD zero) w := by
  obtain ⟨es, clock, hb, he, _, _⟩ := hm
  have hf := run_find hk he k w
  have hg : (getObj b).run Try.prog w = .ok (.map es clock) w := by simp [getObj, Sem.run, hb]
  have hc := hk.chk es.isEmpty k w
  unfold Instr.lookup
  simp only [Sem.run_bind, run_underlying hT, Result.andThen_ok, hg, Sem.run_pure, hc, hf]
  rw [look_find]
  cases hi : (m.map (·.1)).findIdx? (· = k) with
  | none => simp [hz]
  | some i =>
    have hv := vals_of he i
    have hlt : i < m.length := by
      have := List.findIdx?_eq_some_iff_getElem.1 hi
      obtain ⟨h, _⟩ := this
      simpa using h
    rw [List.getElem?_eq_getElem hlt] at hv
    cases hes : es.toList[i]? with
    | none => rw [hes] at hv; cases hv
    | some e =>
      rw [hes] at hv
      simp at hv
      have hes' : es[i]? = some e := by simpa using hes
      simp [hlt, hes', hv]

theorem put_idx : ∀ (m : List (κ × β)) (k : κ) (v : β), put m k v = match (m.map (·.1)).findIdx? (· = k) with | some i => m.set i (k, v) | none => m ++ [(k, v)]
  | [], _, _ => rfl
  | p :: m, k, v => by
    unfold put
    by_cases h : p.1 = k
    · simp [List.findIdx?_cons, h]
    · rw [if_neg h, put_idx m k v]
      simp only [List.map_cons, List.findIdx?_cons, h, decide_false, Bool.false_eq_true, if_false]
      cases (m.map (·.1)).findIdx? (· = k) <;> simp

theorem run_put {T K E : TypeId} (hT : Try.prog.underlying T = some (.map K E)) (hk : KeyOK K kenc) {w : World} {b : Nat} {m : List (κ × β)} (hm : MapIs kenc venc w b m) (k : κ) (v : β) :
    ∃ es clock, (Instr.mapUpdate T (.map (some b)) (kenc k) (venc v)).run Try.prog w = .ok () (w.putObj b (.map es clock)) ∧ MapIs kenc venc (w.putObj b (.map es clock)) b (put m k v) := by
  obtain ⟨es, clock, hb, he, hn, hc⟩ := hm
  have hf := run_find hk he k w
  have hg : (getObj b).run Try.prog w = .ok (.map es clock) w := by simp [getObj, Sem.run, hb]
  have hck := hk.chk false k w
  have hset : ∀ o, (setObj b o).run Try.prog w = .ok () (w.putObj b o) := fun o => by simp [setObj, Sem.run, hb, World.putObj]
  have hlb := (Array.getElem?_eq_some_iff.1 hb).1
  have hpb : ∀ o, (w.putObj b o).heap[b]? = some o := fun o => World.putObj_heap_same hlb
  unfold Instr.mapUpdate
  simp only [Sem.run_bind, run_underlying hT, Result.andThen_ok, hg, hck, hf]
  rw [put_idx]
  have hlen : es.size = m.length := by
    have := congrArg List.length he
    simpa using this
  cases hi : (m.map (·.1)).findIdx? (· = k) with
  | none =>
    refine ⟨es.push { key := kenc k, val := venc v, born := clock }, clock + 1, by simp [hset], _, _, hpb _, ?_, ?_, ?_⟩
    · simp [he]
    · simp only [Array.toList_push, List.map_append, List.map_cons, List.map_nil]
      rw [List.nodup_append]
      refine ⟨hn, by simp, ?_⟩
      intro x hx y hy
      simp only [List.mem_singleton] at hy
      subst hy
      obtain ⟨e, he1, rfl⟩ := List.mem_map.1 hx
      have := hc e he1
      omega
    · intro e he1
      simp only [Array.toList_push, List.mem_append, List.mem_singleton] at he1
      rcases he1 with he1 | rfl
      · have := hc e he1; omega
      · simp
  | some i =>
    obtain ⟨hil, hik, _⟩ := List.findIdx?_eq_some_iff_getElem.1 hi
    have him : i < m.length := by simpa using hil
    have hie : i < es.size := by omega
    have hke : es[i].key = kenc k := by
      have h1 := keys_of he
      have h2 := congrArg (fun l => l[i]?) h1
      simp [hie, him] at h2
      simp at hik
      rw [h2, hik]
    have hkst : (Instr.keyThatStays es[i].key (kenc k)).run Try.prog w = .ok (kenc k) w := by
      unfold Instr.keyThatStays
      rw [hke, if_pos (hk.same k)]
      rfl
    refine ⟨es.modify i fun e => { e with key := kenc k, val := venc v }, clock, ?_, _, _, hpb _, ?_, ?_, ?_⟩
    · simp [hie, hkst, hset]
    · apply List.ext_getElem?
      intro j
      have h1 := congrArg (fun l => l[j]?) he
      simp only [List.getElem?_map, Array.toList_modify, List.getElem?_modify] at h1 ⊢
      by_cases hij : i = j
      · subst hij
        simp [hie, him]
      · simp only [hij, if_false, Option.map_eq_map] at h1 ⊢
        rw [List.getElem?_set_ne hij]
        simpa using h1
    · have : (es.modify i fun e => { e with key := kenc k, val := venc v }).toList.map (·.born) = es.toList.map (·.born) := by
        apply List.ext_getElem?
        intro j
        simp only [List.getElem?_map, Array.toList_modify, List.getElem?_modify]
        by_cases hij : i = j
        · subst hij; simp [hie]
        · simp [hij]
      rw [this]
      exact hn
    · intro e he1
      obtain ⟨j, hj⟩ := List.getElem?_of_mem he1
      simp only [Array.toList_modify, List.getElem?_modify] at hj
      by_cases hij : i = j
      · subst hij
        simp [hie] at hj
        subst hj
        exact hc es[i] (by simp)
      · simp [hij] at hj
        exact hc e (by rw [Array.mem_toList_iff]; exact Array.mem_of_getElem? hj)

omit [DecidableEq κ] in
theorem run_clear {T K E : TypeId} (hT : Try.prog.underlying T = some (.map K E)) (ty : TypeId) {w : World} {b : Nat} {m : List (κ × β)} (hm : MapIs kenc venc w b m) :
    ∃ clock, (Builtin.clear_ #[T] ty #[.map (some b)]).run Try.prog w = .ok (.tuple #[]) (w.putObj b (.map #[] clock)) ∧ MapIs kenc venc (w.putObj b (.map #[] clock)) b ([] : List (κ × β)) := by
  obtain ⟨es, clock, hb, _, _, _⟩ := hm
  have hg : (getObj b).run Try.prog w = .ok (.map es clock) w := by simp [getObj, Sem.run, hb]
  have hset : ∀ o, (setObj b o).run Try.prog w = .ok () (w.putObj b o) := fun o => by simp [setObj, Sem.run, hb, World.putObj]
  have hlb := (Array.getElem?_eq_some_iff.1 hb).1
  refine ⟨clock, ?_, _, _, World.putObj_heap_same hlb, rfl, by simp, by simp⟩
  unfold Builtin.clear_
  simp [run_underlying hT, hg, hset]

omit [DecidableEq κ] in
theorem MapIs.new (w : World) : MapIs kenc venc (w.alloc (.map #[] 0)) w.heap.size ([] : List (κ × β)) :=
  ⟨_, _, heap_alloc_new w _, rfl, by simp, by simp⟩

omit [DecidableEq κ] in
theorem MapIs.kept {w w' : World} {b : Nat} {m : List (κ × β)} (h : MapIs kenc venc w b m) (hb : w'.heap[b]? = w.heap[b]?) : MapIs kenc venc w' b m := by
  obtain ⟨es, clock, h1, h2⟩ := h
  exact ⟨es, clock, hb.trans h1, h2⟩

omit [DecidableEq κ] in
theorem MapIs.lt {w : World} {b : Nat} {m : List (κ × β)} (h : MapIs kenc venc w b m) : b < w.heap.size := by
  obtain ⟨es, clock, h1, _⟩ := h
  exact lt_of_heap h1

end

def intV (n : Int) : Value := .int .i64 n
def boolV (b : Bool) : Value := .bool b

theorem findNow_int (k : IntKind) (a : Int) : ∀ (es : List MapEntry) (m : List Int) (i : Nat), es.map (·.key) = m.map (Value.int k) →
    Instr.findNow (.int k) (.int k a) es i = some ((m.findIdx? (· = a)).bind fun j => (es[j]?).map fun e => (i + j, e.val))
  | [], [], _, _ => rfl
  | [], _ :: _, _, h => by simp at h
  | _ :: _, [], _, h => by simp at h
  | e :: es, x :: m, i, h => by
    simp only [List.map_cons, List.cons.injEq] at h
    unfold Instr.findNow
    rw [h.1]
    by_cases hx : x = a
    · subst hx
      simp [Instr.sameNow, List.findIdx?_cons]
    · have hne : (a == x) = false := by simp; exact fun e => hx e.symm
      simp only [Instr.sameNow, if_true, hne]
      rw [findNow_int k a es m (i + 1) h.2]
      simp only [List.findIdx?_cons, hx, decide_false, Bool.false_eq_true, if_false]
      cases m.findIdx? (· = a) with
      | none => rfl
      | some j => simp; congr 1; funext e; congr 1; omega

theorem intKey : KeyOK 3 intV where
  chk e a w := by
    unfold Instr.checkKey intV
    simp [Try.runUnderlying3]
  find a es m w h := by
    unfold Instr.findKey
    simp only [Sem.run_bind, Try.runUnderlying3, Result.andThen_ok]
    rw [show intV a = .int .i64 a from rfl, findNow_int .i64 a es m 0 h]
    simp
  same a := by simp [intV, Instr.sameBits]

end Go.Proofs.Ytgdmgeihgkbjaaa
