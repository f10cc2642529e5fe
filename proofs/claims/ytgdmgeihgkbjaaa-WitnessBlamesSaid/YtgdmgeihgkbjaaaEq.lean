/- '==' and '!=' on this seat's structs and arrays, as one decision on the data. -/
import Derived.Test.YtgdmgeihgkbjaaaBase
namespace Go.Proofs.Ytgdmgeihgkbjaaa
open Go.RowKit

section
variable {P : Program}

theorem run_equalIn_array (w : World) (d : Nat) (t e : TypeId) (len n : Nat) (xs ys : Array Value) (g : Nat → Bool) (ht : P.underlying t = some (.array len e)) (hn : (sizeOf e).run P w = .ok n w)
    (h : ∀ i, i < len → ∃ a b, (part e xs (i * n)).run P w = .ok a w ∧ (part e ys (i * n)).run P w = .ok b w ∧ (Op.equalIn d e a b).run P w = .ok (g i) w) :
    (Op.equalIn (d + 1) t (.agg xs) (.agg ys)).run P w = .ok ((List.range len).all g) w := by
  simp only [Op.equalIn, Sem.run_bind, run_underlying ht, Result.andThen_ok, hn]
  simp only [Std.Legacy.Range.forIn_eq_forIn_range', Std.Legacy.Range.size, Nat.sub_zero, Nat.add_sub_cancel, Nat.div_one, List.range_eq_range']
  have h' : ∀ i ∈ List.range' 0 len, ∃ a b, (part e xs (i * n)).run P w = .ok a w ∧ (part e ys (i * n)).run P w = .ok b w ∧ (Op.equalIn d e a b).run P w = .ok (g i) w := fun i hi => h i (by simp [List.mem_range'_1] at hi; omega)
  clear h
  generalize List.range' 0 len = l at h'
  induction l with
  | nil => simp
  | cons i l ih =>
    obtain ⟨a, b, h1, h2, h3⟩ := h' i (by simp)
    simp only [List.forIn_cons, Sem.run_bind, h1, h2, h3, Result.andThen_ok, List.all_cons]
    cases hg : g i
    · simp
    · simp only [Bool.not_true, Bool.false_eq_true, if_false, Sem.run_pure, Result.andThen_ok, Bool.true_and]
      exact ih (fun j hj => h' j (by simp [hj]))

end

theorem eqFields_cons {P : Program} {d : Nat} {xs ys : Array Value} {f : Field} {fs : List Field} {w : World} {a b : Value} {r s : Bool} (hn : f.name ≠ "_")
    (h1 : (part f.type xs f.offset).run P w = .ok a w) (h2 : (part f.type ys f.offset).run P w = .ok b w) (h3 : (Op.equalIn d f.type a b).run P w = .ok r w)
    (h4 : (Op.eqFields d xs ys fs).run P w = .ok s w) : (Op.eqFields d xs ys (f :: fs)).run P w = .ok (r && s) w := by
  simp only [Op.eqFields, hn, ne_eq, not_false_eq_true, if_true, Sem.run_bind, h1, h2, h3, Result.andThen_ok]
  cases r
  · simp
  · simpa using h4

theorem eqFields_nil {P : Program} {d : Nat} {xs ys : Array Value} {w : World} : (Op.eqFields d xs ys []).run P w = .ok true w := by simp [Op.eqFields]

theorem eqIn_nm (d : Nat) (a b : Nm) (w : World) :
    (Op.equalIn (d + 2) 34 (.agg #[.int .i64 a.s, .int .i64 a.i, .int .i64 a.t]) (.agg #[.int .i64 b.s, .int .i64 b.i, .int .i64 b.t])).run Try.prog w = .ok (decide (a = b)) w := by
  have e : decide (a = b) = (a.s == b.s && (a.i == b.i && a.t == b.t)) := by
    obtain ⟨a1, a2, a3⟩ := a
    obtain ⟨b1, b2, b3⟩ := b
    simp only [Nm.mk.injEq, Bool.decide_and]
    rfl
  rw [e]
  cases h1 : (a.s == b.s) <;> cases h2 : (a.i == b.i) <;> cases h3 : (a.t == b.t) <;> simp [go_sem, h1, h2, h3]

def V8.at (v : V8) : Nat → Int
  | 0 => v.a | 1 => v.b | 2 => v.c | 3 => v.d | 4 => v.e | 5 => v.f | 6 => v.g | _ => v.h

theorem eqIn_v8 (d : Nat) (a b : V8) (w : World) :
    (Op.equalIn (d + 2) 23 (.agg #[.int .u8 a.a, .int .u8 a.b, .int .u8 a.c, .int .u8 a.d, .int .u8 a.e, .int .u8 a.f, .int .u8 a.g, .int .u8 a.h])
      (.agg #[.int .u8 b.a, .int .u8 b.b, .int .u8 b.c, .int .u8 b.d, .int .u8 b.e, .int .u8 b.f, .int .u8 b.g, .int .u8 b.h])).run Try.prog w = .ok (decide (a = b)) w := by
  have h := run_equalIn_array (P := Try.prog) w (d + 1) 23 5 8 1 #[.int .u8 a.a, .int .u8 a.b, .int .u8 a.c, .int .u8 a.d, .int .u8 a.e, .int .u8 a.f, .int .u8 a.g, .int .u8 a.h]
    #[.int .u8 b.a, .int .u8 b.b, .int .u8 b.c, .int .u8 b.d, .int .u8 b.e, .int .u8 b.f, .int .u8 b.g, .int .u8 b.h] (fun i => a.at i == b.at i) Try.underlying23 (by simp [go_sem])
    (fun i hi => by
      refine ⟨.int .u8 (a.at i), .int .u8 (b.at i), ?_, ?_, ?_⟩
      · match i, hi with
        | 0, _ | 1, _ | 2, _ | 3, _ | 4, _ | 5, _ | 6, _ | 7, _ => simp [go_sem, V8.at]
      · match i, hi with
        | 0, _ | 1, _ | 2, _ | 3, _ | 4, _ | 5, _ | 6, _ | 7, _ => simp [go_sem, V8.at]
      · simp [go_sem])
  have e : decide (a = b) = (List.range 8).all (fun i => a.at i == b.at i) := by
    obtain ⟨a1, a2, a3, a4, a5, a6, a7, a8⟩ := a
    obtain ⟨b1, b2, b3, b4, b5, b6, b7, b8⟩ := b
    simp only [V8.mk.injEq, List.range, List.range.loop, List.all_cons, List.all_nil, V8.at, Bool.and_true]
    rw [Bool.eq_iff_iff]
    simp
  rw [e]
  exact h

theorem eqIn_sn (d : Nat) (a b : Sn) (w : World) :
    (Op.equalIn (d + 3) 36 (.agg #[.int .i8 a.k, .int .i64 a.n.s, .int .i64 a.n.i, .int .i64 a.n.t, .int .i64 a.b, .int .u8 a.v.a, .int .u8 a.v.b, .int .u8 a.v.c, .int .u8 a.v.d, .int .u8 a.v.e, .int .u8 a.v.f, .int .u8 a.v.g, .int .u8 a.v.h, .int .i64 a.e])
      (.agg #[.int .i8 b.k, .int .i64 b.n.s, .int .i64 b.n.i, .int .i64 b.n.t, .int .i64 b.b, .int .u8 b.v.a, .int .u8 b.v.b, .int .u8 b.v.c, .int .u8 b.v.d, .int .u8 b.v.e, .int .u8 b.v.f, .int .u8 b.v.g, .int .u8 b.v.h, .int .i64 b.e])).run Try.prog w = .ok (decide (a = b)) w := by
  have e : decide (a = b) = (a.k == b.k && (decide (a.n = b.n) && (a.b == b.b && (decide (a.v = b.v) && a.e == b.e)))) := by
    obtain ⟨a1, a2, a3, a4, a5⟩ := a
    obtain ⟨b1, b2, b3, b4, b5⟩ := b
    simp only [Sn.mk.injEq, Bool.decide_and]
    rfl
  have hn := eqIn_nm d a.n b.n w
  have hv := eqIn_v8 d a.v b.v w
  rw [e, run_equalIn_agg _ _ _ _ _ (by simp [go_sem]) (by simp [go_sem])]
  simp only [Program.fieldsOf, Try.underlying36]
  refine eqFields_cons (by decide) (a := .int .i8 a.k) (b := .int .i8 b.k) (by simp [go_sem]) (by simp [go_sem]) (by simp [go_sem]) ?_
  refine eqFields_cons (by decide) (by simp [go_sem]) (by simp [go_sem]) hn ?_
  refine eqFields_cons (by decide) (a := .int .i64 a.b) (b := .int .i64 b.b) (by simp [go_sem]) (by simp [go_sem]) (by simp [go_sem]) ?_
  refine eqFields_cons (by decide) (by simp [go_sem]) (by simp [go_sem]) hv ?_
  rw [← Bool.and_true (a.e == b.e)]
  exact eqFields_cons (by decide) (a := .int .i64 a.e) (b := .int .i64 b.e) (by simp [go_sem]) (by simp [go_sem]) (by simp [go_sem]) eqFields_nil

theorem eql_nm (a b : Nm) (w : World) : (binOp .eql 34 (.agg #[.int .i64 a.s, .int .i64 a.i, .int .i64 a.t]) (.agg #[.int .i64 b.s, .int .i64 b.i, .int .i64 b.t])).run Try.prog w = .ok (.bool (decide (a = b))) w := by
  rw [run_eql_struct, eqIn_nm 9998 a b w]; rfl

theorem neq_nm (a b : Nm) (w : World) : (binOp .neq 34 (.agg #[.int .i64 a.s, .int .i64 a.i, .int .i64 a.t]) (.agg #[.int .i64 b.s, .int .i64 b.i, .int .i64 b.t])).run Try.prog w = .ok (.bool (!decide (a = b))) w := by
  rw [run_neq_struct, eqIn_nm 9998 a b w]; rfl

theorem eql_v8 (a b : V8) (w : World) : (binOp .eql 23 (.agg #[.int .u8 a.a, .int .u8 a.b, .int .u8 a.c, .int .u8 a.d, .int .u8 a.e, .int .u8 a.f, .int .u8 a.g, .int .u8 a.h]) (.agg #[.int .u8 b.a, .int .u8 b.b, .int .u8 b.c, .int .u8 b.d, .int .u8 b.e, .int .u8 b.f, .int .u8 b.g, .int .u8 b.h])).run Try.prog w = .ok (.bool (decide (a = b))) w := by
  rw [run_eql_struct, eqIn_v8 9998 a b w]; rfl

theorem neq_v8 (a b : V8) (w : World) : (binOp .neq 23 (.agg #[.int .u8 a.a, .int .u8 a.b, .int .u8 a.c, .int .u8 a.d, .int .u8 a.e, .int .u8 a.f, .int .u8 a.g, .int .u8 a.h]) (.agg #[.int .u8 b.a, .int .u8 b.b, .int .u8 b.c, .int .u8 b.d, .int .u8 b.e, .int .u8 b.f, .int .u8 b.g, .int .u8 b.h])).run Try.prog w = .ok (.bool (!decide (a = b))) w := by
  rw [run_neq_struct, eqIn_v8 9998 a b w]; rfl

theorem eql_sn (a b : Sn) (w : World) : (binOp .eql 36 (.agg #[.int .i8 a.k, .int .i64 a.n.s, .int .i64 a.n.i, .int .i64 a.n.t, .int .i64 a.b, .int .u8 a.v.a, .int .u8 a.v.b, .int .u8 a.v.c, .int .u8 a.v.d, .int .u8 a.v.e, .int .u8 a.v.f, .int .u8 a.v.g, .int .u8 a.v.h, .int .i64 a.e]) (.agg #[.int .i8 b.k, .int .i64 b.n.s, .int .i64 b.n.i, .int .i64 b.n.t, .int .i64 b.b, .int .u8 b.v.a, .int .u8 b.v.b, .int .u8 b.v.c, .int .u8 b.v.d, .int .u8 b.v.e, .int .u8 b.v.f, .int .u8 b.v.g, .int .u8 b.v.h, .int .i64 b.e])).run Try.prog w = .ok (.bool (decide (a = b))) w := by
  rw [run_eql_struct, eqIn_sn 9997 a b w]; rfl

theorem neq_sn (a b : Sn) (w : World) : (binOp .neq 36 (.agg #[.int .i8 a.k, .int .i64 a.n.s, .int .i64 a.n.i, .int .i64 a.n.t, .int .i64 a.b, .int .u8 a.v.a, .int .u8 a.v.b, .int .u8 a.v.c, .int .u8 a.v.d, .int .u8 a.v.e, .int .u8 a.v.f, .int .u8 a.v.g, .int .u8 a.v.h, .int .i64 a.e]) (.agg #[.int .i8 b.k, .int .i64 b.n.s, .int .i64 b.n.i, .int .i64 b.n.t, .int .i64 b.b, .int .u8 b.v.a, .int .u8 b.v.b, .int .u8 b.v.c, .int .u8 b.v.d, .int .u8 b.v.e, .int .u8 b.v.f, .int .u8 b.v.g, .int .u8 b.v.h, .int .i64 b.e])).run Try.prog w = .ok (.bool (!decide (a = b))) w := by
  rw [run_neq_struct, eqIn_sn 9997 a b w]; rfl

theorem eql_nm_z (a : Nm) (w : World) : (binOp .eql 34 (.agg #[.int .i64 a.s, .int .i64 a.i, .int .i64 a.t]) (.agg #[.int .i64 0, .int .i64 0, .int .i64 0])).run Try.prog w = .ok (.bool (decide (a = ⟨0, 0, 0⟩))) w := eql_nm a ⟨0, 0, 0⟩ w

theorem neq_nm_z (a : Nm) (w : World) : (binOp .neq 34 (.agg #[.int .i64 a.s, .int .i64 a.i, .int .i64 a.t]) (.agg #[.int .i64 0, .int .i64 0, .int .i64 0])).run Try.prog w = .ok (.bool (!decide (a = ⟨0, 0, 0⟩))) w := neq_nm a ⟨0, 0, 0⟩ w

theorem eql_v8_z (a : V8) (w : World) : (binOp .eql 23 (.agg #[.int .u8 a.a, .int .u8 a.b, .int .u8 a.c, .int .u8 a.d, .int .u8 a.e, .int .u8 a.f, .int .u8 a.g, .int .u8 a.h]) (.agg #[.int .u8 0, .int .u8 0, .int .u8 0, .int .u8 0, .int .u8 0, .int .u8 0, .int .u8 0, .int .u8 0])).run Try.prog w = .ok (.bool (decide (a = ⟨0, 0, 0, 0, 0, 0, 0, 0⟩))) w := eql_v8 a ⟨0, 0, 0, 0, 0, 0, 0, 0⟩ w

theorem neq_v8_z (a : V8) (w : World) : (binOp .neq 23 (.agg #[.int .u8 a.a, .int .u8 a.b, .int .u8 a.c, .int .u8 a.d, .int .u8 a.e, .int .u8 a.f, .int .u8 a.g, .int .u8 a.h]) (.agg #[.int .u8 0, .int .u8 0, .int .u8 0, .int .u8 0, .int .u8 0, .int .u8 0, .int .u8 0, .int .u8 0])).run Try.prog w = .ok (.bool (!decide (a = ⟨0, 0, 0, 0, 0, 0, 0, 0⟩))) w := neq_v8 a ⟨0, 0, 0, 0, 0, 0, 0, 0⟩ w

end Go.Proofs.Ytgdmgeihgkbjaaa
