/- Names as keys of a map. -/
import Derived.Test.YtgdmgeihgkbjaaaRise
namespace Go.Proofs.Ytgdmgeihgkbjaaa
open Go.RowKit

def nmV (n : Nm) : Value := .agg #[.int .i64 n.s, .int .i64 n.i, .int .i64 n.t]

theorem equal_nm (a b : Nm) (w : World) : (Op.equal 34 (nmV a) (nmV b)).run Try.prog w = .ok (decide (a = b)) w := eqIn_nm 9998 a b w

theorem asking_nm (a : Nm) : ∀ (es : List MapEntry) (m : List Nm) (i : Nat) (w : World), es.map (·.key) = m.map nmV →
    (Instr.findAsking 34 (nmV a) es i).run Try.prog w = .ok ((m.findIdx? (· = a)).bind fun j => (es[j]?).map fun e => (i + j, e.val)) w
  | [], [], _, _, _ => rfl
  | [], _ :: _, _, _, h => by simp at h
  | _ :: _, [], _, _, h => by simp at h
  | e :: es, x :: m, i, w, h => by
    simp only [List.map_cons, List.cons.injEq] at h
    unfold Instr.findAsking
    simp only [h.1, Sem.run_bind, equal_nm, Result.andThen_ok]
    by_cases hx : x = a
    · subst hx
      simp [List.findIdx?_cons]
    · have hne : ¬ a = x := fun e => hx e.symm
      simp only [hne, decide_false, Bool.false_eq_true, if_false]
      rw [asking_nm a es m (i + 1) w h.2]
      simp only [List.findIdx?_cons, hx, decide_false, Bool.false_eq_true, if_false]
      cases m.findIdx? (· = a) with
      | none => rfl
      | some j => simp; congr 1; funext e; congr 1; omega

theorem nmKey : KeyOK 34 nmV where
  chk e a w := by
    unfold Instr.checkKey nmV
    simp [go_sem]
    unfold Instr.checkKey
    simp [go_sem]
  find a es m w h := by
    unfold Instr.findKey
    simp only [Sem.run_bind, Try.runUnderlying34, Result.andThen_ok]
    cases es with
    | nil =>
      cases m with
      | nil => rfl
      | cons x m => simp at h
    | cons e es =>
      cases m with
      | nil => simp at h
      | cons x m =>
        have hk : e.key = nmV x := by simpa using (List.cons.inj h).1
        have hn : ∀ t, Instr.findNow (.struct t) (nmV a) (e :: es) 0 = none := by
          intro t
          unfold Instr.findNow
          rw [hk]
          rfl
        rw [hn]
        have := asking_nm a (e :: es) (x :: m) 0 w h
        simpa using this
  same a := by simp [nmV, Instr.sameBits]

end Go.Proofs.Ytgdmgeihgkbjaaa
