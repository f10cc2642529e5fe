/- The blocks' states compared. -/
import Derived.Test.YtgdmgeihgkbjaaaPd
namespace Go.Proofs.Ytgdmgeihgkbjaaa
open Go.RowKit

theorem st_extract {s : List V8} {i : Nat} {v : V8} (h : s[i]? = some v) : (stArr s).extract (i * 8) (i * 8 + 8) = v.cells.toArray := by
  have hi : i < s.length := (List.getElem?_eq_some_iff.1 h).1
  apply Array.ext_getElem?
  intro j
  simp only [Array.getElem?_extract, stArr_size, List.getElem?_toArray]
  by_cases hj : j < 8
  · rw [if_pos (by omega)]
    simp only [stArr, stCells, List.getElem?_toArray]
    exact flat_get V8.cells_length s i v h j hj
  · rw [if_neg (by omega)]
    exact (List.getElem?_eq_none (by rw [V8.cells_length]; omega)).symm

theorem part_st {s : List V8} {i : Nat} {v : V8} (h : s[i]? = some v) (w : World) : (part 23 (stArr s) (i * 8)).run Try.prog w = .ok (v8Val v) w := by
  have hx := st_extract h
  simp [part, isAgg, go_sem, hx]
  simp [V8.cells, v8Val]

theorem st_eq_iff {s t : List V8} (hs : s.length = 32) (ht : t.length = 32) : decide (s = t) = (List.range 32).all (fun i => decide (s[i]? = t[i]?)) := by
  rw [Bool.eq_iff_iff]
  simp only [decide_eq_true_eq, List.all_eq_true, List.mem_range]
  constructor
  · rintro rfl i _; rfl
  · intro h
    apply List.ext_getElem?
    intro i
    by_cases hi : i < 32
    · exact h i hi
    · rw [List.getElem?_eq_none (by omega), List.getElem?_eq_none (by omega)]

theorem eqIn_st {s t : List V8} (hs : s.length = 32) (ht : t.length = 32) (d : Nat) (w : World) : (Op.equalIn (d + 3) 24 (.agg (stArr s)) (.agg (stArr t))).run Try.prog w = .ok (decide (s = t)) w := by
  rw [st_eq_iff hs ht]
  refine run_equalIn_array (P := Try.prog) w (d + 2) 24 23 32 8 (stArr s) (stArr t) _ Try.underlying24 (by simp [go_sem]) (fun i hi => ?_)
  have h1 : s[i]? = some s[i] := List.getElem?_eq_getElem (by omega)
  have h2 : t[i]? = some t[i] := List.getElem?_eq_getElem (by omega)
  refine ⟨_, _, part_st h1 w, part_st h2 w, ?_⟩
  rw [h1, h2]
  have := eqIn_v8 d s[i] t[i] w
  simpa [v8Val] using this

theorem eql_st {s t : List V8} (hs : s.length = 32) (ht : t.length = 32) (w : World) : (binOp .eql 24 (.agg (stArr s)) (.agg (stArr t))).run Try.prog w = .ok (.bool (decide (s = t))) w := by
  rw [run_eql_struct, eqIn_st hs ht 9997 w]; rfl

end Go.Proofs.Ytgdmgeihgkbjaaa
