/- 'cashboxlaw27.wakes' -/
import Derived.Test.YtgdmgeihgkbjaaaAhead
namespace Go.Proofs.Ytgdmgeihgkbjaaa
open Go.RowKit Go.Shelf

/-- A block that was laid whole holds its rows, from each on. -/
theorem rows_flat {α : Type} {enc : α → List Value} {k : Nat} (hk : ∀ x, (enc x).length = k) {w : World} {b : Nat} {l : List α} {t : TypeId} {fr : Nat × Nat} (hb : w.heap[b]? = some (.cells (l.flatMap enc).toArray t fr)) (d : Nat) : RowsAt enc k w b (d * k) (l.drop d) := by
  intro i x hx j c hc
  have hj : j < k := by
    have := (List.getElem?_eq_some_iff.1 hc).1
    rwa [hk] at this
  have hx' : l[d + i]? = some x := by simpa using hx
  rw [cell_of_row w b _ _ t fr hb]
  have e : d * k + i * k + j = (d + i) * k + j := by rw [Nat.add_mul]
  rw [e, List.getElem?_toArray, flat_get hk l (d + i) x hx' j hj]
  exact hc

theorem sns_lit (w : World) (l : List Sn) : Sns (w.alloc (.cells (l.flatMap Sn.cells).toArray 36)).heap.size (w.alloc (.cells (l.flatMap Sn.cells).toArray 36)) (.slice (some ⟨w.heap.size, 0, none⟩) l.length l.length) l := by
  refine ⟨_, l.length, rfl, (fun h => by cases h), fun b off s e _ => ?_⟩
  cases e
  refine ⟨rfl, by simp, ?_⟩
  have := rows_flat (fun x => x.cells_length) (heap_alloc_new w (.cells (l.flatMap Sn.cells).toArray 36)) 0
  simpa using this

def stp (k : Int) (n : Int) : Sn := ⟨k, ⟨n, 1, 1⟩, 0, ⟨0, 0, 0, 0, 0, 0, 0, 0⟩, 0⟩
def wk27 : List Sn := [stp 0 1, stp 0 2, stp 3 2, stp 3 1, stp 5 1, stp 5 2]

theorem wk27_may : mayP wk27 = true := by decide
theorem wk27_tail : mayP (wk27.drop 1) = false := by decide
theorem wk27_ord : ordR wk27 = [⟨2, 1, 1⟩, ⟨1, 1, 1⟩] := by decide

theorem step_any (k n : Int) (w : World) : Calls Try.prog 50 #[.int .i8 k, .int .i64 n] w fun e w' => e = .returned (.agg (snArr (stp k n))) ∧ Below w.heap.size w w' := by
  go_enter Try.func50, Try.ntmps50
  go_wp2
  refine bodyPost_ret (v := .agg (snArr (stp k n))) (by simp [results, Try.results50, go_sem, snArr, stp]) rfl ⟨rfl, ?_⟩
  exact below_alloc1 _

set_option maxRecDepth 100000 in
theorem run_build6 (w : World) : (Instr.buildSlice 25 6 #[(0, .agg (snArr (stp 0 1))), (1, .agg (snArr (stp 0 2))), (2, .agg (snArr (stp 3 2))), (3, .agg (snArr (stp 3 1))), (4, .agg (snArr (stp 5 1))), (5, .agg (snArr (stp 5 2)))]).run Try.prog w = .ok (.slice (some ⟨w.heap.size, 0, none⟩) 6 6) (w.alloc (.cells (wk27.flatMap Sn.cells).toArray 36)) := by
  simp [go_sem, snArr, stp, wk27, Sn.cells]

theorem wpList_build6 {ops : Array Oper} {rest : List Oper} {o : Oper} {a : Act} {w : World} {Q : Exit → Act → World → Prop} (hgd : o.guard = none) (p0 p1 p2 p3 p4 p5 : Operand) (ho : o.op = .buildSlice 25 6 #[(0, p0), (1, p1), (2, p2), (3, p3), (4, p4), (5, p5)])
    (h0 : a.eval p0 = .agg (snArr (stp 0 1))) (h1 : a.eval p1 = .agg (snArr (stp 0 2))) (h2 : a.eval p2 = .agg (snArr (stp 3 2))) (h3 : a.eval p3 = .agg (snArr (stp 3 1))) (h4 : a.eval p4 = .agg (snArr (stp 5 1))) (h5 : a.eval p5 = .agg (snArr (stp 5 2)))
    (h : wpList Try.prog ops Q rest (a.put o.dst (.slice (some ⟨w.heap.size, 0, none⟩) 6 6)) (w.alloc (.cells (wk27.flatMap Sn.cells).toArray 36))) : wpList Try.prog ops Q (o :: rest) a w :=
  wpList_plain hgd fun K hK => by
    unfold Oper.wp execOp
    simp only [ho, List.map_toArray, List.map_cons, List.map_nil, h0, h1, h2, h3, h4, h5, Sem.run_bind, run_build6, Result.andThen_ok, Sem.run_pure]
    exact hK _ _ h

set_option maxRecDepth 100000 in
set_option maxHeartbeats 2000000 in
theorem wakes27_any (w : World) : Calls Try.prog 20 #[] w fun e w' => e = .returned (.bool true) ∧ Below w.heap.size w w' := by
  go_enter Try.func20, Try.ntmps20
  go_wp2_with fail
  refine (step_any 0 1 _).mono ?_
  rintro e w1 ⟨rfl, b1⟩
  go_wp2_with fail
  refine (step_any 0 2 _).mono ?_
  rintro e w2 ⟨rfl, b2⟩
  go_wp2_with fail
  refine (step_any 3 2 _).mono ?_
  rintro e w3 ⟨rfl, b3⟩
  go_wp2_with fail
  refine (step_any 3 1 _).mono ?_
  rintro e w4 ⟨rfl, b4⟩
  go_wp2_with fail
  refine (step_any 5 1 _).mono ?_
  rintro e w5 ⟨rfl, b5⟩
  go_wp2_with fail
  refine (step_any 5 2 _).mono ?_
  rintro e w6 ⟨rfl, b6⟩
  have hB6 : Below w.heap.size w w6 := ((((b1.trans (b2.mono b1.size)).trans (b3.mono (by have := b1.size; have := b2.size; omega))).trans (b4.mono (by have := b1.size; have := b2.size; have := b3.size; omega))).trans (b5.mono (by have := b1.size; have := b2.size; have := b3.size; have := b4.size; omega))).trans (b6.mono (by have := b1.size; have := b2.size; have := b3.size; have := b4.size; have := b5.size; omega))
  have HB6 := Lib.hid hB6
  have hb7 := hB6.alloc hB6.size (.cells (wk27.flatMap Sn.cells).toArray 36)
  have hs7 := sns_lit w6 wk27
  have hr7 := rows_flat (fun x => Sn.cells_length x) (heap_alloc_new w6 (.cells (wk27.flatMap Sn.cells).toArray 36)) 1
  have hl7 : w6.heap.size < (w6.alloc (.cells (wk27.flatMap Sn.cells).toArray 36)).heap.size := by simp
  have HB7 := Lib.hid hb7
  have HS7 := Lib.hid hs7
  have HR7 := Lib.hid hr7
  have HL7 := Lib.hid hl7
  clear b1 b2 b3 b4 b5 b6 hB6 hb7 hs7 hr7 hl7
  go_wp2_with (first | (refine wpList_build6 rfl (.tmp 4) (.tmp 5) (.tmp 6) (.tmp 7) (.tmp 8) (.tmp 9) rfl rfl rfl rfl rfl rfl rfl ?_))
  generalize hW7 : w6.alloc (.cells (wk27.flatMap Sn.cells).toArray 36) = w7 at *
  refine (order_any wk27 _ w7 (by decide) HS7.out).mono ?_
  rintro e w8 ⟨h, b8⟩
  rcases h with ⟨hm, _⟩ | ⟨_, v, rfl, hown⟩
  · rw [wk27_may] at hm; cases hm
  rw [wk27_ord] at hown
  rcases hown.2 with ⟨_, hz⟩ | ⟨g, cap, cur, rfl, hb, hg, hn, hcap, hcs, ht⟩
  · cases hz
  have c0 : w8.cell? ⟨g, 0, none⟩ = some (.int .i64 2) := hown.cells (g := g) rfl 0 _ rfl
  have c3 : w8.cell? ⟨g, 3, none⟩ = some (.int .i64 1) := hown.cells (g := g) rfl 3 _ rfl
  have hB8 : Below w.heap.size w w8 := HB7.out.trans (b8.mono HB7.out.size)
  have HB8 := Lib.hid hB8
  have HS8 : Hid (Sns w8.heap.size w8 (.slice (some ⟨w6.heap.size, 0, none⟩) 6 6) wk27) := (HS7.out.below b8).mono b8.size
  have HR8 : Hid (RowsAt Sn.cells 14 w8 w6.heap.size (1 * 14) (wk27.drop 1)) := HR7.out.below HL7.out b8
  have HM := Lib.hid wk27_may
  have HM2 := Lib.hid wk27_tail
  have hl8 : w6.heap.size < w8.heap.size := Nat.lt_of_lt_of_le HL7.out b8.size
  have HL8 := Lib.hid hl8
  clear hown hb hg hn hcap hcs ht b8 hB8 hl8
  go_wp2_with fail
  refine (may22_any wk27 _ w8 (by decide) HS8.out).mono ?_
  rintro e w9 ⟨rfl, b9⟩
  rw [HM.out]
  have hS9 : Sns w9.heap.size w9 (.slice (some ⟨w6.heap.size, 14, none⟩) 5 5) (wk27.drop 1) := by
    refine ⟨_, 5, rfl, (fun h => by cases h), fun b off s e _ => ?_⟩
    cases e
    exact ⟨rfl, Nat.lt_of_lt_of_le HL8.out b9.size, (HR8.out.below HL8.out b9 : RowsAt Sn.cells 14 w9 w6.heap.size (1 * 14) (wk27.drop 1))⟩
  have HS9 := Lib.hid hS9
  have hB9 : Below w.heap.size w w9 := HB8.out.trans (b9.mono HB8.out.size)
  have HB9 := Lib.hid hB9
  clear b9 hS9 hB9
  go_wp2_with fail
  refine (may22_any (wk27.drop 1) _ w9 (by decide) HS9.out).mono ?_
  rintro e w10 ⟨rfl, b10⟩
  rw [HM2.out]
  have HB10 : Hid (Below w.heap.size w w10) := HB9.out.trans (b10.mono HB9.out.size)
  clear b10
  go_wp2_with fail
  go_ret
  exact ⟨rfl, HB10.out⟩

end Go.Proofs.Ytgdmgeihgkbjaaa
