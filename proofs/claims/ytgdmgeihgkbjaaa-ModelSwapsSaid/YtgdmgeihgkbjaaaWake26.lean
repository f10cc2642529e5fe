/- 'cashboxlaw26.wakes' -/
import Derived.Test.YtgdmgeihgkbjaaaModel
namespace Go.Proofs.Ytgdmgeihgkbjaaa
open Go.RowKit Go.Shelf

def wkW : Sn := ⟨2, ⟨0, 0, 0⟩, 3, ⟨1, 0, 0, 0, 0, 0, 0, 0⟩, 0⟩
def wkR : Sn := ⟨1, ⟨0, 0, 0⟩, 3, ⟨1, 0, 0, 0, 0, 0, 0, 0⟩, 0⟩

theorem sns_new (w : World) (x y : Sn) : Sns (w.alloc (.cells (snArr x ++ snArr y) 36)).heap.size (w.alloc (.cells (snArr x ++ snArr y) 36)) (.slice (some ⟨w.heap.size, 0, none⟩) 2 2) [x, y] := by
  refine ⟨_, 2, rfl, (fun h => by cases h), fun b off s e _ => ?_⟩
  cases e
  refine ⟨rfl, by simp, ?_⟩
  intro i z hz j c hc
  rw [cell_of_row _ _ _ _ _ (0, 0) (heap_alloc_new w _)]
  match i, hz with
  | 0, hz =>
    cases hz
    have hj : j < 14 := (List.getElem?_eq_some_iff.1 hc).1
    simp only [Nat.zero_mul, Nat.add_zero, Nat.zero_add]
    rw [Array.getElem?_append_left (by simp [snArr]; omega)]
    rw [← hc]
    simp [snArr, Sn.cells]
  | 1, hz =>
    cases hz
    have hj : j < 14 := (List.getElem?_eq_some_iff.1 hc).1
    rw [Array.getElem?_append_right (by simp [snArr])]
    rw [← hc]
    have : 0 + 1 * 14 + j - (snArr x).size = j := by simp [snArr]
    rw [this]
    simp [snArr, Sn.cells]

set_option maxRecDepth 100000 in
theorem run_build2 (x y : Sn) (w : World) : (Instr.buildSlice 25 2 #[(0, .agg (snArr x)), (1, .agg (snArr y))]).run Try.prog w = .ok (.slice (some ⟨w.heap.size, 0, none⟩) 2 2) (w.alloc (.cells (snArr x ++ snArr y) 36)) := by
  simp [go_sem, snArr]

theorem wpList_build2 {ops : Array Oper} {rest : List Oper} {o : Oper} {a : Act} {w : World} {Q : Exit → Act → World → Prop} (hgd : o.guard = none) (p q : Operand) (ho : o.op = .buildSlice 25 2 #[(0, p), (1, q)])
    (x y : Sn) (hp : a.eval p = .agg (snArr x)) (hq : a.eval q = .agg (snArr y)) (h : wpList Try.prog ops Q rest (a.put o.dst (.slice (some ⟨w.heap.size, 0, none⟩) 2 2)) (w.alloc (.cells (snArr x ++ snArr y) 36))) : wpList Try.prog ops Q (o :: rest) a w :=
  wpList_plain hgd fun K hK => by
    unfold Oper.wp execOp
    simp only [ho, List.map_toArray, List.map_cons, List.map_nil, hp, hq, Sem.run_bind, run_build2, Result.andThen_ok, Sem.run_pure]
    exact hK _ _ h

theorem do_wk1 (w : World) : Calls Try.prog 15 #[.agg (stArr zst), .slice (some ⟨w.heap.size, 0, none⟩) 2 2] (w.alloc (.cells (snArr wkW ++ snArr wkR) 36)) fun e w' =>
    ∃ s2 : List V8, s2.length = 32 ∧ e = .returned (.tuple #[.agg (stArr s2), .bool true, .int .i64 0]) ∧ Below (w.alloc (.cells (snArr wkW ++ snArr wkR) 36)).heap.size (w.alloc (.cells (snArr wkW ++ snArr wkR) 36)) w' := by
  refine (do_ok [wkW, wkR] _ zst zst_length _ (by decide) (sns_new w wkW wkR) (by decide)).mono ?_
  rintro e w' ⟨rfl, hb⟩
  have : toldP (fillL zst [wkW, wkR]) (stepsOf [wkW, wkR] 0) = true := by decide
  rw [this]
  exact ⟨_, by rw [foldSt_length, zst_length], rfl, hb⟩

theorem do_wk2 (w : World) : Calls Try.prog 15 #[.agg (stArr zst), .slice (some ⟨w.heap.size, 0, none⟩) 2 2] (w.alloc (.cells (snArr wkR ++ snArr wkW) 36)) fun e w' =>
    ∃ s2 : List V8, s2.length = 32 ∧ e = .returned (.tuple #[.agg (stArr s2), .bool false, .int .i64 0]) ∧ Below (w.alloc (.cells (snArr wkR ++ snArr wkW) 36)).heap.size (w.alloc (.cells (snArr wkR ++ snArr wkW) 36)) w' := by
  refine (do_ok [wkR, wkW] _ zst zst_length _ (by decide) (sns_new w wkR wkW) (by decide)).mono ?_
  rintro e w' ⟨rfl, hb⟩
  have : toldP (fillL zst [wkR, wkW]) (stepsOf [wkR, wkW] 0) = false := by decide
  rw [this]
  exact ⟨_, by rw [foldSt_length, zst_length], rfl, hb⟩

set_option maxRecDepth 100000 in
set_option maxHeartbeats 1000000 in
theorem wakes26_any (w : World) : Calls Try.prog 14 #[] w fun e w' => e = .returned (.bool true) ∧ Below w.heap.size w w' := by
  go_enter Try.func14, Try.ntmps14
  obtain ⟨w3, hw3⟩ : ∃ w3, ((w.alloc (.cells (stArr zst) 24)).alloc (.cells (snArr wkW) 36)).alloc (.cells (snArr wkR) 36) = w3 := ⟨_, rfl⟩
  have h30 : w3.heap[w.heap.size]? = some (.cells (stArr zst) 24 (0, 0)) := by
    rw [← hw3, Below.heap_alloc _ _ _ (by simp; omega)]; exact heap_alloc2_old w _ _
  have h31 : w3.heap[w.heap.size + 1]? = some (.cells (snArr wkW) 36 (0, 0)) := by
    rw [← hw3, Below.heap_alloc _ _ _ (by simp)]; exact heap_alloc2_new w _ _
  have h32 : w3.heap[w.heap.size + 1 + 1]? = some (.cells (snArr wkR) 36 (0, 0)) := by
    have := heap_alloc_new ((w.alloc (.cells (stArr zst) 24)).alloc (.cells (snArr wkW) 36)) (.cells (snArr wkR) 36)
    rw [hw3] at this
    simpa using this
  have hb3 : Below w.heap.size w w3 := by
    rw [← hw3]; exact ((((Below.refl _ _).alloc (Nat.le_refl _) _).alloc (by simp) _).alloc (by simp; omega) _)
  have H30 := Lib.hid h30
  have H31 := Lib.hid h31
  have H32 := Lib.hid h32
  have hw3' : ((w.alloc (.cells (stArr zst) 24)).alloc (.cells #[.int .i8 2, .int .i64 0, .int .i64 0, .int .i64 0, .int .i64 3, .int .u8 1, .int .u8 0, .int .u8 0, .int .u8 0, .int .u8 0, .int .u8 0, .int .u8 0, .int .u8 0, .int .i64 0] 36)).alloc (.cells #[.int .i8 1, .int .i64 0, .int .i64 0, .int .i64 0, .int .i64 3, .int .u8 1, .int .u8 0, .int .u8 0, .int .u8 0, .int .u8 0, .int .u8 0, .int .u8 0, .int .u8 0, .int .i64 0] 36) = w3 := hw3
  have HW3 := Lib.hid hw3'
  clear h30 h31 h32 hw3 hw3'
  go_wp2_with (first | (refine wpList_build2 rfl (.tmp 16) (.tmp 17) rfl wkW wkR rfl rfl ?_) | (rw [zero24]) | (rw [HW3.out]; refine wpList_load rfl 24 (.tmp 1) rfl ⟨w.heap.size, 0, none⟩ rfl (.agg (stArr zst)) (ld_all H30.out zst_length) ?_) | (refine wpList_load rfl 36 (.tmp 2) rfl ⟨w.heap.size + 1, 0, none⟩ rfl (.agg (snArr wkW)) (ld_sn H31.out) ?_) | (refine wpList_load rfl 36 (.tmp 3) rfl ⟨w.heap.size + 1 + 1, 0, none⟩ rfl (.agg (snArr wkR)) (ld_sn H32.out) ?_))
  refine (show Calls Try.prog 15 #[.agg (stArr zst), .slice (some ⟨w3.heap.size, 0, none⟩) 2 2] (w3.alloc (.cells (snArr wkW ++ snArr wkR) 36)) _ from do_wk1 w3).mono ?_
  rintro e w4 ⟨s2, hs2, rfl, hb4⟩
  have hb4' := (below_alloc1 (w := w3) (.cells (snArr wkW ++ snArr wkR) 36)).trans (hb4.mono (by simp))
  obtain ⟨w5, hw5⟩ : ∃ w5, (w4.alloc (.cells (stArr zst) 24)).setRow w4.heap.size (stArr s2) = w5 := ⟨_, rfl⟩
  have hb5 : Below w3.heap.size w3 w5 := by
    rw [← hw5]
    have := hb4'.alloc hb4'.size (.cells (stArr zst) 24)
    exact this.grown (grownBy_setRow _ _ _) this.size (fun k e => by cases e; exact hb4'.size)
  have H50 := Lib.hid ((hb5.block _ (lt_of_heap H30.out)).trans H30.out)
  have H51 := Lib.hid ((hb5.block _ (lt_of_heap H31.out)).trans H31.out)
  have H52 := Lib.hid ((hb5.block _ (lt_of_heap H32.out)).trans H32.out)
  have HB5 := Lib.hid (hb3.trans (hb5.mono hb3.size))
  have HW5 := Lib.hid hw5
  clear hb4 hb4' hb5 hw5
  go_wp2_with (first | (refine wpList_build2 rfl (.tmp 25) (.tmp 26) rfl wkR wkW rfl rfl ?_) | (rw [zero24]; refine wpList_store rfl 24 (.tmp 4) (.tmp 20) rfl ⟨w4.heap.size, 0, none⟩ rfl (.agg (stArr s2)) rfl (st_all _ (heap_alloc_new w4 _) zst_length hs2) ?_; rw [HW5.out]) | (refine wpList_load rfl 24 (.tmp 1) rfl ⟨w.heap.size, 0, none⟩ rfl (.agg (stArr zst)) (ld_all H50.out zst_length) ?_) | (refine wpList_load rfl 36 (.tmp 2) rfl ⟨w.heap.size + 1, 0, none⟩ rfl (.agg (snArr wkW)) (ld_sn H51.out) ?_) | (refine wpList_load rfl 36 (.tmp 3) rfl ⟨w.heap.size + 1 + 1, 0, none⟩ rfl (.agg (snArr wkR)) (ld_sn H52.out) ?_) | (go_at_call 15; refine (show Calls Try.prog 15 #[.agg (stArr zst), .slice (some ⟨w5.heap.size, 0, none⟩) 2 2] (w5.alloc (.cells (snArr wkR ++ snArr wkW) 36)) _ from do_wk2 w5).mono ?_; rintro e w6 ⟨s3, hs3, rfl, hb6⟩; have hb6' := (below_alloc1 (w := w5) (.cells (snArr wkR ++ snArr wkW) 36)).trans (hb6.mono (by simp)); obtain ⟨w7, hw7⟩ : ∃ w7, (w6.alloc (.cells (stArr zst) 24)).setRow w6.heap.size (stArr s3) = w7 := ⟨_, rfl⟩; have hb7 : Below w5.heap.size w5 w7 := (by rw [← hw7]; have := hb6'.alloc hb6'.size (.cells (stArr zst) 24); exact this.grown (grownBy_setRow _ _ _) this.size (fun k e => by cases e; exact hb6'.size)); have HB7 := Lib.hid (HB5.out.trans (hb7.mono HB5.out.size)); have HW7 := Lib.hid hw7; clear hb6 hb6' hb7 hw7) | (rw [zero24]; refine wpList_store rfl 24 (.tmp 7) (.tmp 29) rfl ⟨w6.heap.size, 0, none⟩ rfl (.agg (stArr s3)) rfl (st_all _ (heap_alloc_new w6 _) zst_length hs3) ?_; rw [HW7.out]))
  go_ret
  exact ⟨rfl, HB7.out⟩

end Go.Proofs.Ytgdmgeihgkbjaaa
