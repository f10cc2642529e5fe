/- 'model.Do' where the steps may not be; 'model.Writes', 'model.Reads' -/
import Derived.Test.YtgdmgeihgkbjaaaTouch
namespace Go.Proofs.Ytgdmgeihgkbjaaa
open Go.RowKit Go.Shelf

theorem zst_length : zst.length = 32 := by simp [zst]

theorem st_bool {W : World} {B : Nat} {v : Value} (b : Bool) (h : Boxed W B 4 v) : (storeVar 4 ⟨B, 0, none⟩ (.bool b)).run Try.prog W = .ok () (W.setCell ⟨B, 0, none⟩ (.bool b)) := by
  simp [go_sem, h.cell, h.frozen]

set_option maxRecDepth 100000 in
set_option maxHeartbeats 1000000 in
theorem do_err (l : List Sn) (v : Value) (s : List V8) (hs : s.length = 32) (w : World) (hl : l.length ≤ 100000) (hv : Sns w.heap.size w v l) (hm : mayE l 0 ≠ 0) :
    Calls Try.prog 15 #[.agg (stArr s), v] w fun e w' => e = .returned (.tuple #[.agg (stArr zst), .bool false, .int .i64 (mayE l 0)]) ∧ Below w.heap.size w w' := by
  have hne : (mayE l 0 != 0) = true := by simpa using hm
  go_enter Try.func15, Try.ntmps15
  obtain ⟨w3, hw3⟩ : ∃ w3, ((w.alloc (.cells (stArr s) 24)).alloc (.cells (stArr zst) 24)).alloc (.cells #[.bool false] 4) = w3 := ⟨_, rfl⟩
  have h30 : w3.heap[w.heap.size]? = some (.cells (stArr s) 24 (0, 0)) := by
    rw [← hw3, Below.heap_alloc _ _ _ (by simp; omega)]; exact heap_alloc2_old w _ _
  have h31 : w3.heap[w.heap.size + 1]? = some (.cells (stArr zst) 24 (0, 0)) := by
    rw [← hw3, Below.heap_alloc _ _ _ (by simp)]; exact heap_alloc2_new w _ _
  have h32 : Boxed w3 (w.heap.size + 1 + 1) 4 (.bool false) := by
    have := Boxed.new ((w.alloc (.cells (stArr s) 24)).alloc (.cells (stArr zst) 24)) 4 (.bool false)
    rw [hw3] at this
    simpa using this
  have hb3 : Below w.heap.size w w3 := by
    rw [← hw3]; exact ((((Below.refl _ _).alloc (Nat.le_refl _) _).alloc (by simp) _).alloc (by simp; omega) _)
  have H30 := Lib.hid h30
  have H31 := Lib.hid h31
  have H32 := Lib.hid h32
  have HW3 := Lib.hid hw3
  clear h30 h31 h32 hw3
  go_wp2_with (rw [zero24, HW3.out]; refine wpList_load rfl 24 _ rfl ⟨w.heap.size, 0, none⟩ rfl (.agg (stArr s)) (ld_all H30.out hs) ?_)
  refine (fill_err l v s w3 hl ((hv.below hb3).mono hb3.size) hm).mono ?_
  rintro e w4 ⟨rfl, hb4⟩
  have hw4 : Below w.heap.size w w4 := hb3.trans (hb4.mono hb3.size)
  have H41 := Lib.hid ((hb4.block _ (lt_of_heap H31.out)).trans H31.out)
  have h42 : Boxed w4 (w.heap.size + 1 + 1) 4 (.bool false) := (hb4.block _ (lt_of_heap H32.out)).trans H32.out
  have HB4 := Lib.hid hw4
  have H42 := Lib.hid h42
  have hc := (h42.alloc (.cells #[.slice none 0 0] 25)).cell
  clear hb4 hw4 h42 hc
  obtain ⟨w5, hw5⟩ : ∃ w5, w4.alloc (.cells #[.slice none 0 0] 25) = w5 := ⟨_, rfl⟩
  have hb5 : Below w4.heap.size w4 w5 := hw5 ▸ below_alloc1 _
  have H51 := Lib.hid ((hb5.block _ (lt_of_heap H41.out)).trans H41.out)
  have h52 : Boxed w5 (w.heap.size + 1 + 1) 4 (.bool false) := (hb5.block _ (lt_of_heap H42.out)).trans H42.out
  have HB5 := Lib.hid (HB4.out.trans (hb5.mono HB4.out.size))
  have H52 := Lib.hid h52
  have HW5 := Lib.hid hw5
  clear hb5 hw5 h52
  go_wp2_with (first | (rw [HW5.out]; refine wpList_load rfl 24 _ rfl ⟨w.heap.size + 1, 0, none⟩ rfl (.agg (stArr zst)) (ld_all H51.out zst_length) ?_) | (refine wpList_load rfl 24 _ rfl ⟨w.heap.size + 1, 0, none⟩ rfl (.agg (stArr zst)) (ld_all H51.out zst_length) ?_) | (refine wpList_store rfl 24 _ _ rfl ⟨w.heap.size + 1, 0, none⟩ rfl (.agg (stArr zst)) rfl (st_all zst H51.out zst_length zst_length) ?_; have HG := Lib.hid (grownBy_setRow w5 (w.heap.size + 1) (stArr zst)); have H61 := Lib.hid (setRow_heap w5 _ _ (stArr zst) 24 _ H51.out); obtain ⟨w6, hw6⟩ : ∃ w6, w5.setRow (w.heap.size + 1) (stArr zst) = w6 := ⟨_, rfl⟩; rw [hw6]; have HW6 := Lib.hid hw6; clear hw6) | (refine wpList_store rfl 4 _ _ rfl ⟨w.heap.size + 1 + 1, 0, none⟩ rfl (.bool false) rfl (st_bool false (cells_turn H52.out (HW6.out ▸ HG.out) (by omega))) ?_))
  have hb := H52.out
  have h61 := H61.out
  have hg := HG.out
  rw [HW6.out] at h61 hg
  have h62 : Boxed w6 (w.heap.size + 1 + 1) 4 (.bool false) := cells_turn hb hg (by omega)
  have hg2 := grownBy_setCell' w6 (w.heap.size + 1 + 1) (.bool false)
  have h71 := ld_all (cells_turn h61 hg2 (by omega)) zst_length
  have h72 := (h62.set (.bool false)).cell
  exact bodyPost_ret (v := .tuple #[.agg (stArr zst), .bool false, .int .i64 (mayE l 0)]) (results_cct Try.results15 rfl h71 rfl (by simp [go_sem, h72]) rfl) rfl ⟨rfl, (HB5.out.grown hg HB5.out.size (fun k e => by cases e; omega)).setCell (p := ⟨w.heap.size + 1 + 1, 0, none⟩) (by simp; omega) _⟩

theorem do_any (l : List Sn) (v : Value) (s : List V8) (hs : s.length = 32) (w : World) (hl : l.length ≤ 100000) (hv : Sns w.heap.size w v l) :
    Calls Try.prog 15 #[.agg (stArr s), v] w fun e w' => Below w.heap.size w w' ∧ (mayE l 0 ≠ 0 ∧ e = .returned (.tuple #[.agg (stArr zst), .bool false, .int .i64 (mayE l 0)]) ∨ mayE l 0 = 0 ∧ e = .returned (.tuple #[.agg (stArr (foldSt s l)), .bool (toldP (fillL s l) (stepsOf l 0)), .int .i64 0])) := by
  by_cases hm : mayE l 0 = 0
  · exact (do_ok l v s hs w hl hv hm).mono fun e w' h => ⟨h.2, .inr ⟨hm, h.1⟩⟩
  · exact (do_err l v s hs w hl hv hm).mono fun e w' h => ⟨h.2, .inl ⟨hm, h.1⟩⟩

set_option maxHeartbeats 400000 in
theorem writes_any (l : List Sn) (v : Value) (w : World) (hl : l.length ≤ 100000) (hv : Sns w.heap.size w v l) :
    Calls Try.prog 16 #[v] w fun e w' => ∃ vw, e = .returned vw ∧ w'.ownsRow w.heap.size 3 1 vw (writesL l).length (intsC (writesL l)) ∧ Below w.heap.size w w' := by
  go_enter Try.func16, Try.ntmps16
  go_wp2_with fail
  refine (touched_any l v w hl hv).mono ?_
  rintro e w1 ⟨vr, vw, rfl, hr, hw, hb⟩
  go_wp2_with fail
  go_ret
  exact ⟨_, rfl, hw, hb⟩

set_option maxHeartbeats 400000 in
theorem reads_any (l : List Sn) (v : Value) (w : World) (hl : l.length ≤ 100000) (hv : Sns w.heap.size w v l) :
    Calls Try.prog 49 #[v] w fun e w' => ∃ vw, e = .returned vw ∧ w'.ownsRow w.heap.size 3 1 vw (readsL l).length (intsC (readsL l)) ∧ Below w.heap.size w w' := by
  go_enter Try.func49, Try.ntmps49
  go_wp2_with fail
  refine (touched_any l v w hl hv).mono ?_
  rintro e w1 ⟨vr, vw, rfl, hr, hw, hb⟩
  go_wp2_with fail
  go_ret
  exact ⟨_, rfl, hr, hb⟩

end Go.Proofs.Ytgdmgeihgkbjaaa
