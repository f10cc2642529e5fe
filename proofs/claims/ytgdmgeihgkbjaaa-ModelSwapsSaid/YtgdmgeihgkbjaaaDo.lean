/- 'model.Do' -/
import Derived.Test.YtgdmgeihgkbjaaaFill
import Derived.Test.YtgdmgeihgkbjaaaDraw
import Derived.Shelf.RegionOpen
namespace Go.Proofs.Ytgdmgeihgkbjaaa
open Go.RowKit Go.Shelf
attribute [local go_sem] Oper.semAt_some

def z8 : V8 := ⟨0, 0, 0, 0, 0, 0, 0, 0⟩
def zst : List V8 := List.replicate 32 z8
theorem zero24 : Try.zeroCells24 = stArr zst := by kernel_rfl

def mayL (l : List Sn) : Bool := l.all Sn.ok

theorem mayE_ne0 : ∀ (l : List Sn) (e : Int), e ≠ 0 → mayE l e ≠ 0
  | [], e, h => h
  | x :: l, e, h => by
    simp only [mayE]
    split
    · exact mayE_ne0 l _ (by split <;> first | exact h | decide)
    · decide

theorem mayE_zero : ∀ (l : List Sn), mayE l 0 = 0 ↔ mayL l = true
  | [] => by simp [mayE, mayL]
  | x :: l => by
    simp only [mayE, mayL, List.all_cons, Bool.and_eq_true, Sn.ok]
    cases h1 : x.rw
    · simp
    · cases h2 : x.inB
      · simp only [if_true, Bool.false_eq_true, if_false, and_false, false_and, iff_false]
        exact mayE_ne0 l 230 (by decide)
      · simp only [if_true, and_self, true_and]
        exact mayE_zero l

theorem stepsOf_all : ∀ (l : List Sn) (i : Nat), mayL l = true → (stepsOf l i).map (·.2) = l
  | [], _, _ => rfl
  | x :: l, i, h => by
    simp only [mayL, List.all_cons, Bool.and_eq_true] at h
    simp only [stepsOf, h.1, if_true, List.map_cons, stepsOf_all l (i + 1) h.2]

theorem stepsOf_at : ∀ (l : List Sn) (k i : Nat) (x : Sn), (i, x) ∈ stepsOf l k → k ≤ i ∧ l[i - k]? = some x
  | [], _, _, _, h => by simp [stepsOf] at h
  | y :: l, k, i, x, h => by
    simp only [stepsOf] at h
    have key : (i, x) ∈ stepsOf l (k + 1) → k ≤ i ∧ (y :: l)[i - k]? = some x := fun h' => by
      obtain ⟨h1, h2⟩ := stepsOf_at l (k + 1) i x h'
      refine ⟨by omega, ?_⟩
      have : i - k = (i - (k + 1)) + 1 := by omega
      rw [this]
      simpa using h2
    split at h
    · rcases List.mem_cons.1 h with h | h
      · cases h; simp
      · exact key h
    · exact key h

set_option maxRecDepth 100000 in
set_option maxHeartbeats 1000000 in
theorem fill_err (l : List Sn) (v : Value) (s : List V8) (w : World) (hl : l.length ≤ 100000) (hv : Sns w.heap.size w v l) (hm : mayE l 0 ≠ 0) :
    Calls Try.prog 17 #[.agg (stArr s), v] w fun e w' => e = .returned (.tuple #[.slice none 0 0, .int .i64 (mayE l 0)]) ∧ Below w.heap.size w w' := by
  have hne : (mayE l 0 != 0) = true := by simpa using hm
  go_enter Try.func17, Try.ntmps17
  go_wp2_with fail
  have hw2 : Below w.heap.size w ((w.alloc (.cells (stArr s) 24)).alloc (.cells #[.slice none 0 0] 25)) := ((Below.refl _ _).alloc (Nat.le_refl _) _).alloc (by simp) _
  have hbO : ((w.alloc (.cells (stArr s) 24)).alloc (.cells #[.slice none 0 0] 25)).heap[w.heap.size + 1]? = some (.cells #[.slice none 0 0] 25 (0, 0)) := heap_alloc2_new w _ _
  refine (may_any l v _ hl ((hv.below hw2).mono hw2.size)).mono ?_
  rintro e w1 ⟨rfl, hb1⟩
  have hw1 : Below w.heap.size w w1 := hw2.trans (hb1.mono hw2.size)
  have hbO1 : Boxed w1 (w.heap.size + 1) 25 (.slice none 0 0) := (hb1.block _ (lt_of_heap hbO)).trans hbO
  have hc := hbO1.cell
  have hf := hbO1.frozen
  have hv2 := (hbO1.set (.slice none 0 0)).cell
  clear hb1 hbO hw2 hbO1
  go_wp2
  exact bodyPost_ret (v := .tuple #[.slice none 0 0, .int .i64 (mayE l 0)]) (by simp [results, Try.results17, go_sem, hv2]) rfl ⟨rfl, hw1.setCell (p := ⟨w.heap.size + 1, 0, none⟩) (by simp) _⟩

/-- 'model.Fill', in one: what comes of it. -/
theorem fill_any (l : List Sn) (v : Value) (s : List V8) (hs : s.length = 32) (w : World) (hl : l.length ≤ 100000) (hv : Sns w.heap.size w v l) (hm : mayE l 0 = 0) :
    Calls Try.prog 17 #[.agg (stArr s), v] w fun e w' => ∃ vo, e = .returned (.tuple #[vo, .int .i64 0]) ∧ w'.ownsRow w.heap.size 36 14 vo l.length ((fillL s l).flatMap Sn.cells) ∧ Below w.heap.size w w' := by
  refine (fill_ok l v s hs w hl hv hm).mono ?_
  rintro e w' ⟨vo, he, hrow, hb⟩
  rw [stepsOf_all l 0 ((mayE_zero l).1 hm), fillL_length] at hrow
  exact ⟨vo, he, hrow, hb⟩

def toldP (r : List Sn) (pre : List (Nat × Sn)) : Bool := pre.all fun p => decide (p.2 = (r[p.1]?).getD p.2)

/-- Behind the steps ys: 'after' has what they wrote, 'told' whether each was as it should be. -/
def DoI (w : World) (s : List V8) (r : List Sn) (Br : Nat) (vr : Value) (ys : List (Nat × Sn)) (W : World) : Prop :=
  W.heap[w.heap.size + 1]? = some (.cells (stArr (foldSt s (ys.map (·.2)))) 24 (0, 0)) ∧ Boxed W (w.heap.size + 1 + 1) 4 (.bool (toldP r ys)) ∧
  Boxed W Br 25 vr ∧ W.ownsRow (w.heap.size + 3) 36 14 vr r.length (r.flatMap Sn.cells) ∧ Below w.heap.size w W

theorem DoI.own {β : Type} {B : Nat} {w : World} {s : List V8} {r : List Sn} {Br : Nat} {vr : Value} (f : β → List (Nat × Sn)) (hB : w.heap.size ≤ B) : OwnFrom B (fun b W => DoI w s r Br vr (f b) W) := by
  rintro b W W' row ⟨h1, h2, h3, h4, h5⟩ hg hr
  exact ⟨kept_cells hg hr h1, kept_cells hg hr h2, kept_cells hg hr h3, kept_owns hg hr h4, kept_below h5 (Nat.le_refl _) hB hg hr⟩

/-- In a round of Do's loop. -/
structure DoB (w : World) (r : List Sn) (Br : Nat) (vr : Value) (n : Nat) (cur : List V8) (told : Bool) (Bx : Nat) (x : Sn) (W0 Wb W : World) : Prop where
  aft : W.heap[w.heap.size + 1]? = some (.cells (stArr cur) 24 (0, 0))
  told : Boxed W (w.heap.size + 1 + 1) 4 (.bool told)
  right : Boxed W Br 25 vr
  row : W.ownsRow (w.heap.size + 3) 36 14 vr n (r.flatMap Sn.cells)
  bx : W.heap[Bx]? = some (.cells (snArr x) 36 (0, 0))
  fr : KeepsFrom W0.heap.size Wb W
  kp : Below w.heap.size Wb W

theorem DoB.drew {w : World} {r : List Sn} {Br : Nat} {vr : Value} {n : Nat} {cur : List V8} {told : Bool} {Bx : Nat} {x : Sn} {W0 Wb W : World} (h : DoB w r Br vr n cur told Bx x W0 Wb W) : DoB w r Br vr n cur told Bx x W0 Wb W.drew :=
  ⟨h.aft, h.told, h.right, h.row, h.bx, h.fr.trans ((KeepsOthers.drew W).from _), h.kp.drew⟩

theorem DoB.turn {w : World} {r : List Sn} {Br : Nat} {vr : Value} {n : Nat} {cur : List V8} {told : Bool} {Bx : Nat} {x : Sn} {W0 Wb W : World} (h : DoB w r Br vr n cur told Bx x W0 Wb W) (hz : w.heap.size + 3 ≤ W0.heap.size) (hw : w.heap.size ≤ Wb.heap.size) (hBr : w.heap.size + 3 ≤ Br) (hBx : w.heap.size + 3 ≤ Bx) (t : Bool) :
    DoB w r Br vr n cur t Bx x W0 Wb (W.setCell ⟨w.heap.size + 1 + 1, 0, none⟩ (.bool t)) := by
  have hg := grownBy_setCell' W (w.heap.size + 1 + 1) (.bool t)
  exact ⟨cells_turn h.aft hg (by omega), h.told.set _, cells_turn h.right hg (by omega), owns_turn h.row hg (not_row h.told (by decide) h.row), cells_turn h.bx hg (by omega), h.fr.trans (from_turn hg (.inl (by omega))), h.kp.grown hg (Nat.le_trans hw h.kp.size) (fun k e => by cases e; omega)⟩

theorem DoB.setAft {w : World} {r : List Sn} {Br : Nat} {vr : Value} {n : Nat} {cur cur' : List V8} {told : Bool} {Bx : Nat} {x : Sn} {W0 Wb W W' : World} (h : DoB w r Br vr n cur told Bx x W0 Wb W) (hz : w.heap.size + 3 ≤ W0.heap.size) (hw : w.heap.size ≤ Wb.heap.size) (hBr : w.heap.size + 3 ≤ Br) (hBx : w.heap.size + 3 ≤ Bx)
    (hg : W.grownBy W' (some (w.heap.size + 1))) (ha : W'.heap[w.heap.size + 1]? = some (.cells (stArr cur') 24 (0, 0))) : DoB w r Br vr n cur' told Bx x W0 Wb W' :=
  ⟨ha, cells_turn h.told hg (by omega), cells_turn h.right hg (by omega), owns_turn h.row hg (not_row h.aft (by decide) h.row), cells_turn h.bx hg (by omega), h.fr.trans (from_turn hg (.inl (by omega))), h.kp.grown hg (Nat.le_trans hw h.kp.size) (fun k e => by cases e; omega)⟩

theorem toldP_snoc (r : List Sn) (pre : List (Nat × Sn)) (p : Nat × Sn) : toldP r (pre ++ [p]) = (toldP r pre && decide (p.2 = (r[p.1]?).getD p.2)) := by simp [toldP]

theorem DoB.done {w : World} {s : List V8} {r : List Sn} {Br : Nat} {vr : Value} {n : Nat} {cur : List V8} {told : Bool} {Bx : Nat} {x : Sn} {W0 Wb W : World} (h : DoB w r Br vr n cur told Bx x W0 Wb W) (h5 : Below w.heap.size w Wb) (hn : n = r.length) {ys : List (Nat × Sn)}
    (hc : foldSt s (ys.map (·.2)) = cur) (ht : toldP r ys = told) : KeepsFrom W0.heap.size Wb W ∧ Below w.heap.size Wb W ∧ DoI w s r Br vr ys W :=
  ⟨h.fr, h.kp, by rw [hc]; exact h.aft, by rw [ht]; exact h.told, h.right, hn ▸ h.row, h5.trans h.kp⟩

theorem DoB.elem {w : World} {r : List Sn} {Br g co : Nat} {n : Nat} {cur : List V8} {told : Bool} {Bx : Nat} {x : Sn} {W0 Wb W : World} (h : DoB w r Br (.slice (some ⟨g, 0, none⟩) n co) n cur told Bx x W0 Wb W) {i : Nat} {y : Sn} (hy : r[i]? = some y) (hn : n = r.length) (hr : 0 < r.length) :
    W.cell? ⟨g, i * 14, none⟩ = some (.int .i8 y.k) ∧ W.cell? ⟨g, i * 14 + 1, none⟩ = some (.int .i64 y.n.s) ∧ W.cell? ⟨g, i * 14 + 2, none⟩ = some (.int .i64 y.n.i) ∧ W.cell? ⟨g, i * 14 + 3, none⟩ = some (.int .i64 y.n.t) ∧
    W.cell? ⟨g, i * 14 + 4, none⟩ = some (.int .i64 y.b) ∧ W.cell? ⟨g, i * 14 + 5, none⟩ = some (.int .u8 y.v.a) ∧ W.cell? ⟨g, i * 14 + 6, none⟩ = some (.int .u8 y.v.b) ∧ W.cell? ⟨g, i * 14 + 7, none⟩ = some (.int .u8 y.v.c) ∧
    W.cell? ⟨g, i * 14 + 8, none⟩ = some (.int .u8 y.v.d) ∧ W.cell? ⟨g, i * 14 + 9, none⟩ = some (.int .u8 y.v.e) ∧ W.cell? ⟨g, i * 14 + 10, none⟩ = some (.int .u8 y.v.f) ∧ W.cell? ⟨g, i * 14 + 11, none⟩ = some (.int .u8 y.v.g) ∧
    W.cell? ⟨g, i * 14 + 12, none⟩ = some (.int .u8 y.v.h) ∧ W.cell? ⟨g, i * 14 + 13, none⟩ = some (.int .i64 y.e) := by
  obtain ⟨g', e', _, _, hrow⟩ := owns_rows Sn.cells_length h.row hr hn
  cases e'
  have := hrow.sn hy
  simp only [snAt, Nat.zero_add] at this
  exact this

theorem eqlop_sn (x y : Sn) (W : World) : ((eqGuard .eql 36 (.tmp 27) (.tmp 31) (snVal x) (snVal y)).run Try.prog W).andThen (fun _ w' => ((binOp .eql 36 (snVal x) (snVal y)).run Try.prog w').andThen fun a w' => .ok (Next.value a) w') = .ok (Next.value (.bool (decide (x = y)))) W := by
  have h1 := run_eqGuard_agg (P := Try.prog) W .eql 36 (.tmp 27) (.tmp 31) (snArr x) (snArr y) (by kernel_rfl)
  have h2 : (binOp .eql 36 (snVal x) (snVal y)).run Try.prog W = .ok (.bool (decide (x = y))) W := eql_sn x y W
  rw [show eqGuard .eql 36 (.tmp 27) (.tmp 31) (snVal x) (snVal y) = eqGuard .eql 36 (.tmp 27) (.tmp 31) (.agg (snArr x)) (.agg (snArr y)) from rfl, h1]
  simp only [Result.andThen_ok, h2]

set_option maxRecDepth 100000 in
set_option maxHeartbeats 2000000 in
theorem do_ok (l : List Sn) (v : Value) (s : List V8) (hs : s.length = 32) (w : World) (hl : l.length ≤ 100000) (hv : Sns w.heap.size w v l) (hm : mayE l 0 = 0) :
    Calls Try.prog 15 #[.agg (stArr s), v] w fun e w' => e = .returned (.tuple #[.agg (stArr (foldSt s l)), .bool (toldP (fillL s l) (stepsOf l 0)), .int .i64 0]) ∧ Below w.heap.size w w' := by
  refine (callsIn_wide (n := 8)).1 ?_
  refine callsIn_of_wp_marks Try.func15 rfl trivial ?_ rfl
  simp only [Try.ntmps15, List.size_toArray, List.length_cons, List.length_nil, Nat.reduceAdd, Nat.reduceSub, Array.replicate_succ, Array.replicate_zero, List.push_toArray, List.append_toArray, List.nil_append, List.cons_append]
  obtain ⟨w3, hw3⟩ : ∃ w3, ((w.alloc (.cells (stArr s) 24)).alloc (.cells (stArr zst) 24)).alloc (.cells #[.bool false] 4) = w3 := ⟨_, rfl⟩
  have h30 : w3.heap[w.heap.size]? = some (.cells (stArr s) 24 (0, 0)) := by
    rw [← hw3, Below.heap_alloc _ _ _ (by simp; omega)]; exact heap_alloc2_old w _ _
  have h31 : w3.heap[w.heap.size + 1]? = some (.cells (stArr zst) 24 (0, 0)) := by
    rw [← hw3, Below.heap_alloc _ _ _ (by simp)]; exact heap_alloc2_new w _ _
  have h32 : Boxed w3 (w.heap.size + 1 + 1) 4 (.bool false) := by
    have := Boxed.new ((w.alloc (.cells (stArr s) 24)).alloc (.cells (stArr zst) 24)) 4 (.bool false)
    rw [hw3] at this
    simpa using this
  have hb3 : Below w.heap.size w w3 := by
    rw [← hw3]; exact ((((Below.refl _ _).alloc (Nat.le_refl _) _).alloc (by simp) _).alloc (by simp; omega) _)
  have hz3 : w3.heap.size = w.heap.size + 3 := by rw [← hw3]; simp
  have H30 := Lib.hid h30
  have H31 := Lib.hid h31
  have H32 := Lib.hid h32
  have HW3 := Lib.hid hw3
  clear h30 h31 h32 hw3
  gi_wp2_with (rw [zero24, HW3.out]; refine wpListIn_load rfl 24 _ rfl ⟨w.heap.size, 0, none⟩ rfl (.agg (stArr s)) (ld_all H30.out hs) ?_)
  refine ⟨trivial, ?_⟩
  have hfill := callsIn_wide (n := 7).2 (fill_any l v s hs w3 hl ((hv.below hb3).mono hb3.size) hm)
  refine hfill.mono ?_
  clear hfill
  rintro e w4 ⟨vo, rfl, hrow4, hb4⟩
  obtain ⟨ao, co, rfl⟩ := ownsRow_slice hrow4
  gi_wp2_with fail
  obtain ⟨w5, hw5⟩ : ∃ w5, w4.alloc (.cells #[.slice ao l.length co] 25) = w5 := ⟨_, rfl⟩
  have hb5 : Below w4.heap.size w4 w5 := hw5 ▸ below_alloc1 _
  have hk5 : Below w3.heap.size w3 w5 := hb4.trans (hb5.mono hb4.size)
  have h50 := (hk5.block _ (lt_of_heap H30.out)).trans H30.out
  have h51 := (hk5.block _ (lt_of_heap H31.out)).trans H31.out
  have h52 : Boxed w5 (w.heap.size + 1 + 1) 4 (.bool false) := (hk5.block _ (lt_of_heap H32.out)).trans H32.out
  have h53 : Boxed w5 w4.heap.size 25 (.slice ao l.length co) := hw5 ▸ Boxed.new _ _ _
  have h54 : w5.ownsRow (w.heap.size + 3) 36 14 (.slice ao l.length co) l.length ((fillL s l).flatMap Sn.cells) := by rw [← hz3, ← hw5]; exact hrow4.alloc _
  have h55 : Below w.heap.size w w5 := hb3.trans (hk5.mono hb3.size)
  have hz4 : w.heap.size + 3 ≤ w4.heap.size := by rw [← hz3]; exact hb4.size
  rw [hw5]
  clear hb5 hk5 H30 H31 H32 HW3 hrow4 hb4
  refine wpIn_region_inv mixed (fun _ => trivial) (by kernel_rfl)
    (fun L a W => a = { tmps := #[.agg (stArr s), v, .pointer (some ⟨w.heap.size, 0, none⟩), undef, .pointer (some ⟨w.heap.size + 1, 0, none⟩), .pointer (some ⟨w.heap.size + 1 + 1, 0, none⟩), .int .i64 0,
        .pointer (some ⟨w4.heap.size, 0, none⟩), undef, undef, .tuple #[.slice ao l.length co, .int .i64 0], .agg (stArr s), v, .tuple #[.slice ao l.length co, .int .i64 0], .slice ao l.length co,
        .int .i64 0, .int .i64 0, .bool false, undef, undef, bif L 0 then .agg (stArr s) else undef, undef, undef, undef, undef, undef, undef, undef, undef, undef, undef, undef, undef, undef, undef, undef, undef, undef, undef, undef, undef, undef, undef, undef], defers := [] } ∧
      W.heap[w.heap.size]? = some (.cells (stArr s) 24 (0, 0)) ∧ W.heap[w.heap.size + 1]? = some (.cells (stArr (bif L 2 then s else zst)) 24 (0, 0)) ∧ Boxed W (w.heap.size + 1 + 1) 4 (.bool (L 1)) ∧
      Boxed W w4.heap.size 25 (.slice ao l.length co) ∧ W.ownsRow (w.heap.size + 3) 36 14 (.slice ao l.length co) l.length ((fillL s l).flatMap Sn.cells) ∧ Below w.heap.size w W) ?_ ?_ ?_
  · exact ⟨rfl, h50, h51, h52, h53, h54, h55.drew⟩
  · refine ⟨stepOK_plain rfl ?_, stepOK_plain rfl ?_, stepOK_plain rfl ?_, trivial⟩
    · rintro L _ W ⟨rfl, g0, g1, g2, g3, g4, g5⟩ hk hd
      refine opIn_load 24 _ rfl ⟨w.heap.size, 0, none⟩ rfl (.agg (stArr s)) (ld_all g0 hs) ⟨?_, g0, ?_, ?_, g3, g4, g5⟩
      · simp [Act.put, upd]
      · simpa [upd] using g1
      · simpa [upd] using g2
    · rintro L _ W ⟨rfl, g0, g1, g2, g3, g4, g5⟩ hk hd
      have hst : (storeVar 4 ⟨w.heap.size + 1 + 1, 0, none⟩ (.bool true)).run Try.prog W = .ok () (W.setCell ⟨w.heap.size + 1 + 1, 0, none⟩ (.bool true)) := by simp [go_sem, g2.cell, g2.frozen]
      have hg := grownBy_setCell' W (w.heap.size + 1 + 1) (.bool true)
      refine opIn_store 4 _ _ rfl ⟨w.heap.size + 1 + 1, 0, none⟩ rfl (.bool true) rfl hst ⟨?_, cells_turn g0 hg (by omega), ?_, ?_, cells_turn g3 hg (by omega), owns_turn g4 hg (not_row g2 (by decide) g4), g5.setCell (p := ⟨w.heap.size + 1 + 1, 0, none⟩) (by simp; omega) _⟩
      · simp [Act.put, upd]
      · simpa [upd] using cells_turn g1 hg (by omega)
      · simpa [upd] using g2.set (.bool true)
    · rintro L _ W ⟨rfl, g0, g1, g2, g3, g4, g5⟩ hk hd
      have hL0 : L 0 = true := by simp [Region.binds] at hd; exact hd.1
      have hg := grownBy_setRow W (w.heap.size + 1) (stArr s)
      refine opIn_store 24 _ _ rfl ⟨w.heap.size + 1, 0, none⟩ rfl (.agg (stArr s)) (by simp [Act.eval, hL0]) (st_all s g1 (by cases L 2 <;> simp [hs, zst]) hs) ⟨?_, cells_turn g0 hg (by omega), ?_, ?_, cells_turn g3 hg (by omega), owns_turn g4 hg (not_row g1 (by decide) g4), g5.grown hg g5.size (fun k e => by cases e; omega)⟩
      · simp [Act.put, upd]
      · simpa [upd] using setRow_heap W _ _ _ _ _ g1
      · have := cells_turn g2 hg (by omega)
        simpa [upd, Boxed] using this
  · rintro L _ W ⟨rfl, g0, g1, g2, g3, g4, g5⟩ hall
    have hL0 := hall 0 (by simp)
    have hL1 := hall 1 (by simp)
    have hL2 := hall 2 (by simp)
    rw [hL0]
    rw [hL1] at g2
    rw [hL2] at g1
    simp only [cond_true] at g1 ⊢
    clear hall hL0 hL1 hL2 h50 h51 h52 h53 h54 h55 hw5
    gi_wp2_with fail
    refine ⟨trivial, ?_⟩
    obtain ⟨a, cap, rfl, hnil, ha⟩ := hv
    refine (callsIn_wide.2 (steps_any _ _ ⟨_, _, _, rfl⟩)).mono ?_
    rintro e w6 ⟨rfl, rfl⟩
    have HA := Lib.hid ha
    have HN := Lib.hid hnil
    clear ha hnil
    gi_wp2_with fail
    obtain ⟨W0, hW0⟩ : ∃ W0, W.alloc (.cells #[.slice a l.length cap] 25) = W0 := ⟨_, rfl⟩
    have hk0 : Below W.heap.size W W0 := hW0 ▸ below_alloc1 _
    have hsz0 : W0.heap.size = W.heap.size + 1 := by rw [← hW0]; simp
    have hBs0 : W0.cell? ⟨W.heap.size, 0, none⟩ = some (.slice a l.length cap) := by rw [← hW0]; exact (Boxed.new W 25 _).cell
    have hw0 : Below w.heap.size w W0 := g5.trans (hk0.mono g5.size)
    have hzW : w4.heap.size + 1 ≤ W.heap.size := by have := lt_of_heap g3; omega
    have hI0 : DoI w s (fillL s l) w4.heap.size (.slice ao l.length co) [] W0 := by
      refine ⟨?_, ?_, ?_, ?_, hw0⟩
      · exact (hk0.block _ (lt_of_heap g1)).trans g1
      · exact (hk0.block _ (lt_of_heap g2)).trans g2
      · exact (hk0.block _ (lt_of_heap g3)).trans g3
      · rw [fillL_length, ← hW0]; exact g4.alloc _
    rw [hW0]
    clear g0 g1 g2 g3 g4
    have hseq := steps1_in 7 (by omega) W.heap.size w.heap.size a cap l hl W0 HN.out (fun b off s' e h => ⟨(HA.out b off s' e h).1, (HA.out b off s' e h).2.1, (HA.out b off s' e h).2.2.below (HA.out b off s' e h).2.1 hw0⟩) hw0.size hBs0
    unfold SeqC at hseq
    refine wpIn_rangeFunc_ownH (F := Fence.wide) (n := 8) rfl (by omega) (gf := 66) (lb := #[.pointer (some ⟨W.heap.size, 0, none⟩)]) rfl trivial (enters_of Try.func66 (by kernel_rfl) rfl) hseq
      belowK_t (belowK_b hw0.size) (Below.refl _ _) (fun _ => rfl)
      (fun pre W => DoI w s (fillL s l) w4.heap.size (.slice ao l.length co) (pre.map (·.1)) W) (fun _ _ _ => False) (DoI.own _ (by omega)) (fun _ _ _ _ _ hs _ _ => hs) hI0
      (fun x a' Wb => ∃ Bx, w.heap.size + 3 ≤ Bx ∧ Wb.heap[Bx]? = some (.cells (snArr x.1.2) 36 (0, 0)) ∧ a' = { tmps := #[.agg (stArr s), .slice a l.length cap, .pointer (some ⟨w.heap.size, 0, none⟩), undef, .pointer (some ⟨w.heap.size + 1, 0, none⟩), .pointer (some ⟨w.heap.size + 1 + 1, 0, none⟩), .int .i64 0,
        .pointer (some ⟨w4.heap.size, 0, none⟩), .int .i64 (x.1.1 : Int), .pointer (some ⟨Bx, 0, none⟩), .tuple #[.slice ao l.length co, .int .i64 0], .agg (stArr s), .slice a l.length cap, .tuple #[.slice ao l.length co, .int .i64 0], .slice ao l.length co,
        .int .i64 0, .int .i64 0, .bool false, undef, undef, .agg (stArr s), .slice a l.length cap, .func (.func 66) #[] #[.pointer (some ⟨W.heap.size, 0, none⟩)], .int .i64 (x.1.1 : Int), snVal x.1.2, undef, undef, undef, undef, undef, undef, undef, undef, undef, undef, undef, undef, undef, undef, undef, undef, undef, undef, undef], defers := [] })
      (fun x a' _ W W' row ⟨Bx, h1, h2, h3⟩ hg hr => ⟨Bx, h1, kept_cells hg hr h2, h3⟩) ?assign ?body ?done ?stop
    case assign =>
      rintro lp pre ⟨⟨i, x⟩, hx⟩ W K hi hK
      simp only [encIS, snVal]
      have hI' : DoI w s (fillL s l) w4.heap.size (.slice ao l.length co) (pre.map (·.1)) (W.alloc (.cells (snArr x) 36)) :=
        DoI.own (B := w.heap.size) (fun _ : Unit => pre.map (·.1)) (Nat.le_refl _) () W _ none hi (World.grownBy_alloc _ _ _) (fun _ e => by cases e)
      have HI := Lib.hid hi
      clear hi
      gi_wp2
      refine hK _ _ ((KeepsOthers.alloc _ _).from _) ((Below.refl _ _).alloc HI.out.2.2.2.2.size _) hI' ⟨W.heap.size, by have := lt_of_heap HI.out.2.2.1; omega, heap_alloc_new _ _, rfl⟩
    case body =>
      rintro lp pre ⟨⟨i, x⟩, hx⟩ a' Wb hlp hrec ⟨h1, h2, h3, h4, h5⟩ ⟨Bx, hBx, bX, rfl⟩ hlen
      obtain ⟨hok1, hok2⟩ : x.rw = true ∧ x.inB = true := by simpa [Sn.ok] using stepsOf_ok _ _ _ hx
      have hb0 : 0 ≤ x.b := by simp [Sn.inB] at hok2; exact hok2.1
      have hb1 : x.b < 32 := by simp [Sn.inB] at hok2; exact hok2.2
      have hil : i < l.length := by
        have := (stepsOf_at l 0 i x hx).2
        exact (List.getElem?_eq_some_iff.1 this).1
      generalize hr : fillL s l = r at h2 h3 h4
      have hrl : r.length = l.length := by rw [← hr, fillL_length]
      rw [hrl] at h4
      obtain ⟨y, hy⟩ : ∃ y, r[i]? = some y := ⟨_, List.getElem?_eq_getElem (by omega)⟩
      obtain ⟨g, rfl, hgb, hgl, hrow⟩ := owns_rows Sn.cells_length h4 (by omega) hrl.symm
      generalize htb : toldP r (pre.map (·.1)) = tb at h2
      have HTB := Lib.hid htb
      generalize hcur : foldSt s ((pre.map (·.1)).map (·.2)) = cur
      have HC := Lib.hid hcur
      have h1' : Wb.heap[w.heap.size + 1]? = some (.cells (stArr cur) 24 (0, 0)) := by rw [← hcur]; exact h1
      have hj : x.b.toNat < cur.length := by rw [← hcur, foldSt_length, hs]; omega
      have hT0 : DoB w r w4.heap.size (.slice (some ⟨g, 0, none⟩) l.length co) l.length cur tb Bx x W0 Wb Wb := ⟨h1', h2, h3, h4, bX, KeepsFrom.refl _ _, Below.refl _ _⟩
      have hz0' : w.heap.size + 3 ≤ W0.heap.size := by omega
      have hwb : w.heap.size ≤ Wb.heap.size := h5.size
      clear hrec hok2 hrow h4 hlen hseq hI0 h1 h1' h2 h3 bX htb hcur hr
      cases tb
      · gi_wp2_with fail
        refine wpIn_region_closed mixed (fun _ => trivial) (by kernel_rfl)
          (fun L aa Wx => aa = { tmps := #[(.agg (stArr s)), (.slice a l.length cap), (.pointer (some ⟨w.heap.size, 0, none⟩)), undef, (.pointer (some ⟨w.heap.size + 1, 0, none⟩)), (.pointer (some ⟨w.heap.size + 1 + 1, 0, none⟩)), (.int .i64 0), (.pointer (some ⟨w4.heap.size, 0, none⟩)), (.int .i64 (i : Int)), (.pointer (some ⟨Bx, 0, none⟩)), (.tuple #[.slice (some ⟨g, 0, none⟩) l.length co, .int .i64 0]), (.agg (stArr s)), (.slice a l.length cap), (.tuple #[.slice (some ⟨g, 0, none⟩) l.length co, .int .i64 0]), (.slice (some ⟨g, 0, none⟩) l.length co), (.int .i64 0), (.int .i64 0), (.bool false), undef, undef, (.agg (stArr s)), (.slice a l.length cap), (.func (.func 66) #[] #[.pointer (some ⟨W.heap.size, 0, none⟩)]), (.int .i64 (i : Int)), (snVal x), bif L 0 then (.bool false) else undef, bif L 1 then (.bool false) else undef, undef, undef, undef, undef, undef, undef, bif L 8 then (.bool (false)) else undef, undef, undef, undef, undef, undef, undef, undef, undef, undef, undef], defers := [] } ∧ (DoB w r w4.heap.size (.slice (some ⟨g, 0, none⟩) l.length co) l.length cur (selB (L 9) (false) false) Bx x W0 Wb Wx)) ?_ ?_ ?_
        · exact ⟨rfl, hT0.drew⟩
        · refine ⟨?_, ?_, ?_, ?_, ?_, ?_, ?_, ?_, ?_, ?_, trivial⟩
          · rintro L _ Wx ⟨rfl, hT⟩ hcl hk hd
            have hN : L 9 = false := by
              cases hh : L 9 with
              | false => rfl
              | true =>
                have h8 := hcl 9 _ rfl (by simp [hh])
                simp [Region.binds] at h8
                have h1 := hcl 8 _ rfl (by simp [h8])
                simp [Region.binds] at h1
                have h0 := hcl 1 _ rfl (by simp [h1])
                simp [Region.binds] at h0
                simp [hk] at h0
            rw [if_pos (by simp [Region.wanted])]
            refine opIn_value (by intro c h; cases h) (by intro c h; cases h) (by intro c h; cases h) (v := (.bool false)) (w' := Wx) (by simp [execOp, Act.eval, go_sem, hT.told.cell, hN, selB]) ⟨by simp [Act.put, upd], ?_⟩
            simpa [upd] using hT
          · rintro L _ Wx ⟨rfl, hT⟩ hcl hk hd
            have hL0 : L 0 = true := by have h := hd; simp [Region.binds] at h; simp [h]
            rw [if_pos (by simp [Region.wanted])]
            refine opIn_value (by intro c h; cases h) (by intro c h; cases h) (by intro c h; cases h) (v := (.bool false)) (w' := Wx) (by simp [execOp, Act.eval, go_sem, hL0]) ⟨by simp [Act.put, upd], ?_⟩
            simpa [upd] using hT
          · rintro L _ Wx ⟨rfl, hT⟩ hcl hk hd
            have hL1 : L 1 = true := by have h := hd; simp [Region.binds] at h; simp [h]
            rw [if_neg (by simp [Region.wanted, yielded, hL1])]
            refine ⟨by simp [Act.put, upd], ?_⟩
            simpa [upd] using hT
          · rintro L _ Wx ⟨rfl, hT⟩ hcl hk hd
            have hL1 : L 1 = true := by have h := hd; simp [Region.binds] at h; simp [h]
            rw [if_neg (by simp [Region.wanted, yielded, hL1])]
            refine ⟨by simp [Act.put, upd], ?_⟩
            simpa [upd] using hT
          · rintro L _ Wx ⟨rfl, hT⟩ hcl hk hd
            have hL1 : L 1 = true := by have h := hd; simp [Region.binds] at h; simp [h]
            rw [if_neg (by simp [Region.wanted, yielded, hL1])]
            refine ⟨by simp [Act.put, upd], ?_⟩
            simpa [upd] using hT
          · rintro L _ Wx ⟨rfl, hT⟩ hcl hk hd
            have hL1 : L 1 = true := by have h := hd; simp [Region.binds] at h; simp [h]
            rw [if_neg (by simp [Region.wanted, yielded, hL1])]
            refine ⟨by simp [Act.put, upd], ?_⟩
            simpa [upd] using hT
          · rintro L _ Wx ⟨rfl, hT⟩ hcl hk hd
            have hL1 : L 1 = true := by have h := hd; simp [Region.binds] at h; simp [h]
            rw [if_neg (by simp [Region.wanted, yielded, hL1])]
            refine ⟨by simp [Act.put, upd], ?_⟩
            simpa [upd] using hT
          · rintro L _ Wx ⟨rfl, hT⟩ hcl hk hd
            have hL1 : L 1 = true := by have h := hd; simp [Region.binds] at h; simp [h]
            rw [if_neg (by simp [Region.wanted, yielded, hL1])]
            refine ⟨by simp [Act.put, upd], ?_⟩
            simpa [upd] using hT
          · rintro L _ Wx ⟨rfl, hT⟩ hcl hk hd
            have hL1 : L 1 = true := by have h := hd; simp [Region.binds] at h; simp [h]
            rw [if_pos (by simp [Region.wanted])]
            refine opIn_value (by intro c h; cases h) (by intro c h; cases h) (by intro c h; cases h) (v := (.bool (false))) (w' := Wx) (by simp [execOp, Act.eval, go_sem, hL1]) ⟨by simp [Act.put, upd], ?_⟩
            simpa [upd] using hT
          · rintro L _ Wx ⟨rfl, hT⟩ hcl hk hd
            have hL8 : L 8 = true := by have h := hd; simp [Region.binds] at h; simp [h]
            rw [if_pos (by simp [Region.wanted])]
            refine opIn_store 4 _ _ rfl ⟨w.heap.size + 1 + 1, 0, none⟩ (by simp [Act.eval]) (.bool (false)) (by simp [Act.eval, hL8]) (by simp [go_sem, hT.told.cell, hT.told.frozen]; rfl) ⟨by simp [Act.put, upd], ?_⟩
            rw [show selB (upd L 9 9) (false) false = (false) from by simp [upd, selB]]
            exact hT.turn hz0' hwb hz4 hBx (false)
        · rintro L _ W' ⟨rfl, hT⟩ hall
          have hA0 : L 0 = true := hall 0 (by simp)
          have hA1 : L 1 = true := hall 1 (by simp)
          have hA8 : L 8 = true := hall 8 (by simp)
          have hA9 : L 9 = true := hall 9 (by simp)
          simp only [hA0, hA1, hA8, cond_true]
          have hT' : DoB w r w4.heap.size (.slice (some ⟨g, 0, none⟩) l.length co) l.length cur (false && decide (x = y)) Bx x W0 Wb W' := by
            rw [hA9] at hT
            simpa [selB] using hT
          obtain ⟨c0, c1, c2, c3, c4, c5, c6, c7, c8, c9, c10, c11, c12, c13⟩ := snArr_at hT'.bx
          have HT := Lib.hid hT'
          clear hT hT' hT0 hall
          by_cases hk : x.k = 2
          · have e1 : (x.k == 2) = true := by simp [hk]
            have hstep : stepSt cur x = cur.set x.b.toNat x.v := by simp [stepSt, hk]
            have HS := Lib.hid hstep
            clear hk hstep
            gi_wp2_with (refine wpListIn_store_st rfl _ _ rfl (w.heap.size + 1) x.b.toNat rfl x.v rfl HT.out.aft hj ?_; intro W2 hg2 hst2; have HT2 := Lib.hid (HT.out.setAft hz0' hwb hz4 hBx hg2 hst2); clear hst2 hg2)
            exact HT2.out.done h5 hrl.symm (by rw [List.map_append, List.map_append]; exact (foldSt_snoc _ _ _).trans (by rw [HC.out]; exact HS.out)) (by simp [toldP_snoc, HTB.out, hy])
          · have e1 : (x.k == 2) = false := by simp [hk]
            have hstep : stepSt cur x = cur := by simp [stepSt, hk]
            have HS := Lib.hid hstep
            clear hk hstep
            gi_wp2_with fail
            exact HT.out.done h5 hrl.symm (by rw [List.map_append, List.map_append]; exact (foldSt_snoc _ _ _).trans (by rw [HC.out]; exact HS.out)) (by simp [toldP_snoc, HTB.out, hy])
      · gi_wp2_with fail
        refine wpIn_region_closed mixed (fun _ => trivial) (by kernel_rfl)
          (fun L aa Wx => aa = { tmps := #[(.agg (stArr s)), (.slice a l.length cap), (.pointer (some ⟨w.heap.size, 0, none⟩)), undef, (.pointer (some ⟨w.heap.size + 1, 0, none⟩)), (.pointer (some ⟨w.heap.size + 1 + 1, 0, none⟩)), (.int .i64 0), (.pointer (some ⟨w4.heap.size, 0, none⟩)), (.int .i64 (i : Int)), (.pointer (some ⟨Bx, 0, none⟩)), (.tuple #[.slice (some ⟨g, 0, none⟩) l.length co, .int .i64 0]), (.agg (stArr s)), (.slice a l.length cap), (.tuple #[.slice (some ⟨g, 0, none⟩) l.length co, .int .i64 0]), (.slice (some ⟨g, 0, none⟩) l.length co), (.int .i64 0), (.int .i64 0), (.bool false), undef, undef, (.agg (stArr s)), (.slice a l.length cap), (.func (.func 66) #[] #[.pointer (some ⟨W.heap.size, 0, none⟩)]), (.int .i64 (i : Int)), (snVal x), bif L 0 then (.bool true) else undef, bif L 1 then (.bool true) else undef, bif L 2 then (snVal x) else undef, bif L 3 then (.slice (some ⟨g, 0, none⟩) l.length co) else undef, bif L 4 then (.int .i64 (i : Int)) else undef, bif L 5 then (.pointer (some ⟨g, i * 14, none⟩)) else undef, bif L 6 then (snVal y) else undef, bif L 7 then (.bool (decide (x = y))) else undef, bif L 8 then (.bool (decide (x = y))) else undef, undef, undef, undef, undef, undef, undef, undef, undef, undef, undef], defers := [] } ∧ (DoB w r w4.heap.size (.slice (some ⟨g, 0, none⟩) l.length co) l.length cur (selB (L 9) (decide (x = y)) true) Bx x W0 Wb Wx)) ?_ ?_ ?_
        · exact ⟨rfl, hT0.drew⟩
        · refine ⟨?_, ?_, ?_, ?_, ?_, ?_, ?_, ?_, ?_, ?_, trivial⟩
          · rintro L _ Wx ⟨rfl, hT⟩ hcl hk hd
            have hN : L 9 = false := by
              cases hh : L 9 with
              | false => rfl
              | true =>
                have h8 := hcl 9 _ rfl (by simp [hh])
                simp [Region.binds] at h8
                have h1 := hcl 8 _ rfl (by simp [h8])
                simp [Region.binds] at h1
                have h0 := hcl 1 _ rfl (by simp [h1])
                simp [Region.binds] at h0
                simp [hk] at h0
            rw [if_pos (by simp [Region.wanted])]
            refine opIn_value (by intro c h; cases h) (by intro c h; cases h) (by intro c h; cases h) (v := (.bool true)) (w' := Wx) (by simp [execOp, Act.eval, go_sem, hT.told.cell, hN, selB]) ⟨by simp [Act.put, upd], ?_⟩
            simpa [upd] using hT
          · rintro L _ Wx ⟨rfl, hT⟩ hcl hk hd
            have hL0 : L 0 = true := by have h := hd; simp [Region.binds] at h; simp [h]
            rw [if_pos (by simp [Region.wanted])]
            refine opIn_value (by intro c h; cases h) (by intro c h; cases h) (by intro c h; cases h) (v := (.bool true)) (w' := Wx) (by simp [execOp, Act.eval, go_sem, hL0]) ⟨by simp [Act.put, upd], ?_⟩
            simpa [upd] using hT
          · rintro L _ Wx ⟨rfl, hT⟩ hcl hk hd
            have hL1 : L 1 = true := by have h := hd; simp [Region.binds] at h; simp [h]
            rw [if_pos (by simp [Region.wanted, yielded, hL1])]
            refine opIn_load 36 _ rfl ⟨Bx, 0, none⟩ (by simp [Act.eval]) (snVal x) (ld_sn hT.bx) ⟨by simp [Act.put, upd], ?_⟩
            simpa [upd] using hT
          · rintro L _ Wx ⟨rfl, hT⟩ hcl hk hd
            have hL1 : L 1 = true := by have h := hd; simp [Region.binds] at h; simp [h]
            rw [if_pos (by simp [Region.wanted, yielded, hL1])]
            refine opIn_value (by intro c h; cases h) (by intro c h; cases h) (by intro c h; cases h) (v := (.slice (some ⟨g, 0, none⟩) l.length co)) (w' := Wx) (by simp [execOp, Act.eval, go_sem, hT.right.cell]) ⟨by simp [Act.put, upd], ?_⟩
            simpa [upd] using hT
          · rintro L _ Wx ⟨rfl, hT⟩ hcl hk hd
            have hL1 : L 1 = true := by have h := hd; simp [Region.binds] at h; simp [h]
            rw [if_pos (by simp [Region.wanted, yielded, hL1])]
            refine opIn_value (by intro c h; cases h) (by intro c h; cases h) (by intro c h; cases h) (v := (.int .i64 (i : Int))) (w' := Wx) (by simp [execOp, Act.eval, go_sem]) ⟨by simp [Act.put, upd], ?_⟩
            simpa [upd] using hT
          · rintro L _ Wx ⟨rfl, hT⟩ hcl hk hd
            have hL1 : L 1 = true := by have h := hd; simp [Region.binds] at h; simp [h]
            have hL3 : L 3 = true := by have h := hd; simp [Region.binds] at h; simp [h]
            have hL4 : L 4 = true := by have h := hd; simp [Region.binds] at h; simp [h]
            rw [if_pos (by simp [Region.wanted, yielded, hL1])]
            refine opIn_value (by intro c h; cases h) (by intro c h; cases h) (by intro c h; cases h) (v := (.pointer (some ⟨g, i * 14, none⟩))) (w' := Wx) (by simp [execOp, Act.eval, go_sem, hL3, hL4, hil]) ⟨by simp [Act.put, upd], ?_⟩
            simpa [upd] using hT
          · rintro L _ Wx ⟨rfl, hT⟩ hcl hk hd
            have hL1 : L 1 = true := by have h := hd; simp [Region.binds] at h; simp [h]
            have hL5 : L 5 = true := by have h := hd; simp [Region.binds] at h; simp [h]
            rw [if_pos (by simp [Region.wanted, yielded, hL1])]
            obtain ⟨e0, e1, e2, e3, e4, e5, e6, e7, e8, e9, e10, e11, e12, e13⟩ := hT.elem hy (by omega) (by omega)
            refine opIn_load 36 _ rfl ⟨g, i * 14, none⟩ (by simp [Act.eval, hL5]) (snVal y) (by simp [go_sem, snVal, e0, e1, e2, e3, e4, e5, e6, e7, e8, e9, e10, e11, e12, e13]) ⟨by simp [Act.put, upd], ?_⟩
            simpa [upd] using hT
          · rintro L _ Wx ⟨rfl, hT⟩ hcl hk hd
            have hL1 : L 1 = true := by have h := hd; simp [Region.binds] at h; simp [h]
            have hL2 : L 2 = true := by have h := hd; simp [Region.binds] at h; simp [h]
            have hL6 : L 6 = true := by have h := hd; simp [Region.binds] at h; simp [h]
            rw [if_pos (by simp [Region.wanted, yielded, hL1])]
            refine opIn_value (by intro c h; cases h) (by intro c h; cases h) (by intro c h; cases h) (v := .bool (decide (x = y))) (w' := Wx) (by simp only [execOp, Act.eval]; simp [hL2, hL6]; exact eqlop_sn x y Wx) ⟨by simp [Act.put, upd], ?_⟩
            simpa [upd] using hT
          · rintro L _ Wx ⟨rfl, hT⟩ hcl hk hd
            have hL1 : L 1 = true := by have h := hd; simp [Region.binds] at h; simp [h]
            have hL7 : L 7 = true := by have h := hd; simp [Region.binds] at h; simp [h]
            rw [if_pos (by simp [Region.wanted])]
            refine opIn_value (by intro c h; cases h) (by intro c h; cases h) (by intro c h; cases h) (v := (.bool (decide (x = y)))) (w' := Wx) (by simp [execOp, Act.eval, go_sem, hL1, hL7]) ⟨by simp [Act.put, upd], ?_⟩
            simpa [upd] using hT
          · rintro L _ Wx ⟨rfl, hT⟩ hcl hk hd
            have hL8 : L 8 = true := by have h := hd; simp [Region.binds] at h; simp [h]
            rw [if_pos (by simp [Region.wanted])]
            refine opIn_store 4 _ _ rfl ⟨w.heap.size + 1 + 1, 0, none⟩ (by simp [Act.eval]) (.bool (decide (x = y))) (by simp [Act.eval, hL8]) (by simp [go_sem, hT.told.cell, hT.told.frozen]; rfl) ⟨by simp [Act.put, upd], ?_⟩
            rw [show selB (upd L 9 9) (decide (x = y)) true = (decide (x = y)) from by simp [upd, selB]]
            exact hT.turn hz0' hwb hz4 hBx (decide (x = y))
        · rintro L _ W' ⟨rfl, hT⟩ hall
          have hA0 : L 0 = true := hall 0 (by simp)
          have hA1 : L 1 = true := hall 1 (by simp)
          have hA2 : L 2 = true := hall 2 (by simp)
          have hA3 : L 3 = true := hall 3 (by simp)
          have hA4 : L 4 = true := hall 4 (by simp)
          have hA5 : L 5 = true := hall 5 (by simp)
          have hA6 : L 6 = true := hall 6 (by simp)
          have hA7 : L 7 = true := hall 7 (by simp)
          have hA8 : L 8 = true := hall 8 (by simp)
          have hA9 : L 9 = true := hall 9 (by simp)
          simp only [hA0, hA1, hA2, hA3, hA4, hA5, hA6, hA7, hA8, cond_true]
          have hT' : DoB w r w4.heap.size (.slice (some ⟨g, 0, none⟩) l.length co) l.length cur (true && decide (x = y)) Bx x W0 Wb W' := by
            rw [hA9] at hT
            simpa [selB] using hT
          obtain ⟨c0, c1, c2, c3, c4, c5, c6, c7, c8, c9, c10, c11, c12, c13⟩ := snArr_at hT'.bx
          have HT := Lib.hid hT'
          clear hT hT' hT0 hall
          by_cases hk : x.k = 2
          · have e1 : (x.k == 2) = true := by simp [hk]
            have hstep : stepSt cur x = cur.set x.b.toNat x.v := by simp [stepSt, hk]
            have HS := Lib.hid hstep
            clear hk hstep
            gi_wp2_with (refine wpListIn_store_st rfl _ _ rfl (w.heap.size + 1) x.b.toNat rfl x.v rfl HT.out.aft hj ?_; intro W2 hg2 hst2; have HT2 := Lib.hid (HT.out.setAft hz0' hwb hz4 hBx hg2 hst2); clear hst2 hg2)
            exact HT2.out.done h5 hrl.symm (by rw [List.map_append, List.map_append]; exact (foldSt_snoc _ _ _).trans (by rw [HC.out]; exact HS.out)) (by simp [toldP_snoc, HTB.out, hy])
          · have e1 : (x.k == 2) = false := by simp [hk]
            have hstep : stepSt cur x = cur := by simp [stepSt, hk]
            have HS := Lib.hid hstep
            clear hk hstep
            gi_wp2_with fail
            exact HT.out.done h5 hrl.symm (by rw [List.map_append, List.map_append]; exact (foldSt_snoc _ _ _).trans (by rw [HC.out]; exact HS.out)) (by simp [toldP_snoc, HTB.out, hy])
    case done =>
      rintro D xs Wd hD hS ⟨h1, h2, h3, h4, h5⟩ hK
      have hxs : xs.map (·.1) = stepsOf l 0 := hS
      rw [hxs] at h1 h2
      rw [stepsOf_all l 0 ((mayE_zero l).1 hm)] at h1
      have hfl : (foldSt s l).length = 32 := by rw [foldSt_length, hs]
      generalize hfin : foldSt s l = fin at h1 hfl
      have HFI := Lib.hid hfin
      generalize htt : toldP (fillL s l) (stepsOf l 0) = tt at h2
      have HTT := Lib.hid htt
      clear hseq hI0 h3 h4 hxs hS hfin htt
      gi_wp2_with fail
      refine wpIn_region_closed mixed (fun _ => trivial) (by kernel_rfl)
        (fun L aa Wx => aa = { tmps := #[(.agg (stArr s)), (.slice a l.length cap), (.pointer (some ⟨w.heap.size, 0, none⟩)), undef, (.pointer (some ⟨w.heap.size + 1, 0, none⟩)), (.pointer (some ⟨w.heap.size + 1 + 1, 0, none⟩)), bif L 4 then (.int .i64 0) else (.int .i64 0), (.pointer (some ⟨w4.heap.size, 0, none⟩)), undef, undef, (.tuple #[.slice ao l.length co, .int .i64 0]), (.agg (stArr s)), (.slice a l.length cap), (.tuple #[.slice ao l.length co, .int .i64 0]), (.slice ao l.length co), (.int .i64 0), (.int .i64 0), (.bool false), undef, undef, (.agg (stArr s)), (.slice a l.length cap), (.func (.func 66) #[] #[.pointer (some ⟨W.heap.size, 0, none⟩)]), undef, undef, undef, undef, undef, undef, undef, undef, undef, undef, undef, undef, undef, undef, undef, undef, undef, undef, undef, bif L 0 then (.agg (stArr fin)) else undef, bif L 1 then (.bool tt) else undef], defers := [{ target := .collected D, args := #[] }] } ∧ (Wx.heap[w.heap.size + 1]? = some (.cells (stArr fin) 24 (0, 0)) ∧ Boxed Wx (w.heap.size + 1 + 1) 4 (.bool tt) ∧ Wx.heap[D]? = some (.deferred (some [])) ∧ Below w.heap.size w Wx)) ?_ ?_ ?_
      · exact ⟨rfl, ⟨h1, h2, hK, h5.drew⟩⟩
      · refine ⟨?_, ?_, ?_, ?_, ?_, trivial⟩
        · rintro L _ Wx ⟨rfl, hT⟩ hcl hk hd
          rw [if_pos (by simp [Region.wanted])]
          refine opIn_load 24 _ rfl ⟨w.heap.size + 1, 0, none⟩ (by simp [Act.eval]) (.agg (stArr fin)) (ld_all hT.1 hfl) ⟨by simp [Act.put, upd], ?_⟩
          simpa [upd] using hT
        · rintro L _ Wx ⟨rfl, hT⟩ hcl hk hd
          rw [if_pos (by simp [Region.wanted])]
          refine opIn_value (by intro c h; cases h) (by intro c h; cases h) (by intro c h; cases h) (v := (.bool tt)) (w' := Wx) (by simp [execOp, Act.eval, go_sem, hT.2.1.cell]) ⟨by simp [Act.put, upd], ?_⟩
          simpa [upd] using hT
        · rintro L _ Wx ⟨rfl, hT⟩ hcl hk hd
          have hL0 : L 0 = true := by have h := hd; simp [Region.binds] at h; simp [h]
          rw [if_pos (by simp [Region.wanted])]
          have hg := grownBy_setRow Wx (w.heap.size + 1) (stArr fin)
          refine opIn_store 24 _ _ rfl ⟨w.heap.size + 1, 0, none⟩ (by simp [Act.eval]) (.agg (stArr fin)) (by simp [Act.eval, hL0]) (st_all fin hT.1 hfl hfl) ⟨by simp [Act.put, upd], ?_⟩
          exact ⟨setRow_heap Wx _ _ _ _ _ hT.1, cells_turn hT.2.1 hg (by omega), cells_turn hT.2.2.1 hg (by omega), hT.2.2.2.grown hg hT.2.2.2.size (fun k e => by cases e; omega)⟩
        · rintro L _ Wx ⟨rfl, hT⟩ hcl hk hd
          have hL1 : L 1 = true := by have h := hd; simp [Region.binds] at h; simp [h]
          rw [if_pos (by simp [Region.wanted])]
          have hg := grownBy_setCell' Wx (w.heap.size + 1 + 1) (.bool tt)
          refine opIn_store 4 _ _ rfl ⟨w.heap.size + 1 + 1, 0, none⟩ (by simp [Act.eval]) (.bool tt) (by simp [Act.eval, hL1]) (by simp [go_sem, hT.2.1.cell, hT.2.1.frozen]; rfl) ⟨by simp [Act.put, upd], ?_⟩
          exact ⟨cells_turn hT.1 hg (by omega), hT.2.1.set _, cells_turn hT.2.2.1 hg (by omega), hT.2.2.2.grown hg hT.2.2.2.size (fun k e => by cases e; omega)⟩
        · rintro L _ Wx ⟨rfl, hT⟩ hcl hk hd
          rw [if_pos (by simp [Region.wanted])]
          refine opIn_value (by intro c h; cases h) (by intro c h; cases h) (by intro c h; cases h) (v := (.int .i64 0)) (w' := Wx) (by simp [execOp, Act.eval, go_sem]) ⟨by simp [Act.put, upd], ?_⟩
          simpa [upd] using hT
      · rintro L _ W' ⟨rfl, hT⟩ hall
        have hA0 : L 0 = true := hall 0 (by simp)
        have hA1 : L 1 = true := hall 1 (by simp)
        have hA2 : L 2 = true := hall 2 (by simp)
        have hA3 : L 3 = true := hall 3 (by simp)
        have hA4 : L 4 = true := hall 4 (by simp)
        simp only [hA0, hA1, hA4, cond_true]
        obtain ⟨t1, t2, t3, t4⟩ := hT
        clear hall
        gi_wp2_with fail
        have hl1 := ld_all t1 hfl
        have hp : (W'.putObj D (.deferred none)).heap[w.heap.size + 1]? = some (.cells (stArr fin) 24 (0, 0)) := (World.putObj_heap_other (by omega)).trans t1
        have hp2 : Boxed (W'.putObj D (.deferred none)) (w.heap.size + 1 + 1) 4 (.bool tt) := (World.putObj_heap_other (by omega)).trans t2
        refine ⟨by simp, .inl ⟨_, _, rfl, run_takeDeferred t3, ?_⟩⟩
        refine ⟨.tuple #[.agg (stArr fin), .bool tt, .int .i64 0], results_cct Try.results15 rfl (ld_all hp hfl) rfl (by simp [go_sem, hp2.cell]) rfl, by rw [HFI.out, HTT.out], ?_⟩
        exact t4.trans (belowK_b hw0.size _ D _ _ hD t3 rfl rfl)
    case stop =>
      rintro D c pre W _ _ h _
      exact h.elim

end Go.Proofs.Ytgdmgeihgkbjaaa
