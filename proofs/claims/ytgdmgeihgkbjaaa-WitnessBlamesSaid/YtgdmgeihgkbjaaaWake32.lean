/- 'cashboxlaw32.wakes' -/
import Derived.Test.YtgdmgeihgkbjaaaWrong
import Derived.Test.YtgdmgeihgkbjaaaWake27
namespace Go.Proofs.Ytgdmgeihgkbjaaa
open Go.RowKit Go.Shelf

def vv (v : Int) : V8 := ⟨v, 0, 0, 0, 0, 0, 0, 0⟩
def stv (k n v : Int) : Sn := ⟨k, ⟨n, 1, 1⟩, 0, vv v, 0⟩
def one32 (v : Int) : List Sn := [stv 0 1 0, stv 2 1 1, stv 3 1 0, stv 5 1 0, stv 0 2 0, stv 1 2 v, stv 3 2 0, stv 5 2 0]

set_option maxRecDepth 100000 in
theorem one_may0 : mayP (one32 0) = true := by decide
set_option maxRecDepth 100000 in
theorem one_may1 : mayP (one32 1) = true := by decide
set_option maxRecDepth 100000 in
theorem one_may7 : mayP (one32 7) = true := by decide
set_option maxRecDepth 100000 in
theorem one_wr0 : wrongP (one32 0) = [⟨5, ⟨2, 1, 1⟩, 0, vv 1, vv 0, ⟨1, 1, 1⟩, nz, 0⟩] := by decide
set_option maxRecDepth 100000 in
theorem one_wr1 : wrongP (one32 1) = [] := by decide
set_option maxRecDepth 100000 in
theorem one_wr7 : wrongP (one32 7) = [⟨5, ⟨2, 1, 1⟩, 0, vv 1, vv 7, ⟨1, 1, 1⟩, nz, 4⟩] := by decide

set_option maxRecDepth 100000 in
theorem run_build8 (w : World) (v : Int) : (Instr.buildSlice 25 8 #[(0, .agg (snArr (stv 0 1 0))), (1, .agg (snArr (stv 2 1 1))), (2, .agg (snArr (stv 3 1 0))), (3, .agg (snArr (stv 5 1 0))), (4, .agg (snArr (stv 0 2 0))), (5, .agg (snArr (stv 1 2 v))), (6, .agg (snArr (stv 3 2 0))), (7, .agg (snArr (stv 5 2 0)))]).run Try.prog w = .ok (.slice (some ⟨w.heap.size, 0, none⟩) 8 8) (w.alloc (.cells ((one32 v).flatMap Sn.cells).toArray 36)) := by
  simp [go_sem, snArr, stv, vv, one32, Sn.cells]

theorem wpList_build8 {ops : Array Oper} {rest : List Oper} {o : Oper} {a : Act} {w : World} {Q : Exit → Act → World → Prop} (hgd : o.guard = none) (p0 p1 p2 p3 p4 p5 p6 p7 : Operand) (ho : o.op = .buildSlice 25 8 #[(0, p0), (1, p1), (2, p2), (3, p3), (4, p4), (5, p5), (6, p6), (7, p7)]) (v : Int)
    (h0 : a.eval p0 = .agg (snArr (stv 0 1 0))) (h1 : a.eval p1 = .agg (snArr (stv 2 1 1))) (h2 : a.eval p2 = .agg (snArr (stv 3 1 0))) (h3 : a.eval p3 = .agg (snArr (stv 5 1 0))) (h4 : a.eval p4 = .agg (snArr (stv 0 2 0))) (h5 : a.eval p5 = .agg (snArr (stv 1 2 v))) (h6 : a.eval p6 = .agg (snArr (stv 3 2 0))) (h7 : a.eval p7 = .agg (snArr (stv 5 2 0)))
    (h : wpList Try.prog ops Q rest (a.put o.dst (.slice (some ⟨w.heap.size, 0, none⟩) 8 8)) (w.alloc (.cells ((one32 v).flatMap Sn.cells).toArray 36))) : wpList Try.prog ops Q (o :: rest) a w :=
  wpList_plain hgd fun K hK => by
    unfold Oper.wp execOp
    simp only [ho, List.map_toArray, List.map_cons, List.map_nil, h0, h1, h2, h3, h4, h5, h6, h7, Sem.run_bind, run_build8, Result.andThen_ok, Sem.run_pure]
    exact hK _ _ h

set_option maxRecDepth 100000 in
set_option maxHeartbeats 2000000 in
theorem one_any (v : Int) (w : World) : Calls Try.prog 57 #[.int .u8 v] w fun e w' => ∃ g, e = .returned (.slice (some ⟨g, 0, none⟩) 8 8) ∧ Sns w'.heap.size w' (.slice (some ⟨g, 0, none⟩) 8 8) (one32 v) ∧ Below w.heap.size w w' := by
  go_enter Try.func57, Try.ntmps57
  go_wp2_with (refine wpList_build8 rfl (.tmp 8) (.tmp 11) (.tmp 13) (.tmp 15) (.tmp 17) (.tmp 21) (.tmp 23) (.tmp 25) rfl v rfl rfl rfl rfl rfl rfl rfl rfl ?_)
  go_ret
  have key : ∀ W : World, W.heap.size = w.heap.size + 1 + 1 → Sns (W.alloc (.cells ((one32 v).flatMap Sn.cells).toArray 36)).heap.size (W.alloc (.cells ((one32 v).flatMap Sn.cells).toArray 36)) (.slice (some ⟨w.heap.size + 1 + 1, 0, none⟩) 8 8) (one32 v) := fun W e => by
    rw [← e]; exact sns_lit W (one32 v)
  exact ⟨_, rfl, key _ (by simp), (((Below.refl _ _).alloc (Nat.le_refl _) _).alloc (by simp) _).alloc (by simp; omega) _⟩

theorem one_wrong (v : Int) (x : Value) (w : World) (hm : mayP (one32 v) = true) (hv : Sns w.heap.size w x (one32 v)) :
    Calls Try.prog 29 #[x] w fun e w' => ∃ vo, e = .returned (.tuple #[vo, .int .i64 0]) ∧ w'.ownsRow w.heap.size 59 28 vo (wrongP (one32 v)).length ((wrongP (one32 v)).flatMap Ft.cells) ∧ Below w.heap.size w w' := by
  refine (wrong_any (one32 v) x w (by simp [one32]) hv).mono ?_
  rintro e w' ⟨h, hb⟩
  rcases h with ⟨h, _⟩ | ⟨_, vo, rfl, hr⟩
  · rw [hm] at h; cases h
  · exact ⟨vo, rfl, hr, hb⟩

set_option maxRecDepth 100000 in
set_option maxHeartbeats 2000000 in
theorem wakes32_any (w : World) : Calls Try.prog 28 #[] w fun e w' => e = .returned (.bool true) ∧ Below w.heap.size w w' := by
  go_enter Try.func28, Try.ntmps28
  go_wp2_with fail
  refine (one_any 0 w).mono ?_
  rintro e w1 ⟨g1, rfl, hs1, b1⟩
  go_wp2_with fail
  refine (one_wrong 0 _ w1 one_may0 hs1).mono ?_
  rintro e w2 ⟨v2, rfl, hr2, b2⟩
  rw [one_wr0] at hr2
  obtain ⟨gA, capA, rfl⟩ := ownsRow_succ hr2
  have HA := Lib.hid hr2
  have B2 := Lib.hid (b1.trans (b2.mono b1.size))
  clear hs1 b1 b2 hr2
  go_wp2_with fail
  refine (one_any 1 w2).mono ?_
  rintro e w3 ⟨g3, rfl, hs3, b3⟩
  go_wp2_with fail
  refine (one_wrong 1 _ w3 one_may1 hs3).mono ?_
  rintro e w4 ⟨v4, rfl, hr4, b4⟩
  rw [one_wr1] at hr4
  obtain ⟨a4, c4, rfl⟩ := ownsRow_slice hr4
  have HB := Lib.hid hr4
  have B4 := Lib.hid (b3.trans (b4.mono b3.size))
  clear hs3 b3 b4 hr4
  go_wp2_with fail
  refine (one_any 7 w4).mono ?_
  rintro e w5 ⟨g5, rfl, hs5, b5⟩
  go_wp2_with fail
  refine (one_wrong 7 _ w5 one_may7 hs5).mono ?_
  rintro e w6 ⟨v6, rfl, hr6, b6⟩
  rw [one_wr7] at hr6
  obtain ⟨gC, capC, rfl⟩ := ownsRow_succ hr6
  have HC := Lib.hid hr6
  have B6 := Lib.hid (b5.trans (b6.mono b5.size))
  clear hs5 b5 b6 hr6
  have hA6 := (Below.trans B4.out (B6.out.mono B4.out.size))
  have hgA := (HA.out.lt gA rfl).2
  have a0 : w6.cell? ⟨gA, 0, none⟩ = some (.int .i64 5) := (hA6.cell (p := ⟨gA, 0, none⟩) hgA).trans (HA.out.cells (g := gA) rfl 0 _ rfl)
  have a21 : w6.cell? ⟨gA, 21, none⟩ = some (.int .i64 1) := (hA6.cell (p := ⟨gA, 21, none⟩) hgA).trans (HA.out.cells (g := gA) rfl 21 _ rfl)
  have a27 : w6.cell? ⟨gA, 27, none⟩ = some (.int .i8 0) := (hA6.cell (p := ⟨gA, 27, none⟩) hgA).trans (HA.out.cells (g := gA) rfl 27 _ rfl)
  have c27 : w6.cell? ⟨gC, 27, none⟩ = some (.int .i8 4) := HC.out.cells (g := gC) rfl 27 _ rfl
  have HB6 : Hid (Below w.heap.size w w6) := B2.out.trans ((B4.out.trans (B6.out.mono B4.out.size)).mono B2.out.size)
  clear hA6 hgA
  go_wp2_with fail
  go_ret
  exact ⟨rfl, HB6.out⟩

end Go.Proofs.Ytgdmgeihgkbjaaa
