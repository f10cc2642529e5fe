/- 'order.Ahead' -/
import Derived.Test.YtgdmgeihgkbjaaaOrdFns
namespace Go.Proofs.Ytgdmgeihgkbjaaa
open Go.RowKit Go.Shelf

def aheadP (l : List Sn) (a b : Nm) : Bool := mayP l && isC 0 a l && isC 0 b l && isC 4 a l && decide (firstAt 4 a l 0 < firstAt 0 b l 0)

theorem lv_none {l : List Sn} {m : LM} (hinv : LvInv l (projL m)) {n : Nm} (h : isC 0 n l = false) : look m n = none := by
  have h1 := hinv.1 n
  rw [look_proj, h] at h1
  simpa using h1

theorem lookup_any {W : World} {M : Nat} {m : LM} (hm : MapIs nmV lfPtr W M m) (n : Nm) (k : Nat) :
    (Instr.lookup 81 (.map (some M)) (.agg #[.int .i64 n.s, .int .i64 n.i, .int .i64 n.t]) false).run Try.prog (W.drewN k) = .ok (((look m n).map lfPtr).getD (.pointer none)) (W.drewN k) :=
  run_look (w := W.drewN k) Try.underlying81 nmKey zero84 (hm.kept (w' := W.drewN k) (show (W.drewN k).heap[M]? = W.heap[M]? from rfl)) n

set_option maxHeartbeats 2000000 in
theorem ahead_any (l : List Sn) (v : Value) (a b : Nm) (w : World) (hl : l.length ≤ 100000) (hv : Sns w.heap.size w v l) :
    Calls Try.prog 24 #[v, .agg #[.int .i64 a.s, .int .i64 a.i, .int .i64 a.t], .agg #[.int .i64 b.s, .int .i64 b.i, .int .i64 b.t]] w
      fun e w' => e = .returned (.bool (aheadP l a b)) ∧ Below w.heap.size w w' := by
  obtain ⟨W2, hW2⟩ : ∃ W2, (w.alloc (.cells #[.int .i64 a.s, .int .i64 a.i, .int .i64 a.t] 34)).alloc (.cells #[.int .i64 b.s, .int .i64 b.i, .int .i64 b.t] 34) = W2 := ⟨_, rfl⟩
  have hB : Below w.heap.size w W2 := hW2 ▸ (below_alloc1 _).trans ((below_alloc1 _).mono (by simp))
  have x0 : W2.heap[w.heap.size]? = some (.cells #[.int .i64 a.s, .int .i64 a.i, .int .i64 a.t] 34 (0, 0)) := by rw [← hW2]; exact (heap_alloc_old _ _ (by simp)).trans (heap_alloc_new _ _)
  have y0 : W2.heap[w.heap.size + 1]? = some (.cells #[.int .i64 b.s, .int .i64 b.i, .int .i64 b.t] 34 (0, 0)) := by
    have e : (w.alloc (.cells #[.int .i64 a.s, .int .i64 a.i, .int .i64 a.t] 34)).heap.size = w.heap.size + 1 := by simp
    rw [← hW2, ← e]; exact heap_alloc_new _ _
  have hC := lives_form l v W2 hl ((hv.below hB).mono hB.size)
  have HC := Lib.hid hC
  have HW2 := Lib.hid hW2
  have HB := Lib.hid hB
  have X0 := Lib.hid x0
  have Y0 := Lib.hid y0
  clear hC hW2 hB hv x0 y0
  go_enter Try.func24, Try.ntmps24
  go_wp2_with fail
  rw [HW2.out]
  refine HC.out.mono ?_
  rintro e w1 ⟨h, hB1⟩
  have hB2 : Below w.heap.size w w1 := HB.out.trans (hB1.mono HB.out.size)
  have hX : ∀ j u, (#[.int .i64 a.s, .int .i64 a.i, .int .i64 a.t] : Array Value)[j]? = some u → w1.cell? ⟨w.heap.size, j, none⟩ = some u := fun j u hu => by
    rw [cell_of_row w1 _ _ _ 34 (0, 0) ((hB1.block _ (lt_of_heap X0.out)).trans X0.out)]; exact hu
  have hY : ∀ j u, (#[.int .i64 b.s, .int .i64 b.i, .int .i64 b.t] : Array Value)[j]? = some u → w1.cell? ⟨w.heap.size + 1, j, none⟩ = some u := fun j u hu => by
    rw [cell_of_row w1 _ _ _ 34 (0, 0) ((hB1.block _ (lt_of_heap Y0.out)).trans Y0.out)]; exact hu
  have x0 := hX 0 _ rfl
  have x1 := hX 1 _ rfl
  have x2 := hX 2 _ rfl
  have y0 := hY 0 _ rfl
  have y1 := hY 1 _ rfl
  have y2 := hY 2 _ rfl
  have HB2 := Lib.hid hB2
  clear hX hY hB2 hB1 HW2 X0 Y0
  rcases h with ⟨hm, rfl⟩ | ⟨M, m, hm, hinv, rfl, hL⟩
  · have hr : aheadP l a b = false := by unfold aheadP; rw [hm]; rfl
    have HR := Lib.hid hr
    clear hr hm
    go_wp2_with fail
    go_quiet (fail)
    go_wp2_with fail
    go_ret
    exact ⟨by rw [HR.out]; rfl, Below.drewN' HB2.out _⟩
  · have HM := Lib.hid hm
    have HL := Lib.hid hL
    have HI := Lib.hid hinv
    clear hm hL hinv
    cases ha : isC 0 a l with
    | false =>
      have l1 := fun k => lookup_any HL.out.map a k
      rw [lv_none HI.out ha] at l1
      simp only [Option.map_none, Option.getD_none] at l1
      have hr : aheadP l a b = false := by unfold aheadP; rw [ha]; simp
      have HR := Lib.hid hr
      clear hr ha
      go_wp2_with fail
      go_quiet (fail)
      go_wp2_with fail
      go_ret
      exact ⟨by rw [HR.out]; rfl, Below.drewN' HB2.out _⟩
    | true =>
      obtain ⟨ba, hba⟩ := lv_some HI.out ha
      have l1 := fun k => lookup_any HL.out.map a k
      rw [hba] at l1
      simp only [Option.map_some, Option.getD_some, lfPtr] at l1
      have hca := (HL.out.at_ _ (look_mem hba)).2
      have ca2 : w1.cell? ⟨ba, 2, none⟩ = some (.int .i64 (firstAt 4 a l 0 + 1)) := by rw [cell_of_row w1 _ _ _ 86 (0, 0) hca]; rfl
      clear hca
      cases hb : isC 0 b l with
      | false =>
        have l2 := fun k => lookup_any HL.out.map b k
        rw [lv_none HI.out hb] at l2
        simp only [Option.map_none, Option.getD_none] at l2
        have hr : aheadP l a b = false := by unfold aheadP; rw [hb]; simp
        have HR := Lib.hid hr
        clear hr ha hb hba
        go_wp2_with fail
        go_quiet (fail)
        go_wp2_with fail
        go_ret
        exact ⟨by rw [HR.out]; rfl, Below.drewN' HB2.out _⟩
      | true =>
        obtain ⟨bb, hbb⟩ := lv_some HI.out hb
        have l2 := fun k => lookup_any HL.out.map b k
        rw [hbb] at l2
        simp only [Option.map_some, Option.getD_some, lfPtr] at l2
        have hcb := (HL.out.at_ _ (look_mem hbb)).2
        have cb0 : w1.cell? ⟨bb, 0, none⟩ = some (.int .i64 (firstAt 0 b l 0 + 1)) := by rw [cell_of_row w1 _ _ _ 86 (0, 0) hcb]; rfl
        clear hcb
        have hres : aheadP l a b = (isC 4 a l && decide (firstAt 4 a l 0 < firstAt 0 b l 0)) := by unfold aheadP; rw [HM.out, ha, hb]; rfl
        have hlt0 := firstAt_lt (k := 4) (n := a) (l := l)
        have hlt1 := firstAt_lt (k := 0) (n := b) (l := l)
        have hge : -1 ≤ firstAt 4 a l 0 := by
          cases h : isC 4 a l with
          | false => rw [firstAt_no h]; omega
          | true => have := firstAt_ge.1 h; omega
        have hpos := fa_pos (k := 4) (n := a) (p := l)
        have HRES := Lib.hid hres
        have HPOS := Lib.hid hpos
        clear hres hpos ha hb hba hbb
        generalize firstAt 4 a l 0 = x at *
        generalize firstAt 0 b l 0 = y at *
        by_cases h4 : 0 < x + 1
        · have e1 : decide (x + 1 > 0) = true := by simp; omega
          have e2 : decide (x + 1 < y + 1) = decide (x < y) := by simp
          have hr : aheadP l a b = decide (x < y) := by rw [HRES.out, HPOS.out.1 h4]; rfl
          have HR := Lib.hid hr
          have E2 := Lib.hid e2
          clear hr h4 e2
          go_wp2_with fail
          go_quiet (fail)
          go_wp2_with fail
          go_ret
          exact ⟨by rw [HR.out, ← E2.out]; rfl, Below.drewN' HB2.out _⟩
        · have e1 : decide (x + 1 > 0) = false := by simp; omega
          have hr : aheadP l a b = false := by
            rw [HRES.out]
            cases h : isC 4 a l with
            | false => rfl
            | true => exact absurd (HPOS.out.2 h) h4
          have HR := Lib.hid hr
          clear hr h4
          go_wp2_with fail
          go_quiet (fail)
          go_wp2_with fail
          go_ret
          exact ⟨by rw [HR.out]; rfl, Below.drewN' HB2.out _⟩

end Go.Proofs.Ytgdmgeihgkbjaaa
