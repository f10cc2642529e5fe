/- 'cashboxlaw26.ModelStays': the walk -/
import Derived.Test.YtgdmgeihgkbjaaaWake26
import Derived.Test.YtgdmgeihgkbjaaaStEq
import Derived.StillTailTactics
import Derived.Test.YtgdmgeihgkbjaaaTouchLaw
namespace Go.Proofs.Ytgdmgeihgkbjaaa
open Go.RowKit Go.Shelf

set_option maxRecDepth 100000 in
set_option maxHeartbeats 1000000 in
theorem stays_long (l : List Sn) (v : Value) (s : List V8) (w : World) (hv : Sns w.heap.size w v l) (hl : 100 < l.length) :
    Calls Try.prog 3 #[.agg (stArr s), v] w fun e w' => e = .returned (.bool true) ∧ Below w.heap.size w w' := by
  obtain ⟨a, cap, rfl, hn, ha⟩ := hv
  have hl' : decide ((100 : Int) < (l.length : Int)) = true := by simp; omega
  go_enter Try.func3, Try.ntmps3
  go_wp2_with fail
  refine (wakes26_any _).mono ?_
  rintro e w1 ⟨rfl, hb⟩
  go_wp2_with fail
  go_ret
  exact ⟨rfl, ((Below.refl _ _).alloc (Nat.le_refl _) _).trans (hb.mono (by simp))⟩

set_option maxRecDepth 100000 in
set_option maxHeartbeats 1000000 in
theorem stays_err (l : List Sn) (v : Value) (s : List V8) (hs : s.length = 32) (w : World) (hv : Sns w.heap.size w v l) (hl : ¬ 100 < l.length) (hm : mayE l 0 ≠ 0) :
    Calls Try.prog 3 #[.agg (stArr s), v] w fun e w' => e = .returned (.bool true) ∧ Below w.heap.size w w' := by
  have hb1 := below_alloc1 (w := w) (.cells (stArr s) 24)
  have hdo := do_err l v s hs _ (by omega) ((hv.below hb1).mono hb1.size) hm
  obtain ⟨a, cap, rfl, hn, ha⟩ := hv
  have hl' : decide ((100 : Int) < (l.length : Int)) = false := by simp; omega
  have hne : (mayE l 0 != 0) = true := by simpa using hm
  have HDO := Lib.hid hdo
  have H0 := Lib.hid (heap_alloc_new w (.cells (stArr s) 24))
  clear hdo
  go_enter Try.func3, Try.ntmps3
  go_wp2_with (first | (refine wpList_load rfl 24 (.tmp 2) rfl ⟨w.heap.size, 0, none⟩ rfl (.agg (stArr s)) (ld_all H0.out hs) ?_) | (go_at_call 15; refine HDO.out.mono ?_; rintro e w1 ⟨rfl, hb⟩) | (rw [zero24]; refine wpList_store rfl 24 (.tmp 5) (.tmp 22) rfl ⟨w1.heap.size, 0, none⟩ rfl (.agg (stArr zst)) rfl (st_all _ (heap_alloc_new w1 _) zst_length zst_length) ?_) | (go_at_call 14; refine (wakes26_any _).mono ?_; rintro e w2 ⟨rfl, hb2⟩))
  go_ret
  have h1 := hb1.trans (hb.mono hb1.size)
  have h2 := h1.alloc h1.size (.cells (stArr zst) 24)
  have h3 := h2.grown (grownBy_setRow _ w1.heap.size (stArr zst)) h2.size (fun k e => by cases e; exact h1.size)
  exact ⟨rfl, h3.trans (hb2.mono h3.size)⟩

theorem st_cells {W : World} {B i : Nat} {s : List V8} {v : V8} {t : TypeId} {fr : Nat × Nat} (hB : W.heap[B]? = some (.cells (stArr s) t fr)) (hi : s[i]? = some v) :
    W.cell? ⟨B, i * 8, none⟩ = some (.int .u8 v.a) ∧ W.cell? ⟨B, i * 8 + 1, none⟩ = some (.int .u8 v.b) ∧ W.cell? ⟨B, i * 8 + 2, none⟩ = some (.int .u8 v.c) ∧ W.cell? ⟨B, i * 8 + 3, none⟩ = some (.int .u8 v.d) ∧
    W.cell? ⟨B, i * 8 + 4, none⟩ = some (.int .u8 v.e) ∧ W.cell? ⟨B, i * 8 + 5, none⟩ = some (.int .u8 v.f) ∧ W.cell? ⟨B, i * 8 + 6, none⟩ = some (.int .u8 v.g) ∧ W.cell? ⟨B, i * 8 + 7, none⟩ = some (.int .u8 v.h) := by
  have hc : ∀ j c, v.cells[j]? = some c → W.cell? ⟨B, i * 8 + j, none⟩ = some c := by
    intro j c hj
    have hj8 : j < 8 := by
      have := (List.getElem?_eq_some_iff.1 hj).1
      simpa [V8.cells] using this
    rw [cell_of_row W B _ _ t fr hB]
    simp only [stArr, stCells, List.getElem?_toArray]
    rw [flat_get V8.cells_length s i v hi j hj8]
    exact hj
  exact ⟨hc 0 _ rfl, hc 1 _ rfl, hc 2 _ rfl, hc 3 _ rfl, hc 4 _ rfl, hc 5 _ rfl, hc 6 _ rfl, hc 7 _ rfl⟩

/-- Of a row of numbers that the call owns: one of them. -/
theorem ints_at {W : World} {base : Nat} {a : Option Addr} {c : Nat} {ws : List Int} (h : W.ownsRow base 3 1 (.slice a ws.length c) ws.length (intsC ws)) {j : Nat} {y : Int} (hy : ws[j]? = some y) :
    ∃ g, a = some ⟨g, 0, none⟩ ∧ W.cell? ⟨g, j, none⟩ = some (.int .i64 y) := by
  have hj : j < ws.length := (List.getElem?_eq_some_iff.1 hy).1
  have e : intsC ws = ws.flatMap (fun i => [intV i]) := by
    unfold intsC
    clear h hy hj
    induction ws with
    | nil => rfl
    | cons x l ih => simp [List.flatMap_cons, ih]
  rw [e] at h
  obtain ⟨g, rfl, _, _, hr⟩ := owns_rows (enc := fun i : Int => [intV i]) (k := 1) (fun _ => rfl) h (by omega) rfl
  refine ⟨g, rfl, ?_⟩
  have := hr j y hy 0 _ rfl
  simpa [intV] using this

theorem op_load {o : Oper} {a : Act} {w : World} {K : Act → World → Prop} {Q : Exit → Act → World → Prop} (ty : TypeId) (x : Operand) (ho : o.op = .load ty x)
    (ad : Addr) (hx : a.eval x = .pointer (some ad)) (v : Value) (hl : (loadVar ty ad).run Try.prog w = .ok v w) (h : K (a.put o.dst v) w) : o.wp Try.prog a w K Q := by
  unfold Oper.wp execOp
  simp only [ho, hx, Instr.loadAt, Instr.sureAddr, Sem.run_bind, Sem.run_pure, Result.andThen_ok, hl]
  exact h

theorem wpList_store_st {ops : Array Oper} {rest : List Oper} {o : Oper} {a : Act} {w : World} {Q : Exit → Act → World → Prop} (hgd : o.guard = none) (x y : Operand) (ho : o.op = .store 23 x y)
    (B i : Nat) (hx : a.eval x = .pointer (some ⟨B, i * 8, none⟩)) (v : V8) (hy : a.eval y = v8Val v) {s : List V8} {t : TypeId} (hB : w.heap[B]? = some (.cells (stArr s) t (0, 0))) (hi : i < s.length)
    (h : ∀ w', w.grownBy w' (some B) → w'.heap[B]? = some (.cells (stArr (s.set i v)) t (0, 0)) → wpList Try.prog ops Q rest (a.put o.dst undef) w') : wpList Try.prog ops Q (o :: rest) a w :=
  wpList_store hgd 23 x y ho ⟨B, i * 8, none⟩ hx (v8Val v) hy (st_st v hB hi) (h _ (grownBy_setRow _ _ _) (setRow_heap w B _ _ t _ hB))

/-- The blocks that the law holds: the state that came (s), the one behind (fin), the one wanted (want), the writes (ws). -/
structure StW (w : World) (B5 B9 : Nat) (s fin want : List V8) (vw : Value) (ws : List Int) (W : World) : Prop where
  b0 : W.heap[w.heap.size]? = some (.cells (stArr s) 24 (0, 0))
  b5 : W.heap[B5]? = some (.cells (stArr fin) 24 (0, 0))
  b9 : W.heap[B9]? = some (.cells (stArr want) 24 (0, 0))
  row : W.ownsRow w.heap.size 3 1 vw ws.length (intsC ws)
  below : Below w.heap.size w W
  lt : w.heap.size < B5 ∧ B5 < B9

theorem StW.drewN {w : World} {B5 B9 : Nat} {s fin want : List V8} {vw : Value} {ws : List Int} {W : World} (h : StW w B5 B9 s fin want vw ws W) (n : Nat) : StW w B5 B9 s fin want vw ws (W.drewN n) :=
  ⟨h.b0, h.b5, h.b9, h.row, Below.drewN' h.below n, h.lt⟩

theorem StW.setWant {w : World} {B5 B9 : Nat} {s fin want want' : List V8} {vw : Value} {ws : List Int} {W W' : World} (h : StW w B5 B9 s fin want vw ws W) (hg : W.grownBy W' (some B9)) (h9 : W'.heap[B9]? = some (.cells (stArr want') 24 (0, 0))) : StW w B5 B9 s fin want' vw ws W' :=
  ⟨cells_turn h.b0 hg (by have := h.lt; omega), cells_turn h.b5 hg (by have := h.lt; omega), h9, owns_turn h.row hg (not_row h.b9 (by decide) h.row), h.below.grown hg h.below.size (fun k e => by cases e; have := h.lt; omega), h.lt⟩

set_option maxRecDepth 100000 in
set_option maxHeartbeats 2000000 in
theorem stays_ok (l : List Sn) (v : Value) (s : List V8) (hs : s.length = 32) (w : World) (hv : Sns w.heap.size w v l) (hl : ¬ 100 < l.length) (hm : mayE l 0 = 0) :
    Calls Try.prog 3 #[.agg (stArr s), v] w fun e w' => e = .returned (.bool true) ∧ Below w.heap.size w w' := by
  have hb1 := below_alloc1 (w := w) (.cells (stArr s) 24)
  have hdo := do_ok l v s hs _ (by omega) ((hv.below hb1).mono hb1.size) hm
  have HV := Lib.hid hv
  obtain ⟨a, cap, rfl, hn, ha⟩ := hv
  have hl' : decide ((100 : Int) < (l.length : Int)) = false := by simp; omega
  have hfl : (foldSt s l).length = 32 := by rw [foldSt_length, hs]
  have hwl : (writesL l).length ≤ 32 := upTo_length _ _
  generalize hfin : foldSt s l = fin at hdo hfl
  generalize toldP (fillL s l) (stepsOf l 0) = tt at hdo
  have HFIN := Lib.hid hfin
  have HDO := Lib.hid hdo
  have H0 := Lib.hid (heap_alloc_new w (.cells (stArr s) 24))
  have HN := Lib.hid hn
  have HA := Lib.hid ha
  clear hdo hfin hn ha
  go_enter Try.func3, Try.ntmps3
  go_wp2_with (first | (refine wpList_load rfl 24 (.tmp 2) rfl ⟨w.heap.size, 0, none⟩ rfl (.agg (stArr s)) (ld_all H0.out hs) ?_) | (go_at_call 15; refine HDO.out.mono ?_; rintro e w1 ⟨rfl, hb⟩) | (rw [zero24]; refine wpList_store rfl 24 (.tmp 5) (.tmp 22) rfl ⟨w1.heap.size, 0, none⟩ rfl (.agg (stArr fin)) rfl (st_all _ (heap_alloc_new w1 _) zst_length hfl) ?_))
  have h0 := H0.out
  have hs1 := hb.size
  have h1 := hb1.trans (hb.mono hb1.size)
  have h2 := h1.alloc h1.size (.cells (stArr zst) 24)
  have hg2 := grownBy_setRow (w1.alloc (.cells (stArr zst) 24)) w1.heap.size (stArr fin)
  have h3 := h2.grown hg2 h2.size (fun k e => by cases e; exact h1.size)
  have g5 := setRow_heap _ w1.heap.size _ (stArr fin) 24 _ (heap_alloc_new w1 (.cells (stArr zst) 24))
  have hlt5 : w.heap.size < w1.heap.size := by simp at hs1; omega
  have g0 : ((w1.alloc (.cells (stArr zst) 24)).setRow w1.heap.size (stArr fin)).heap[w.heap.size]? = some (.cells (stArr s) 24 (0, 0)) := by
    refine cells_turn ?_ hg2 (by omega)
    rw [Below.heap_alloc _ _ _ hlt5, hb.block _ (by simp)]
    exact h0
  generalize (w1.alloc (.cells (stArr zst) 24)).setRow w1.heap.size (stArr fin) = w2 at h3 g5 g0
  generalize w1.heap.size = B5 at hlt5 g5
  clear hs1 h1 h2 hg2 hb h0
  refine (writes_any l _ w2 (by omega) ((HV.out.below h3).mono h3.size)).mono ?_
  rintro e w3 ⟨vw, rfl, hrow3, hb3⟩
  obtain ⟨aw, cw, rfl⟩ := ownsRow_slice hrow3
  have k0 := (hb3.block _ (lt_of_heap g0)).trans g0
  have k5 := (hb3.block _ (lt_of_heap g5)).trans g5
  have K0 := Lib.hid k0
  clear g0 k0
  go_wp2_with (first | (refine wpList_load rfl 24 (.tmp 2) rfl ⟨w.heap.size, 0, none⟩ rfl (.agg (stArr s)) (ld_all K0.out hs) ?_) | (rw [zero24]; refine wpList_store rfl 24 (.tmp 9) (.tmp 30) rfl ⟨w3.heap.size, 0, none⟩ rfl (.agg (stArr s)) rfl (st_all _ (heap_alloc_new w3 _) zst_length hs) ?_))
  have hlt9 : B5 < w3.heap.size := lt_of_heap k5
  have hT : StW w B5 w3.heap.size s fin s (.slice aw (writesL l).length cw) (writesL l) ((w3.alloc (.cells (stArr zst) 24)).setRow w3.heap.size (stArr s)) := by
    have hg := grownBy_setRow (w3.alloc (.cells (stArr zst) 24)) w3.heap.size (stArr s)
    have hB := (h3.trans (hb3.mono h3.size))
    have hr : w3.ownsRow w.heap.size 3 1 (.slice aw (writesL l).length cw) (writesL l).length (intsC (writesL l)) := hrow3.mono h3.size
    have hal := hB.alloc hB.size (.cells (stArr zst) 24)
    refine ⟨cells_turn ?_ hg (by omega), cells_turn ?_ hg (by omega), setRow_heap _ _ _ _ 24 _ (heap_alloc_new w3 _), owns_turn (hr.alloc _) hg ?_, hal.grown hg hal.size (fun k e => by cases e; exact hB.size), hlt5, hlt9⟩
    · rw [Below.heap_alloc _ _ _ (by omega)]; exact K0.out
    · rw [Below.heap_alloc _ _ _ hlt9]; exact k5
    · intro e
      have := (hr.lt _ e).2
      omega
  have hF : foldSt s l = foldSt s (l.drop 0) := by simp
  generalize (w3.alloc (.cells (stArr zst) 24)).setRow w3.heap.size (stArr s) = w4 at hT
  generalize w3.heap.size = B9 at hT hlt9
  clear hrow3 hb3 k5 hlt9 K0 h3 g5 hlt5 hF
  go_loopw [10] (fun i wr => ∃ (q : Nat) (cur : List V8), q ≤ l.length ∧ i = .int .i64 q ∧ cur.length = 32 ∧ foldSt cur (l.drop q) = fin ∧ StW w B5 B9 s fin cur (.slice aw (writesL l).length cw) (writesL l) wr) (fun i _ => l.length - (intOf i).toNat)
  case atStart => exact ⟨0, s, Nat.zero_le _, rfl, hs, by simpa using HFIN.out, hT⟩
  case round =>
    obtain ⟨q, cur, hq, rfl, hcl, hF, hT⟩ := hrel
    have HT := Lib.hid hT
    have HF := Lib.hid hF
    clear hF hT
    by_cases hlt : q < l.length
    · obtain ⟨x, hx⟩ : ∃ x, l[q]? = some x := ⟨_, List.getElem?_eq_getElem hlt⟩
      obtain ⟨b, off, rfl, hb, hr⟩ := rows_some HN.out HA.out hlt
      have hok := List.all_eq_true.1 ((mayE_zero l).1 hm) x (List.mem_of_getElem? hx)
      obtain ⟨c0, c1, c2, c3, c4, c5, c6, c7, c8, c9, c10, c11, c12, c13⟩ := (hr.below hb HT.out.below).sn hx
      have hx0 : 0 ≤ x.b := by simp [Sn.ok, Sn.inB] at hok; exact hok.2.1
      have hx1 : x.b < 32 := by simp [Sn.ok, Sn.inB] at hok; exact hok.2.2
      have HX := Lib.hid hx
      clear hr hx hok
      by_cases hk : x.k = 2
      · have e1 : (x.k == 2) = true := by simp [hk]
        have HS : Hid (stepSt cur x = cur.set x.b.toNat x.v) := by simp [Hid, stepSt, hk]
        clear hk
        go_wp2_with fail
        go_still_tail 11, (by kernel_rfl)
        change wpList _ _ _ _ _ wr.drew
        have hj : x.b.toNat < cur.length := by omega
        have hT1 := HT.out.drewN 1
        have HT1 : Hid (StW w B5 B9 s fin cur (.slice aw (writesL l).length cw) (writesL l) wr.drew) := hT1
        clear hT1
        generalize wr.drew = wq at HT1
        obtain ⟨c0, c1, c2, c3, c4, c5, c6, c7, c8, c9, c10, c11, c12, c13⟩ := ((HA.out b off none rfl (by omega)).2.2.below hb HT1.out.below).sn HX.out
        go_wp2_with (refine wpList_store_st rfl (.tmp 69) (.tmp 68) rfl B9 x.b.toNat rfl x.v rfl HT1.out.b9 hj ?_; intro W2 hg2 hst2)
        go_roundw
        case rel => exact ⟨q + 1, cur.set x.b.toNat x.v, by omega, by go_num, by simpa using hcl, by have := HF.out; rw [drop_cons HX.out, foldSt, List.foldl_cons, HS.out] at this; exact this, HT1.out.setWant hg2 hst2⟩
        case measure => simp [intOf]; omega
      · have e1 : (x.k == 2) = false := by simp [hk]
        have HS : Hid (stepSt cur x = cur) := by simp [Hid, stepSt, hk]
        clear hk
        go_wp2_with fail
        go_roundw
        case rel => exact ⟨q + 1, cur, by omega, by go_num, hcl, by have := HF.out; rw [drop_cons HX.out, foldSt, List.foldl_cons, HS.out] at this; exact this, HT.out⟩
        case measure => simp [intOf]; omega
    · have hfc : cur = fin := by have := HF.out; rw [drop_end hlt] at this; exact this
      subst hfc
      go_wp2_with fail
      go_loopw [11] (fun i wr => ∃ r : Nat, r ≤ 32 ∧ i = .int .i64 r ∧ StW w B5 B9 s cur cur (.slice aw (writesL l).length cw) (writesL l) wr) (fun i _ => 32 - (intOf i).toNat)
      case atStart => exact ⟨0, by omega, rfl, HT.out⟩
      case round =>
        obtain ⟨r, hr32, rfl, hT2⟩ := hrel
        have HT2 := Lib.hid hT2
        clear hT2
        by_cases hr : r < 32
        · have hin0 : (writesL l).any (fun y => decide (y = (r : Int))) = (false || ((writesL l).drop 0).any (fun y => decide (y = (r : Int)))) := by simp
          go_wp2_with fail
          go_loopw [12, 13] (fun bo j wr => ∃ (bb : Bool) (jj : Nat), jj ≤ (writesL l).length ∧ bo = .bool bb ∧ j = .int .i64 jj ∧ (writesL l).any (fun y => decide (y = (r : Int))) = (bb || ((writesL l).drop jj).any (fun y => decide (y = (r : Int)))) ∧ StW w B5 B9 s cur cur (.slice aw (writesL l).length cw) (writesL l) wr) (fun _ j _ => (writesL l).length - (intOf j).toNat)
          case atStart => exact ⟨false, 0, by omega, rfl, rfl, hin0, HT2.out⟩
          case round =>
            obtain ⟨bb, jj, hjl, rfl, rfl, hany, hT3⟩ := hrel
            have HT3 := Lib.hid hT3
            have HANY := Lib.hid hany
            clear hT3 hany hin0
            by_cases hj : jj < (writesL l).length
            · obtain ⟨y, hy⟩ : ∃ y, (writesL l)[jj]? = some y := ⟨_, List.getElem?_eq_getElem hj⟩
              obtain ⟨g, rfl, hc⟩ := ints_at HT3.out.row hy
              have HY := Lib.hid hy
              have HJ := Lib.hid hj
              clear hy
              cases bb
              · by_cases hyr : y = (r : Int)
                · have e1 : (y == (r : Int)) = true := by simp [hyr]
                  have HN1 : Hid (decide (y = (r : Int)) = true) := by simp [Hid, hyr]
                  clear hyr
                  go_wp2_with fail
                  go_roundw
                  case rel => exact ⟨true, jj + 1, by have := HJ.out; omega, rfl, by go_num, by rw [HANY.out, drop_cons HY.out, List.any_cons, HN1.out]; simp, HT3.out⟩
                  case measure => have := HJ.out; simp [intOf]; omega
                · have e1 : (y == (r : Int)) = false := by simp [hyr]
                  have HN1 : Hid (decide (y = (r : Int)) = false) := by simp [Hid, hyr]
                  clear hyr
                  go_wp2_with fail
                  go_roundw
                  case rel => exact ⟨false, jj + 1, by have := HJ.out; omega, rfl, by go_num, by rw [HANY.out, drop_cons HY.out, List.any_cons, HN1.out]; simp, HT3.out⟩
                  case measure => have := HJ.out; simp [intOf]; omega
              · go_wp2_with fail
                go_roundw
                case rel => exact ⟨true, jj + 1, by have := HJ.out; omega, rfl, by go_num, by rw [HANY.out]; simp, HT3.out⟩
                case measure => have := HJ.out; simp [intOf]; omega
            · have hbb : (writesL l).any (fun y => decide (y = (r : Int))) = bb := by have := HANY.out; rw [drop_end hj] at this; simpa using this
              have HBB := Lib.hid hbb
              clear hbb
              cases bb
              · have hst : cur[r]? = s[r]? := by
                  have := writesL_none ((mayE_zero l).1 hm) s r hr (fun hmem => by
                    have h1 : (writesL l).any (fun y => decide (y = (r : Int))) = true := List.any_eq_true.2 ⟨_, hmem, by simp⟩
                    rw [HBB.out] at h1
                    cases h1)
                  rwa [HFIN.out] at this
                obtain ⟨u, hu⟩ : ∃ u, s[r]? = some u := ⟨_, List.getElem?_eq_getElem (by omega)⟩
                obtain ⟨c0, c1, c2, c3, c4, c5, c6, c7⟩ := st_cells HT3.out.b0 hu
                obtain ⟨d0, d1, d2, d3, d4, d5, d6, d7⟩ := st_cells HT3.out.b5 (hst.trans hu)
                have hnv := neq_v8 u u
                clear hst hu
                go_wp2_with fail
                go_quiet (fail)
                go_wp2_with fail
                go_roundw
                case rel => exact ⟨r + 1, by omega, by go_num, HT3.out.drewN _⟩
                case measure => simp [intOf]; omega
              · go_wp2_with fail
                go_quiet (fail)
                go_wp2_with fail
                go_roundw
                case rel => exact ⟨r + 1, by omega, by go_num, HT3.out.drewN _⟩
                case measure => simp [intOf]; omega
        · have e1 := eql_st hfl hfl
          have e2 := eql_st hfl hs
          by_cases hw : 0 < (writesL l).length
          · have hw' : decide ((0 : Int) < ((writesL l).length : Int)) = true := decide_eq_true (by omega)
            clear e2
            go_wp2_with (first | (refine wpList_load rfl 24 (.tmp 5) rfl ⟨B5, 0, none⟩ rfl (.agg (stArr cur)) (ld_all HT2.out.b5 hfl) ?_) | (refine wpList_load rfl 24 (.tmp 9) rfl ⟨B9, 0, none⟩ rfl (.agg (stArr cur)) (ld_all HT2.out.b9 hfl) ?_) | (go_at_call 14; refine (wakes26_any _).mono ?_; rintro e w9 ⟨rfl, hb9⟩))
            go_ret
            exact ⟨rfl, HT2.out.below.trans (hb9.mono HT2.out.below.size)⟩
          · have hw' : decide ((0 : Int) < ((writesL l).length : Int)) = false := decide_eq_false (by omega)
            have he : decide (cur = s) = true := by
              have := writesL_nil ((mayE_zero l).1 hm) s hs (by cases h : writesL l with | nil => rfl | cons x r => rw [h] at hw; simp at hw)
              rw [HFIN.out] at this
              simp [this]
            rw [he] at e2
            go_wp2_with (first | (refine wpList_load rfl 24 (.tmp 5) rfl ⟨B5, 0, none⟩ rfl (.agg (stArr cur)) (ld_all HT2.out.b5 hfl) ?_) | (refine wpList_load rfl 24 (.tmp 9) rfl ⟨B9, 0, none⟩ rfl (.agg (stArr cur)) (ld_all HT2.out.b9 hfl) ?_))
            refine op_load 24 (.tmp 5) rfl ⟨B5, 0, none⟩ rfl (.agg (stArr cur)) (ld_all HT2.out.b5 hfl) ?_
            go_wp2_with fail
            refine op_load 24 (.tmp 2) rfl ⟨w.heap.size, 0, none⟩ rfl (.agg (stArr s)) (ld_all HT2.out.b0 hs) ?_
            go_wp2_with fail
            refine (wakes26_any _).mono ?_
            rintro e w9 ⟨rfl, hb9⟩
            go_wp2_with fail
            go_ret
            exact ⟨rfl, HT2.out.below.trans (hb9.mono HT2.out.below.size)⟩

end Go.Proofs.Ytgdmgeihgkbjaaa
