/- 'cashboxlaw26.ModelSwaps': the walk -/
import Derived.Test.YtgdmgeihgkbjaaaSwapLaw
import Derived.Test.YtgdmgeihgkbjaaaWake26
import Derived.Test.YtgdmgeihgkbjaaaStEq
namespace Go.Proofs.Ytgdmgeihgkbjaaa
open Go.RowKit Go.Shelf

theorem owns_sns {W : World} {base : Nat} {v : Value} {l : List Sn} (h : W.ownsRow base 36 14 v l.length (l.flatMap Sn.cells)) : Sns W.heap.size W v l := by
  obtain ⟨a, c, rfl⟩ := ownsRow_slice h
  refine ⟨a, c, rfl, ?_, ?_⟩
  · intro e
    subst e
    rcases h.2 with ⟨h1, h2⟩ | ⟨g, cap, cur, hv, _⟩
    · simp only [Value.slice.injEq, true_and] at h1
      exact ⟨List.eq_nil_of_length_eq_zero h2, h1.2⟩
    · cases hv
  · intro b off s e hpos
    obtain ⟨g, he, _, hlt, hr⟩ := owns_rows Sn.cells_length h hpos rfl
    rw [e] at he
    cases he
    exact ⟨rfl, hlt, hr⟩

set_option maxRecDepth 100000 in
set_option maxHeartbeats 2000000 in
theorem swaps_long (x y : List Sn) (vx vy : Value) (s : List V8) (w : World) (sx : Sns w.heap.size w vx x) (sy : Sns w.heap.size w vy y) (hl : 100 < x.length ∨ 100 < y.length) :
    Calls Try.prog 4 #[.agg (stArr s), vx, vy] w fun e w' => e = .returned (.bool true) ∧ Below w.heap.size w w' := by
  obtain ⟨a, cap, rfl, _, _⟩ := sx
  obtain ⟨a', cap', rfl, _, _⟩ := sy
  by_cases h1 : 100 < x.length
  · have hl' : decide ((100 : Int) < (x.length : Int)) = true := decide_eq_true (by omega)
    go_enter Try.func4, Try.ntmps4
    go_wp2_with (go_at_call 14; refine (wakes26_any _).mono ?_; rintro e w1 ⟨rfl, hb⟩)
    go_ret
    exact ⟨rfl, ((Below.refl _ _).alloc (Nat.le_refl _) _).trans (hb.mono (by simp))⟩
  · have h2 : 100 < y.length := by omega
    have hl' : decide ((100 : Int) < (x.length : Int)) = false := decide_eq_false (by omega)
    have hl2 : decide ((100 : Int) < (y.length : Int)) = true := decide_eq_true (by omega)
    go_enter Try.func4, Try.ntmps4
    go_wp2_with (go_at_call 14; refine (wakes26_any _).mono ?_; rintro e w1 ⟨rfl, hb⟩)
    go_ret
    exact ⟨rfl, ((Below.refl _ _).alloc (Nat.le_refl _) _).trans (hb.mono (by simp))⟩

set_option maxRecDepth 100000 in
set_option maxHeartbeats 2000000 in
theorem swaps_err (x y : List Sn) (vx vy : Value) (s : List V8) (hs : s.length = 32) (w : World) (sx : Sns w.heap.size w vx x) (sy : Sns w.heap.size w vy y) (hlx : ¬ 100 < x.length) (hly : ¬ 100 < y.length) (hm : mayE x 0 ≠ 0) :
    Calls Try.prog 4 #[.agg (stArr s), vx, vy] w fun e w' => e = .returned (.bool true) ∧ Below w.heap.size w w' := by
  have hb1 := below_alloc1 (w := w) (.cells (stArr s) 24)
  have hfi := fill_err x vx s _ (by omega) ((sx.below hb1).mono hb1.size) hm
  obtain ⟨a, cap, rfl, _, _⟩ := sx
  obtain ⟨a', cap', rfl, _, _⟩ := sy
  have hl' : decide ((100 : Int) < (x.length : Int)) = false := decide_eq_false (by omega)
  have hl2 : decide ((100 : Int) < (y.length : Int)) = false := decide_eq_false (by omega)
  have hne : (mayE x 0 != 0) = true := by simpa using hm
  have HF := Lib.hid hfi
  have H0 := Lib.hid (heap_alloc_new w (.cells (stArr s) 24))
  clear hfi
  go_enter Try.func4, Try.ntmps4
  go_wp2_with (first | (refine wpList_load rfl 24 (.tmp 3) rfl ⟨w.heap.size, 0, none⟩ rfl (.agg (stArr s)) (ld_all H0.out hs) ?_) | (go_at_call 17; refine HF.out.mono ?_; rintro e w1 ⟨rfl, hb⟩) | (go_at_call 14; refine (wakes26_any _).mono ?_; rintro e w2 ⟨rfl, hb2⟩))
  go_ret
  have h1 := hb1.trans (hb.mono hb1.size)
  exact ⟨rfl, h1.trans (hb2.mono h1.size)⟩

/-- Two histories in a row of two. -/
theorem rows2 {w : World} {v1 v2 : Value} {l1 l2 : List Sn} (h1 : Sns w.heap.size w v1 l1) (h2 : Sns w.heap.size w v2 l2) (n1 : l1.length ≤ 100000) (n2 : l2.length ≤ 100000) (m1 : mayE l1 0 = 0) (m2 : mayE l2 0 = 0) :
    ∀ (i : Nat) (r : Value × List Sn), [(v1, l1), (v2, l2)][i]? = some r → (w.alloc (.cells #[v1, v2] 25)).cell? ⟨w.heap.size, i, none⟩ = some r.1 ∧ Sns (w.alloc (.cells #[v1, v2] 25)).heap.size (w.alloc (.cells #[v1, v2] 25)) r.1 r.2 ∧ r.2.length ≤ 100000 ∧ mayE r.2 0 = 0 := by
  have hb := below_alloc1 (w := w) (.cells #[v1, v2] 25)
  intro i r hr
  match i, hr with
  | 0, hr =>
    cases hr
    exact ⟨by rw [cell_of_row _ _ _ _ _ (0, 0) (heap_alloc_new w _)]; rfl, (h1.below hb).mono hb.size, n1, m1⟩
  | 1, hr =>
    cases hr
    exact ⟨by rw [cell_of_row _ _ _ _ _ (0, 0) (heap_alloc_new w _)]; rfl, (h2.below hb).mono hb.size, n2, m2⟩

theorem all2 {w : World} {v1 v2 : Value} {l1 l2 : List Sn} (s : List V8) (hs : s.length = 32) (h1 : Sns w.heap.size w v1 l1) (h2 : Sns w.heap.size w v2 l2) (n1 : l1.length ≤ 100000) (n2 : l2.length ≤ 100000) (m1 : mayE l1 0 = 0) (m2 : mayE l2 0 = 0)
    {fin : List V8} (hf : allF s true 0 [l1, l2] = (fin, 2)) :
    Calls Try.prog 19 #[.agg (stArr s), .slice (some ⟨w.heap.size, 0, none⟩) 2 2] (w.alloc (.cells #[v1, v2] 25)) fun e w' => e = .returned (.tuple #[.agg (stArr fin), .int .i64 2, .int .i64 0]) ∧ Below w.heap.size w w' := by
  refine (all_any [(v1, l1), (v2, l2)] w.heap.size 2 s hs _ (by simp) (by simp) (rows2 h1 h2 n1 n2 m1 m2)).mono ?_
  rintro e w' ⟨rfl, hb⟩
  have hb0 := below_alloc1 (w := w) (.cells #[v1, v2] 25)
  refine ⟨?_, hb0.trans (hb.mono hb0.size)⟩
  simp only [List.map_cons, List.map_nil, hf]
  rfl

set_option maxRecDepth 100000 in
set_option maxHeartbeats 4000000 in
theorem swaps_ok (x y : List Sn) (vx vy : Value) (s : List V8) (hs : s.length = 32) (w : World) (sx : Sns w.heap.size w vx x) (sy : Sns w.heap.size w vy y) (hlx : ¬ 100 < x.length) (hly : ¬ 100 < y.length) (hm : mayE x 0 = 0) :
    Calls Try.prog 4 #[.agg (stArr s), vx, vy] w fun e w' => e = .returned (.bool true) ∧ Below w.heap.size w w' := by
  have hb1 := below_alloc1 (w := w) (.cells (stArr s) 24)
  have h0 := heap_alloc_new w (.cells (stArr s) 24)
  have hlt : w.heap.size < (w.alloc (.cells (stArr s) 24)).heap.size := by simp
  have SX := Lib.hid ((sx.below hb1).mono hb1.size)
  have SY := Lib.hid ((sy.below hb1).mono hb1.size)
  have hmx := (mayE_zero x).1 hm
  have hmm : mayE (fillL s x) 0 = 0 := (mayE_zero _).2 (by rw [mayL_fill]; exact hmx)
  have hml : (fillL s x).length = x.length := fillL_length x s
  have hdm : foldSt s (fillL s x) = foldSt s x := foldSt_fill x s s
  have htm : toldP (fillL s (fillL s x)) (stepsOf (fillL s x) 0) = true := by rw [fillL_fill]; exact toldP_self _
  have hfl : (foldSt s x).length = 32 := by rw [foldSt_length, hs]
  have HSW : Hid (∀ (hy : mayL y = true) (h : clashL x y = false), allF s true 0 [fillL s x, fillL (foldSt s x) y] = (foldSt (foldSt s x) y, 2) ∧ allF s true 0 [fillL (foldSt s x) y, fillL s x] = (foldSt (foldSt s x) y, 2)) := fun hy h => swap_law hmx hy h s hs
  obtain ⟨a, cap, rfl, hna, haa⟩ := sx
  obtain ⟨a', cap', rfl, hnb, hbb⟩ := sy
  clear hna haa hnb hbb
  have hl' : decide ((100 : Int) < (x.length : Int)) = false := decide_eq_false (by omega)
  have hl2 : decide ((100 : Int) < (y.length : Int)) = false := decide_eq_false (by omega)
  generalize hw0 : w.alloc (.cells (stArr s) 24) = w0 at hb1 h0 hlt SX SY
  have hfi := fill_any x (.slice a x.length cap) s hs w0 (by omega) SX.out hm
  generalize hgm : fillL s x = m at hmm hml hdm htm HSW hfi
  generalize hga : foldSt s x = aft at hdm hfl HSW
  have HF := Lib.hid hfi
  have H0 := Lib.hid h0
  have HB1 := Lib.hid hb1
  have HLT := Lib.hid hlt
  have HW0 := Lib.hid hw0
  have HMX := Lib.hid hmx
  have HMM := Lib.hid hmm
  have HDM := Lib.hid hdm
  have HTM := Lib.hid htm
  have HML := Lib.hid hml
  clear hfi h0 hb1 hlt hw0 hgm hga hmm hdm htm hml hmx hm
  go_enter Try.func4, Try.ntmps4
  go_wp2_with (first | (rw [HW0.out]; refine wpList_load rfl 24 (.tmp 3) rfl ⟨w.heap.size, 0, none⟩ rfl (.agg (stArr s)) (ld_all H0.out hs) ?_))
  refine HF.out.mono ?_
  rintro e w1 ⟨vm, rfl, om, b1⟩
  rw [← HML.out] at om
  obtain ⟨am, cm, rfl⟩ := ownsRow_slice om
  have k1 := (b1.block _ HLT.out).trans H0.out
  go_wp2_with (first | (refine wpList_load rfl 24 (.tmp 3) rfl ⟨w.heap.size, 0, none⟩ rfl (.agg (stArr s)) (ld_all k1 hs) ?_))
  refine (do_ok m (.slice am m.length cm) s hs w1 (by have := HML.out; omega) (owns_sns om) HMM.out).mono ?_
  rintro e w2 ⟨rfl, b2⟩
  rw [HDM.out, HTM.out]
  have b02 := b1.trans (b2.mono b1.size)
  have om2 := owns_below om b2
  have hneq : ((m.length : Int) != (x.length : Int)) = false := by have := HML.out; simp; omega
  clear b1 b2 om k1
  go_wp2_with (first | (rw [zero24]; refine wpList_store rfl 24 (.tmp 9) (.tmp 47) rfl ⟨w2.heap.size, 0, none⟩ rfl (.agg (stArr aft)) rfl (st_all _ (heap_alloc_new w2 _) zst_length hfl) ?_) | (refine wpList_load rfl 24 (.tmp 9) rfl ⟨w2.heap.size, 0, none⟩ rfl (.agg (stArr aft)) (ld_all (setRow_heap _ w2.heap.size _ (stArr aft) 24 _ (heap_alloc_new w2 (.cells (stArr zst) 24))) hfl) ?_))
  have hg := grownBy_setRow (w2.alloc (.cells (stArr zst) 24)) w2.heap.size (stArr aft)
  have b03 : Below w0.heap.size w0 ((w2.alloc (.cells (stArr zst) 24)).setRow w2.heap.size (stArr aft)) := by
    have := b02.alloc b02.size (.cells (stArr zst) 24)
    exact this.grown hg this.size (fun k e => by cases e; exact b02.size)
  have om3 : ((w2.alloc (.cells (stArr zst) 24)).setRow w2.heap.size (stArr aft)).ownsRow w0.heap.size 36 14 (.slice am m.length cm) m.length (m.flatMap Sn.cells) :=
    owns_turn (om2.alloc _) hg (fun e => by have := (om2.lt _ e).2; omega)
  clear hg om2 b02
  generalize (w2.alloc (.cells (stArr zst) 24)).setRow w2.heap.size (stArr aft) = w3 at b03 om3
  have hsy : Sns w3.heap.size w3 (.slice a' y.length cap') y := (SY.out.below b03).mono b03.size
  by_cases hmy : mayE y 0 = 0
  · refine (fill_any y (.slice a' y.length cap') aft hfl w3 (by omega) hsy hmy).mono ?_
    rintro e w4 ⟨vn, rfl, on, b4⟩
    have hn' : mayE (fillL aft y) 0 = 0 := (mayE_zero _).2 (by rw [mayL_fill]; exact (mayE_zero y).1 hmy)
    have hnl : (fillL aft y).length = y.length := fillL_length y aft
    have HSY := Lib.hid (HSW.out ((mayE_zero y).1 hmy))
    have hff : (foldSt aft y).length = 32 := by rw [foldSt_length, hfl]
    rw [← hnl] at on
    generalize fillL aft y = n at hn' hnl HSY on
    generalize foldSt aft y = fin at HSY hff
    obtain ⟨an, cn, rfl⟩ := ownsRow_slice on
    have b04 := b03.trans (b4.mono b03.size)
    have om4 := owns_below om3 b4
    have on4 : w4.ownsRow w0.heap.size 36 14 (.slice an n.length cn) n.length (n.flatMap Sn.cells) := on.mono b03.size
    have HNL := Lib.hid hnl
    have HN := Lib.hid hn'
    have HMY := Lib.hid hmy
    clear b4 b03 om3 on hsy hnl hn' hmy HSW
    go_wp2_with fail
    refine (clash_any x y (.slice a x.length cap) (.slice a' y.length cap') w4 (by omega) (by omega) ((SX.out.below b04).mono b04.size) ((SY.out.below b04).mono b04.size)).mono ?_
    rintro e w5 ⟨rfl, b5⟩
    have b05 := b04.trans (b5.mono b04.size)
    have om5 := owns_below om4 b5
    have on5 := owns_below on4 b5
    have hcom : clashL y x = clashL x y := clashL_comm y x
    have HCOM := Lib.hid hcom
    clear b5 b04 om4 on4 hcom
    generalize hcl : clashL x y = cl at HCOM HSY ⊢
    have HCL := Lib.hid hcl
    clear hcl
    cases cl
    · obtain ⟨hs1, hs2⟩ := HSY.out rfl
      have k5 := (b05.block _ HLT.out).trans H0.out
      have hA := all2 s hs (owns_sns om5) (owns_sns on5) (by have := HML.out; omega) (by have := HNL.out; omega) HMM.out HN.out hs1
      clear hs1
      go_wp2_with (first | (refine wpList_load rfl 24 (.tmp 3) rfl ⟨w.heap.size, 0, none⟩ rfl (.agg (stArr s)) (ld_all k5 hs) ?_))
      refine hA.mono ?_
      rintro e w6 ⟨rfl, b6⟩
      have b06 := b05.trans (b6.mono b05.size)
      have om6 := owns_below om5 b6
      have on6 := owns_below on5 b6
      have hg := grownBy_setRow (w6.alloc (.cells (stArr zst) 24)) w6.heap.size (stArr fin)
      have b07 : Below w0.heap.size w0 ((w6.alloc (.cells (stArr zst) 24)).setRow w6.heap.size (stArr fin)) := by
        have := b06.alloc b06.size (.cells (stArr zst) 24)
        exact this.grown hg this.size (fun k e => by cases e; exact b06.size)
      have om7 := owns_turn (om6.alloc (.cells (stArr zst) 24)) hg (fun e => by have := (om6.lt _ e).2; omega)
      have on7 := owns_turn (on6.alloc (.cells (stArr zst) 24)) hg (fun e => by have := (on6.lt _ e).2; omega)
      have k14 := setRow_heap _ w6.heap.size _ (stArr fin) 24 _ (heap_alloc_new w6 (.cells (stArr zst) 24))
      clear hg b6 b05 om5 on5 b06 om6 on6 k5 hA
      obtain ⟨w7, hw7⟩ : ∃ w7, (w6.alloc (.cells (stArr zst) 24)).setRow w6.heap.size (stArr fin) = w7 := ⟨_, rfl⟩
      rw [hw7] at b07 om7 on7 k14
      have k7 := (b07.block _ HLT.out).trans H0.out
      have HW7 := Lib.hid hw7
      have HK7 := Lib.hid k7
      have HK14 := Lib.hid k14
      clear hw7 k7 k14
      go_wp2_with (first | (rw [zero24]; refine wpList_store rfl 24 (.tmp 14) (.tmp 83) rfl ⟨w6.heap.size, 0, none⟩ rfl (.agg (stArr fin)) rfl (st_all _ (heap_alloc_new w6 _) zst_length hff) ?_; rw [HW7.out]) | (refine wpList_load rfl 24 (.tmp 3) rfl ⟨w.heap.size, 0, none⟩ rfl (.agg (stArr s)) (ld_all HK7.out hs) ?_))
      refine (all2 s hs (owns_sns on7) (owns_sns om7) (by have := HNL.out; omega) (by have := HML.out; omega) HN.out HMM.out hs2).mono ?_
      rintro e w8 ⟨rfl, b8⟩
      have b08 := b07.trans (b8.mono b07.size)
      have k148 := (b8.block _ (lt_of_heap HK14.out)).trans HK14.out
      have hlt14 : w6.heap.size < w8.heap.size := lt_of_heap k148
      have hg := grownBy_setRow (w8.alloc (.cells (stArr zst) 24)) w8.heap.size (stArr fin)
      have b09 : Below w0.heap.size w0 ((w8.alloc (.cells (stArr zst) 24)).setRow w8.heap.size (stArr fin)) := by
        have := b08.alloc b08.size (.cells (stArr zst) 24)
        exact this.grown hg this.size (fun k e => by cases e; exact b08.size)
      have k17 := setRow_heap _ w8.heap.size _ (stArr fin) 24 _ (heap_alloc_new w8 (.cells (stArr zst) 24))
      have k149 := cells_turn ((Below.heap_alloc w8 (.cells (stArr zst) 24) _ hlt14).trans k148) hg (by omega)
      clear hg b8 b07 om7 on7 b08 k148 hlt14 hs2
      obtain ⟨w9, hw9⟩ : ∃ w9, (w8.alloc (.cells (stArr zst) 24)).setRow w8.heap.size (stArr fin) = w9 := ⟨_, rfl⟩
      rw [hw9] at b09 k17 k149
      have HW9 := Lib.hid hw9
      have HK17 := Lib.hid k17
      have HK149 := Lib.hid k149
      clear hw9 k17 k149
      go_wp2_with (first | (rw [zero24]; refine wpList_store rfl 24 (.tmp 17) (.tmp 92) rfl ⟨w8.heap.size, 0, none⟩ rfl (.agg (stArr fin)) rfl (st_all _ (heap_alloc_new w8 _) zst_length hff) ?_; rw [HW9.out]))
      refine op_load 24 (.tmp 14) rfl ⟨w6.heap.size, 0, none⟩ rfl (.agg (stArr fin)) (ld_all HK149.out hff) ?_
      go_wp2_with fail
      refine op_load 24 (.tmp 17) rfl ⟨w8.heap.size, 0, none⟩ rfl (.agg (stArr fin)) (ld_all HK17.out hff) ?_
      have heq := eql_st hff hff
      go_wp2_with fail
      refine (clash_any y x (.slice a' y.length cap') (.slice a x.length cap) w9 (by omega) (by omega) ((SY.out.below b09).mono b09.size) ((SX.out.below b09).mono b09.size)).mono ?_
      rintro e w10 ⟨rfl, b10⟩
      have b010 := b09.trans (b10.mono b09.size)
      rw [HCOM.out]
      clear b10 b09
      go_wp2_with fail
      refine (clash_any x y (.slice a x.length cap) (.slice a' y.length cap') w10 (by omega) (by omega) ((SX.out.below b010).mono b010.size) ((SY.out.below b010).mono b010.size)).mono ?_
      rintro e w11 ⟨rfl, b11⟩
      have b011 := HB1.out.trans ((b010.trans (b11.mono b010.size)).mono (Nat.le_of_lt HLT.out))
      rw [HCL.out]
      clear b11 b010
      go_wp2_with (go_at_call 14; refine (wakes26_any _).mono ?_; rintro e w12 ⟨rfl, b12⟩)
      go_ret
      exact ⟨rfl, b011.trans (b12.mono b011.size)⟩
    · have b05' := HB1.out.trans (b05.mono (Nat.le_of_lt HLT.out))
      clear b05 om5 on5 HSY
      go_wp2_with (go_at_call 14; refine (wakes26_any _).mono ?_; rintro e w6 ⟨rfl, b6⟩)
      go_ret
      exact ⟨rfl, b05'.trans (b6.mono b05'.size)⟩
  · refine (fill_err y (.slice a' y.length cap') aft w3 (by omega) hsy hmy).mono ?_
    rintro e w4 ⟨rfl, b4⟩
    have hne : (mayE y 0 != 0) = true := by simpa using hmy
    have b04 := b03.trans (b4.mono b03.size)
    clear b4 b03 om3 hsy hmy
    go_wp2_with (go_at_call 14; refine (wakes26_any _).mono ?_; rintro e w5 ⟨rfl, b5⟩)
    go_ret
    exact ⟨rfl, HB1.out.trans ((b04.trans (b5.mono b04.size)).mono (Nat.le_of_lt HLT.out))⟩

end Go.Proofs.Ytgdmgeihgkbjaaa
