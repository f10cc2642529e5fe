/- 'cashboxlaw32.WitnessTells' -/
import Derived.Test.YtgdmgeihgkbjaaaCountRef
import Derived.Test.YtgdmgeihgkbjaaaSerial
namespace Go.Proofs.Ytgdmgeihgkbjaaa
open Go.RowKit Go.Shelf

theorem eql_kd {s : List Int} (hs : s.length = 5) (w : World) : (binOp .eql 68 (.agg (kdA s)) (.agg (kdA s))).run Try.prog w = .ok (.bool true) w := by
  obtain ⟨a, b, c, d, e, rfl⟩ : ∃ a b c d e, s = [a, b, c, d, e] := by
    match s, hs with
    | [a, b, c, d, e], _ => exact ⟨a, b, c, d, e, rfl⟩
  have h := run_equalIn_array (P := Try.prog) w 9999 68 3 5 1 (kdA [a, b, c, d, e]) (kdA [a, b, c, d, e]) (fun _ => true) Try.underlying68 (by simp [go_sem]) (fun i hi => by
    match i, hi with
    | 0, _ => exact ⟨.int .i64 a, .int .i64 a, by simp [go_sem, kdA], by simp [go_sem, kdA], by simp [go_sem]⟩
    | 1, _ => exact ⟨.int .i64 b, .int .i64 b, by simp [go_sem, kdA], by simp [go_sem, kdA], by simp [go_sem]⟩
    | 2, _ => exact ⟨.int .i64 c, .int .i64 c, by simp [go_sem, kdA], by simp [go_sem, kdA], by simp [go_sem]⟩
    | 3, _ => exact ⟨.int .i64 d, .int .i64 d, by simp [go_sem, kdA], by simp [go_sem, kdA], by simp [go_sem]⟩
    | 4, _ => exact ⟨.int .i64 e, .int .i64 e, by simp [go_sem, kdA], by simp [go_sem, kdA], by simp [go_sem]⟩)
  rw [run_eql_struct, h]; rfl

theorem wpList_load_gd {ops : Array Oper} {rest : List Oper} {o : Oper} {a : Act} {w : World} {Q : Exit → Act → World → Prop} (ty : TypeId) (x : Operand) (ho : o.op = .load ty x) (hw : Region.wanted o (yielded ops a.tmps) = true)
    (ad : Addr) (hx : a.eval x = .pointer (some ad)) (v : Value) (hl : (loadVar ty ad).run Try.prog w = .ok v w) (h : wpList Try.prog ops Q rest (a.put o.dst v) w) : wpList Try.prog ops Q (o :: rest) a w := by
  simp only [wpList, hw]
  rw [if_pos trivial]
  exact .inl (op_loadF ty x ho ad hx v hl h)

/-- The history mended; nothing, where it may not be. -/
def mdP (l : List Sn) : List Sn := if mayP l then mendP l else []

theorem SnRow.below {w w' : World} {v : Value} {l : List Sn} (h : SnRow w v l) (hb : Below w.heap.size w w') : SnRow w' v l := by
  obtain ⟨a, c, e, h⟩ := h
  refine ⟨a, c, e, fun q x hx => ?_⟩
  obtain ⟨b, o, h1, h2, h3⟩ := h q x hx
  exact ⟨b, o, h1, Nat.lt_of_lt_of_le h2 hb.size, h3.below h2 hb⟩
theorem SnRow.nil (w : World) : SnRow w slNil [] := ⟨none, 0, rfl, fun q f h => by simp at h⟩
theorem SnRow.of_owns {w : World} {base : Nat} {v : Value} {l : List Sn} (h : w.ownsRow base 36 14 v l.length (l.flatMap Sn.cells)) : SnRow w v l :=
  SnRow.of_sns (rows_of_owns (enc := Sn.cells) (k := 14) (fun _ => rfl) h)

theorem mend37_gen (l : List Sn) (v : Value) (w : World) (hl : l.length ≤ 100000) (hv : Sns w.heap.size w v l) :
    Calls Try.prog 37 #[v] w fun e w' => (∃ a c, e = .returned (.tuple #[.slice a (mdP l).length c, .int .i64 (erP l)]) ∧ SnRow w' (.slice a (mdP l).length c) (mdP l)) ∧ Below w.heap.size w w' := by
  cases hm : mayP l with
  | false =>
    refine (mend_err l v w hl hv hm).mono ?_
    rintro e w' ⟨rfl, hb⟩
    have e1 : mdP l = [] := by simp [mdP, hm]
    have e2 : erP l = 2 := by simp [erP, hm]
    rw [e1, e2]
    exact ⟨⟨none, 0, rfl, SnRow.nil _⟩, hb⟩
  | true =>
    refine (mend_ok l v w hl hv hm).mono ?_
    rintro e w' ⟨vo, rfl, hr, hb⟩
    have e1 : mdP l = mendP l := by simp [mdP, hm]
    have e2 : erP l = 0 := by simp [erP, hm]
    rw [e1, e2]
    obtain ⟨a, c, rfl⟩ := ownsRow_slice hr
    exact ⟨⟨a, c, rfl, SnRow.of_owns hr⟩, hb⟩

theorem mend34_gen (l : List Sn) (v : Value) (w : World) (hl : l.length ≤ 100000) (hv : Sns w.heap.size w v l) :
    Calls Try.prog 34 #[v] w fun e w' => (∃ a c, e = .returned (.tuple #[.slice a (mdP l).length c, .int .i64 (erP l)]) ∧ SnRow w' (.slice a (mdP l).length c) (mdP l)) ∧ Below w.heap.size w w' := by
  cases hm : mayP l with
  | false =>
    refine (mend34_err l v w hl hv hm).mono ?_
    rintro e w' ⟨rfl, hb⟩
    have e1 : mdP l = [] := by simp [mdP, hm]
    have e2 : erP l = 2 := by simp [erP, hm]
    rw [e1, e2]
    exact ⟨⟨none, 0, rfl, SnRow.nil _⟩, hb⟩
  | true =>
    refine (mend34_ok l v w hl hv hm).mono ?_
    rintro e w' ⟨vo, rfl, hr, hb⟩
    have e1 : mdP l = mendP l := by simp [mdP, hm]
    have e2 : erP l = 0 := by simp [erP, hm]
    rw [e1, e2]
    obtain ⟨a, c, rfl⟩ := ownsRow_slice hr
    exact ⟨⟨a, c, rfl, SnRow.of_owns hr⟩, hb⟩

theorem wrong40_row (l : List Sn) (v : Value) (w : World) (hl : l.length ≤ 100000) (hv : Sns w.heap.size w v l) :
    Calls Try.prog 40 #[v] w fun e w' => (∃ a c, e = .returned (.tuple #[.slice a (fsP l).length c, .int .i64 (erP l)]) ∧ FtRow w' (.slice a (fsP l).length c) (fsP l)) ∧ Below w.heap.size w w' := by
  refine (wrong40_gen l v w hl hv).mono ?_
  rintro e w' ⟨vo, rfl, hr, hb⟩
  obtain ⟨a, c, rfl⟩ := ownsRow_slice hr
  exact ⟨⟨a, c, rfl, FtRow.of_owns hr⟩, hb⟩

/-- Count's answer. -/
def cnP (l : List Sn) : Nat × Nat × List Int := if mayP l then ((readsP l).length, (wrongP l).length, kdP (wrongP l)) else (0, 0, kd0)

theorem count39_gen (l : List Sn) (v : Value) (w : World) (hl : l.length ≤ 100000) (hv : Sns w.heap.size w v l) :
    Calls Try.prog 39 #[v] w fun e w' => e = .returned (.tuple #[.int .i64 ((cnP l).1 : Int), .int .i64 ((cnP l).2.1 : Int), .agg (kdA (cnP l).2.2), .int .i64 (erP l)]) ∧ Below w.heap.size w w' := by
  cases hm : mayP l with
  | false =>
    have h := count_err l v w hl hv hm
    have e1 : cnP l = (0, 0, kd0) := by simp [cnP, hm]
    have e2 : erP l = 2 := by simp [erP, hm]
    rw [e1, e2]
    exact h
  | true =>
    have h := count_ok l v w hl hv hm
    have e1 : cnP l = ((readsP l).length, (wrongP l).length, kdP (wrongP l)) := by simp [cnP, hm]
    have e2 : erP l = 0 := by simp [erP, hm]
    rw [e1, e2]
    exact h

theorem count43_gen (l : List Sn) (v : Value) (w : World) (hl : l.length ≤ 100000) (hv : Sns w.heap.size w v l) :
    Calls Try.prog 43 #[v] w fun e w' => e = .returned (.tuple #[.int .i64 ((cnP l).1 : Int), .int .i64 ((cnP l).2.1 : Int), .agg (kdA (cnP l).2.2), .int .i64 (erP l)]) ∧ Below w.heap.size w w' := by
  cases hm : mayP l with
  | false =>
    have h := count43_err l v w hl hv hm
    have e1 : cnP l = (0, 0, kd0) := by simp [cnP, hm]
    have e2 : erP l = 2 := by simp [erP, hm]
    rw [e1, e2]
    exact h
  | true =>
    have h := count43_ok l v w hl hv hm
    have e1 : cnP l = ((readsP l).length, (wrongP l).length, kdP (wrongP l)) := by simp [cnP, hm]
    have e2 : erP l = 0 := by simp [erP, hm]
    rw [e1, e2]
    exact h

theorem cnP_kinds (l : List Sn) : (cnP l).2.2.length = 5 := by
  unfold cnP
  split
  · rfl
  · rfl

theorem mdP_length {l : List Sn} (hl : l.length ≤ 100000) : (mdP l).length ≤ 10000000000 := by
  unfold mdP
  split
  · rw [mendP_length]; omega
  · simp

set_option maxRecDepth 100000 in
set_option maxHeartbeats 4000000 in
theorem tells_bad (l : List Sn) (v : Value) (w : World) (hv : Sns w.heap.size w v l) (hb : 300 < l.length) : Calls Try.prog 13 #[v] w fun e w' => e = .returned (.bool true) ∧ Below w.heap.size w w' := by
  obtain ⟨a, cap, rfl, _, _⟩ := hv
  go_enter Try.func13, Try.ntmps13
  go_wp2_with fail
  refine (wakes32_any _).mono ?_
  rintro e w' ⟨rfl, bel⟩
  go_wp2_with fail
  go_ret
  exact ⟨rfl, bel⟩

set_option maxRecDepth 100000 in
set_option maxHeartbeats 8000000 in
theorem tells_go (l : List Sn) (v : Value) (w : World) (hv : Sns w.heap.size w v l) (hb : l.length ≤ 300) : Calls Try.prog 13 #[v] w fun e w' => e = .returned (.bool true) ∧ Below w.heap.size w w' := by
  have hl : l.length ≤ 100000 := by omega
  have HV := Lib.hid hv
  obtain ⟨va, vc, rfl, _, _⟩ := hv
  have HSV : Hid (∀ W, Below w.heap.size w W → Sns W.heap.size W (.slice va l.length vc) l) := Lib.hid (fun W hW => (HV.out.below hW).mono hW.size)
  have H29 := Lib.hid (fun W (hW : Sns W.heap.size W (.slice va l.length vc) l) => wrong_gen l _ W hl hW)
  have H40 := Lib.hid (fun W (hW : Sns W.heap.size W (.slice va l.length vc) l) => wrong40_row l _ W hl hW)
  have H36 := Lib.hid (fun W (hW : Sns W.heap.size W (.slice va l.length vc) l) => firstF_any l _ W hl hW)
  have H41 := Lib.hid (fun W (hW : Sns W.heap.size W (.slice va l.length vc) l) => first41_gen l _ W hl hW)
  have H37 := Lib.hid (fun W (hW : Sns W.heap.size W (.slice va l.length vc) l) => mend37_gen l _ W hl hW)
  have H34 := Lib.hid (fun W (hW : Sns W.heap.size W (.slice va l.length vc) l) => mend34_gen l _ W hl hW)
  have H39 := Lib.hid (fun W (hW : Sns W.heap.size W (.slice va l.length vc) l) => count39_gen l _ W hl hW)
  have H43 := Lib.hid (fun W (hW : Sns W.heap.size W (.slice va l.length vc) l) => count43_gen l _ W hl hW)
  have HFL := Lib.hid (fsP_length hl)
  have HML := Lib.hid (mdP_length hl)
  have HKL := Lib.hid (cnP_kinds l)
  generalize (cnP l).1 = nr at *
  generalize (cnP l).2.1 = nw at *
  generalize (cnP l).2.2 = ks at *
  generalize (firstP l).1 = ff at *
  generalize (firstP l).2 = fb at *
  generalize mdP l = mm at *
  generalize fsP l = fs at *
  generalize erP l = er at *
  go_enter Try.func13, Try.ntmps13
  go_wp2_with fail
  refine (H29.out w (HSV.out _ (Below.refl _ _))).mono ?_
  rintro e w1 ⟨⟨a1, c1, rfl, hr1⟩, b1⟩
  have HB1 := Lib.hid b1
  have HR1 := Lib.hid hr1
  clear b1 hr1 H29
  go_wp2_with fail
  refine (H40.out w1 (HSV.out _ HB1.out)).mono ?_
  rintro e w2 ⟨⟨a2, c2, rfl, hr2⟩, b2⟩
  have HB2 := Lib.hid (HB1.out.trans (b2.mono HB1.out.size))
  have HR2 := Lib.hid hr2
  have HR12 := Lib.hid (HR1.out.below b2)
  clear b2 hr2 H40 HR1 HB1
  go_wp2_with fail
  refine (H36.out w2 (HSV.out _ HB2.out)).mono ?_
  rintro e w3 ⟨rfl, b3⟩
  obtain ⟨w4, hw4⟩ : ∃ w4, w3.alloc (.cells (ftArr ff) 59) = w4 := ⟨_, rfl⟩
  have hb4 : Below w2.heap.size w2 w4 := hw4 ▸ b3.alloc b3.size _
  have hx4 : w4.heap[w3.heap.size]? = some (.cells (ftArr ff) 59 (0, 0)) := hw4 ▸ heap_alloc_new w3 _
  have HW4 := Lib.hid hw4
  have HB4 := Lib.hid (HB2.out.trans (hb4.mono HB2.out.size))
  have HBL4 := Lib.hid hb4
  have HX4 := Lib.hid hx4
  clear b3 hw4 hb4 hx4 H36
  go_wp2_with (refine wpList_store rfl 59 (.tmp 7) (.tmp 38) rfl ⟨w3.heap.size, 0, none⟩ rfl (.agg (ftArr ff)) rfl (st_ft w3 ff) ?_; rw [HW4.out])
  refine (H41.out w4 (HSV.out _ HB4.out)).mono ?_
  rintro e w5 ⟨rfl, b5⟩
  obtain ⟨w6, hw6⟩ : ∃ w6, w5.alloc (.cells (ftArr ff) 59) = w6 := ⟨_, rfl⟩
  have hb6 : Below w4.heap.size w4 w6 := hw6 ▸ b5.alloc b5.size _
  have hx6 : w6.heap[w5.heap.size]? = some (.cells (ftArr ff) 59 (0, 0)) := hw6 ▸ heap_alloc_new w5 _
  have HW6 := Lib.hid hw6
  have HB6 := Lib.hid (HB4.out.trans (hb6.mono HB4.out.size))
  have HBL6 := Lib.hid (HBL4.out.trans (hb6.mono HBL4.out.size))
  have HX6 := Lib.hid hx6
  have HX46 := Lib.hid ((hb6.block _ (lt_of_heap HX4.out)).trans HX4.out)
  clear b5 hw6 hb6 hx6 H41 HX4 HBL4 HB4
  go_wp2_with (refine wpList_store rfl 59 (.tmp 9) (.tmp 43) rfl ⟨w5.heap.size, 0, none⟩ rfl (.agg (ftArr ff)) rfl (st_ft w5 ff) ?_; rw [HW6.out])
  refine (H37.out w6 (HSV.out _ HB6.out)).mono ?_
  rintro e w7 ⟨⟨a7, c7, rfl, hr7⟩, b7⟩
  have HB7 := Lib.hid (HB6.out.trans (b7.mono HB6.out.size))
  have HBL7 := Lib.hid b7
  have HR7 := Lib.hid hr7
  clear b7 hr7 H37
  go_wp2_with fail
  refine (H34.out w7 (HSV.out _ HB7.out)).mono ?_
  rintro e w8 ⟨⟨a8, c8, rfl, hr8⟩, b8⟩
  have HB8 := Lib.hid (HB7.out.trans (b8.mono HB7.out.size))
  have HBL8 := Lib.hid (HBL7.out.trans (b8.mono HBL7.out.size))
  have HR8 := Lib.hid hr8
  have HR78 := Lib.hid (HR7.out.below b8)
  clear b8 hr8 H34 HR7 HBL7 HB7
  have HBL28 := Lib.hid (HBL6.out.trans (HBL8.out.mono HBL6.out.size))
  have hs33 := same33_any fs fs _ _ w8 HFL.out (HR12.out.below HBL28.out) (HR2.out.below HBL28.out)
  rw [show decide (fs = fs) = true from by simp] at hs33
  have HS33 := Lib.hid hs33
  clear hs33
  go_wp2_with fail
  refine HS33.out.mono ?_
  rintro e w9 ⟨rfl, b9⟩
  have HB9 := Lib.hid (HB8.out.trans (b9.mono HB8.out.size))
  have HX69 := Lib.hid ((b9.block _ (Nat.lt_of_lt_of_le (lt_of_heap HX6.out) HBL8.out.size)).trans ((HBL8.out.block _ (lt_of_heap HX6.out)).trans HX6.out))
  have HX49 := Lib.hid ((b9.block _ (Nat.lt_of_lt_of_le (lt_of_heap HX46.out) HBL8.out.size)).trans ((HBL8.out.block _ (lt_of_heap HX46.out)).trans HX46.out))
  have HR89 := Lib.hid (HR8.out.below b9)
  have HR79 := Lib.hid (HR78.out.below b9)
  clear b9 HS33 HX6 HX46 HR8 HR78
  have e_er : (er != er) = false := by simp
  have e_fb : (fb != fb) = false := by simp
  have hnf := fun w => neq_ft ff ff w
  have hs42 := sameSteps_any mm mm _ _ w9 HML.out HR79.out HR89.out
  rw [show decide (mm = mm) = true from by simp] at hs42
  have HS42 := Lib.hid hs42
  clear hs42
  go_wp2_with (first | (refine wpList_load_gd 59 (.tmp 7) rfl (by rfl) ⟨w3.heap.size, 0, none⟩ rfl (.agg (ftArr ff)) (ld_ft HX49.out) ?_) | (refine wpList_load_gd 59 (.tmp 9) rfl (by rfl) ⟨w5.heap.size, 0, none⟩ rfl (.agg (ftArr ff)) (ld_ft HX69.out) ?_))
  refine HS42.out.mono ?_
  rintro e w10 ⟨rfl, b10⟩
  have HB10 := Lib.hid (HB9.out.trans (b10.mono HB9.out.size))
  clear b10 HS42 hnf
  go_wp2_with fail
  refine (H39.out w10 (HSV.out _ HB10.out)).mono ?_
  rintro e w11 ⟨rfl, b11⟩
  obtain ⟨w12, hw12⟩ : ∃ w12, w11.alloc (.cells (kdA ks) 68) = w12 := ⟨_, rfl⟩
  have hb12 : Below w10.heap.size w10 w12 := hw12 ▸ b11.alloc b11.size _
  have hx12 : w12.heap[w11.heap.size]? = some (.cells (kdA ks) 68 (0, 0)) := hw12 ▸ heap_alloc_new w11 _
  have HW12 := Lib.hid hw12
  have HB12 := Lib.hid (HB10.out.trans (hb12.mono HB10.out.size))
  have HX12 := Lib.hid hx12
  have HS12 := Lib.hid (st_new68 w11 ks HKL.out)
  clear b11 hw12 hb12 hx12 H39
  go_wp2_with (refine wpList_store rfl 68 (.tmp 17) (.tmp 90) rfl ⟨w11.heap.size, 0, none⟩ rfl (.agg (kdA ks)) rfl HS12.out ?_; rw [HW12.out])
  refine (H43.out w12 (HSV.out _ HB12.out)).mono ?_
  rintro e w13 ⟨rfl, b13⟩
  obtain ⟨w14, hw14⟩ : ∃ w14, w13.alloc (.cells (kdA ks) 68) = w14 := ⟨_, rfl⟩
  have hb14 : Below w12.heap.size w12 w14 := hw14 ▸ b13.alloc b13.size _
  have hx14 : w14.heap[w13.heap.size]? = some (.cells (kdA ks) 68 (0, 0)) := hw14 ▸ heap_alloc_new w13 _
  have HX124 := Lib.hid ((hb14.block _ (lt_of_heap HX12.out)).trans HX12.out)
  have HW14 := Lib.hid hw14
  have HB14 := Lib.hid (HB12.out.trans (hb14.mono HB12.out.size))
  have HX14 := Lib.hid hx14
  have HS14 := Lib.hid (st_new68 w13 ks HKL.out)
  clear b13 hw14 hb14 hx14 H43 e_er e_fb
  have e_er : (er == er) = true := by simp
  have e_nr : ((nr : Int) == (nr : Int)) = true := by simp
  have e_nw : ((nw : Int) == (nw : Int)) = true := by simp
  have hek := fun w => eql_kd HKL.out w
  go_wp2_with (first | (refine wpList_store rfl 68 (.tmp 20) (.tmp 97) rfl ⟨w13.heap.size, 0, none⟩ rfl (.agg (kdA ks)) rfl HS14.out ?_; rw [HW14.out]) | (refine wpList_load_gd 68 (.tmp 17) rfl (by rfl) ⟨w11.heap.size, 0, none⟩ rfl (.agg (kdA ks)) (ld_kd HX124.out HKL.out) ?_) | (refine wpList_load_gd 68 (.tmp 20) rfl (by rfl) ⟨w13.heap.size, 0, none⟩ rfl (.agg (kdA ks)) (ld_kd HX14.out HKL.out) ?_))
  refine (wakes32_any _).mono ?_
  rintro e w15 ⟨rfl, b15⟩
  have HB15 := Lib.hid (HB14.out.trans (b15.mono HB14.out.size))
  clear b15
  go_wp2_with fail
  go_ret
  exact ⟨rfl, HB15.out⟩

theorem tells_any (l : List Sn) (v : Value) (w : World) (hv : Sns w.heap.size w v l) : Calls Try.prog 13 #[v] w fun e w' => e = .returned (.bool true) ∧ Below w.heap.size w w' := by
  by_cases hb : 300 < l.length
  · exact tells_bad l v w hv hb
  · exact tells_go l v w hv (by omega)

end Go.Proofs.Ytgdmgeihgkbjaaa
