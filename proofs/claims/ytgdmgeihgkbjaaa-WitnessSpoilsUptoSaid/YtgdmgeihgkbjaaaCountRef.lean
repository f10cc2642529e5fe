/- 'cashboxref32.First', 'cashboxref32.Count' -/
import Derived.Test.YtgdmgeihgkbjaaaWrongRef
namespace Go.Proofs.Ytgdmgeihgkbjaaa
open Go.RowKit Go.Shelf

theorem firstP_fs (l : List Sn) : firstP l = (match fsP l with | [] => (ftz, false) | f :: r => (minF r f, true)) := by
  unfold firstP fsP
  cases mayP l <;> rfl

theorem minF_step {r : List Ft} {q : Nat} {f : Ft} (hf : r[q]? = some f) (m : Ft) : minF (r.drop q) m = minF (r.drop (q + 1)) (if f.i < m.i then f else m) := by
  obtain ⟨h1, h2⟩ := List.getElem?_eq_some_iff.1 hf
  rw [List.drop_eq_getElem_cons h1, h2]
  rfl

theorem run_build59z (w : World) : (Instr.build 59 #[]).run Try.prog w = .ok (.agg (ftArr ftz)) w := by
  simp [go_sem, ftArr, ftz, nz, z0]

set_option maxRecDepth 100000 in
set_option maxHeartbeats 4000000 in
theorem first41_gen (l : List Sn) (v : Value) (w : World) (hl : l.length ≤ 100000) (hv : Sns w.heap.size w v l) :
    Calls Try.prog 41 #[v] w fun e w' => e = .returned (.tuple #[.agg (ftArr (firstP l).1), .bool (firstP l).2]) ∧ Below w.heap.size w w' := by
  obtain ⟨w1, hw1⟩ : ∃ w1, w.alloc (.cells (ftArr ftz) 59) = w1 := ⟨_, rfl⟩
  have hb1 : Below w.heap.size w w1 := hw1 ▸ below_alloc1 _
  have hx1 : w1.heap[w.heap.size]? = some (.cells (ftArr ftz) 59 (0, 0)) := hw1 ▸ heap_alloc_new w _
  have hw1' : w.alloc (.cells #[.int .i64 0, .int .i64 0, .int .i64 0, .int .i64 0, .int .i64 0, .int .u8 0, .int .u8 0, .int .u8 0, .int .u8 0, .int .u8 0, .int .u8 0, .int .u8 0, .int .u8 0, .int .u8 0, .int .u8 0, .int .u8 0, .int .u8 0, .int .u8 0, .int .u8 0, .int .u8 0, .int .u8 0, .int .i64 0, .int .i64 0, .int .i64 0, .int .i64 0, .int .i64 0, .int .i64 0, .int .i8 0] 59) = w1 := hw1
  have HC := Lib.hid (wrong40_gen l v w1 hl ((hv.below hb1).mono hb1.size))
  have hfl := fsP_length hl
  have HFP := Lib.hid (firstP_fs l)
  have HFI : Hid (∀ f ∈ fsP l, 0 ≤ f.i ∧ f.i ≤ 100000) := Lib.hid (fun f hf => by
    unfold fsP at hf
    split at hf
    · rename_i hm
      exact wrong_range hl hm f hf
    · simp at hf)
  have HW1 := Lib.hid hw1'
  have HB1 := Lib.hid hb1
  have HX1 := Lib.hid hx1
  obtain ⟨va, vc, rfl, _, _⟩ := hv
  clear hw1 hw1' hb1 hx1
  go_enter Try.func41, Try.ntmps41
  go_upto_region 1 with (fail)
  rw [HW1.out]
  go_wp2_with fail
  refine HC.out.mono ?_
  rintro e w2 ⟨vr, rfl, hrow, b2⟩
  obtain ⟨ra, rc, hvr, hft⟩ := FtRow.of_owns hrow
  subst hvr
  have HROW := Lib.hid hft
  have HB2 := Lib.hid (HB1.out.trans (b2.mono HB1.out.size))
  have HX2 := Lib.hid ((b2.block _ (lt_of_heap HX1.out)).trans HX1.out)
  clear hrow b2 hft HC HX1
  cases hfs : fsP l with
  | nil =>
    have HF : Hid (firstP l = (ftz, false)) := Lib.hid (by rw [HFP.out, hfs])
    rw [hfs] at hfl
    clear hfs HROW
    simp only [List.length_nil]
    go_wp2_with (refine wpList_store rfl 59 (.tmp 2) (.tmp 16) rfl ⟨w.heap.size, 0, none⟩ rfl (.agg (ftArr ftz)) rfl (st_box ftz HX2.out) ?_)
    have hl9 := ld_ft (setRow_heap _ w.heap.size _ (ftArr ftz) _ _ HX2.out)
    refine bodyPost_ret (v := .tuple #[.agg (ftArr ftz), .bool false]) (results_ct1 Try.results41 rfl hl9 rfl) rfl ⟨by rw [HF.out], ?_⟩
    exact HB2.out.grown (grownBy_setRow _ _ _) HB2.out.size (fun k e => by cases e; omega)
  | cons f r =>
    have HF : Hid (firstP l = (minF r f, true)) := Lib.hid (by rw [HFP.out, hfs])
    rw [hfs] at hfl
    have hft := HROW.out
    rw [hfs] at hft
    have hfi := HFI.out
    rw [hfs] at hfi
    obtain ⟨g, rfl, hg, hr⟩ := hft 0 f rfl
    have hpos : (0 : Int) < ((f :: r).length : Int) := by simp only [List.length_cons]; omega
    have hd2 : (((f :: r).length : Int) == 0) = false := by simp; omega
    have hlr : (f :: r).length = r.length + 1 := rfl
    have hld := ld_ft_row hr (q := 0) (f := f) rfl
    rw [Nat.zero_mul, Nat.zero_add] at hld
    obtain ⟨w3, hw3⟩ : ∃ w3, w2.alloc (.cells (ftArr f) 59) = w3 := ⟨_, rfl⟩
    have hb3 : Below w2.heap.size w2 w3 := hw3 ▸ below_alloc1 _
    have hx3 : w3.heap[w2.heap.size]? = some (.cells (ftArr f) 59 (0, 0)) := hw3 ▸ heap_alloc_new w2 _
    have HW3 := Lib.hid hw3
    have HB3 := Lib.hid (HB2.out.trans (hb3.mono HB2.out.size))
    have HX3 := Lib.hid hx3
    have HX23 := Lib.hid ((hb3.block _ (lt_of_heap HX2.out)).trans HX2.out)
    have HR3 := Lib.hid (hr.below hg hb3)
    have HG3 : Hid (g < w2.heap.size) := hg
    have HLD := Lib.hid hld
    have HRI := Lib.hid hfi
    have HZ2 : Hid (w.heap.size < w2.heap.size) := Lib.hid (by have := lt_of_heap HX2.out; omega)
    clear hfs hft hr hg hld hw3 hb3 hx3 hfi HROW HFI HX2
    generalize hln : (f :: r).length = ln at *
    have hst := fun (w : World) => st_ft w f
    go_wp2_with (first | (refine wpList_load rfl 59 (.tmp 18) rfl ⟨g, 0, none⟩ rfl (.agg (ftArr f)) HLD.out ?_) | (refine wpList_store rfl 59 (.tmp 6) (.tmp 19) rfl ⟨w2.heap.size, 0, none⟩ rfl (.agg (ftArr f)) rfl (st_ft w2 f) ?_; rw [HW3.out]))
    clear hst
    go_loopw [7] (fun io wr => ∃ (q : Nat) (m : Ft), q ≤ r.length ∧ io = .int .i64 ((q : Int) + 1) ∧ minF (r.drop q) m = minF r f ∧ (0 ≤ m.i ∧ m.i ≤ 100000) ∧ wr.heap[w2.heap.size]? = some (.cells (ftArr m) 59 (0, 0)) ∧ wr.heap[w.heap.size]? = some (.cells (ftArr ftz) 59 (0, 0)) ∧ RowsAt Ft.cells 28 wr g 0 (f :: r) ∧ Below w.heap.size w wr) (fun io _ => (r.length + 1) - (intOf io).toNat)
    case atStart => exact ⟨0, f, Nat.zero_le _, rfl, rfl, HRI.out f (by simp), HX3.out, HX23.out, HR3.out, HB3.out⟩
    case round =>
      obtain ⟨q, m, hq, rfl, hM, hmi, hm1, hm0, hrr, hB⟩ := hrel
      have HM := Lib.hid hM
      have HM1 := Lib.hid hm1
      have HM0 := Lib.hid hm0
      have HRR := Lib.hid hrr
      have HB := Lib.hid hB
      have HMI := Lib.hid hmi
      clear hM hm1 hm0 hrr hB hmi
      by_cases hlt : q < r.length
      · obtain ⟨x, hx⟩ : ∃ x, r[q]? = some x := ⟨_, List.getElem?_eq_getElem hlt⟩
        have hx' : (f :: r)[q + 1]? = some x := by simpa using hx
        have hxi := HRI.out x (List.mem_of_getElem? hx')
        have c0 := (ftr_at HRR.out hx').1
        have c6 := ft_i HM1.out
        have hmn := minF_step hx m
        have hln2 : (q : Int) + 1 < (ln : Int) := by omega
        have HLD : Hid (∀ W, Below wr.heap.size wr W → (loadVar 59 ⟨g, (q + 1) * 28, none⟩).run Try.prog W = .ok (.agg (ftArr x)) W) := Lib.hid (fun W hW => by
          have h := ld_ft_row (HRR.out.below (Nat.lt_trans HG3.out (lt_of_heap HM1.out)) hW) hx'
          rwa [Nat.zero_add] at h)
        have hco : ((q : Int) + 1).toNat = q + 1 := by omega
        have HLT := Lib.hid hlt
        have HXI := Lib.hid hxi
        clear hx hx' hxi hlt
        by_cases hc : x.i < m.i
        · have hd : decide (x.i < m.i) = true := by simp; omega
          rw [if_pos hc] at hmn
          have HMN := Lib.hid hmn
          clear hc hmn
          go_wp2_with fail
          go_quiet (fail)
          go_upto_region 9 with (fail)
          obtain ⟨w4, hw4⟩ : ∃ w4, wr.drewN nq = w4 := ⟨_, rfl⟩
          have hb4 : Below wr.heap.size wr w4 := hw4 ▸ Below.drewN' (Below.refl _ _) nq
          have HLD4 := Lib.hid (HLD.out w4 hb4)
          have HM4 := Lib.hid ((hb4.block _ (lt_of_heap HM1.out)).trans HM1.out)
          have HM04 := Lib.hid ((hb4.block _ (lt_of_heap HM0.out)).trans HM0.out)
          have HR4 := Lib.hid (HRR.out.below (Nat.lt_trans HG3.out (lt_of_heap HM1.out)) hb4)
          have HB4 := Lib.hid (HB.out.trans (hb4.mono HB.out.size))
          rw [hw4]
          clear hw4 hb4 c0 c6
          go_wp2_with (first | (refine wpList_load rfl 59 (.tmp 36) rfl ⟨g, (q + 1) * 28, none⟩ rfl (.agg (ftArr x)) HLD4.out ?_) | (refine wpList_store rfl 59 (.tmp 6) (.tmp 37) rfl ⟨w2.heap.size, 0, none⟩ rfl (.agg (ftArr x)) rfl (st_box x HM4.out) ?_))
          go_roundw
          case rel => exact ⟨q + 1, x, by have := HLT.out; omega, by go_num, HMN.out.symm.trans HM.out, HXI.out, setRow_heap _ _ _ _ _ _ HM4.out, cells_turn HM04.out (grownBy_setRow _ _ _) (by have := HZ2.out; omega), fun i y hy j c hc => (World.cell?_of_block ((grownBy_setRow w4 w2.heap.size (ftArr x)).block g (Nat.lt_trans HG3.out (lt_of_heap HM4.out)) (fun e => by cases e; have := HG3.out; omega))).trans (HR4.out i y hy j c hc), HB4.out.grown (grownBy_setRow _ _ _) HB4.out.size (fun k e => by cases e; have := HZ2.out; omega)⟩
          case measure => have := HLT.out; simp [intOf]; omega
        · have hd : decide (x.i < m.i) = false := by simp; omega
          rw [if_neg hc] at hmn
          have HMN := Lib.hid hmn
          clear hc hmn
          go_wp2_with fail
          go_quiet (fail)
          go_wp2_with fail
          go_roundw
          case rel => exact ⟨q + 1, m, by have := HLT.out; omega, by go_num, HMN.out.symm.trans HM.out, HMI.out, HM1.out, HM0.out, HRR.out.below (Nat.lt_trans HG3.out (lt_of_heap HM1.out)) (Below.drewN' (Below.refl _ _) _), Below.drewN' HB.out _⟩
          case measure => have := HLT.out; simp [intOf]; omega
      · have hqe : q = r.length := by omega
        have HME : Hid (m = minF r f) := Lib.hid (by have h := HM.out; rw [hqe, List.drop_length] at h; exact h)
        have hln2 : ¬ ((q : Int) + 1 < (ln : Int)) := by omega
        have hln3 : decide ((q : Int) + 1 < (ln : Int)) = false := by simp; omega
        go_wp2_with (first | (refine wpList_load rfl 59 (.tmp 6) rfl ⟨w2.heap.size, 0, none⟩ rfl (.agg (ftArr m)) (ld_ft HM1.out) ?_) | (refine wpList_store rfl 59 (.tmp 2) (.tmp 38) rfl ⟨w.heap.size, 0, none⟩ rfl (.agg (ftArr m)) rfl (st_box m HM0.out) ?_))
        have hl9 := ld_ft (setRow_heap _ w.heap.size _ (ftArr m) _ _ HM0.out)
        refine bodyPost_ret (v := .tuple #[.agg (ftArr m), .bool true]) (results_ct1 Try.results41 rfl hl9 rfl) rfl ⟨by rw [HF.out, HME.out], ?_⟩
        exact HB.out.grown (grownBy_setRow _ _ _) HB.out.size (fun k e => by cases e; omega)

/-! ### Count -/

def kdZ : List Int := [0, 0, 0, 0, 0]
theorem results_ttct {P : Program} {fn : Func} {p q r t : Tmp} {sy : TypeId} (h : fn.results = #[.tmp p, .tmp q, .cell r sy, .tmp t]) {tmps : Array Value} {w : World} {c : Addr} {u v z x : Value} (hp : tmps.getD p undef = u) (hq : tmps.getD q undef = v) (hr : tmps.getD r undef = .pointer (some c)) (hc : (loadVar sy c).run P w = .ok z w) (ht : tmps.getD t undef = x) : (results fn tmps).run P w = .ok (.tuple #[u, v, z, x]) w := by
  rw [Array.getD_eq_getD_getElem?] at hp hq hr ht
  simp [results, h, hp, hq, hr, ht, asAddr, hc]

theorem fsP_kinds {l : List Sn} : ∀ f ∈ fsP l, 0 ≤ f.k ∧ f.k ≤ 4 := by
  intro f hf
  unfold fsP at hf
  split at hf
  · rename_i hm
    obtain ⟨i, x, h⟩ := blame_ok hm hf
    exact ⟨h.k0, h.k4⟩
  · simp at hf

set_option maxRecDepth 100000 in
set_option maxHeartbeats 4000000 in
theorem count43_err (l : List Sn) (v : Value) (w : World) (hl : l.length ≤ 100000) (hv : Sns w.heap.size w v l) (hm : mayP l = false) :
    Calls Try.prog 43 #[v] w fun e w' => e = .returned (.tuple #[.int .i64 0, .int .i64 0, .agg (kdA kd0), .int .i64 2]) ∧ Below w.heap.size w w' := by
  obtain ⟨w1, hw1⟩ : ∃ w1, (w.alloc (.cells (kdA kd0) 68)).alloc (.cells (kdA kd0) 68) = w1 := ⟨_, rfl⟩
  have hw1' : (w.alloc (.cells #[.int .i64 0, .int .i64 0, .int .i64 0, .int .i64 0, .int .i64 0] 68)).alloc (.cells #[.int .i64 0, .int .i64 0, .int .i64 0, .int .i64 0, .int .i64 0] 68) = w1 := hw1
  have hb1 : Below w.heap.size w w1 := hw1 ▸ ((Below.refl _ _).alloc (Nat.le_refl _) _).alloc (by simp) _
  have h0 : w1.heap[w.heap.size]? = some (.cells (kdA kd0) 68 (0, 0)) := hw1 ▸ heap_alloc2_old w _ _
  have h1 : w1.heap[w.heap.size + 1]? = some (.cells (kdA kd0) 68 (0, 0)) := hw1 ▸ heap_alloc2_new w _ _
  have HC := Lib.hid (reads65_gen l v w1 hl ((hv.below hb1).mono hb1.size))
  have he : erP l = 2 := by simp [erP, hm]
  rw [he] at HC
  obtain ⟨va, vc, rfl, _, _⟩ := hv
  have HW1 := Lib.hid hw1'
  have HB1 := Lib.hid hb1
  have H0 := Lib.hid h0
  have H1 := Lib.hid h1
  clear hw1 hw1' hb1 h0 h1 he hm
  go_enter Try.func43, Try.ntmps43
  go_upto_region 2 with (fail)
  rw [HW1.out]
  go_wp2_with fail
  refine HC.out.mono ?_
  rintro e w2 ⟨vr, rfl, hrow, b2⟩
  have HB2 := Lib.hid (HB1.out.trans (b2.mono HB1.out.size))
  have H02 := Lib.hid ((b2.block _ (lt_of_heap H0.out)).trans H0.out)
  have H12 := Lib.hid ((b2.block _ (lt_of_heap H1.out)).trans H1.out)
  clear hrow b2 HC H0 H1 HB1
  go_upto_region 4 with (fail)
  refine wp_region_frame mixed (by kernel_rfl) [(0, 18, .agg (kdA kd0)), (1, 19, .int .i64 2), (2, 2, .int .i64 0), (3, 3, .int .i64 0), (5, 5, .int .i64 2)] (fun L Wx => Wx.heap[w.heap.size]? = some (.cells (kdA kd0) 68 (0, 0)) ∧ Wx.heap[w.heap.size + 1]? = some (.cells (kdA kd0) 68 (0, 0)) ∧ Below w.heap.size w Wx) ?_ ?_ (by rfl) (by rfl) ?_
  · exact ⟨H02.out, H12.out, HB2.out.drew⟩
  · intro a0 ps ha0 hps
    have hsz : a0.tmps.size = 52 := by rw [ha0]; rfl
    have u4 : a0.tmps[4]? = some (.pointer (some ⟨w.heap.size, 0, none⟩)) := by rw [ha0]; rfl
    have u6 : a0.tmps[6]? = some (.pointer (some ⟨w.heap.size + 1, 0, none⟩)) := by rw [ha0]; rfl
    have u8 : a0.tmps[8]? = some (.int .i64 2) := by rw [ha0]; rfl
    have n4 : slotOf ps 4 = none := by rw [hps]; rfl
    have n6 : slotOf ps 6 = none := by rw [hps]; rfl
    have n8 : slotOf ps 8 = none := by rw [hps]; rfl
    have k18 : slotOf ps 18 = some (0, .agg (kdA kd0)) := by rw [hps]; rfl
    have q18 : keysOK ps 0 18 = true := by rw [hps]; rfl
    have k19 : slotOf ps 19 = some (1, .int .i64 2) := by rw [hps]; rfl
    have q19 : keysOK ps 1 19 = true := by rw [hps]; rfl
    have k2 : slotOf ps 2 = some (2, .int .i64 0) := by rw [hps]; rfl
    have q2 : keysOK ps 2 2 = true := by rw [hps]; rfl
    have k3 : slotOf ps 3 = some (3, .int .i64 0) := by rw [hps]; rfl
    have q3 : keysOK ps 3 3 = true := by rw [hps]; rfl
    have z4 : (ps.all fun p => !(p.1 == 4)) = true := by rw [hps]; rfl
    have k5 : slotOf ps 5 = some (5, .int .i64 2) := by rw [hps]; rfl
    have q5 : keysOK ps 5 5 = true := by rw [hps]; rfl
    clear ha0 hps
    refine ⟨?_, ?_, ?_, ?_, ?_, ?_, trivial⟩
    · rintro L _ Wx ⟨rfl, hT⟩ hcl hk hd
      rw [if_pos (by simp [Region.wanted])]
      refine op_loadF 68 (.tmp 6) rfl ⟨w.heap.size + 1, 0, none⟩ (by rw [frame_oute n6 u6]) (.agg (kdA kd0)) (ld_kd hT.2.1 rfl) ⟨frame_put (k18) (q18), ?_⟩
      simpa [upd] using hT
    · rintro L _ Wx ⟨rfl, hT⟩ hcl hk hd
      rw [if_pos (by simp [Region.wanted])]
      refine op_value (v := .int .i64 2) (w' := Wx) (by simp [execOp, go_sem, frame_tout (n8) u8]) ⟨frame_put (k19) (q19), ?_⟩
      simpa [upd] using hT
    · rintro L _ Wx ⟨rfl, hT⟩ hcl hk hd
      rw [if_pos (by simp [Region.wanted])]
      refine op_value (v := .int .i64 0) (w' := Wx) (by simp [execOp, go_sem]) ⟨frame_put (k2) (q2), ?_⟩
      simpa [upd] using hT
    · rintro L _ Wx ⟨rfl, hT⟩ hcl hk hd
      rw [if_pos (by simp [Region.wanted])]
      refine op_value (v := .int .i64 0) (w' := Wx) (by simp [execOp, go_sem]) ⟨frame_put (k3) (q3), ?_⟩
      simpa [upd] using hT
    · rintro L _ Wx ⟨rfl, hT⟩ hcl hk hd
      have hL0 : L 0 = true := by have h := hd; simp [Region.binds] at h; simp [h]
      rw [if_pos (by simp [Region.wanted])]
      refine op_stF 68 (.tmp 4) (.tmp 18) rfl ⟨w.heap.size, 0, none⟩ (by rw [frame_oute n4 u4]) (.agg (kdA kd0)) (by rw [frame_in k18 hL0 (Nat.lt_of_lt_of_eq (by decide : 18 < 52) hsz.symm)]) (st_kd kd0 hT.1 rfl rfl) ⟨frame_putNone (z4), ?_⟩
      exact ⟨setRow_heap _ _ _ _ _ _ hT.1, cells_turn hT.2.1 (grownBy_setRow _ _ _) (by omega), hT.2.2.grown (grownBy_setRow _ _ _) hT.2.2.size (fun k e => by cases e; omega)⟩
    · rintro L _ Wx ⟨rfl, hT⟩ hcl hk hd
      have hL1 : L 1 = true := by have h := hd; simp [Region.binds] at h; simp [h]
      rw [if_pos (by simp [Region.wanted])]
      refine op_value (v := .int .i64 2) (w' := Wx) (by simp [execOp, go_sem, frame_tmp (k19) hL1 (Nat.lt_of_lt_of_eq (by decide : 19 < 52) hsz.symm)]) ⟨frame_put (k5) (q5), ?_⟩
      simpa [upd] using hT
  · rintro L W' hT hall
    simp only [putAll, Act.put, List.setIfInBounds_toArray, List.set_cons_succ, List.set_cons_zero]
    go_wp2_with fail
    refine bodyPost_ret (v := .tuple #[.int .i64 0, .int .i64 0, .agg (kdA kd0), .int .i64 2]) (results_ttct Try.results43 rfl rfl rfl (ld_kd hT.1 rfl) rfl) rfl ⟨rfl, hT.2.2⟩

set_option maxRecDepth 100000 in
set_option maxHeartbeats 8000000 in
theorem count43_ok (l : List Sn) (v : Value) (w : World) (hl : l.length ≤ 100000) (hv : Sns w.heap.size w v l) (hm : mayP l = true) :
    Calls Try.prog 43 #[v] w fun e w' => e = .returned (.tuple #[.int .i64 ((readsP l).length : Int), .int .i64 ((wrongP l).length : Int), .agg (kdA (kdP (wrongP l))), .int .i64 0]) ∧ Below w.heap.size w w' := by
  obtain ⟨w1, hw1⟩ : ∃ w1, (w.alloc (.cells (kdA kd0) 68)).alloc (.cells (kdA kd0) 68) = w1 := ⟨_, rfl⟩
  have hw1' : (w.alloc (.cells #[.int .i64 0, .int .i64 0, .int .i64 0, .int .i64 0, .int .i64 0] 68)).alloc (.cells #[.int .i64 0, .int .i64 0, .int .i64 0, .int .i64 0, .int .i64 0] 68) = w1 := hw1
  have hb1 : Below w.heap.size w w1 := hw1 ▸ ((Below.refl _ _).alloc (Nat.le_refl _) _).alloc (by simp) _
  have h0 : w1.heap[w.heap.size]? = some (.cells (kdA kd0) 68 (0, 0)) := hw1 ▸ heap_alloc2_old w _ _
  have h1 : w1.heap[w.heap.size + 1]? = some (.cells (kdA kd0) 68 (0, 0)) := hw1 ▸ heap_alloc2_new w _ _
  have HC := Lib.hid (reads65_ok l v w1 hl ((hv.below hb1).mono hb1.size) hm)
  have hrl := reads_length hl
  have HKK : Hid (∀ f ∈ readsP l, ¬ f.want = f.got → 0 ≤ f.k ∧ f.k ≤ 4) := Lib.hid (fun f hf hne => by
    obtain ⟨i, x, h⟩ := blame_ok hm (List.mem_filter.2 ⟨hf, by simp [hne]⟩ : f ∈ wrongP l)
    exact ⟨h.k0, h.k4⟩)
  have HWR : Hid (wrongP l = (readsP l).filter bad) := rfl
  obtain ⟨va, vc, rfl, _, _⟩ := hv
  have HW1 := Lib.hid hw1'
  have HB1 := Lib.hid hb1
  have H0 := Lib.hid h0
  have H1 := Lib.hid h1
  clear hw1 hw1' hb1 h0 h1 hm
  go_enter Try.func43, Try.ntmps43
  go_upto_region 2 with (fail)
  rw [HW1.out]
  go_wp2_with fail
  refine HC.out.mono ?_
  rintro e w2 ⟨vr, rfl, hrow, b2⟩
  obtain ⟨ra, rc, hvr, hft⟩ := FtRow.of_owns hrow
  subst hvr
  have HROW := Lib.hid hft
  have HB2 := Lib.hid (HB1.out.trans (b2.mono HB1.out.size))
  have H02 := Lib.hid ((b2.block _ (lt_of_heap H0.out)).trans H0.out)
  have H12 := Lib.hid ((b2.block _ (lt_of_heap H1.out)).trans H1.out)
  have HZ : Hid (∀ (q : Nat) f, (readsP l)[q]? = some f → ∃ b, ra = some ⟨b, 0, none⟩ ∧ w.heap.size + 2 ≤ b) := Lib.hid (fun q f hf => by
    obtain ⟨g, h1, h2, _⟩ := owns_rows (enc := Ft.cells) (fun _ => rfl) hrow (by have := (List.getElem?_eq_some_iff.1 hf).1; omega) rfl
    exact ⟨g, h1, by have := lt_of_heap H1.out; omega⟩)
  clear hrow b2 hft HC H0 H1 HB1
  generalize hrs : readsP l = rs at *
  have HRS := Lib.hid hrs
  clear hrs
  go_wp2_with fail
  go_loopw [9, 10] (fun no io wr => ∃ q : Nat, q ≤ rs.length ∧ no = .int .i64 (((rs.take q).filter bad).length : Int) ∧ io = .int .i64 q ∧ wr.heap[w.heap.size]? = some (.cells (kdA kd0) 68 (0, 0)) ∧ wr.heap[w.heap.size + 1]? = some (.cells (kdA (kdP ((rs.take q).filter bad))) 68 (0, 0)) ∧ Below w.heap.size w wr ∧ (∀ (q : Nat) f, rs[q]? = some f → ∃ b, ra = some ⟨b, 0, none⟩ ∧ RowsAt Ft.cells 28 wr b 0 rs ∧ b < wr.heap.size)) (fun _ io _ => rs.length - (intOf io).toNat)
  case atStart => exact ⟨0, Nat.zero_le _, rfl, rfl, H02.out, H12.out, HB2.out, fun q f hf => by
    obtain ⟨b, h1, h2, h3⟩ := HROW.out q f hf
    exact ⟨b, h1, h3, h2⟩⟩
  case round =>
    obtain ⟨q, hq, rfl, rfl, hA, hK, hB, hR⟩ := hrel
    have HA := Lib.hid hA
    have HK := Lib.hid hK
    have HB := Lib.hid hB
    have HR := Lib.hid hR
    clear hA hK hB hR
    have hln : ((rs.take q).filter bad).length ≤ 10000000000 := Nat.le_trans (List.length_filter_le _ _) (by rw [List.length_take]; omega)
    by_cases hlt : q < rs.length
    · obtain ⟨f, hf⟩ : ∃ f, rs[q]? = some f := ⟨_, List.getElem?_eq_getElem hlt⟩
      obtain ⟨g, rfl, hr, hgl⟩ := HR.out q f hf
      obtain ⟨g', hg1, hg2⟩ := HZ.out q f hf
      obtain ⟨d0, d5, d6, d7, d8, d9, d10, d11, d12, d13, d14, d15, d16, d17, d18, d19, d20, d27⟩ := ftr_at hr hf
      have hq8 := fun w => neq_v8 f.want f.got w
      have hqi : (q : Int) < (rs.length : Int) := by omega
      have hst := bad_take hf
      have hge : g' = g := by injection hg1 with h; injection h with h1 h2 h3; exact h1.symm
      subst hge
      have HG2 : Hid (w.heap.size + 2 ≤ g') := hg2
      have HLT := Lib.hid hlt
      have HRR := Lib.hid hr
      have HGL : Hid (g' < wr.heap.size) := hgl
      have HF := Lib.hid hf
      clear hr hlt hg1 hg2 hgl d0
      by_cases hne : f.want = f.got
      · have hd : decide (f.want = f.got) = true := by simpa using hne
        rw [if_pos hne, List.append_nil] at hst
        have HST := Lib.hid hst
        clear hne hst hf
        go_wp2_with fail
        go_quiet (fail)
        go_wp2_with fail
        go_roundw
        case rel =>
          exact ⟨q + 1, by have := HLT.out; omega, by rw [HST.out], by go_num, HA.out, by rw [HST.out]; exact HK.out, Below.drewN' HB.out _, fun i y hy => by
            obtain ⟨b, h1, h2, h3⟩ := HR.out i y hy
            exact ⟨b, h1, h2.below h3 (Below.drewN' (Below.refl _ _) _), h3⟩⟩
        case measure => have := HLT.out; simp [intOf]; omega
      · have hd : decide (f.want = f.got) = false := by simpa using hne
        obtain ⟨hk0, hk4⟩ := HKK.out f (List.mem_of_getElem? hf) hne
        rw [if_neg hne] at hst
        have hks := kdP_snoc ((rs.take q).filter bad) f hk0 hk4
        obtain ⟨c, hc⟩ : ∃ c, (kdP ((rs.take q).filter bad))[f.k.toNat]? = some c := ⟨_, List.getElem?_eq_getElem (by rw [kdP_length]; omega)⟩
        rw [hc] at hks
        have hcb := kdP_le _ c (List.mem_of_getElem? hc)
        have HST := Lib.hid hst
        have HKS := Lib.hid hks
        have HCC := Lib.hid hc
        clear hne hst hks hc hf
        generalize hos : (rs.take q).filter bad = os at *
        clear hos
        go_wp2_with fail
        go_quiet (fail)
        go_upto_region 11 with (fail)
        obtain ⟨w3, hw3⟩ : ∃ w3, wr.drewN nq = w3 := ⟨_, rfl⟩
        have hb3 : Below wr.heap.size wr w3 := hw3 ▸ Below.drewN' (Below.refl _ _) nq
        have HA3 := Lib.hid ((hb3.block _ (lt_of_heap HA.out)).trans HA.out)
        have hk3 := (hb3.block _ (lt_of_heap HK.out)).trans HK.out
        have HB3 := Lib.hid (HB.out.trans (hb3.mono HB.out.size))
        have HR3 := Lib.hid (HRR.out.below HGL.out hb3)
        have HGL3 : Hid (g' < w3.heap.size) := Nat.lt_of_lt_of_le HGL.out hb3.size
        clear d5 d6 d7 d8 d9 d10 d11 d12 d13 d14 d15 d16 d17 d18 d19 d20 d27 hq8 hd
        have d27 := (ftr_at HR3.out HF.out).2.2.2.2.2.2.2.2.2.2.2.2.2.2.2.2.2
        have hcc := kd_at hk3 HCC.out
        have HK3 := Lib.hid hk3
        have HS3 := Lib.hid (st_kd1 (c + 1) hk3 (show f.k.toNat < (kdP os).length by rw [kdP_length]; omega))
        rw [hw3]
        clear hw3 hb3 hk3
        go_wp2_with (refine wpList_store rfl 3 (.tmp 47) (.tmp 46) rfl ⟨w.heap.size + 1, f.k.toNat, none⟩ rfl (.int .i64 (c + 1)) rfl HS3.out ?_)
        go_roundw
        case rel =>
          refine ⟨q + 1, by have := HLT.out; omega, ?_, by go_num, cells_turn HA3.out (grownBy_setRow _ _ _) (by omega), ?_, HB3.out.grown (grownBy_setRow _ _ _) HB3.out.size (fun k e => by cases e; omega), fun i y _ => ⟨g', rfl, fun j z hz k u hu => (World.cell?_of_block ((grownBy_setRow w3 (w.heap.size + 1) _).block g' HGL3.out (fun e => by cases e; have := HG2.out; omega))).trans (HR3.out j z hz k u hu), by have := HGL3.out; simpa using this⟩⟩
          · rw [HST.out, List.length_append, List.length_singleton]
            simp
          · rw [HST.out, HKS.out]
            exact setRow_heap _ _ _ _ _ _ HK3.out
        case measure => have := HLT.out; simp [intOf]; omega
    · obtain rfl : q = rs.length := by omega
      have hta : (rs.take rs.length).filter bad = wrongP l := by rw [List.take_length, HWR.out]
      have HK9 : Hid (wr.heap[w.heap.size + 1]? = some (.cells (kdA (kdP (wrongP l))) 68 (0, 0))) := Lib.hid (by have := HK.out; rwa [hta] at this)
      have HTA := Lib.hid hta
      have hkl := kdP_length (wrongP l)
      rw [hta]
      rw [hta] at hln
      have HKL := Lib.hid hkl
      clear hta HK hkl
      generalize hks : kdP (wrongP l) = ks at *
      generalize hnw : (wrongP l).length = nw at *
      have HKS := Lib.hid hks
      have HNW := Lib.hid hnw
      clear hks hnw
      go_upto_region 12 with (fail)
      refine wp_region_frame mixed (by kernel_rfl) [(0, 48, .slice ra rs.length rc), (1, 49, .int .i64 (rs.length : Int)), (2, 50, .int .i64 (nw : Int)), (3, 51, .agg (kdA ks)), (4, 2, .int .i64 (rs.length : Int)), (5, 3, .int .i64 (nw : Int)), (7, 5, .int .i64 0)] (fun L Wx => Wx.heap[w.heap.size + 1]? = some (.cells (kdA ks) 68 (0, 0)) ∧ (L 6 = false → Wx.heap[w.heap.size]? = some (.cells (kdA kd0) 68 (0, 0))) ∧ (L 6 = true → Wx.heap[w.heap.size]? = some (.cells (kdA ks) 68 (0, 0))) ∧ Below w.heap.size w Wx) ?_ ?_ (by rfl) (by rfl) ?_
      · exact ⟨HK9.out, fun _ => HA.out, (fun h => by cases h), HB.out.drew⟩
      · intro a0 ps ha0 hps
        have hsz : a0.tmps.size = 52 := by rw [ha0]; rfl
        have u4 : a0.tmps[4]? = some (.pointer (some ⟨w.heap.size, 0, none⟩)) := by rw [ha0]; rfl
        have u6 : a0.tmps[6]? = some (.pointer (some ⟨w.heap.size + 1, 0, none⟩)) := by rw [ha0]; rfl
        have u7 : a0.tmps[7]? = some (.slice ra rs.length rc) := by rw [ha0]; rfl
        have u9 : a0.tmps[9]? = some (.int .i64 (nw : Int)) := by rw [ha0]; rfl
        have n4 : slotOf ps 4 = none := by rw [hps]; rfl
        have n6 : slotOf ps 6 = none := by rw [hps]; rfl
        have n7 : slotOf ps 7 = none := by rw [hps]; rfl
        have n9 : slotOf ps 9 = none := by rw [hps]; rfl
        have k48 : slotOf ps 48 = some (0, .slice ra rs.length rc) := by rw [hps]; rfl
        have q48 : keysOK ps 0 48 = true := by rw [hps]; rfl
        have k49 : slotOf ps 49 = some (1, .int .i64 (rs.length : Int)) := by rw [hps]; rfl
        have q49 : keysOK ps 1 49 = true := by rw [hps]; rfl
        have k50 : slotOf ps 50 = some (2, .int .i64 (nw : Int)) := by rw [hps]; rfl
        have q50 : keysOK ps 2 50 = true := by rw [hps]; rfl
        have k51 : slotOf ps 51 = some (3, .agg (kdA ks)) := by rw [hps]; rfl
        have q51 : keysOK ps 3 51 = true := by rw [hps]; rfl
        have k2 : slotOf ps 2 = some (4, .int .i64 (rs.length : Int)) := by rw [hps]; rfl
        have q2 : keysOK ps 4 2 = true := by rw [hps]; rfl
        have k3 : slotOf ps 3 = some (5, .int .i64 (nw : Int)) := by rw [hps]; rfl
        have q3 : keysOK ps 5 3 = true := by rw [hps]; rfl
        have z6 : (ps.all fun p => !(p.1 == 6)) = true := by rw [hps]; rfl
        have k5 : slotOf ps 5 = some (7, .int .i64 0) := by rw [hps]; rfl
        have q5 : keysOK ps 7 5 = true := by rw [hps]; rfl
        clear ha0 hps
        refine ⟨?_, ?_, ?_, ?_, ?_, ?_, ?_, ?_, trivial⟩
        · rintro L _ Wx ⟨rfl, hT⟩ hcl hk hd
          rw [if_pos (by simp [Region.wanted])]
          refine op_value (v := .slice ra rs.length rc) (w' := Wx) (by simp [execOp, go_sem, frame_tout (n7) u7]) ⟨frame_put (k48) (q48), ?_⟩
          simpa [upd] using hT
        · rintro L _ Wx ⟨rfl, hT⟩ hcl hk hd
          have hL0 : L 0 = true := by have h := hd; simp [Region.binds] at h; simp [h]
          rw [if_pos (by simp [Region.wanted])]
          refine op_value (v := .int .i64 (rs.length : Int)) (w' := Wx) (by simp [go_sem, frame_tmp (k48) hL0 (Nat.lt_of_lt_of_eq (by decide : 48 < 52) hsz.symm)]) ⟨frame_put (k49) (q49), ?_⟩
          simpa [upd] using hT
        · rintro L _ Wx ⟨rfl, hT⟩ hcl hk hd
          rw [if_pos (by simp [Region.wanted])]
          refine op_value (v := .int .i64 (nw : Int)) (w' := Wx) (by simp [execOp, go_sem, frame_tout (n9) u9]) ⟨frame_put (k50) (q50), ?_⟩
          simpa [upd] using hT
        · rintro L _ Wx ⟨rfl, hT⟩ hcl hk hd
          rw [if_pos (by simp [Region.wanted])]
          refine op_loadF 68 (.tmp 6) rfl ⟨w.heap.size + 1, 0, none⟩ (by rw [frame_oute n6 u6]) (.agg (kdA ks)) (ld_kd hT.1 HKL.out) ⟨frame_put (k51) (q51), ?_⟩
          simpa [upd] using hT
        · rintro L _ Wx ⟨rfl, hT⟩ hcl hk hd
          have hL1 : L 1 = true := by have h := hd; simp [Region.binds] at h; simp [h]
          rw [if_pos (by simp [Region.wanted])]
          refine op_value (v := .int .i64 (rs.length : Int)) (w' := Wx) (by simp [execOp, go_sem, frame_tmp (k49) hL1 (Nat.lt_of_lt_of_eq (by decide : 49 < 52) hsz.symm)]) ⟨frame_put (k2) (q2), ?_⟩
          simpa [upd] using hT
        · rintro L _ Wx ⟨rfl, hT⟩ hcl hk hd
          have hL2 : L 2 = true := by have h := hd; simp [Region.binds] at h; simp [h]
          rw [if_pos (by simp [Region.wanted])]
          refine op_value (v := .int .i64 (nw : Int)) (w' := Wx) (by simp [execOp, go_sem, frame_tmp (k50) hL2 (Nat.lt_of_lt_of_eq (by decide : 50 < 52) hsz.symm)]) ⟨frame_put (k3) (q3), ?_⟩
          simpa [upd] using hT
        · rintro L _ Wx ⟨rfl, hT⟩ hcl hk hd
          have hL3 : L 3 = true := by have h := hd; simp [Region.binds] at h; simp [h]
          rw [if_pos (by simp [Region.wanted])]
          have hz := hT.2.1 hk
          refine op_stF 68 (.tmp 4) (.tmp 51) rfl ⟨w.heap.size, 0, none⟩ (by rw [frame_oute n4 u4]) (.agg (kdA ks)) (by rw [frame_in k51 hL3 (Nat.lt_of_lt_of_eq (by decide : 51 < 52) hsz.symm)]) (st_kd ks hz rfl HKL.out) ⟨frame_putNone (z6), ?_⟩
          exact ⟨cells_turn hT.1 (grownBy_setRow _ _ _) (by omega), fun h => by simp [upd] at h, fun _ => setRow_heap _ _ _ _ _ _ hz, hT.2.2.2.grown (grownBy_setRow _ _ _) hT.2.2.2.size (fun k e => by cases e; omega)⟩
        · rintro L _ Wx ⟨rfl, hT⟩ hcl hk hd
          rw [if_pos (by simp [Region.wanted])]
          refine op_value (v := .int .i64 0) (w' := Wx) (by simp [execOp, go_sem]) ⟨frame_put (k5) (q5), ?_⟩
          simpa [upd] using hT
      · rintro L W' hT hall
        have hA6 : L 6 = true := hall 6 (by simp)
        simp only [putAll, Act.put, List.setIfInBounds_toArray, List.set_cons_succ, List.set_cons_zero]
        have hz := hT.2.2.1 hA6
        go_wp2_with fail
        refine bodyPost_ret (v := .tuple #[.int .i64 (rs.length : Int), .int .i64 (nw : Int), .agg (kdA ks), .int .i64 0]) (results_ttct Try.results43 rfl rfl rfl (ld_kd hz HKL.out) rfl) rfl ⟨by rw [HRS.out, HNW.out, HKS.out], hT.2.2.2⟩

end Go.Proofs.Ytgdmgeihgkbjaaa
