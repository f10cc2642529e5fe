/- 'cashboxlaw32.WitnessMends' -/
import Derived.Test.YtgdmgeihgkbjaaaSerial
import Derived.Test.YtgdmgeihgkbjaaaSameF
import Derived.Test.YtgdmgeihgkbjaaaStEq
namespace Go.Proofs.Ytgdmgeihgkbjaaa
open Go.RowKit Go.Shelf

theorem neq_st {s t : List V8} (hs : s.length = 32) (ht : t.length = 32) (w : World) : (binOp .neq 24 (.agg (stArr s)) (.agg (stArr t))).run Try.prog w = .ok (.bool (!decide (s = t))) w := by
  rw [run_neq_struct, eqIn_st hs ht 9997 w]; rfl
theorem eql_snA (a b : Sn) (w : World) : (binOp .eql 36 (.agg (snArr a)) (.agg (snArr b))).run Try.prog w = .ok (.bool (decide (a = b))) w := eql_sn a b w

theorem sns_of_owns {w : World} {base : Nat} {v : Value} {l : List Sn} (h : w.ownsRow base 36 14 v l.length (l.flatMap Sn.cells)) : Sns w.heap.size w v l := rows_of_owns (enc := Sn.cells) (k := 14) (fun _ => rfl) h

set_option maxRecDepth 100000 in
set_option maxHeartbeats 4000000 in
theorem mends_bad (l : List Sn) (v : Value) (w : World) (hv : Sns w.heap.size w v l) (hb : 300 < l.length) : Calls Try.prog 11 #[v] w fun e w' => e = .returned (.bool true) ∧ Below w.heap.size w w' := by
  obtain ⟨a, cap, rfl, _, _⟩ := hv
  go_enter Try.func11, Try.ntmps11
  go_wp2_with fail
  refine (wakes32_any _).mono ?_
  rintro e w' ⟨rfl, bel⟩
  go_wp2_with fail
  go_ret
  exact ⟨rfl, bel⟩

set_option maxRecDepth 100000 in
set_option maxHeartbeats 4000000 in
theorem mends_err (l : List Sn) (v : Value) (w : World) (hv : Sns w.heap.size w v l) (hb : l.length ≤ 300) (hm : mayP l = false) : Calls Try.prog 11 #[v] w fun e w' => e = .returned (.bool true) ∧ Below w.heap.size w w' := by
  have HV := Lib.hid hv
  have HC := Lib.hid (mend_err l v w (by omega) hv hm)
  have HM := Lib.hid hm
  obtain ⟨a, cap, rfl, _, _⟩ := hv
  clear hm
  go_enter Try.func11, Try.ntmps11
  go_wp2_with fail
  refine HC.out.mono ?_
  rintro e w1 ⟨rfl, b1⟩
  have HB1 := Lib.hid b1
  clear b1 HC
  simp only [slNil]
  go_wp2_with fail
  refine (replay38_no l _ w1 (by omega) ((HV.out.below HB1.out).mono HB1.out.size) HM.out).mono ?_
  rintro e w2 ⟨rfl, b2⟩
  have hb3 : Below w.heap.size w (w2.alloc (.cells (stArr st0) 24)) := (HB1.out.trans (b2.mono HB1.out.size)).alloc (Nat.le_trans HB1.out.size b2.size) _
  have HS := Lib.hid (st_new24 w2 st0 (by decide))
  obtain ⟨w3, hw3⟩ : ∃ w3, w2.alloc (.cells (stArr st0) 24) = w3 := ⟨_, rfl⟩
  rw [hw3] at hb3
  have HW3 := Lib.hid hw3
  have HB3 := Lib.hid hb3
  clear b2 hw3 hb3
  go_wp2_with (rw [zero24s]; refine wpList_store rfl 24 (.tmp 5) (.tmp 30) rfl ⟨w2.heap.size, 0, none⟩ rfl (.agg (stArr st0)) rfl HS.out ?_; rw [HW3.out])
  refine (wakes32_any _).mono ?_
  rintro e w4 ⟨rfl, b4⟩
  have HB4 := Lib.hid (HB3.out.trans (b4.mono HB3.out.size))
  clear b4
  go_wp2_with fail
  go_ret
  exact ⟨rfl, HB4.out⟩

set_option maxRecDepth 100000 in
set_option maxHeartbeats 8000000 in
theorem mends_ok (l : List Sn) (v : Value) (w : World) (hv : Sns w.heap.size w v l) (hb : l.length ≤ 300) (hm : mayP l = true) : Calls Try.prog 11 #[v] w fun e w' => e = .returned (.bool true) ∧ Below w.heap.size w w' := by
  have hsim := sim_mend hm
  have hmm : mayP (mendP l) = true := by rw [hsim.may]; exact hm
  have hml : (mendP l).length = l.length := mendP_length l
  have hse : (repP (mendP l)).2 = true := by rw [serial_law, mend_right hm]; rfl
  have hst : (repP (mendP l)).1 = (repP l).1 := hsim.state
  have HV := Lib.hid hv
  have HC := Lib.hid (mend_ok l v w (by omega) hv hm)
  have HC2 : Hid (∀ w1, Sns w1.heap.size w1 v l → Calls Try.prog 38 #[v] w1 fun e w' => e = .returned (.tuple #[.agg (stArr (repP l).1), .bool (repP l).2, .int .i64 0]) ∧ Below w1.heap.size w1 w') := fun w1 h => replay38_ok l v w1 (by omega) h hm
  have HC3 : Hid (∀ v1 w1, Sns w1.heap.size w1 v1 (mendP l) → Calls Try.prog 38 #[v1] w1 fun e w' => e = .returned (.tuple #[.agg (stArr (repP l).1), .bool true, .int .i64 0]) ∧ Below w1.heap.size w1 w') := fun v1 w1 h => by
    have := replay38_ok (mendP l) v1 w1 (by omega) h hmm
    rwa [hst, hse] at this
  have HC4 : Hid (∀ w1, Sns w1.heap.size w1 v l → Calls Try.prog 29 #[v] w1 fun e w' => (∃ a c, e = .returned (.tuple #[.slice a (wrongP l).length c, .int .i64 0])) ∧ Below w1.heap.size w1 w') := fun w1 h => (wrong_ok l v w1 (by omega) h hm).mono fun e w' ⟨a, c, h, _, h2⟩ => ⟨⟨a, c, h⟩, h2⟩
  have HC5 : Hid (∀ v1 w1, Sns w1.heap.size w1 v1 (mendP l) → Calls Try.prog 29 #[v1] w1 fun e w' => (∃ a c, e = .returned (.tuple #[.slice a 0 c, .int .i64 0])) ∧ Below w1.heap.size w1 w') := fun v1 w1 h => (wrong_ok (mendP l) v1 w1 (by omega) h hmm).mono fun e w' ⟨a, c, h, _, h2⟩ => by
    rw [mend_right hm] at h
    exact ⟨⟨a, c, h⟩, h2⟩
  have HSL := Lib.hid (repP_length l)
  have HCN := Lib.hid (mend_count hm)
  have HSIM := Lib.hid hsim
  have HML := Lib.hid hml
  have hwl : (wrongP l).length ≤ 10000000000 := Nat.le_trans (List.length_filter_le _ _) (reads_length (by omega))
  have HWL := Lib.hid hwl
  obtain ⟨va, vc, rfl, hn, ha⟩ := hv
  clear hn ha hm hsim hmm hml hse hst hwl
  generalize (repP l).1 = s at *
  generalize (repP l).2 = ok at *
  go_enter Try.func11, Try.ntmps11
  go_wp2_with fail
  refine HC.out.mono ?_
  rintro e w1 ⟨vo, rfl, hown, b1⟩
  obtain ⟨ma, mc, rfl⟩ := ownsRow_slice hown
  have hmv : Sns w1.heap.size w1 (.slice ma (mendP l).length mc) (mendP l) := sns_of_owns hown
  rw [HML.out] at hmv
  have HMV := Lib.hid hmv
  have HB1 := Lib.hid b1
  clear hown b1 hmv HC
  rw [HML.out]
  go_wp2_with fail
  refine (HC2.out w1 ((HV.out.below HB1.out).mono HB1.out.size)).mono ?_
  rintro e w2 ⟨rfl, b2⟩
  have HS := Lib.hid (st_new24 w2 s HSL.out)
  obtain ⟨w3, hw3⟩ : ∃ w3, w2.alloc (.cells (stArr s) 24) = w3 := ⟨_, rfl⟩
  have hb3 : Below w1.heap.size w1 w3 := hw3 ▸ b2.alloc b2.size _
  have hx3 : w3.heap[w2.heap.size]? = some (.cells (stArr s) 24 (0, 0)) := hw3 ▸ heap_alloc_new w2 _
  have HX3 := Lib.hid hx3
  have HW3 := Lib.hid hw3
  have HB3 := Lib.hid (HB1.out.trans (hb3.mono HB1.out.size))
  have HMV3 := Lib.hid ((HMV.out.below hb3).mono hb3.size)
  clear b2 hw3 hb3 hx3 HMV HB1 HC2
  go_wp2_with (rw [zero24s]; refine wpList_store rfl 24 (.tmp 5) (.tmp 30) rfl ⟨w2.heap.size, 0, none⟩ rfl (.agg (stArr s)) rfl HS.out ?_; rw [HW3.out])
  refine (HC3.out _ w3 HMV3.out).mono ?_
  rintro e w4 ⟨rfl, b4⟩
  have HS5 := Lib.hid (st_new24 w4 s HSL.out)
  obtain ⟨w5, hw5⟩ : ∃ w5, w4.alloc (.cells (stArr s) 24) = w5 := ⟨_, rfl⟩
  have hb5 : Below w3.heap.size w3 w5 := hw5 ▸ b4.alloc b4.size _
  have hx5 : w5.heap[w4.heap.size]? = some (.cells (stArr s) 24 (0, 0)) := hw5 ▸ heap_alloc_new w4 _
  have HX35 := Lib.hid ((hb5.block _ (lt_of_heap HX3.out)).trans HX3.out)
  have HX5 := Lib.hid hx5
  have HW5 := Lib.hid hw5
  have HB5 := Lib.hid (HB3.out.trans (hb5.mono HB3.out.size))
  have HMV5 := Lib.hid ((HMV3.out.below hb5).mono hb5.size)
  clear b4 hw5 hb5 hx5 HMV3 HB3 HC3
  have hnst := fun w => neq_st HSL.out HSL.out w
  go_wp2_with (rw [zero24s]; refine wpList_store rfl 24 (.tmp 8) (.tmp 53) rfl ⟨w4.heap.size, 0, none⟩ rfl (.agg (stArr s)) rfl HS5.out ?_; rw [HW5.out])
  refine op_loadF 24 (.tmp 8) rfl ⟨w4.heap.size, 0, none⟩ rfl (.agg (stArr s)) (ld_all HX5.out HSL.out) ?_
  go_wp2_with fail
  refine op_loadF 24 (.tmp 5) rfl ⟨w2.heap.size, 0, none⟩ rfl (.agg (stArr s)) (ld_all HX35.out HSL.out) ?_
  go_wp2_with fail
  clear hnst
  go_loopw [11, 12] (fun co io wr => ∃ q : Nat, q ≤ l.length ∧ co = .int .i64 ((diffs l (mendP l) q).length : Int) ∧ io = .int .i64 q ∧ Below w5.heap.size w5 wr) (fun _ io _ => l.length - (intOf io).toNat)
  case atStart => exact ⟨0, Nat.zero_le _, rfl, rfl, Below.refl _ _⟩
  case round =>
    obtain ⟨q, hq, rfl, rfl, hB⟩ := hrel
    have HB := Lib.hid hB
    clear hB
    have hdl : (diffs l (mendP l) q).length ≤ q := by
      unfold diffs
      refine Nat.le_trans (List.length_filter_le _ _) ?_
      rw [List.length_range]; omega
    by_cases hlt : q < l.length
    · obtain ⟨x, hx⟩ : ∃ x, l[q]? = some x := ⟨_, List.getElem?_eq_getElem hlt⟩
      obtain ⟨y, hy, hr⟩ := HSIM.out.get hx
      obtain ⟨_, _, e1, hln, hla⟩ := HV.out
      cases e1
      obtain ⟨lb, lo, rfl, hlb, hlr⟩ := rows_some hln hla hlt
      obtain ⟨_, _, e2, hmn, hma⟩ := HMV5.out
      injection e2 with e2a e2b e2c
      subst e2a e2c
      clear e2b
      obtain ⟨mb, mo, rfl, hmb, hmr⟩ := rows_some hmn hma (q := q) (by have := HML.out; omega)
      have hds := diffs_succ l (mendP l) q
      rw [hx, hy] at hds
      have HLX : Hid (∀ W, Below w5.heap.size w5 W → RowsAt Sn.cells 14 W lb lo l) := fun W hW => hlr.below hlb (HB5.out.trans (hW.mono HB5.out.size))
      have HMX : Hid (∀ W, Below w5.heap.size w5 W → RowsAt Sn.cells 14 W mb mo (mendP l)) := fun W hW => hmr.below hmb hW
      have HX := Lib.hid hx
      have HY := Lib.hid hy
      have HR := Lib.hid hr
      have HDS := Lib.hid hds
      have HLT := Lib.hid hlt
      have HDL := Lib.hid hdl
      clear hln hla hlb hlr hmn hma hmb hmr hx hy hr hds
      generalize hdq : (diffs l (mendP l) q).length = dq at *
      have HDQ := Lib.hid hdq
      clear hdq
      by_cases hyx : y = x
      · have HYX : Hid (decide (y = x) = true) := Lib.hid (by simp [hyx])
        have HDN : Hid ((diffs l (mendP l) (q + 1)).length = dq) := Lib.hid (by rw [HDS.out, if_pos (by rw [hyx]), HDQ.out])
        clear hyx
        go_upto_region 14 with (fail)
        have hmlx : (q : Int) < ((l.length : Nat) : Int) := by omega
        have hyx := HYX.out
        have hly : ∀ W, Below w5.heap.size w5 W → (loadVar 36 ⟨mb, mo + q * 14, none⟩).run Try.prog W = .ok (.agg (snArr y)) W := fun W hW => ld_sn_row (HMX.out W hW) HY.out
        have hlx : ∀ W, Below w5.heap.size w5 W → (loadVar 36 ⟨lb, lo + q * 14, none⟩).run Try.prog W = .ok (.agg (snArr x)) W := fun W hW => ld_sn_row (HLX.out W hW) HX.out
        have hT0 := HB.out
        refine wp_region_frame mixed (by kernel_rfl) [(0, 80, .slice (some ⟨mb, mo, none⟩) l.length mc), (1, 81, .int .i64 (q : Int)), (2, 82, .pointer (some ⟨mb, mo + q * 14, none⟩)), (3, 83, .agg (snArr y)), (4, 84, .slice (some ⟨lb, lo, none⟩) l.length vc), (5, 85, .int .i64 (q : Int)), (6, 86, .pointer (some ⟨lb, lo + q * 14, none⟩)), (7, 87, .agg (snArr x)), (8, 88, .bool true)] (fun L Wx => Below w5.heap.size w5 Wx) ?_ ?_ (by rfl) (by rfl) ?_
        · exact hT0.drew
        · intro a0 ps ha0 hps
          have hsz : a0.tmps.size = 145 := by rw [ha0]; rfl
          have u0 : a0.tmps[0]? = some (.slice (some ⟨lb, lo, none⟩) l.length vc) := by rw [ha0]; rfl
          have u3 : a0.tmps[3]? = some (.slice (some ⟨mb, mo, none⟩) l.length mc) := by rw [ha0]; rfl
          have u12 : a0.tmps[12]? = some (.int .i64 (q : Int)) := by rw [ha0]; rfl
          have n0 : slotOf ps 0 = none := by rw [hps]; rfl
          have n3 : slotOf ps 3 = none := by rw [hps]; rfl
          have n12 : slotOf ps 12 = none := by rw [hps]; rfl
          have k80 : slotOf ps 80 = some (0, .slice (some ⟨mb, mo, none⟩) l.length mc) := by rw [hps]; rfl
          have q80 : keysOK ps 0 80 = true := by rw [hps]; rfl
          have k81 : slotOf ps 81 = some (1, .int .i64 (q : Int)) := by rw [hps]; rfl
          have q81 : keysOK ps 1 81 = true := by rw [hps]; rfl
          have k82 : slotOf ps 82 = some (2, .pointer (some ⟨mb, mo + q * 14, none⟩)) := by rw [hps]; rfl
          have q82 : keysOK ps 2 82 = true := by rw [hps]; rfl
          have k83 : slotOf ps 83 = some (3, .agg (snArr y)) := by rw [hps]; rfl
          have q83 : keysOK ps 3 83 = true := by rw [hps]; rfl
          have k84 : slotOf ps 84 = some (4, .slice (some ⟨lb, lo, none⟩) l.length vc) := by rw [hps]; rfl
          have q84 : keysOK ps 4 84 = true := by rw [hps]; rfl
          have k85 : slotOf ps 85 = some (5, .int .i64 (q : Int)) := by rw [hps]; rfl
          have q85 : keysOK ps 5 85 = true := by rw [hps]; rfl
          have k86 : slotOf ps 86 = some (6, .pointer (some ⟨lb, lo + q * 14, none⟩)) := by rw [hps]; rfl
          have q86 : keysOK ps 6 86 = true := by rw [hps]; rfl
          have k87 : slotOf ps 87 = some (7, .agg (snArr x)) := by rw [hps]; rfl
          have q87 : keysOK ps 7 87 = true := by rw [hps]; rfl
          have k88 : slotOf ps 88 = some (8, .bool true) := by rw [hps]; rfl
          have q88 : keysOK ps 8 88 = true := by rw [hps]; rfl
          clear ha0 hps
          refine ⟨?_, ?_, ?_, ?_, ?_, ?_, ?_, ?_, ?_, trivial⟩
          · rintro L _ Wx ⟨rfl, hT⟩ hcl hk hd
            rw [if_pos (by simp [Region.wanted])]
            refine op_value (v := .slice (some ⟨mb, mo, none⟩) l.length mc) (w' := Wx) (by simp [execOp, go_sem, frame_tout (n3) u3]) ⟨frame_put (k80) (q80), ?_⟩
            simpa [upd] using hT
          · rintro L _ Wx ⟨rfl, hT⟩ hcl hk hd
            rw [if_pos (by simp [Region.wanted])]
            refine op_value (v := .int .i64 (q : Int)) (w' := Wx) (by simp [execOp, go_sem, frame_tout (n12) u12]) ⟨frame_put (k81) (q81), ?_⟩
            simpa [upd] using hT
          · rintro L _ Wx ⟨rfl, hT⟩ hcl hk hd
            have hL0 : L 0 = true := by have h := hd; simp [Region.binds] at h; simp [h]
            have hL1 : L 1 = true := by have h := hd; simp [Region.binds] at h; simp [h]
            rw [if_pos (by simp [Region.wanted])]
            refine op_value (v := .pointer (some ⟨mb, mo + q * 14, none⟩)) (w' := Wx) (by simp [execOp, go_sem, frame_tmp (k80) hL0 (Nat.lt_of_lt_of_eq (by decide : 80 < 145) hsz.symm), frame_tmp (k81) hL1 (Nat.lt_of_lt_of_eq (by decide : 81 < 145) hsz.symm), hmlx]) ⟨frame_put (k82) (q82), ?_⟩
            simpa [upd] using hT
          · rintro L _ Wx ⟨rfl, hT⟩ hcl hk hd
            have hL2 : L 2 = true := by have h := hd; simp [Region.binds] at h; simp [h]
            rw [if_pos (by simp [Region.wanted])]
            refine op_loadF 36 (.tmp 82) rfl ⟨mb, mo + q * 14, none⟩ (by rw [frame_in (k82) hL2 (Nat.lt_of_lt_of_eq (by decide : 82 < 145) hsz.symm)]) (.agg (snArr y)) (hly Wx hT) ⟨frame_put (k83) (q83), ?_⟩
            simpa [upd] using hT
          · rintro L _ Wx ⟨rfl, hT⟩ hcl hk hd
            rw [if_pos (by simp [Region.wanted])]
            refine op_value (v := .slice (some ⟨lb, lo, none⟩) l.length vc) (w' := Wx) (by simp [execOp, go_sem, frame_tout (n0) u0]) ⟨frame_put (k84) (q84), ?_⟩
            simpa [upd] using hT
          · rintro L _ Wx ⟨rfl, hT⟩ hcl hk hd
            rw [if_pos (by simp [Region.wanted])]
            refine op_value (v := .int .i64 (q : Int)) (w' := Wx) (by simp [execOp, go_sem, frame_tout (n12) u12]) ⟨frame_put (k85) (q85), ?_⟩
            simpa [upd] using hT
          · rintro L _ Wx ⟨rfl, hT⟩ hcl hk hd
            have hL4 : L 4 = true := by have h := hd; simp [Region.binds] at h; simp [h]
            have hL5 : L 5 = true := by have h := hd; simp [Region.binds] at h; simp [h]
            rw [if_pos (by simp [Region.wanted])]
            refine op_value (v := .pointer (some ⟨lb, lo + q * 14, none⟩)) (w' := Wx) (by simp [execOp, go_sem, frame_tmp (k84) hL4 (Nat.lt_of_lt_of_eq (by decide : 84 < 145) hsz.symm), frame_tmp (k85) hL5 (Nat.lt_of_lt_of_eq (by decide : 85 < 145) hsz.symm), hmlx]) ⟨frame_put (k86) (q86), ?_⟩
            simpa [upd] using hT
          · rintro L _ Wx ⟨rfl, hT⟩ hcl hk hd
            have hL6 : L 6 = true := by have h := hd; simp [Region.binds] at h; simp [h]
            rw [if_pos (by simp [Region.wanted])]
            refine op_loadF 36 (.tmp 86) rfl ⟨lb, lo + q * 14, none⟩ (by rw [frame_in (k86) hL6 (Nat.lt_of_lt_of_eq (by decide : 86 < 145) hsz.symm)]) (.agg (snArr x)) (hlx Wx hT) ⟨frame_put (k87) (q87), ?_⟩
            simpa [upd] using hT
          · rintro L _ Wx ⟨rfl, hT⟩ hcl hk hd
            have hL3 : L 3 = true := by have h := hd; simp [Region.binds] at h; simp [h]
            have hL7 : L 7 = true := by have h := hd; simp [Region.binds] at h; simp [h]
            rw [if_pos (by simp [Region.wanted])]
            refine op_value (v := .bool true) (w' := Wx) (by simp [execOp, go_sem, frame_tmp (k83) hL3 (Nat.lt_of_lt_of_eq (by decide : 83 < 145) hsz.symm), frame_tmp (k87) hL7 (Nat.lt_of_lt_of_eq (by decide : 87 < 145) hsz.symm), eql_snA, hyx]) ⟨frame_put (k88) (q88), ?_⟩
            simpa [upd] using hT
        · rintro L W' hT hall
          simp only [putAll, Act.put, List.setIfInBounds_toArray, List.set_cons_succ, List.set_cons_zero]
          have HT := Lib.hid hT
          clear hT hall hlx hly hyx hmlx hT0
          go_wp2_with fail
          go_roundw
          case rel => exact ⟨q + 1, by have := HLT.out; omega, by rw [HDN.out], by go_num, HT.out⟩
          case measure => have := HLT.out; simp [intOf]; omega
      · have HYX : Hid (decide (y = x) = false) := Lib.hid (by simp [hyx])
        have HDN : Hid ((diffs l (mendP l) (q + 1)).length = dq + 1) := Lib.hid (by rw [HDS.out, if_neg (fun h => hyx (Option.some.inj h)), List.length_append, HDQ.out]; rfl)
        have hx1 : x.k = 1 := by
          false_or_by_contra
          rename_i h
          exact hyx (HR.out.2 h)
        have HX1 := Lib.hid hx1
        have hyv : { y with v := x.v } = x := by rw [HR.out.1]
        have HYV := Lib.hid hyv
        clear hyx hx1 hyv
        go_upto_region 14 with (fail)
        have hmlx : (q : Int) < ((l.length : Nat) : Int) := by omega
        have hyx := HYX.out
        have hly : ∀ W, Below w5.heap.size w5 W → (loadVar 36 ⟨mb, mo + q * 14, none⟩).run Try.prog W = .ok (.agg (snArr y)) W := fun W hW => ld_sn_row (HMX.out W hW) HY.out
        have hlx : ∀ W, Below w5.heap.size w5 W → (loadVar 36 ⟨lb, lo + q * 14, none⟩).run Try.prog W = .ok (.agg (snArr x)) W := fun W hW => ld_sn_row (HLX.out W hW) HX.out
        have hT0 := HB.out
        refine wp_region_frame mixed (by kernel_rfl) [(0, 80, .slice (some ⟨mb, mo, none⟩) l.length mc), (1, 81, .int .i64 (q : Int)), (2, 82, .pointer (some ⟨mb, mo + q * 14, none⟩)), (3, 83, .agg (snArr y)), (4, 84, .slice (some ⟨lb, lo, none⟩) l.length vc), (5, 85, .int .i64 (q : Int)), (6, 86, .pointer (some ⟨lb, lo + q * 14, none⟩)), (7, 87, .agg (snArr x)), (8, 88, .bool false)] (fun L Wx => Below w5.heap.size w5 Wx) ?_ ?_ (by rfl) (by rfl) ?_
        · exact hT0.drew
        · intro a0 ps ha0 hps
          have hsz : a0.tmps.size = 145 := by rw [ha0]; rfl
          have u0 : a0.tmps[0]? = some (.slice (some ⟨lb, lo, none⟩) l.length vc) := by rw [ha0]; rfl
          have u3 : a0.tmps[3]? = some (.slice (some ⟨mb, mo, none⟩) l.length mc) := by rw [ha0]; rfl
          have u12 : a0.tmps[12]? = some (.int .i64 (q : Int)) := by rw [ha0]; rfl
          have n0 : slotOf ps 0 = none := by rw [hps]; rfl
          have n3 : slotOf ps 3 = none := by rw [hps]; rfl
          have n12 : slotOf ps 12 = none := by rw [hps]; rfl
          have k80 : slotOf ps 80 = some (0, .slice (some ⟨mb, mo, none⟩) l.length mc) := by rw [hps]; rfl
          have q80 : keysOK ps 0 80 = true := by rw [hps]; rfl
          have k81 : slotOf ps 81 = some (1, .int .i64 (q : Int)) := by rw [hps]; rfl
          have q81 : keysOK ps 1 81 = true := by rw [hps]; rfl
          have k82 : slotOf ps 82 = some (2, .pointer (some ⟨mb, mo + q * 14, none⟩)) := by rw [hps]; rfl
          have q82 : keysOK ps 2 82 = true := by rw [hps]; rfl
          have k83 : slotOf ps 83 = some (3, .agg (snArr y)) := by rw [hps]; rfl
          have q83 : keysOK ps 3 83 = true := by rw [hps]; rfl
          have k84 : slotOf ps 84 = some (4, .slice (some ⟨lb, lo, none⟩) l.length vc) := by rw [hps]; rfl
          have q84 : keysOK ps 4 84 = true := by rw [hps]; rfl
          have k85 : slotOf ps 85 = some (5, .int .i64 (q : Int)) := by rw [hps]; rfl
          have q85 : keysOK ps 5 85 = true := by rw [hps]; rfl
          have k86 : slotOf ps 86 = some (6, .pointer (some ⟨lb, lo + q * 14, none⟩)) := by rw [hps]; rfl
          have q86 : keysOK ps 6 86 = true := by rw [hps]; rfl
          have k87 : slotOf ps 87 = some (7, .agg (snArr x)) := by rw [hps]; rfl
          have q87 : keysOK ps 7 87 = true := by rw [hps]; rfl
          have k88 : slotOf ps 88 = some (8, .bool false) := by rw [hps]; rfl
          have q88 : keysOK ps 8 88 = true := by rw [hps]; rfl
          clear ha0 hps
          refine ⟨?_, ?_, ?_, ?_, ?_, ?_, ?_, ?_, ?_, trivial⟩
          · rintro L _ Wx ⟨rfl, hT⟩ hcl hk hd
            rw [if_pos (by simp [Region.wanted])]
            refine op_value (v := .slice (some ⟨mb, mo, none⟩) l.length mc) (w' := Wx) (by simp [execOp, go_sem, frame_tout (n3) u3]) ⟨frame_put (k80) (q80), ?_⟩
            simpa [upd] using hT
          · rintro L _ Wx ⟨rfl, hT⟩ hcl hk hd
            rw [if_pos (by simp [Region.wanted])]
            refine op_value (v := .int .i64 (q : Int)) (w' := Wx) (by simp [execOp, go_sem, frame_tout (n12) u12]) ⟨frame_put (k81) (q81), ?_⟩
            simpa [upd] using hT
          · rintro L _ Wx ⟨rfl, hT⟩ hcl hk hd
            have hL0 : L 0 = true := by have h := hd; simp [Region.binds] at h; simp [h]
            have hL1 : L 1 = true := by have h := hd; simp [Region.binds] at h; simp [h]
            rw [if_pos (by simp [Region.wanted])]
            refine op_value (v := .pointer (some ⟨mb, mo + q * 14, none⟩)) (w' := Wx) (by simp [execOp, go_sem, frame_tmp (k80) hL0 (Nat.lt_of_lt_of_eq (by decide : 80 < 145) hsz.symm), frame_tmp (k81) hL1 (Nat.lt_of_lt_of_eq (by decide : 81 < 145) hsz.symm), hmlx]) ⟨frame_put (k82) (q82), ?_⟩
            simpa [upd] using hT
          · rintro L _ Wx ⟨rfl, hT⟩ hcl hk hd
            have hL2 : L 2 = true := by have h := hd; simp [Region.binds] at h; simp [h]
            rw [if_pos (by simp [Region.wanted])]
            refine op_loadF 36 (.tmp 82) rfl ⟨mb, mo + q * 14, none⟩ (by rw [frame_in (k82) hL2 (Nat.lt_of_lt_of_eq (by decide : 82 < 145) hsz.symm)]) (.agg (snArr y)) (hly Wx hT) ⟨frame_put (k83) (q83), ?_⟩
            simpa [upd] using hT
          · rintro L _ Wx ⟨rfl, hT⟩ hcl hk hd
            rw [if_pos (by simp [Region.wanted])]
            refine op_value (v := .slice (some ⟨lb, lo, none⟩) l.length vc) (w' := Wx) (by simp [execOp, go_sem, frame_tout (n0) u0]) ⟨frame_put (k84) (q84), ?_⟩
            simpa [upd] using hT
          · rintro L _ Wx ⟨rfl, hT⟩ hcl hk hd
            rw [if_pos (by simp [Region.wanted])]
            refine op_value (v := .int .i64 (q : Int)) (w' := Wx) (by simp [execOp, go_sem, frame_tout (n12) u12]) ⟨frame_put (k85) (q85), ?_⟩
            simpa [upd] using hT
          · rintro L _ Wx ⟨rfl, hT⟩ hcl hk hd
            have hL4 : L 4 = true := by have h := hd; simp [Region.binds] at h; simp [h]
            have hL5 : L 5 = true := by have h := hd; simp [Region.binds] at h; simp [h]
            rw [if_pos (by simp [Region.wanted])]
            refine op_value (v := .pointer (some ⟨lb, lo + q * 14, none⟩)) (w' := Wx) (by simp [execOp, go_sem, frame_tmp (k84) hL4 (Nat.lt_of_lt_of_eq (by decide : 84 < 145) hsz.symm), frame_tmp (k85) hL5 (Nat.lt_of_lt_of_eq (by decide : 85 < 145) hsz.symm), hmlx]) ⟨frame_put (k86) (q86), ?_⟩
            simpa [upd] using hT
          · rintro L _ Wx ⟨rfl, hT⟩ hcl hk hd
            have hL6 : L 6 = true := by have h := hd; simp [Region.binds] at h; simp [h]
            rw [if_pos (by simp [Region.wanted])]
            refine op_loadF 36 (.tmp 86) rfl ⟨lb, lo + q * 14, none⟩ (by rw [frame_in (k86) hL6 (Nat.lt_of_lt_of_eq (by decide : 86 < 145) hsz.symm)]) (.agg (snArr x)) (hlx Wx hT) ⟨frame_put (k87) (q87), ?_⟩
            simpa [upd] using hT
          · rintro L _ Wx ⟨rfl, hT⟩ hcl hk hd
            have hL3 : L 3 = true := by have h := hd; simp [Region.binds] at h; simp [h]
            have hL7 : L 7 = true := by have h := hd; simp [Region.binds] at h; simp [h]
            rw [if_pos (by simp [Region.wanted])]
            refine op_value (v := .bool false) (w' := Wx) (by simp [execOp, go_sem, frame_tmp (k83) hL3 (Nat.lt_of_lt_of_eq (by decide : 83 < 145) hsz.symm), frame_tmp (k87) hL7 (Nat.lt_of_lt_of_eq (by decide : 87 < 145) hsz.symm), eql_snA, hyx]) ⟨frame_put (k88) (q88), ?_⟩
            simpa [upd] using hT
        · rintro L W' hT hall
          simp only [putAll, Act.put, List.setIfInBounds_toArray, List.set_cons_succ, List.set_cons_zero]
          have HT := Lib.hid hT
          clear hT hall hlx hly hyx hmlx hT0
          obtain ⟨c0, c1, c2, c3, c4, c5, c6, c7, c8, c9, c10, c11, c12, c13⟩ := (HMX.out W' HT.out).sn HY.out
          obtain ⟨w6, hw6⟩ : ∃ w6, W'.alloc (.cells (snArr y) 36) = w6 := ⟨_, rfl⟩
          have hb6 : Below w5.heap.size w5 w6 := hw6 ▸ HT.out.alloc HT.out.size _
          have hx6 : w6.heap[W'.heap.size]? = some (.cells (snArr y) 36 (0, 0)) := hw6 ▸ heap_alloc_new W' _
          have hw6' : W'.alloc (.cells #[.int .i8 y.k, .int .i64 y.n.s, .int .i64 y.n.i, .int .i64 y.n.t, .int .i64 y.b, .int .u8 y.v.a, .int .u8 y.v.b, .int .u8 y.v.c, .int .u8 y.v.d, .int .u8 y.v.e, .int .u8 y.v.f, .int .u8 y.v.g, .int .u8 y.v.h, .int .i64 y.e] 36) = w6 := hw6
          have HW6 := Lib.hid hw6'
          have HB6 := Lib.hid hb6
          have HX6 := Lib.hid hx6
          have HTS := Lib.hid HT.out.size
          clear hw6 hw6' hb6 hx6
          go_upto_region 16 with (fail)
          rw [HW6.out]
          clear c0 c1 c2 c3 c4 c5 c6 c7 c8 c9 c10 c11 c12 c13 HT
          obtain ⟨c0, c1, c2, c3, c4, c5, c6, c7, c8, c9, c10, c11, c12, c13⟩ := (HLX.out w6 HB6.out).sn HX.out
          obtain ⟨w7, hw7⟩ : ∃ w7, w6.setRow W'.heap.size (snArr { y with v := x.v }) = w7 := ⟨_, rfl⟩
          have hb7 : Below w5.heap.size w5 w7 := hw7 ▸ HB6.out.grown (grownBy_setRow _ _ _) HB6.out.size (fun k e => by cases e; exact HTS.out)
          have hx7 : w7.heap[W'.heap.size]? = some (.cells (snArr x) 36 (0, 0)) := by rw [← hw7, HYV.out]; exact setRow_heap _ _ _ _ _ _ HX6.out
          have HW7 := Lib.hid hw7
          have HB7 := Lib.hid hb7
          have HX7 := Lib.hid hx7
          clear hw7 hb7 hx7
          go_wp2_with (refine wpList_store rfl 23 (.tmp 98) (.tmp 97) rfl ⟨W'.heap.size, 5, none⟩ rfl (v8Val x.v) rfl (st_sn x.v HX6.out) ?_; rw [HW7.out])
          clear c0 c1 c2 c3 c4 c5 c6 c7 c8 c9 c10 c11 c12 c13
          have hmlx : (q : Int) < ((l.length : Nat) : Int) := by omega
          have hk1 : (x.k != 1) = false := by simp [HX1.out]
          have hbx : ∀ W, Below w7.heap.size w7 W → (loadVar 36 ⟨W'.heap.size, 0, none⟩).run Try.prog W = .ok (.agg (snArr x)) W := fun W hW => ld_sn ((hW.block _ (lt_of_heap HX7.out)).trans HX7.out)
          have hlx : ∀ W, Below w7.heap.size w7 W → (loadVar 36 ⟨lb, lo + q * 14, none⟩).run Try.prog W = .ok (.agg (snArr x)) W := fun W hW => ld_sn_row (HLX.out W (HB7.out.trans (hW.mono HB7.out.size))) HX.out
          have hc0 : ∀ W, Below w7.heap.size w7 W → W.cell? ⟨lb, lo + q * 14, none⟩ = some (.int .i8 x.k) := fun W hW => ((HLX.out W (HB7.out.trans (hW.mono HB7.out.size))).sn HX.out).1
          refine wp_region_frame mixed (by kernel_rfl) [(0, 101, .agg (snArr x)), (1, 102, .slice (some ⟨lb, lo, none⟩) l.length vc), (2, 103, .int .i64 (q : Int)), (3, 104, .pointer (some ⟨lb, lo + q * 14, none⟩)), (4, 105, .agg (snArr x)), (5, 106, .bool false), (6, 107, .bool false), (7, 108, .slice (some ⟨lb, lo, none⟩) l.length vc), (8, 109, .int .i64 (q : Int)), (9, 110, .pointer (some ⟨lb, lo + q * 14, none⟩)), (10, 111, .pointer (some ⟨lb, lo + q * 14, none⟩)), (11, 112, .int .i8 x.k), (12, 113, .bool false), (13, 114, .bool false)] (fun L Wx => Below w7.heap.size w7 Wx) ?_ ?_ (by rfl) (by rfl) ?_
          · exact (Below.refl _ _).drew
          · intro a0 ps ha0 hps
            have hsz : a0.tmps.size = 145 := by rw [ha0]; rfl
            have u0 : a0.tmps[0]? = some (.slice (some ⟨lb, lo, none⟩) l.length vc) := by rw [ha0]; rfl
            have u12 : a0.tmps[12]? = some (.int .i64 (q : Int)) := by rw [ha0]; rfl
            have u13 : a0.tmps[13]? = some (.pointer (some ⟨W'.heap.size, 0, none⟩)) := by rw [ha0]; rfl
            have n0 : slotOf ps 0 = none := by rw [hps]; rfl
            have n12 : slotOf ps 12 = none := by rw [hps]; rfl
            have n13 : slotOf ps 13 = none := by rw [hps]; rfl
            have k101 : slotOf ps 101 = some (0, .agg (snArr x)) := by rw [hps]; rfl
            have q101 : keysOK ps 0 101 = true := by rw [hps]; rfl
            have k102 : slotOf ps 102 = some (1, .slice (some ⟨lb, lo, none⟩) l.length vc) := by rw [hps]; rfl
            have q102 : keysOK ps 1 102 = true := by rw [hps]; rfl
            have k103 : slotOf ps 103 = some (2, .int .i64 (q : Int)) := by rw [hps]; rfl
            have q103 : keysOK ps 2 103 = true := by rw [hps]; rfl
            have k104 : slotOf ps 104 = some (3, .pointer (some ⟨lb, lo + q * 14, none⟩)) := by rw [hps]; rfl
            have q104 : keysOK ps 3 104 = true := by rw [hps]; rfl
            have k105 : slotOf ps 105 = some (4, .agg (snArr x)) := by rw [hps]; rfl
            have q105 : keysOK ps 4 105 = true := by rw [hps]; rfl
            have k106 : slotOf ps 106 = some (5, .bool false) := by rw [hps]; rfl
            have q106 : keysOK ps 5 106 = true := by rw [hps]; rfl
            have k107 : slotOf ps 107 = some (6, .bool false) := by rw [hps]; rfl
            have q107 : keysOK ps 6 107 = true := by rw [hps]; rfl
            have k108 : slotOf ps 108 = some (7, .slice (some ⟨lb, lo, none⟩) l.length vc) := by rw [hps]; rfl
            have q108 : keysOK ps 7 108 = true := by rw [hps]; rfl
            have k109 : slotOf ps 109 = some (8, .int .i64 (q : Int)) := by rw [hps]; rfl
            have q109 : keysOK ps 8 109 = true := by rw [hps]; rfl
            have k110 : slotOf ps 110 = some (9, .pointer (some ⟨lb, lo + q * 14, none⟩)) := by rw [hps]; rfl
            have q110 : keysOK ps 9 110 = true := by rw [hps]; rfl
            have k111 : slotOf ps 111 = some (10, .pointer (some ⟨lb, lo + q * 14, none⟩)) := by rw [hps]; rfl
            have q111 : keysOK ps 10 111 = true := by rw [hps]; rfl
            have k112 : slotOf ps 112 = some (11, .int .i8 x.k) := by rw [hps]; rfl
            have q112 : keysOK ps 11 112 = true := by rw [hps]; rfl
            have k113 : slotOf ps 113 = some (12, .bool false) := by rw [hps]; rfl
            have q113 : keysOK ps 12 113 = true := by rw [hps]; rfl
            have k114 : slotOf ps 114 = some (13, .bool false) := by rw [hps]; rfl
            have q114 : keysOK ps 13 114 = true := by rw [hps]; rfl
            clear ha0 hps
            refine ⟨?_, ?_, ?_, ?_, ?_, ?_, ?_, ?_, ?_, ?_, ?_, ?_, ?_, ?_, trivial⟩
            · rintro L _ Wx ⟨rfl, hT⟩ hcl hk hd
              rw [if_pos (by simp [Region.wanted])]
              refine op_loadF 36 (.tmp 13) rfl ⟨W'.heap.size, 0, none⟩ (by rw [frame_oute n13 u13]) (.agg (snArr x)) (hbx Wx hT) ⟨frame_put (k101) (q101), ?_⟩
              simpa [upd] using hT
            · rintro L _ Wx ⟨rfl, hT⟩ hcl hk hd
              rw [if_pos (by simp [Region.wanted])]
              refine op_value (v := .slice (some ⟨lb, lo, none⟩) l.length vc) (w' := Wx) (by simp [execOp, go_sem, frame_tout (n0) u0]) ⟨frame_put (k102) (q102), ?_⟩
              simpa [upd] using hT
            · rintro L _ Wx ⟨rfl, hT⟩ hcl hk hd
              rw [if_pos (by simp [Region.wanted])]
              refine op_value (v := .int .i64 (q : Int)) (w' := Wx) (by simp [execOp, go_sem, frame_tout (n12) u12]) ⟨frame_put (k103) (q103), ?_⟩
              simpa [upd] using hT
            · rintro L _ Wx ⟨rfl, hT⟩ hcl hk hd
              have hL1 : L 1 = true := by have h := hd; simp [Region.binds] at h; simp [h]
              have hL2 : L 2 = true := by have h := hd; simp [Region.binds] at h; simp [h]
              rw [if_pos (by simp [Region.wanted])]
              refine op_value (v := .pointer (some ⟨lb, lo + q * 14, none⟩)) (w' := Wx) (by simp [execOp, go_sem, frame_tmp (k102) hL1 (Nat.lt_of_lt_of_eq (by decide : 102 < 145) hsz.symm), frame_tmp (k103) hL2 (Nat.lt_of_lt_of_eq (by decide : 103 < 145) hsz.symm), hmlx]) ⟨frame_put (k104) (q104), ?_⟩
              simpa [upd] using hT
            · rintro L _ Wx ⟨rfl, hT⟩ hcl hk hd
              have hL3 : L 3 = true := by have h := hd; simp [Region.binds] at h; simp [h]
              rw [if_pos (by simp [Region.wanted])]
              refine op_loadF 36 (.tmp 104) rfl ⟨lb, lo + q * 14, none⟩ (by rw [frame_in (k104) hL3 (Nat.lt_of_lt_of_eq (by decide : 104 < 145) hsz.symm)]) (.agg (snArr x)) (hlx Wx hT) ⟨frame_put (k105) (q105), ?_⟩
              simpa [upd] using hT
            · rintro L _ Wx ⟨rfl, hT⟩ hcl hk hd
              have hL0 : L 0 = true := by have h := hd; simp [Region.binds] at h; simp [h]
              have hL4 : L 4 = true := by have h := hd; simp [Region.binds] at h; simp [h]
              rw [if_pos (by simp [Region.wanted])]
              refine op_value (v := .bool false) (w' := Wx) (by simp [execOp, go_sem, frame_tmp (k101) hL0 (Nat.lt_of_lt_of_eq (by decide : 101 < 145) hsz.symm), frame_tmp (k105) hL4 (Nat.lt_of_lt_of_eq (by decide : 105 < 145) hsz.symm), neq_snA]) ⟨frame_put (k106) (q106), ?_⟩
              simpa [upd] using hT
            · rintro L _ Wx ⟨rfl, hT⟩ hcl hk hd
              have hL5 : L 5 = true := by have h := hd; simp [Region.binds] at h; simp [h]
              rw [if_pos (by simp [Region.wanted])]
              refine op_value (v := .bool false) (w' := Wx) (by simp [execOp, go_sem, frame_tmp (k106) hL5 (Nat.lt_of_lt_of_eq (by decide : 106 < 145) hsz.symm)]) ⟨frame_put (k107) (q107), ?_⟩
              simpa [upd] using hT
            · rintro L _ Wx ⟨rfl, hT⟩ hcl hk hd
              have hL6 : L 6 = true := by have h := hd; simp [Region.binds] at h; simp [h]
              rw [if_pos (by simp [Region.wanted, yielded, frame_tmp (k107) hL6 (Nat.lt_of_lt_of_eq (by decide : 107 < 145) hsz.symm)])]
              refine op_value (v := .slice (some ⟨lb, lo, none⟩) l.length vc) (w' := Wx) (by simp [execOp, go_sem, frame_tout (n0) u0]) ⟨frame_put (k108) (q108), ?_⟩
              simpa [upd] using hT
            · rintro L _ Wx ⟨rfl, hT⟩ hcl hk hd
              have hL6 : L 6 = true := by have h := hd; simp [Region.binds] at h; simp [h]
              rw [if_pos (by simp [Region.wanted, yielded, frame_tmp (k107) hL6 (Nat.lt_of_lt_of_eq (by decide : 107 < 145) hsz.symm)])]
              refine op_value (v := .int .i64 (q : Int)) (w' := Wx) (by simp [execOp, go_sem, frame_tout (n12) u12]) ⟨frame_put (k109) (q109), ?_⟩
              simpa [upd] using hT
            · rintro L _ Wx ⟨rfl, hT⟩ hcl hk hd
              have hL6 : L 6 = true := by have h := hd; simp [Region.binds] at h; simp [h]
              have hL7 : L 7 = true := by have h := hd; simp [Region.binds] at h; simp [h]
              have hL8 : L 8 = true := by have h := hd; simp [Region.binds] at h; simp [h]
              rw [if_pos (by simp [Region.wanted, yielded, frame_tmp (k107) hL6 (Nat.lt_of_lt_of_eq (by decide : 107 < 145) hsz.symm)])]
              refine op_value (v := .pointer (some ⟨lb, lo + q * 14, none⟩)) (w' := Wx) (by simp [execOp, go_sem, frame_tmp (k108) hL7 (Nat.lt_of_lt_of_eq (by decide : 108 < 145) hsz.symm), frame_tmp (k109) hL8 (Nat.lt_of_lt_of_eq (by decide : 109 < 145) hsz.symm), hmlx]) ⟨frame_put (k110) (q110), ?_⟩
              simpa [upd] using hT
            · rintro L _ Wx ⟨rfl, hT⟩ hcl hk hd
              have hL6 : L 6 = true := by have h := hd; simp [Region.binds] at h; simp [h]
              have hL9 : L 9 = true := by have h := hd; simp [Region.binds] at h; simp [h]
              rw [if_pos (by simp [Region.wanted, yielded, frame_tmp (k107) hL6 (Nat.lt_of_lt_of_eq (by decide : 107 < 145) hsz.symm)])]
              refine op_value (v := .pointer (some ⟨lb, lo + q * 14, none⟩)) (w' := Wx) (by simp [execOp, go_sem, frame_tmp (k110) hL9 (Nat.lt_of_lt_of_eq (by decide : 110 < 145) hsz.symm)]) ⟨frame_put (k111) (q111), ?_⟩
              simpa [upd] using hT
            · rintro L _ Wx ⟨rfl, hT⟩ hcl hk hd
              have hL6 : L 6 = true := by have h := hd; simp [Region.binds] at h; simp [h]
              have hL10 : L 10 = true := by have h := hd; simp [Region.binds] at h; simp [h]
              rw [if_pos (by simp [Region.wanted, yielded, frame_tmp (k107) hL6 (Nat.lt_of_lt_of_eq (by decide : 107 < 145) hsz.symm)])]
              refine op_value (v := .int .i8 x.k) (w' := Wx) (by simp [execOp, go_sem, frame_tmp (k111) hL10 (Nat.lt_of_lt_of_eq (by decide : 111 < 145) hsz.symm), hc0 Wx hT]) ⟨frame_put (k112) (q112), ?_⟩
              simpa [upd] using hT
            · rintro L _ Wx ⟨rfl, hT⟩ hcl hk hd
              have hL6 : L 6 = true := by have h := hd; simp [Region.binds] at h; simp [h]
              have hL11 : L 11 = true := by have h := hd; simp [Region.binds] at h; simp [h]
              rw [if_pos (by simp [Region.wanted, yielded, frame_tmp (k107) hL6 (Nat.lt_of_lt_of_eq (by decide : 107 < 145) hsz.symm)])]
              refine op_value (v := .bool false) (w' := Wx) (by simp [execOp, go_sem, frame_tmp (k112) hL11 (Nat.lt_of_lt_of_eq (by decide : 112 < 145) hsz.symm), hk1]) ⟨frame_put (k113) (q113), ?_⟩
              simpa [upd] using hT
            · rintro L _ Wx ⟨rfl, hT⟩ hcl hk hd
              have hL6 : L 6 = true := by have h := hd; simp [Region.binds] at h; simp [h]
              have hL12 : L 12 = true := by have h := hd; simp [Region.binds] at h; simp [h]
              rw [if_pos (by simp [Region.wanted])]
              refine op_value (v := .bool false) (w' := Wx) (by simp [execOp, go_sem, frame_tmp (k107) hL6 (Nat.lt_of_lt_of_eq (by decide : 107 < 145) hsz.symm), frame_tmp (k113) hL12 (Nat.lt_of_lt_of_eq (by decide : 113 < 145) hsz.symm)]) ⟨frame_put (k114) (q114), ?_⟩
              simpa [upd] using hT
          · rintro L W9 hT hall
            simp only [putAll, Act.put, List.setIfInBounds_toArray, List.set_cons_succ, List.set_cons_zero]
            have HT9 := Lib.hid (HB7.out.trans (hT.mono HB7.out.size))
            clear hT hall hlx hbx hc0 hk1 hmlx
            go_wp2_with fail
            go_roundw
            case rel => exact ⟨q + 1, by have := HLT.out; omega, by rw [HDN.out]; go_num, by go_num, HT9.out⟩
            case measure => have := HLT.out; simp [intOf]; omega
    · obtain rfl : q = l.length := by omega
      have hcn := HCN.out
      rw [hcn]
      clear hcn hdl
      have hwl := HWL.out
      go_wp2_with fail
      have hbw : Below w.heap.size w wr := HB5.out.trans (HB.out.mono HB5.out.size)
      refine (HC4.out wr ((HV.out.below hbw).mono hbw.size)).mono ?_
      rintro e w6 ⟨⟨fa, fc, rfl⟩, b6⟩
      have HB6 := Lib.hid (HB.out.trans (b6.mono HB.out.size))
      clear b6 hbw
      go_wp2_with fail
      refine (HC5.out _ w6 ((HMV5.out.below HB6.out).mono HB6.out.size)).mono ?_
      rintro e w7 ⟨⟨ga, gc, rfl⟩, b7⟩
      have HB7 := Lib.hid (HB6.out.trans (b7.mono HB6.out.size))
      clear b7
      generalize (wrongP l).length = nw at *
      have e_n : ((nw : Int) == (nw : Int)) = true := by simp
      go_wp2_with fail
      refine (wakes32_any _).mono ?_
      rintro e w8 ⟨rfl, b8⟩
      have HB8 := Lib.hid (HB7.out.trans (b8.mono HB7.out.size))
      clear b8
      go_wp2_with fail
      go_ret
      exact ⟨rfl, HB5.out.trans (HB8.out.mono HB5.out.size)⟩

theorem mends_any (l : List Sn) (v : Value) (w : World) (hv : Sns w.heap.size w v l) : Calls Try.prog 11 #[v] w fun e w' => e = .returned (.bool true) ∧ Below w.heap.size w w' := by
  by_cases hb : 300 < l.length
  · exact mends_bad l v w hv hb
  · cases hm : mayP l with
    | false => exact mends_err l v w hv (by omega) hm
    | true => exact mends_ok l v w hv (by omega) hm

end Go.Proofs.Ytgdmgeihgkbjaaa
