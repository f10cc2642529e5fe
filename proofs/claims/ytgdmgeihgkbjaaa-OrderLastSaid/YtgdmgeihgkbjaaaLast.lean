/- 'cashboxlaw27.OrderLast' -/
import Derived.Test.YtgdmgeihgkbjaaaLastLaw
namespace Go.Proofs.Ytgdmgeihgkbjaaa
open Go.RowKit Go.Shelf

theorem op_load {o : Oper} {a : Act} {w : World} {K : Act → World → Prop} {Q : Exit → Act → World → Prop} (ty : TypeId) (x : Operand) (ho : o.op = .load ty x)
    (ad : Addr) (hx : a.eval x = .pointer (some ad)) (v : Value) (hl : (loadVar ty ad).run Try.prog w = .ok v w) (h : K (a.put o.dst v) w) : o.wp Try.prog a w K Q := by
  unfold Oper.wp execOp
  simp only [ho, hx, Instr.loadAt, Instr.sureAddr, Sem.run_bind, Sem.run_pure, Result.andThen_ok, hl]
  exact h

/-- A box of one value. -/
theorem ld_box {W : World} {b : Nat} {v : V8} {t : TypeId} {fr : Nat × Nat} (h : W.heap[b]? = some (.cells (stArr [v]) t fr)) : (loadVar 23 ⟨b, 0, none⟩).run Try.prog W = .ok (v8Val v) W := ld_st (i := 0) h rfl
theorem st_box {W : World} {b : Nat} {v : V8} (u : V8) {t : TypeId} (h : W.heap[b]? = some (.cells (stArr [v]) t (0, 0))) : (storeVar 23 ⟨b, 0, none⟩ (v8Val u)).run Try.prog W = .ok () (W.setRow b (stArr [u])) := st_st (i := 0) u h (by simp)

/-- A state laid into a new block. -/
theorem laid_state (S : List V8) (w2 : World) : ∀ w3, (w2.alloc (.cells (stArr st0) 24)).setRow w2.heap.size (stArr S) = w3 → w3.heap[w2.heap.size]? = some (.cells (stArr S) 24 (0, 0)) ∧ Below w2.heap.size w2 w3 ∧ w3.heap.size = w2.heap.size + 1 := by
  rintro w3 rfl
  refine ⟨setRow_heap _ _ _ _ _ _ (heap_alloc_new w2 _), (below_alloc1 _).trans ((Below.refl _ _).grown (grownBy_setRow _ _ _) (by simp) (fun k e => by cases e; exact Nat.le_refl _)), by simp⟩

set_option maxRecDepth 100000 in
set_option maxHeartbeats 4000000 in
theorem last_bad (l : List Sn) (v : Value) (blk : Int) (w : World) (hv : Sns w.heap.size w v l) (hbad : 200 < l.length ∨ blk < 0 ∨ 32 ≤ blk) :
    Calls Try.prog 7 #[v, .int .i64 blk] w fun e w' => e = .returned (.bool true) ∧ Below w.heap.size w w' := by
  obtain ⟨a, cap, rfl, _, _⟩ := hv
  by_cases hl : 200 < l.length
  · go_enter Try.func7, Try.ntmps7
    go_wp2_with fail
    refine (wakes27_any _).mono ?_
    rintro e w1 ⟨rfl, b1⟩
    go_wp2_with fail
    go_ret
    exact ⟨rfl, b1⟩
  · have hl' : l.length ≤ 200 := by omega
    by_cases h0 : blk < 0
    · clear hl hbad
      go_enter Try.func7, Try.ntmps7
      go_wp2_with fail
      refine (wakes27_any _).mono ?_
      rintro e w1 ⟨rfl, b1⟩
      go_wp2_with fail
      go_ret
      exact ⟨rfl, b1⟩
    · have h0' : 0 ≤ blk := by omega
      have h1' : 32 ≤ blk := by omega
      have e1 : decide (blk ≥ 32) = true := by simpa using h1'
      clear hl hbad h0
      go_enter Try.func7, Try.ntmps7
      go_wp2_with fail
      refine (wakes27_any _).mono ?_
      rintro e w1 ⟨rfl, b1⟩
      go_wp2_with fail
      go_ret
      exact ⟨rfl, b1⟩

set_option maxRecDepth 100000 in
set_option maxHeartbeats 4000000 in
theorem last_err (l : List Sn) (v : Value) (blk : Int) (w : World) (hv : Sns w.heap.size w v l) (hl' : l.length ≤ 200) (hb0 : 0 ≤ blk) (hb1 : blk < 32) (hm : mayP l = false) :
    Calls Try.prog 7 #[v, .int .i64 blk] w fun e w' => e = .returned (.bool true) ∧ Below w.heap.size w w' := by
  have HV := Lib.hid hv
  have HM := Lib.hid hm
  obtain ⟨a, cap, rfl, _, _⟩ := hv
  clear hm
  have e9 : decide (blk ≥ 32) = false := by simp; omega
  go_enter Try.func7, Try.ntmps7
  go_wp2_with fail
  refine (order_any l _ w (by omega) HV.out).mono ?_
  rintro e w1 ⟨h, b1⟩
  rcases h with ⟨_, rfl⟩ | ⟨h2, _⟩
  · have B1 := Lib.hid b1
    clear b1
    go_wp2_with fail
    refine (replay_no l _ w1 (by omega) ((HV.out.below B1.out).mono B1.out.size) HM.out).mono ?_
    rintro e w2 ⟨rfl, b2⟩
    have B2 := Lib.hid (B1.out.trans (b2.mono B1.out.size))
    clear b2
    have HLS := Lib.hid (laid_state st0 w2)
    go_wp2_with (first | (rw [zero24s]) | (refine wpList_store rfl 24 (.tmp 7) (.tmp 35) rfl ⟨w2.heap.size, 0, none⟩ rfl (.agg (stArr st0)) rfl (st_all st0 (heap_alloc_new w2 _) (by decide) (by decide)) ?_; obtain ⟨w3, hw3⟩ : ∃ w3, (w2.alloc (.cells (stArr st0) 24)).setRow w2.heap.size (stArr st0) = w3 := ⟨_, rfl⟩; obtain ⟨h3a, h3b, h3c⟩ := HLS.out w3 hw3; rw [hw3]; have B3 := Lib.hid (B2.out.trans (h3b.mono B2.out.size)); clear hw3 h3a h3b h3c))
    obtain ⟨w4, hw4⟩ : ∃ w4, w3.alloc (.cells #[.int .u8 0, .int .u8 0, .int .u8 0, .int .u8 0, .int .u8 0, .int .u8 0, .int .u8 0, .int .u8 0] 23) = w4 := ⟨_, rfl⟩
    have B4 : Hid (Below w.heap.size w w4) := hw4 ▸ B3.out.alloc B3.out.size _
    rw [hw4]
    clear hw4
    go_loopw [43] (fun io wr => io = .int .i64 0 ∧ wr = w4) (fun _ _ => 0)
    case atStart => exact ⟨rfl, rfl⟩
    case round =>
      obtain ⟨rfl, rfl⟩ := hrel
      go_wp2_with fail
      obtain ⟨wi, rfl⟩ : ∃ wi : World, wi = wr := ⟨_, rfl⟩
      have HBI := B4
      -- BEGIN LE
      refine wp_region_frame mixed (by kernel_rfl) [(0, 72, .int .i64 2), (1, 73, .bool true), (2, 74, .bool true), (3, 75, undef), (4, 76, undef), (5, 77, undef), (6, 78, undef), (7, 79, undef), (8, 80, .bool true), (9, 81, .bool true), (10, 82, .bool true), (11, 83, .bool true), (12, 4, .bool true)] (fun L Wx => Below wi.heap.size wi Wx) ?_ ?_ (by rfl) (by rfl) ?_
      · exact (Below.refl _ _).drew
      · intro a0 ps ha0 hps
        have hsz : a0.tmps.size = 84 := by rw [ha0]; rfl
        have u6 : a0.tmps[6]? = some (.int .i64 2) := by rw [ha0]; rfl
        have n6 : slotOf ps 6 = none := by rw [hps]; rfl
        have k72 : slotOf ps 72 = some (0, .int .i64 2) := by rw [hps]; rfl
        have q72 : keysOK ps 0 72 = true := by rw [hps]; rfl
        have k73 : slotOf ps 73 = some (1, .bool true) := by rw [hps]; rfl
        have q73 : keysOK ps 1 73 = true := by rw [hps]; rfl
        have k74 : slotOf ps 74 = some (2, .bool true) := by rw [hps]; rfl
        have q74 : keysOK ps 2 74 = true := by rw [hps]; rfl
        have k75 : slotOf ps 75 = some (3, undef) := by rw [hps]; rfl
        have q75 : keysOK ps 3 75 = true := by rw [hps]; rfl
        have k76 : slotOf ps 76 = some (4, undef) := by rw [hps]; rfl
        have q76 : keysOK ps 4 76 = true := by rw [hps]; rfl
        have k77 : slotOf ps 77 = some (5, undef) := by rw [hps]; rfl
        have q77 : keysOK ps 5 77 = true := by rw [hps]; rfl
        have k78 : slotOf ps 78 = some (6, undef) := by rw [hps]; rfl
        have q78 : keysOK ps 6 78 = true := by rw [hps]; rfl
        have k79 : slotOf ps 79 = some (7, undef) := by rw [hps]; rfl
        have q79 : keysOK ps 7 79 = true := by rw [hps]; rfl
        have k80 : slotOf ps 80 = some (8, .bool true) := by rw [hps]; rfl
        have q80 : keysOK ps 8 80 = true := by rw [hps]; rfl
        have k81 : slotOf ps 81 = some (9, .bool true) := by rw [hps]; rfl
        have q81 : keysOK ps 9 81 = true := by rw [hps]; rfl
        have k82 : slotOf ps 82 = some (10, .bool true) := by rw [hps]; rfl
        have q82 : keysOK ps 10 82 = true := by rw [hps]; rfl
        have k83 : slotOf ps 83 = some (11, .bool true) := by rw [hps]; rfl
        have q83 : keysOK ps 11 83 = true := by rw [hps]; rfl
        have k4 : slotOf ps 4 = some (12, .bool true) := by rw [hps]; rfl
        have q4 : keysOK ps 12 4 = true := by rw [hps]; rfl
        clear ha0 hps
        refine ⟨?_, ?_, ?_, ?_, ?_, ?_, ?_, ?_, ?_, ?_, ?_, ?_, ?_, trivial⟩
        · rintro L _ Wx ⟨rfl, hT⟩ hcl hk hd
          rw [if_pos (by simp [Region.wanted])]
          refine op_value (v := .int .i64 2) (w' := Wx) (by simp [execOp, go_sem, frame_tout (n6) u6]) ⟨frame_put (k72) (q72), ?_⟩
          simpa [upd] using hT
        · rintro L _ Wx ⟨rfl, hT⟩ hcl hk hd
          have hL0 : L 0 = true := by have h := hd; simp [Region.binds] at h; simp [h]
          rw [if_pos (by simp [Region.wanted])]
          refine op_value (v := .bool true) (w' := Wx) (by simp [execOp, go_sem, frame_tmp (k72) hL0 (Nat.lt_of_lt_of_eq (by decide : 72 < 84) hsz.symm)]) ⟨frame_put (k73) (q73), ?_⟩
          simpa [upd] using hT
        · rintro L _ Wx ⟨rfl, hT⟩ hcl hk hd
          have hL1 : L 1 = true := by have h := hd; simp [Region.binds] at h; simp [h]
          rw [if_pos (by simp [Region.wanted])]
          refine op_value (v := .bool true) (w' := Wx) (by simp [execOp, go_sem, frame_tmp (k73) hL1 (Nat.lt_of_lt_of_eq (by decide : 73 < 84) hsz.symm)]) ⟨frame_put (k74) (q74), ?_⟩
          simpa [upd] using hT
        · rintro L _ Wx ⟨rfl, hT⟩ hcl hk hd
          have hL2 : L 2 = true := by have h := hd; simp [Region.binds] at h; simp [h]
          rw [if_neg (by simp [Region.wanted, yielded, frame_tmp (k74) hL2 (Nat.lt_of_lt_of_eq (by decide : 74 < 84) hsz.symm)])]
          refine ⟨frame_put (k75) (q75), ?_⟩
          simpa [upd] using hT
        · rintro L _ Wx ⟨rfl, hT⟩ hcl hk hd
          have hL2 : L 2 = true := by have h := hd; simp [Region.binds] at h; simp [h]
          rw [if_neg (by simp [Region.wanted, yielded, frame_tmp (k74) hL2 (Nat.lt_of_lt_of_eq (by decide : 74 < 84) hsz.symm)])]
          refine ⟨frame_put (k76) (q76), ?_⟩
          simpa [upd] using hT
        · rintro L _ Wx ⟨rfl, hT⟩ hcl hk hd
          have hL2 : L 2 = true := by have h := hd; simp [Region.binds] at h; simp [h]
          rw [if_neg (by simp [Region.wanted, yielded, frame_tmp (k74) hL2 (Nat.lt_of_lt_of_eq (by decide : 74 < 84) hsz.symm)])]
          refine ⟨frame_put (k77) (q77), ?_⟩
          simpa [upd] using hT
        · rintro L _ Wx ⟨rfl, hT⟩ hcl hk hd
          have hL2 : L 2 = true := by have h := hd; simp [Region.binds] at h; simp [h]
          rw [if_neg (by simp [Region.wanted, yielded, frame_tmp (k74) hL2 (Nat.lt_of_lt_of_eq (by decide : 74 < 84) hsz.symm)])]
          refine ⟨frame_put (k78) (q78), ?_⟩
          simpa [upd] using hT
        · rintro L _ Wx ⟨rfl, hT⟩ hcl hk hd
          have hL2 : L 2 = true := by have h := hd; simp [Region.binds] at h; simp [h]
          rw [if_neg (by simp [Region.wanted, yielded, frame_tmp (k74) hL2 (Nat.lt_of_lt_of_eq (by decide : 74 < 84) hsz.symm)])]
          refine ⟨frame_put (k79) (q79), ?_⟩
          simpa [upd] using hT
        · rintro L _ Wx ⟨rfl, hT⟩ hcl hk hd
          have hL2 : L 2 = true := by have h := hd; simp [Region.binds] at h; simp [h]
          rw [if_pos (by simp [Region.wanted])]
          refine op_value (v := .bool true) (w' := Wx) (by simp [execOp, go_sem, frame_tmp (k74) hL2 (Nat.lt_of_lt_of_eq (by decide : 74 < 84) hsz.symm)]) ⟨frame_put (k80) (q80), ?_⟩
          simpa [upd] using hT
        · rintro L _ Wx ⟨rfl, hT⟩ hcl hk hd
          have hL8 : L 8 = true := by have h := hd; simp [Region.binds] at h; simp [h]
          rw [if_pos (by simp [Region.wanted])]
          refine op_value (v := .bool true) (w' := Wx) (by simp [execOp, go_sem, frame_tmp (k80) hL8 (Nat.lt_of_lt_of_eq (by decide : 80 < 84) hsz.symm)]) ⟨frame_put (k81) (q81), ?_⟩
          simpa [upd] using hT
        · rintro L _ Wx ⟨rfl, hT⟩ hcl hk hd
          have hL9 : L 9 = true := by have h := hd; simp [Region.binds] at h; simp [h]
          rw [if_pos (by simp [Region.wanted, yielded, frame_tmp (k81) hL9 (Nat.lt_of_lt_of_eq (by decide : 81 < 84) hsz.symm)])]
          refine op_callP (f := 20) (args := #[]) (by simp [go_sem]) (wakes27_any Wx) ?_
          rintro e w' ⟨rfl, hb'⟩
          refine ⟨_, rfl, frame_put (k82) (q82), ?_⟩
          exact hT.trans (hb'.mono hT.size)
        · rintro L _ Wx ⟨rfl, hT⟩ hcl hk hd
          have hL9 : L 9 = true := by have h := hd; simp [Region.binds] at h; simp [h]
          have hL10 : L 10 = true := by have h := hd; simp [Region.binds] at h; simp [h]
          rw [if_pos (by simp [Region.wanted])]
          refine op_value (v := .bool true) (w' := Wx) (by simp [execOp, go_sem, frame_tmp (k81) hL9 (Nat.lt_of_lt_of_eq (by decide : 81 < 84) hsz.symm), frame_tmp (k82) hL10 (Nat.lt_of_lt_of_eq (by decide : 82 < 84) hsz.symm)]) ⟨frame_put (k83) (q83), ?_⟩
          simpa [upd] using hT
        · rintro L _ Wx ⟨rfl, hT⟩ hcl hk hd
          have hL11 : L 11 = true := by have h := hd; simp [Region.binds] at h; simp [h]
          rw [if_pos (by simp [Region.wanted])]
          refine op_value (v := .bool true) (w' := Wx) (by simp [execOp, go_sem, frame_tmp (k83) hL11 (Nat.lt_of_lt_of_eq (by decide : 83 < 84) hsz.symm)]) ⟨frame_put (k4) (q4), ?_⟩
          simpa [upd] using hT
      · rintro L W' hT hall
        simp only [putAll, Act.put, List.setIfInBounds_toArray, List.set_cons_succ, List.set_cons_zero]
        have HFIN := Lib.hid (HBI.out.trans (hT.mono HBI.out.size))
        clear hT hall
        go_wp2_with fail
        go_ret
        exact ⟨rfl, HFIN.out⟩
      -- END LE
  · rw [HM.out] at h2; cases h2

set_option maxRecDepth 100000 in
set_option maxHeartbeats 4000000 in
theorem last_ok (l : List Sn) (v : Value) (blk : Int) (w : World) (hv : Sns w.heap.size w v l) (hl' : l.length ≤ 200) (hb0 : 0 ≤ blk) (hb1 : blk < 32) (hm : mayP l = true) :
    Calls Try.prog 7 #[v, .int .i64 blk] w fun e w' => e = .returned (.bool true) ∧ Below w.heap.size w w' := by
  have HV := Lib.hid hv
  have HM := Lib.hid hm
  obtain ⟨a, cap, rfl, hn, ha⟩ := hv
  have HN := Lib.hid hn
  have HA := Lib.hid ha
  have HLAW := Lib.hid (last_law hm hb0 hb1)
  have hnl := ordR_le l
  have HLN := Lib.hid (repP_length l)
  clear hm hn ha
  have e9 : decide (blk ≥ 32) = false := by simp; omega
  go_enter Try.func7, Try.ntmps7
  go_wp2_with fail
  refine (order_ok l _ w (by omega) HV.out HM.out).mono ?_
  rintro e w1 ⟨⟨na, nc, rfl, hna⟩, b1⟩
  have B1 := Lib.hid b1
  have HNA := Lib.hid hna
  clear b1 hna
  go_wp2_with fail
  refine (replay_ok l _ w1 (by omega) ((HV.out.below B1.out).mono B1.out.size) HM.out).mono ?_
  rintro e w2 ⟨rfl, b2⟩
  have B2 := Lib.hid (B1.out.trans (b2.mono B1.out.size))
  have HNA2 : Hid (Nms w2.heap.size w2 (.slice na (ordR l).length nc) (ordR l)) := (HNA.out.below b2).mono b2.size
  clear b2 HNA
  generalize hS : (repP l).1 = S at HLN HLAW
  clear hS
  have HLS := Lib.hid (laid_state S w2)
  generalize (repP l).2 = serial
  go_wp2_with (first | (rw [zero24s]) | (refine wpList_store rfl 24 (.tmp 7) (.tmp 35) rfl ⟨w2.heap.size, 0, none⟩ rfl (.agg (stArr S)) rfl (st_all S (heap_alloc_new w2 _) (by decide) HLN.out) ?_; obtain ⟨w3, hw3⟩ : ∃ w3, (w2.alloc (.cells (stArr st0) 24)).setRow w2.heap.size (stArr S) = w3 := ⟨_, rfl⟩; obtain ⟨h3a, h3b, h3c⟩ := HLS.out w3 hw3; rw [hw3]; have B3 := Lib.hid (B2.out.trans (h3b.mono B2.out.size)); have H3A := Lib.hid h3a; have H3B := Lib.hid h3b; have H3C := Lib.hid h3c; clear hw3 h3a h3b h3c))
  obtain ⟨w4, hw4⟩ : ∃ w4, w3.alloc (.cells #[.int .u8 0, .int .u8 0, .int .u8 0, .int .u8 0, .int .u8 0, .int .u8 0, .int .u8 0, .int .u8 0] 23) = w4 := ⟨_, rfl⟩
  have B4 : Hid (Below w.heap.size w w4) := hw4 ▸ B3.out.alloc B3.out.size _
  have H4 : Hid (w4.heap[w3.heap.size]? = some (.cells (stArr [z0]) 23 (0, 0))) := hw4 ▸ heap_alloc_new w3 _
  have H34 : Hid (Below w3.heap.size w3 w4) := hw4 ▸ below_alloc1 _
  rw [hw4]
  clear hw4
  have HST : Hid (w4.heap[w2.heap.size]? = some (.cells (stArr S) 24 (0, 0))) := (H34.out.block _ (lt_of_heap H3A.out)).trans H3A.out
  have HN4 : Hid (Nms w3.heap.size w4 (.slice na (ordR l).length nc) (ordR l)) := ((HNA2.out.below H3B.out).mono (by have := H3C.out; omega)).below H34.out
  have hs3 : w2.heap.size < w3.heap.size := by have := H3C.out; omega
  have hs4 : w3.heap.size < w4.heap.size := lt_of_heap H4.out
  have hbs : w.heap.size ≤ w2.heap.size := B2.out.size
  obtain ⟨_, _, en, nn, nh⟩ := HN4.out
  cases en
  have NN := Lib.hid nn
  have NH := Lib.hid nh
  clear nn nh
  go_loopw [43] (fun io wr => ∃ (k : Nat) (v : V8), k ≤ (ordR l).length ∧ io = .int .i64 k ∧ wr.heap[w3.heap.size]? = some (.cells (stArr [v]) 23 (0, 0)) ∧ Below w3.heap.size w4 wr ∧ ((ordR l).drop k).foldl (wantN l blk) v = wantP l blk) (fun io _ => (ordR l).length - (intOf io).toNat)
  case atStart => exact ⟨0, z0, Nat.zero_le _, rfl, H4.out, Below.refl _ _, rfl⟩
  case round =>
    obtain ⟨wo, rfl⟩ : ∃ wo : World, wo = wr := ⟨_, rfl⟩
    obtain ⟨k, v, hk, rfl, hw, hB, hF⟩ := hrel
    have HW := Lib.hid hw
    have HBo := Lib.hid hB
    have HF := Lib.hid hF
    clear hw hB hF
    by_cases hkl : k < (ordR l).length
    · obtain ⟨nm, hnm⟩ : ∃ nm, (ordR l)[k]? = some nm := ⟨_, List.getElem?_eq_getElem hkl⟩
      obtain ⟨b, off, rfl, hb, hr⟩ := rows_some NN.out NH.out hkl
      obtain ⟨y0, y1, y2⟩ := (hr.below hb HBo.out).nm hnm
      have hF2 : ((ordR l).drop (k + 1)).foldl (wantN l blk) (wantN l blk v nm) = wantP l blk := by
        have := HF.out
        rw [drop_cons hnm, List.foldl_cons] at this
        exact this
      have HF2 := Lib.hid hF2
      have hso := HBo.out.size
      clear hr hnm hF2
      go_wp2_with fail
      obtain ⟨w6, hw6⟩ : ∃ w6, wo.alloc (.cells #[.int .i64 nm.s, .int .i64 nm.i, .int .i64 nm.t] 34) = w6 := ⟨_, rfl⟩
      have H6 : Hid (w6.heap[wo.heap.size]? = some (.cells #[.int .i64 nm.s, .int .i64 nm.i, .int .i64 nm.t] 34 (0, 0))) := hw6 ▸ heap_alloc_new wo _
      have H6W : Hid (w6.heap[w3.heap.size]? = some (.cells (stArr [v]) 23 (0, 0))) := hw6 ▸ (Below.heap_alloc _ _ _ (by omega)).trans HW.out
      have H6B : Hid (Below w3.heap.size w4 w6) := hw6 ▸ HBo.out.alloc (by omega) _
      rw [hw6]
      clear hw6
      go_loopw [49] (fun io wr => ∃ (q : Nat) (u : V8), q ≤ l.length ∧ io = .int .i64 q ∧ wr.heap[w3.heap.size]? = some (.cells (stArr [u]) 23 (0, 0)) ∧ wr.heap[wo.heap.size]? = some (.cells #[.int .i64 nm.s, .int .i64 nm.i, .int .i64 nm.t] 34 (0, 0)) ∧ Below w3.heap.size w4 wr ∧ (l.drop q).foldl (wStep nm blk) u = wantN l blk v nm) (fun io _ => l.length - (intOf io).toNat)
      case atStart => exact ⟨0, v, Nat.zero_le _, rfl, H6W.out, H6.out, H6B.out, rfl⟩
      case round =>
        obtain ⟨wi, rfl⟩ : ∃ wi : World, wi = wr := ⟨_, rfl⟩
        obtain ⟨q, u, hq, rfl, hu, hn, hB, hF⟩ := hrel
        have HU := Lib.hid hu
        have HNB := Lib.hid hn
        have HBi := Lib.hid hB
        have HF := Lib.hid hF
        clear hu hn hB hF
        by_cases hlt : q < l.length
        · obtain ⟨x, hx⟩ : ∃ x, l[q]? = some x := ⟨_, List.getElem?_eq_getElem hlt⟩
          obtain ⟨bl, off2, rfl, hbl, hrl⟩ := rows_some HN.out HA.out hlt
          obtain ⟨c0, c1, c2, c3, c4, c5, c6, c7, c8, c9, c10, c11, c12, c13⟩ := (hrl.below hbl (B4.out.trans (HBi.out.mono (by omega)))).sn hx
          have hws : (l.drop (q + 1)).foldl (wStep nm blk) (wStep nm blk u x) = wantN l blk v nm := by
            have := HF.out
            rw [drop_cons hx, List.foldl_cons] at this
            exact this
          have HWS := Lib.hid hws
          have hsi := HBi.out.size
          have hni := lt_of_heap HNB.out
          have n0 : wi.cell? ⟨wo.heap.size, 0, none⟩ = some (.int .i64 nm.s) := by rw [cell_of_row wi _ _ _ 34 (0, 0) HNB.out]; rfl
          have n1 : wi.cell? ⟨wo.heap.size, 1, none⟩ = some (.int .i64 nm.i) := by rw [cell_of_row wi _ _ _ 34 (0, 0) HNB.out]; rfl
          have n2 : wi.cell? ⟨wo.heap.size, 2, none⟩ = some (.int .i64 nm.t) := by rw [cell_of_row wi _ _ _ 34 (0, 0) HNB.out]; rfl
          have HNXT : Hid (∀ o, (wi.alloc o).heap[w3.heap.size]? = some (.cells (stArr [u]) 23 (0, 0)) ∧ (wi.alloc o).heap[wo.heap.size]? = some (.cells #[.int .i64 nm.s, .int .i64 nm.i, .int .i64 nm.t] 34 (0, 0)) ∧ Below w3.heap.size w4 (wi.alloc o)) := fun o =>
            ⟨(Below.heap_alloc _ _ _ (by omega)).trans HU.out, (Below.heap_alloc _ _ _ hni).trans HNB.out, HBi.out.alloc (by omega) o⟩
          have hen := eql_nm x.n nm
          have HLT := Lib.hid hlt
          clear hrl hx hws
          by_cases hk2 : x.k = 2
          · have e1 : (x.k == 2) = true := by simp [hk2]
            by_cases hxn : x.n = nm
            · have e2 : decide (x.n = nm) = true := by simpa using hxn
              by_cases hxb : x.b = blk
              · have e3 : (x.b == blk) = true := by simp [hxb]
                have hstep : wStep nm blk u x = x.v := by unfold wStep; rw [if_pos ⟨hk2, hxn, hxb⟩]
                have HSTEP := Lib.hid hstep
                clear hk2 hxn hxb hstep
                go_wp2_with (first | (refine wpList_store rfl 23 (.tmp 10) (.tmp 69) rfl ⟨w3.heap.size, 0, none⟩ rfl (v8Val x.v) rfl (st_box x.v (HNXT.out _).1) ?_))
                go_roundw
                case rel =>
                  have hg := grownBy_setRow (wi.alloc (.cells #[.int .i8 x.k, .int .i64 x.n.s, .int .i64 x.n.i, .int .i64 x.n.t, .int .i64 x.b, .int .u8 x.v.a, .int .u8 x.v.b, .int .u8 x.v.c, .int .u8 x.v.d, .int .u8 x.v.e, .int .u8 x.v.f, .int .u8 x.v.g, .int .u8 x.v.h, .int .i64 x.e] 36)) w3.heap.size (stArr [x.v])
                  exact ⟨q + 1, x.v, by omega, by go_num, setRow_heap _ _ _ _ _ _ (HNXT.out _).1, cells_turn (HNXT.out _).2.1 hg (by omega), (HNXT.out _).2.2.grown hg (by simp; omega) (fun k e => by cases e; exact Nat.le_refl _), by rw [← HSTEP.out]; exact HWS.out⟩
                case measure => have := HLT.out; simp [intOf]; omega
              · have e3 : (x.b == blk) = false := by simp [hxb]
                have hstep : wStep nm blk u x = u := by unfold wStep; rw [if_neg (fun h => hxb h.2.2)]
                have HSTEP := Lib.hid hstep
                clear hk2 hxn hxb hstep
                go_wp2_with fail
                go_roundw
                case rel => exact ⟨q + 1, u, by have := HLT.out; omega, by go_num, (HNXT.out _).1, (HNXT.out _).2.1, (HNXT.out _).2.2, by have := HWS.out; rw [HSTEP.out] at this; exact this⟩
                case measure => have := HLT.out; simp [intOf]; omega
            · have e2 : decide (x.n = nm) = false := by simpa using hxn
              have hstep : wStep nm blk u x = u := by unfold wStep; rw [if_neg (fun h => hxn h.2.1)]
              have HSTEP := Lib.hid hstep
              clear hk2 hxn hstep
              go_wp2_with fail
              go_roundw
              case rel => exact ⟨q + 1, u, by have := HLT.out; omega, by go_num, (HNXT.out _).1, (HNXT.out _).2.1, (HNXT.out _).2.2, by have := HWS.out; rw [HSTEP.out] at this; exact this⟩
              case measure => have := HLT.out; simp [intOf]; omega
          · have e1 : (x.k == 2) = false := by simp [hk2]
            have hstep : wStep nm blk u x = u := by unfold wStep; rw [if_neg (fun h => hk2 h.1)]
            have HSTEP := Lib.hid hstep
            clear hk2 hstep
            go_wp2_with fail
            go_roundw
            case rel => exact ⟨q + 1, u, by have := HLT.out; omega, by go_num, (HNXT.out _).1, (HNXT.out _).2.1, (HNXT.out _).2.2, by have := HWS.out; rw [HSTEP.out] at this; exact this⟩
            case measure => have := HLT.out; simp [intOf]; omega
        · have hfin : u = wantN l blk v nm := by
            have := HF.out
            rw [drop_end hlt] at this
            exact this
          have HFN := Lib.hid hfin
          clear hfin
          go_wp2_with fail
          go_roundw
          case rel => exact ⟨k + 1, u, by omega, by go_num, HU.out, HBi.out, by rw [HFN.out]; exact HF2.out⟩
          case measure => simp [intOf]; omega
    · have hfin : v = wantP l blk := by
        have := HF.out
        rw [drop_end hkl] at this
        exact this
      obtain ⟨wi, rfl⟩ : ∃ wi : World, wi = wo := ⟨_, rfl⟩
      have HBI : Hid (Below w.heap.size w wi) := B4.out.trans (HBo.out.mono (by omega))
      obtain ⟨u, hu⟩ : ∃ u, u = wantP l blk := ⟨_, rfl⟩
      have hSu : S[blk.toNat]? = some u := by rw [hu]; exact HLAW.out
      have hsti : wi.heap[w2.heap.size]? = some (.cells (stArr S) 24 (0, 0)) := (HBo.out.block _ (by omega)).trans HST.out
      have hwi : wi.heap[w3.heap.size]? = some (.cells (stArr [u]) 23 (0, 0)) := by rw [hu, ← hfin]; exact HW.out
      have hld1 : ∀ Wx, Below wi.heap.size wi Wx → (loadVar 23 ⟨w2.heap.size, blk.toNat * 8, none⟩).run Try.prog Wx = .ok (v8Val u) Wx := fun Wx hT => ld_st ((hT.block _ (lt_of_heap hsti)).trans hsti) hSu
      have hld2 : ∀ Wx, Below wi.heap.size wi Wx → (loadVar 23 ⟨w3.heap.size, 0, none⟩).run Try.prog Wx = .ok (v8Val u) Wx := fun Wx hT => ld_box ((hT.block _ (lt_of_heap hwi)).trans hwi)
      have hEq : ∀ w, (binOp .eql 23 (v8Val u) (v8Val u)).run Try.prog w = .ok (.bool true) w := fun w => by
        have h := eql_v8 u u w
        rw [decide_eq_true rfl] at h
        exact h
      have hGd : ∀ w, (eqGuard .eql 23 (.tmp 77) (.tmp 78) (v8Val u) (v8Val u)).run Try.prog w = .ok () w := fun w =>
        run_eqGuard_agg (P := Try.prog) w .eql 23 (.tmp 77) (.tmp 78) #[.int .u8 u.a, .int .u8 u.b, .int .u8 u.c, .int .u8 u.d, .int .u8 u.e, .int .u8 u.f, .int .u8 u.g, .int .u8 u.h] #[.int .u8 u.a, .int .u8 u.b, .int .u8 u.c, .int .u8 u.d, .int .u8 u.e, .int .u8 u.f, .int .u8 u.g, .int .u8 u.h] (by kernel_rfl)
      clear hfin hu hSu hsti hwi
      go_wp2_with fail
      obtain ⟨bs, hbs2⟩ : ∃ bs, bs = w2.heap.size := ⟨_, rfl⟩
      obtain ⟨bw, hbw2⟩ : ∃ bw, bw = w3.heap.size := ⟨_, rfl⟩
      rw [← hbs2] at hld1 ⊢
      rw [← hbw2] at hld2 ⊢
      clear hbs2 hbw2
      -- BEGIN LO
      refine wp_region_frame mixed (by kernel_rfl) [(0, 72, .int .i64 0), (1, 73, .bool false), (2, 74, .bool false), (3, 75, .int .i64 blk), (4, 76, .pointer (some ⟨bs, blk.toNat * 8, none⟩)), (5, 77, v8Val u), (6, 78, v8Val u), (7, 79, .bool true), (8, 80, .bool true), (9, 81, .bool true), (10, 82, .bool true), (11, 83, .bool true), (12, 4, .bool true)] (fun L Wx => Below wi.heap.size wi Wx) ?_ ?_ (by rfl) (by rfl) ?_
      · exact (Below.refl _ _).drew
      · intro a0 ps ha0 hps
        have hsz : a0.tmps.size = 84 := by rw [ha0]; rfl
        have u1 : a0.tmps[1]? = some (.int .i64 blk) := by rw [ha0]; rfl
        have u6 : a0.tmps[6]? = some (.int .i64 0) := by rw [ha0]; rfl
        have u7 : a0.tmps[7]? = some (.pointer (some ⟨bs, 0, none⟩)) := by rw [ha0]; rfl
        have u10 : a0.tmps[10]? = some (.pointer (some ⟨bw, 0, none⟩)) := by rw [ha0]; rfl
        have n1 : slotOf ps 1 = none := by rw [hps]; rfl
        have n6 : slotOf ps 6 = none := by rw [hps]; rfl
        have n7 : slotOf ps 7 = none := by rw [hps]; rfl
        have n10 : slotOf ps 10 = none := by rw [hps]; rfl
        have k72 : slotOf ps 72 = some (0, .int .i64 0) := by rw [hps]; rfl
        have q72 : keysOK ps 0 72 = true := by rw [hps]; rfl
        have k73 : slotOf ps 73 = some (1, .bool false) := by rw [hps]; rfl
        have q73 : keysOK ps 1 73 = true := by rw [hps]; rfl
        have k74 : slotOf ps 74 = some (2, .bool false) := by rw [hps]; rfl
        have q74 : keysOK ps 2 74 = true := by rw [hps]; rfl
        have k75 : slotOf ps 75 = some (3, .int .i64 blk) := by rw [hps]; rfl
        have q75 : keysOK ps 3 75 = true := by rw [hps]; rfl
        have k76 : slotOf ps 76 = some (4, .pointer (some ⟨bs, blk.toNat * 8, none⟩)) := by rw [hps]; rfl
        have q76 : keysOK ps 4 76 = true := by rw [hps]; rfl
        have k77 : slotOf ps 77 = some (5, v8Val u) := by rw [hps]; rfl
        have q77 : keysOK ps 5 77 = true := by rw [hps]; rfl
        have k78 : slotOf ps 78 = some (6, v8Val u) := by rw [hps]; rfl
        have q78 : keysOK ps 6 78 = true := by rw [hps]; rfl
        have k79 : slotOf ps 79 = some (7, .bool true) := by rw [hps]; rfl
        have q79 : keysOK ps 7 79 = true := by rw [hps]; rfl
        have k80 : slotOf ps 80 = some (8, .bool true) := by rw [hps]; rfl
        have q80 : keysOK ps 8 80 = true := by rw [hps]; rfl
        have k81 : slotOf ps 81 = some (9, .bool true) := by rw [hps]; rfl
        have q81 : keysOK ps 9 81 = true := by rw [hps]; rfl
        have k82 : slotOf ps 82 = some (10, .bool true) := by rw [hps]; rfl
        have q82 : keysOK ps 10 82 = true := by rw [hps]; rfl
        have k83 : slotOf ps 83 = some (11, .bool true) := by rw [hps]; rfl
        have q83 : keysOK ps 11 83 = true := by rw [hps]; rfl
        have k4 : slotOf ps 4 = some (12, .bool true) := by rw [hps]; rfl
        have q4 : keysOK ps 12 4 = true := by rw [hps]; rfl
        clear ha0 hps
        refine ⟨?_, ?_, ?_, ?_, ?_, ?_, ?_, ?_, ?_, ?_, ?_, ?_, ?_, trivial⟩
        · rintro L _ Wx ⟨rfl, hT⟩ hcl hk hd
          rw [if_pos (by simp [Region.wanted])]
          refine op_value (v := .int .i64 0) (w' := Wx) (by simp [execOp, go_sem, frame_tout (n6) u6]) ⟨frame_put (k72) (q72), ?_⟩
          simpa [upd] using hT
        · rintro L _ Wx ⟨rfl, hT⟩ hcl hk hd
          have hL0 : L 0 = true := by have h := hd; simp [Region.binds] at h; simp [h]
          rw [if_pos (by simp [Region.wanted])]
          refine op_value (v := .bool false) (w' := Wx) (by simp [execOp, go_sem, frame_tmp (k72) hL0 (Nat.lt_of_lt_of_eq (by decide : 72 < 84) hsz.symm)]) ⟨frame_put (k73) (q73), ?_⟩
          simpa [upd] using hT
        · rintro L _ Wx ⟨rfl, hT⟩ hcl hk hd
          have hL1 : L 1 = true := by have h := hd; simp [Region.binds] at h; simp [h]
          rw [if_pos (by simp [Region.wanted])]
          refine op_value (v := .bool false) (w' := Wx) (by simp [execOp, go_sem, frame_tmp (k73) hL1 (Nat.lt_of_lt_of_eq (by decide : 73 < 84) hsz.symm)]) ⟨frame_put (k74) (q74), ?_⟩
          simpa [upd] using hT
        · rintro L _ Wx ⟨rfl, hT⟩ hcl hk hd
          have hL2 : L 2 = true := by have h := hd; simp [Region.binds] at h; simp [h]
          rw [if_pos (by simp [Region.wanted, yielded, frame_tmp (k74) hL2 (Nat.lt_of_lt_of_eq (by decide : 74 < 84) hsz.symm)])]
          refine op_value (v := .int .i64 blk) (w' := Wx) (by simp [execOp, go_sem, frame_tout (n1) u1]) ⟨frame_put (k75) (q75), ?_⟩
          simpa [upd] using hT
        · rintro L _ Wx ⟨rfl, hT⟩ hcl hk hd
          have hL2 : L 2 = true := by have h := hd; simp [Region.binds] at h; simp [h]
          have hL3 : L 3 = true := by have h := hd; simp [Region.binds] at h; simp [h]
          rw [if_pos (by simp [Region.wanted, yielded, frame_tmp (k74) hL2 (Nat.lt_of_lt_of_eq (by decide : 74 < 84) hsz.symm)])]
          refine op_value (v := .pointer (some ⟨bs, blk.toNat * 8, none⟩)) (w' := Wx) (by simp [execOp, go_sem, frame_tmp (k75) hL3 (Nat.lt_of_lt_of_eq (by decide : 75 < 84) hsz.symm), frame_tout (n7) u7, hb0, hb1]) ⟨frame_put (k76) (q76), ?_⟩
          simpa [upd] using hT
        · rintro L _ Wx ⟨rfl, hT⟩ hcl hk hd
          have hL2 : L 2 = true := by have h := hd; simp [Region.binds] at h; simp [h]
          have hL4 : L 4 = true := by have h := hd; simp [Region.binds] at h; simp [h]
          rw [if_pos (by simp [Region.wanted, yielded, frame_tmp (k74) hL2 (Nat.lt_of_lt_of_eq (by decide : 74 < 84) hsz.symm)])]
          refine op_load 23 (.tmp 76) rfl ⟨bs, blk.toNat * 8, none⟩ (by rw [frame_in (k76) hL4 (Nat.lt_of_lt_of_eq (by decide : 76 < 84) hsz.symm)]) (v8Val u) (hld1 _ hT) ⟨frame_put (k77) (q77), ?_⟩
          simpa [upd] using hT
        · rintro L _ Wx ⟨rfl, hT⟩ hcl hk hd
          have hL2 : L 2 = true := by have h := hd; simp [Region.binds] at h; simp [h]
          rw [if_pos (by simp [Region.wanted, yielded, frame_tmp (k74) hL2 (Nat.lt_of_lt_of_eq (by decide : 74 < 84) hsz.symm)])]
          refine op_load 23 (.tmp 10) rfl ⟨bw, 0, none⟩ (by rw [frame_oute (n10) u10]) (v8Val u) (hld2 _ hT) ⟨frame_put (k78) (q78), ?_⟩
          simpa [upd] using hT
        · rintro L _ Wx ⟨rfl, hT⟩ hcl hk hd
          have hL2 : L 2 = true := by have h := hd; simp [Region.binds] at h; simp [h]
          have hL5 : L 5 = true := by have h := hd; simp [Region.binds] at h; simp [h]
          have hL6 : L 6 = true := by have h := hd; simp [Region.binds] at h; simp [h]
          rw [if_pos (by simp [Region.wanted, yielded, frame_tmp (k74) hL2 (Nat.lt_of_lt_of_eq (by decide : 74 < 84) hsz.symm)])]
          refine op_value (v := .bool true) (w' := Wx) (by simp [execOp, go_sem, frame_tmp (k77) hL5 (Nat.lt_of_lt_of_eq (by decide : 77 < 84) hsz.symm), frame_tmp (k78) hL6 (Nat.lt_of_lt_of_eq (by decide : 78 < 84) hsz.symm), hGd, hEq]) ⟨frame_put (k79) (q79), ?_⟩
          simpa [upd] using hT
        · rintro L _ Wx ⟨rfl, hT⟩ hcl hk hd
          have hL2 : L 2 = true := by have h := hd; simp [Region.binds] at h; simp [h]
          have hL7 : L 7 = true := by have h := hd; simp [Region.binds] at h; simp [h]
          rw [if_pos (by simp [Region.wanted])]
          refine op_value (v := .bool true) (w' := Wx) (by simp [execOp, go_sem, frame_tmp (k74) hL2 (Nat.lt_of_lt_of_eq (by decide : 74 < 84) hsz.symm), frame_tmp (k79) hL7 (Nat.lt_of_lt_of_eq (by decide : 79 < 84) hsz.symm)]) ⟨frame_put (k80) (q80), ?_⟩
          simpa [upd] using hT
        · rintro L _ Wx ⟨rfl, hT⟩ hcl hk hd
          have hL8 : L 8 = true := by have h := hd; simp [Region.binds] at h; simp [h]
          rw [if_pos (by simp [Region.wanted])]
          refine op_value (v := .bool true) (w' := Wx) (by simp [execOp, go_sem, frame_tmp (k80) hL8 (Nat.lt_of_lt_of_eq (by decide : 80 < 84) hsz.symm)]) ⟨frame_put (k81) (q81), ?_⟩
          simpa [upd] using hT
        · rintro L _ Wx ⟨rfl, hT⟩ hcl hk hd
          have hL9 : L 9 = true := by have h := hd; simp [Region.binds] at h; simp [h]
          rw [if_pos (by simp [Region.wanted, yielded, frame_tmp (k81) hL9 (Nat.lt_of_lt_of_eq (by decide : 81 < 84) hsz.symm)])]
          refine op_callP (f := 20) (args := #[]) (by simp [go_sem]) (wakes27_any Wx) ?_
          rintro e w' ⟨rfl, hb'⟩
          refine ⟨_, rfl, frame_put (k82) (q82), ?_⟩
          exact hT.trans (hb'.mono hT.size)
        · rintro L _ Wx ⟨rfl, hT⟩ hcl hk hd
          have hL9 : L 9 = true := by have h := hd; simp [Region.binds] at h; simp [h]
          have hL10 : L 10 = true := by have h := hd; simp [Region.binds] at h; simp [h]
          rw [if_pos (by simp [Region.wanted])]
          refine op_value (v := .bool true) (w' := Wx) (by simp [execOp, go_sem, frame_tmp (k81) hL9 (Nat.lt_of_lt_of_eq (by decide : 81 < 84) hsz.symm), frame_tmp (k82) hL10 (Nat.lt_of_lt_of_eq (by decide : 82 < 84) hsz.symm)]) ⟨frame_put (k83) (q83), ?_⟩
          simpa [upd] using hT
        · rintro L _ Wx ⟨rfl, hT⟩ hcl hk hd
          have hL11 : L 11 = true := by have h := hd; simp [Region.binds] at h; simp [h]
          rw [if_pos (by simp [Region.wanted])]
          refine op_value (v := .bool true) (w' := Wx) (by simp [execOp, go_sem, frame_tmp (k83) hL11 (Nat.lt_of_lt_of_eq (by decide : 83 < 84) hsz.symm)]) ⟨frame_put (k4) (q4), ?_⟩
          simpa [upd] using hT
      · rintro L W' hT hall
        simp only [putAll, Act.put, List.setIfInBounds_toArray, List.set_cons_succ, List.set_cons_zero]
        have HFIN := Lib.hid (HBI.out.trans (hT.mono HBI.out.size))
        clear hT hall
        go_wp2_with fail
        go_ret
        exact ⟨rfl, HFIN.out⟩
      -- END LO

theorem last_any (l : List Sn) (v : Value) (blk : Int) (w : World) (hv : Sns w.heap.size w v l) :
    Calls Try.prog 7 #[v, .int .i64 blk] w fun e w' => e = .returned (.bool true) ∧ Below w.heap.size w w' := by
  by_cases hbad : 200 < l.length ∨ blk < 0 ∨ 32 ≤ blk
  · exact last_bad l v blk w hv hbad
  · cases hm : mayP l with
    | false => exact last_err l v blk w hv (by omega) (by omega) (by omega) hm
    | true => exact last_ok l v blk w hv (by omega) (by omega) (by omega) hm

end Go.Proofs.Ytgdmgeihgkbjaaa
