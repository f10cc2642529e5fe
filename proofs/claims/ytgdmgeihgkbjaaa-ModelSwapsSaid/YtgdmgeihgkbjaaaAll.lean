/- 'model.All' -/
import Derived.Test.YtgdmgeihgkbjaaaModel
import Derived.Test.YtgdmgeihgkbjaaaDraw2
import Derived.Test.YtgdmgeihgkbjaaaStays
namespace Go.Proofs.Ytgdmgeihgkbjaaa
open Go.RowKit Go.Shelf

theorem op_store {o : Oper} {a : Act} {w w' : World} {K : Act → World → Prop} {Q : Exit → Act → World → Prop} (ty : TypeId) (x y : Operand) (ho : o.op = .store ty x y)
    (ad : Addr) (hx : a.eval x = .pointer (some ad)) (v : Value) (hy : a.eval y = v) (hl : (storeVar ty ad v).run Try.prog w = .ok () w') (h : K (a.put o.dst undef) w') : o.wp Try.prog a w K Q := by
  unfold Oper.wp execOp
  simp only [ho, hx, hy, Instr.storeAt, Instr.sureAddr, Sem.run_bind, Sem.run_pure, Result.andThen_ok, hl]
  exact h

theorem results_ctt {P : Program} {fn : Func} {p q t : Tmp} {ty : TypeId} (h : fn.results = #[.cell p ty, .tmp q, .tmp t]) {tmps : Array Value} {w : World} {a : Addr} {u v x : Value} (hp : tmps.getD p undef = .pointer (some a)) (ha : (loadVar ty a).run P w = .ok u w)
    (hq : tmps.getD q undef = v) (ht : tmps.getD t undef = x) : (results fn tmps).run P w = .ok (.tuple #[u, v, x]) w := by
  rw [Array.getD_eq_getD_getElem?] at hp hq ht
  simp [results, h, hp, hq, ht, asAddr, ha]

/-- Transactions done one after the other: the state behind; how many were told right ahead of the first that was not. -/
def allF : List V8 → Bool → Nat → List (List Sn) → List V8 × Nat
  | s, _, t, [] => (s, t)
  | s, r, t, l :: ls => allF (foldSt s l) (r && toldP (fillL s l) (stepsOf l 0)) (if (r && toldP (fillL s l) (stepsOf l 0)) then t + 1 else t) ls

/-- In the round: the state's block, before the round's store and behind it. -/
structure AllT (w : World) (cur nxt : List V8) (b : Bool) (W : World) : Prop where
  b0f : b = false → W.heap[w.heap.size]? = some (.cells (stArr cur) 24 (0, 0))
  b0t : b = true → W.heap[w.heap.size]? = some (.cells (stArr nxt) 24 (0, 0))
  b1 : W.heap[w.heap.size + 1]? = some (.cells (stArr zst) 24 (0, 0))
  below : Below w.heap.size w W

theorem AllT.call {w : World} {cur nxt : List V8} {b : Bool} {W W' : World} (h : AllT w cur nxt b W) (hb : Below W.heap.size W W') : AllT w cur nxt b W' :=
  ⟨fun e => (hb.block _ (lt_of_heap (h.b0f e))).trans (h.b0f e), fun e => (hb.block _ (lt_of_heap (h.b0t e))).trans (h.b0t e), (hb.block _ (lt_of_heap h.b1)).trans h.b1, h.below.trans (hb.mono h.below.size)⟩

theorem AllT.set {w : World} {cur nxt : List V8} {b : Bool} {W W' : World} (h : AllT w cur nxt b W) (h0 : W'.heap[w.heap.size]? = some (.cells (stArr nxt) 24 (0, 0))) (hg : W.grownBy W' (some w.heap.size)) : AllT w cur nxt true W' :=
  ⟨fun e => (by cases e), fun _ => h0, cells_turn h.b1 hg (by omega), h.below.grown hg h.below.size (fun k e => by cases e; omega)⟩

set_option maxRecDepth 100000 in
set_option maxHeartbeats 2000000 in
theorem all_any (rows : List (Value × List Sn)) (g cap : Nat) (s : List V8) (hs : s.length = 32) (w : World) (hg : g < w.heap.size) (hn : rows.length ≤ 1000)
    (hrow : ∀ (i : Nat) (r : Value × List Sn), rows[i]? = some r → w.cell? ⟨g, i, none⟩ = some r.1 ∧ Sns w.heap.size w r.1 r.2 ∧ r.2.length ≤ 100000 ∧ mayE r.2 0 = 0) :
    Calls Try.prog 19 #[.agg (stArr s), .slice (some ⟨g, 0, none⟩) rows.length cap] w
      fun e w' => e = .returned (.tuple #[.agg (stArr (allF s true 0 (rows.map (·.2))).1), .int .i64 ((allF s true 0 (rows.map (·.2))).2 : Int), .int .i64 0]) ∧ Below w.heap.size w w' := by
  have h0 : ((w.alloc (.cells (stArr s) 24)).alloc (.cells (stArr zst) 24)).heap[w.heap.size]? = some (.cells (stArr s) 24 (0, 0)) := heap_alloc2_old w _ _
  have h1 : ((w.alloc (.cells (stArr s) 24)).alloc (.cells (stArr zst) 24)).heap[w.heap.size + 1]? = some (.cells (stArr zst) 24 (0, 0)) := heap_alloc2_new w _ _
  have hb : Below w.heap.size w ((w.alloc (.cells (stArr s) 24)).alloc (.cells (stArr zst) 24)) := ((Below.refl _ _).alloc (Nat.le_refl _) _).alloc (by simp) _
  have HROW := Lib.hid hrow
  generalize hw2 : (w.alloc (.cells (stArr s) 24)).alloc (.cells (stArr zst) 24) = w2 at h0 h1 hb
  have HW2 := Lib.hid hw2
  have H0 := Lib.hid h0
  have H1 := Lib.hid h1
  clear hrow hw2 h0 h1
  go_enter Try.func19, Try.ntmps19
  go_wp2_with (rw [zero24, HW2.out])
  go_loopw [5, 7, 12] (fun to ro io wr => ∃ (q t : Nat) (r : Bool) (cur : List V8), q ≤ rows.length ∧ t ≤ q ∧ to = .int .i64 t ∧ ro = .bool r ∧ io = .int .i64 q ∧ cur.length = 32 ∧ allF s true 0 (rows.map (·.2)) = allF cur r t ((rows.drop q).map (·.2)) ∧
    wr.heap[w.heap.size]? = some (.cells (stArr cur) 24 (0, 0)) ∧ wr.heap[w.heap.size + 1]? = some (.cells (stArr zst) 24 (0, 0)) ∧ Below w.heap.size w wr) (fun _ _ io _ => rows.length - (intOf io).toNat)
  case atStart => exact ⟨0, 0, true, s, Nat.zero_le _, Nat.le_refl _, rfl, rfl, rfl, hs, by simp, H0.out, H1.out, hb⟩
  case round =>
    obtain ⟨q, t, rr, cur, hq, htq, rfl, rfl, rfl, hcl', hF, g0, g1, hB⟩ := hrel
    have HF := Lib.hid hF
    have G0 := Lib.hid g0
    have G1 := Lib.hid g1
    clear hF g0 g1
    by_cases hlt : q < rows.length
    · obtain ⟨r, hr⟩ : ∃ r, rows[q]? = some r := ⟨_, List.getElem?_eq_getElem hlt⟩
      obtain ⟨hc, hv, hlr, hmr⟩ := HROW.out q r hr
      have hT0 : AllT w cur (foldSt cur r.2) false wr.drew := ⟨fun _ => G0.out, (fun h => by cases h), G1.out, hB.drew⟩
      go_wp2_with fail
      -- BEGIN ALL
      refine wp_region_frame mixed (by kernel_rfl) [(0, 16, .agg (stArr cur)), (1, 17, .slice (some ⟨g, 0, none⟩) rows.length cap), (2, 18, .int .i64 (q : Int)), (3, 19, .pointer (some ⟨g, q, none⟩)), (4, 20, r.1), (5, 21, .tuple #[.agg (stArr (foldSt cur r.2)), .bool (toldP (fillL cur r.2) (stepsOf r.2 0)), .int .i64 0]), (6, 15, .tuple #[.agg (stArr (foldSt cur r.2)), .bool (toldP (fillL cur r.2) (stepsOf r.2 0)), .int .i64 0]), (7, 22, .agg (stArr (foldSt cur r.2))), (8, 23, .bool (toldP (fillL cur r.2) (stepsOf r.2 0))), (9, 24, .int .i64 0), (11, 9, .bool (toldP (fillL cur r.2) (stepsOf r.2 0))), (12, 6, .int .i64 0)] (fun L Wx => AllT w cur (foldSt cur r.2) (L 10) Wx) ?_ ?_ (by rfl) (by rfl) ?_
      · exact hT0
      · intro a0 ps ha0 hps
        have hsz : a0.tmps.size = 39 := by rw [ha0]; rfl
        have u1 : a0.tmps[1]? = some (.slice (some ⟨g, 0, none⟩) rows.length cap) := by rw [ha0]; rfl
        have u2 : a0.tmps[2]? = some (.pointer (some ⟨w.heap.size, 0, none⟩)) := by rw [ha0]; rfl
        have u8 : a0.tmps[8]? = some (.int .i64 (q : Int)) := by rw [ha0]; rfl
        have n1 : slotOf ps 1 = none := by rw [hps]; rfl
        have n2 : slotOf ps 2 = none := by rw [hps]; rfl
        have n8 : slotOf ps 8 = none := by rw [hps]; rfl
        have k16 : slotOf ps 16 = some (0, .agg (stArr cur)) := by rw [hps]; rfl
        have q16 : keysOK ps 0 16 = true := by rw [hps]; rfl
        have k17 : slotOf ps 17 = some (1, .slice (some ⟨g, 0, none⟩) rows.length cap) := by rw [hps]; rfl
        have q17 : keysOK ps 1 17 = true := by rw [hps]; rfl
        have k18 : slotOf ps 18 = some (2, .int .i64 (q : Int)) := by rw [hps]; rfl
        have q18 : keysOK ps 2 18 = true := by rw [hps]; rfl
        have k19 : slotOf ps 19 = some (3, .pointer (some ⟨g, q, none⟩)) := by rw [hps]; rfl
        have q19 : keysOK ps 3 19 = true := by rw [hps]; rfl
        have k20 : slotOf ps 20 = some (4, r.1) := by rw [hps]; rfl
        have q20 : keysOK ps 4 20 = true := by rw [hps]; rfl
        have k21 : slotOf ps 21 = some (5, .tuple #[.agg (stArr (foldSt cur r.2)), .bool (toldP (fillL cur r.2) (stepsOf r.2 0)), .int .i64 0]) := by rw [hps]; rfl
        have q21 : keysOK ps 5 21 = true := by rw [hps]; rfl
        have k15 : slotOf ps 15 = some (6, .tuple #[.agg (stArr (foldSt cur r.2)), .bool (toldP (fillL cur r.2) (stepsOf r.2 0)), .int .i64 0]) := by rw [hps]; rfl
        have q15 : keysOK ps 6 15 = true := by rw [hps]; rfl
        have k22 : slotOf ps 22 = some (7, .agg (stArr (foldSt cur r.2))) := by rw [hps]; rfl
        have q22 : keysOK ps 7 22 = true := by rw [hps]; rfl
        have k23 : slotOf ps 23 = some (8, .bool (toldP (fillL cur r.2) (stepsOf r.2 0))) := by rw [hps]; rfl
        have q23 : keysOK ps 8 23 = true := by rw [hps]; rfl
        have k24 : slotOf ps 24 = some (9, .int .i64 0) := by rw [hps]; rfl
        have q24 : keysOK ps 9 24 = true := by rw [hps]; rfl
        have z10 : (ps.all fun p => !(p.1 == 10)) = true := by rw [hps]; rfl
        have k9 : slotOf ps 9 = some (11, .bool (toldP (fillL cur r.2) (stepsOf r.2 0))) := by rw [hps]; rfl
        have q9 : keysOK ps 11 9 = true := by rw [hps]; rfl
        have k6 : slotOf ps 6 = some (12, .int .i64 0) := by rw [hps]; rfl
        have q6 : keysOK ps 12 6 = true := by rw [hps]; rfl
        clear ha0 hps
        refine ⟨?_, ?_, ?_, ?_, ?_, ?_, ?_, ?_, ?_, ?_, ?_, ?_, ?_, trivial⟩
        · rintro L _ Wx ⟨rfl, hT⟩ hcl hk hd
          have hN : L 10 = false := by
            cases hh : L 10 with
            | false => rfl
            | true =>
              have h7 := hcl 10 _ rfl (by simp [hh])
              simp [Region.binds] at h7
              have h6 := hcl 7 _ rfl (by simp [h7])
              simp [Region.binds] at h6
              have h5 := hcl 6 _ rfl (by simp [h6])
              simp [Region.binds] at h5
              have h0 := hcl 5 _ rfl (by simp [h5])
              simp [Region.binds] at h0
              simp [hk] at h0
          rw [if_pos (by simp [Region.wanted])]
          refine op_load 24 (.tmp 2) rfl ⟨w.heap.size, 0, none⟩ (by rw [frame_oute (n2) u2]) (.agg (stArr cur)) (ld_all (hT.b0f hN) hcl') ⟨frame_put (k16) (q16), ?_⟩
          simpa [upd] using hT
        · rintro L _ Wx ⟨rfl, hT⟩ hcl hk hd
          rw [if_pos (by simp [Region.wanted])]
          refine op_value (v := .slice (some ⟨g, 0, none⟩) rows.length cap) (w' := Wx) (by simp [execOp, go_sem, frame_tout (n1) u1]) ⟨frame_put (k17) (q17), ?_⟩
          simpa [upd] using hT
        · rintro L _ Wx ⟨rfl, hT⟩ hcl hk hd
          rw [if_pos (by simp [Region.wanted])]
          refine op_value (v := .int .i64 (q : Int)) (w' := Wx) (by simp [execOp, go_sem, frame_tout (n8) u8]) ⟨frame_put (k18) (q18), ?_⟩
          simpa [upd] using hT
        · rintro L _ Wx ⟨rfl, hT⟩ hcl hk hd
          have hL1 : L 1 = true := by have h := hd; simp [Region.binds] at h; simp [h]
          have hL2 : L 2 = true := by have h := hd; simp [Region.binds] at h; simp [h]
          rw [if_pos (by simp [Region.wanted])]
          refine op_value (v := .pointer (some ⟨g, q, none⟩)) (w' := Wx) (by simp [execOp, go_sem, frame_tmp (k17) hL1 (show 17 < a0.tmps.size by omega), frame_tmp (k18) hL2 (show 18 < a0.tmps.size by omega), hlt]) ⟨frame_put (k19) (q19), ?_⟩
          simpa [upd] using hT
        · rintro L _ Wx ⟨rfl, hT⟩ hcl hk hd
          have hL3 : L 3 = true := by have h := hd; simp [Region.binds] at h; simp [h]
          rw [if_pos (by simp [Region.wanted])]
          refine op_value (v := r.1) (w' := Wx) (by simp [execOp, go_sem, frame_tmp (k19) hL3 (show 19 < a0.tmps.size by omega), (hT.below.cell (p := ⟨g, q, none⟩) hg).trans hc]) ⟨frame_put (k20) (q20), ?_⟩
          simpa [upd] using hT
        · rintro L _ Wx ⟨rfl, hT⟩ hcl hk hd
          have hL0 : L 0 = true := by have h := hd; simp [Region.binds] at h; simp [h]
          have hL4 : L 4 = true := by have h := hd; simp [Region.binds] at h; simp [h]
          have hN : L 10 = false := by
            cases hh : L 10 with
            | false => rfl
            | true =>
              have h7 := hcl 10 _ rfl (by simp [hh])
              simp [Region.binds] at h7
              have h6 := hcl 7 _ rfl (by simp [h7])
              simp [Region.binds] at h6
              have h5 := hcl 6 _ rfl (by simp [h6])
              simp [Region.binds] at h5
              simp [hk] at h5
          rw [if_pos (by simp [Region.wanted])]
          refine op_callP (f := 15) (args := #[.agg (stArr cur), r.1]) (by simp [go_sem, frame_tmp (k16) hL0 (show 16 < a0.tmps.size by omega), frame_tmp (k20) hL4 (show 20 < a0.tmps.size by omega)]) (do_ok r.2 r.1 cur hcl' Wx hlr ((hv.below hT.below).mono hT.below.size) hmr) ?_
          rintro e w' ⟨rfl, hb'⟩
          refine ⟨_, rfl, frame_put (k21) (q21), ?_⟩
          simpa [upd] using hT.call hb'
        · rintro L _ Wx ⟨rfl, hT⟩ hcl hk hd
          have hL5 : L 5 = true := by have h := hd; simp [Region.binds] at h; simp [h]
          rw [if_pos (by simp [Region.wanted])]
          refine op_value (v := .tuple #[.agg (stArr (foldSt cur r.2)), .bool (toldP (fillL cur r.2) (stepsOf r.2 0)), .int .i64 0]) (w' := Wx) (by simp [execOp, go_sem, frame_tmp (k21) hL5 (show 21 < a0.tmps.size by omega)]) ⟨frame_put (k15) (q15), ?_⟩
          simpa [upd] using hT
        · rintro L _ Wx ⟨rfl, hT⟩ hcl hk hd
          have hL6 : L 6 = true := by have h := hd; simp [Region.binds] at h; simp [h]
          rw [if_pos (by simp [Region.wanted])]
          refine op_value (v := .agg (stArr (foldSt cur r.2))) (w' := Wx) (by simp [execOp, go_sem, frame_tmp (k15) hL6 (show 15 < a0.tmps.size by omega)]) ⟨frame_put (k22) (q22), ?_⟩
          simpa [upd] using hT
        · rintro L _ Wx ⟨rfl, hT⟩ hcl hk hd
          have hL6 : L 6 = true := by have h := hd; simp [Region.binds] at h; simp [h]
          rw [if_pos (by simp [Region.wanted])]
          refine op_value (v := .bool (toldP (fillL cur r.2) (stepsOf r.2 0))) (w' := Wx) (by simp [execOp, go_sem, frame_tmp (k15) hL6 (show 15 < a0.tmps.size by omega)]) ⟨frame_put (k23) (q23), ?_⟩
          simpa [upd] using hT
        · rintro L _ Wx ⟨rfl, hT⟩ hcl hk hd
          have hL6 : L 6 = true := by have h := hd; simp [Region.binds] at h; simp [h]
          rw [if_pos (by simp [Region.wanted])]
          refine op_value (v := .int .i64 0) (w' := Wx) (by simp [execOp, go_sem, frame_tmp (k15) hL6 (show 15 < a0.tmps.size by omega)]) ⟨frame_put (k24) (q24), ?_⟩
          simpa [upd] using hT
        · rintro L _ Wx ⟨rfl, hT⟩ hcl hk hd
          have hL7 : L 7 = true := by have h := hd; simp [Region.binds] at h; simp [h]
          rw [if_pos (by simp [Region.wanted])]
          have hg' := grownBy_setRow Wx w.heap.size (stArr (foldSt cur r.2))
          refine op_store 24 (.tmp 2) (.tmp 22) rfl ⟨w.heap.size, 0, none⟩ (by rw [frame_oute n2 u2]) (.agg (stArr (foldSt cur r.2))) (by rw [frame_in k22 hL7 (show 22 < a0.tmps.size by omega)]) (st_all _ (hT.b0f hk) hcl' (by rw [foldSt_length, hcl'])) ⟨frame_putNone (z10), ?_⟩
          rw [show upd L 10 10 = true from by simp [upd]]
          exact hT.set (setRow_heap Wx _ _ _ _ _ (hT.b0f hk)) hg'
        · rintro L _ Wx ⟨rfl, hT⟩ hcl hk hd
          have hL8 : L 8 = true := by have h := hd; simp [Region.binds] at h; simp [h]
          rw [if_pos (by simp [Region.wanted])]
          refine op_value (v := .bool (toldP (fillL cur r.2) (stepsOf r.2 0))) (w' := Wx) (by simp [execOp, go_sem, frame_tmp (k23) hL8 (show 23 < a0.tmps.size by omega)]) ⟨frame_put (k9) (q9), ?_⟩
          simpa [upd] using hT
        · rintro L _ Wx ⟨rfl, hT⟩ hcl hk hd
          have hL9 : L 9 = true := by have h := hd; simp [Region.binds] at h; simp [h]
          rw [if_pos (by simp [Region.wanted])]
          refine op_value (v := .int .i64 0) (w' := Wx) (by simp [execOp, go_sem, frame_tmp (k24) hL9 (show 24 < a0.tmps.size by omega)]) ⟨frame_put (k6) (q6), ?_⟩
          simpa [upd] using hT
      · rintro L W' hT hall
        have hA10 : L 10 = true := hall 10 (by simp)
        simp only [putAll, Act.put]
        have hT2 := hT.b0t hA10
        have hT1 := hT.b1
        have hTb := hT.below
        have HFN : Hid (allF s true 0 (rows.map (·.2)) = allF (foldSt cur r.2) (rr && toldP (fillL cur r.2) (stepsOf r.2 0)) (if (rr && toldP (fillL cur r.2) (stepsOf r.2 0)) then t + 1 else t) ((rows.drop (q + 1)).map (·.2))) := by
          show _ = _
          rw [HF.out, drop_cons hr]
          rfl
        generalize toldP (fillL cur r.2) (stepsOf r.2 0) = ok at HFN
        have hfl : (foldSt cur r.2).length = 32 := by rw [foldSt_length, hcl']
        generalize foldSt cur r.2 = nxt at HFN hT2 hfl
        clear hT hall hT0
        have HT2 := Lib.hid hT2
        have HT1 := Lib.hid hT1
        have HTB := Lib.hid hTb
        have HLT := Lib.hid hlt
        clear hT2 hT1 hTb hc hv hlr hmr hr
        cases rr <;> cases ok
        all_goals
          go_wp2_with fail
          go_roundw
          case rel => exact ⟨q + 1, _, _, nxt, by have := HLT.out; omega, by simp; omega, by first | rfl | go_num, rfl, by go_num, hfl, HFN.out, HT2.out, HT1.out, HTB.out⟩
          case measure => have := HLT.out; simp [intOf]; omega
      -- END ALL
    · have hfin : allF s true 0 (rows.map (·.2)) = (cur, t) := by rw [HF.out, drop_end hlt]; rfl
      have HFI := Lib.hid hfin
      clear hfin
      go_wp2_with (first | (refine wpList_load rfl 24 (.tmp 2) rfl ⟨w.heap.size, 0, none⟩ rfl (.agg (stArr cur)) (ld_all G0.out hcl') ?_) | (refine wpList_store rfl 24 (.tmp 4) (.tmp 37) rfl ⟨w.heap.size + 1, 0, none⟩ rfl (.agg (stArr cur)) rfl (st_all _ G1.out zst_length hcl') ?_))
      have hg := grownBy_setRow wr (w.heap.size + 1) (stArr cur)
      have hld := ld_all (setRow_heap wr _ _ (stArr cur) 24 _ G1.out) hcl'
      refine bodyPost_ret (v := .tuple #[.agg (stArr cur), .int .i64 (t : Int), .int .i64 0]) (results_ctt Try.results19 rfl hld rfl rfl) rfl ⟨by rw [HFI.out], hB.grown hg hB.size (fun k e => by cases e; omega)⟩

end Go.Proofs.Ytgdmgeihgkbjaaa
