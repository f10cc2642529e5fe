/- 'witness.look': a history, its order, each name's place -/
import Derived.Test.YtgdmgeihgkbjaaaFault
import Derived.Test.YtgdmgeihgkbjaaaEntry
namespace Go.Proofs.Ytgdmgeihgkbjaaa
open Go.RowKit Go.Shelf
attribute [local go_sem] run_makeMap_plain

/-- The places, as the loop lays them. -/
def plF : List (Nm × Int) → List Nm → Nat → List (Nm × Int)
  | m, [], _ => m
  | m, n :: r, i => plF (put m n ((i : Int) + 1)) r (i + 1)

theorem look_plF (n : Nm) : ∀ (ns : List Nm) (m : List (Nm × Int)) (i : Nat), ns.Nodup → look (plF m ns i) n = match ns.findIdx? (· = n) with | some j => some (((i + j : Nat) : Int) + 1) | none => look m n
  | [], m, i, _ => rfl
  | x :: r, m, i, h => by
    obtain ⟨h1, h2⟩ := List.nodup_cons.1 h
    rw [plF, look_plF n r _ _ h2, List.findIdx?_cons]
    by_cases hx : x = n
    · have : r.findIdx? (· = n) = none := by
        rw [List.findIdx?_eq_none_iff]
        intro y hy
        have : y ≠ n := fun e => h1 (by rw [hx, ← e]; exact hy)
        simpa using this
      rw [this]
      simp [hx, look_put]
    · simp only [hx, decide_false, Bool.false_eq_true, if_false]
      cases hf : r.findIdx? (· = n) with
      | none => simp [look_put, hx]
      | some j => simp; omega

theorem look_place (ns : List Nm) (h : ns.Nodup) (n : Nm) : (look (plF [] ns 0) n).getD 0 = placeOf ns n := by
  rw [look_plF n ns [] 0 h]
  unfold placeOf
  cases ns.findIdx? (· = n) with
  | none => rfl
  | some j => simp

/-- A view in block Bv. -/
def ViewAt (base : Nat) (W : World) (Bv : Nat) (lv : Value) (ns : List Nm) : Prop :=
  ∃ na nc Mp, base ≤ Bv ∧ base ≤ Mp ∧ W.heap[Bv]? = some (.cells #[lv, .slice na ns.length nc, .map (some Mp)] 119 (0, 0)) ∧ MapIs nmV intV W Mp (plF [] ns 0) ∧
    (na = none → ns = [] ∧ nc = 0) ∧ ∀ b off s, na = some ⟨b, off, s⟩ → base ≤ b ∧ (0 < ns.length → s = none ∧ b < W.heap.size ∧ RowsAt Nm.cells 3 W b off ns)

theorem op_mapPut {κ β : Type} [DecidableEq κ] {kenc : κ → Value} {venc : β → Value} {o : Oper} {a : Act} {w : World} {K : Act → World → Prop} {Q : Exit → Act → World → Prop} (T : TypeId) (x y z : Operand) (ho : o.op = .mapUpdate T x y z)
    {Kt E : TypeId} (hT : Try.prog.underlying T = some (.map Kt E)) (hk : KeyOK Kt kenc) {M : Nat} {m : List (κ × β)} (hm : MapIs kenc venc w M m) (hx : a.eval x = .map (some M)) (k : κ) (hy : a.eval y = kenc k) (v : β) (hz : a.eval z = venc v)
    (h : ∀ w', w.grownBy w' (some M) → MapIs kenc venc w' M (put m k v) → K (a.put o.dst undef) w') : o.wp Try.prog a w K Q := by
  obtain ⟨es, clock, hr, hm'⟩ := run_put hT hk hm k v
  unfold Oper.wp
  simp only [execOp, ho, hx, hy, hz, Sem.run_bind, hr, Result.andThen_ok, Sem.run_pure]
  exact h _ (grownBy_putObj w M _) hm'

set_option maxRecDepth 100000 in
set_option maxHeartbeats 4000000 in
theorem look_any (l : List Sn) (v : Value) (w : World) (hl : l.length ≤ 100000) (hv : Sns w.heap.size w v l) :
    Calls Try.prog 58 #[v] w fun e w' => ((mayP l = false ∧ e = .returned (.tuple #[.pointer none, .int .i64 2])) ∨ (mayP l = true ∧ ∃ Bv, e = .returned (.tuple #[.pointer (some ⟨Bv, 0, none⟩), .int .i64 0]) ∧ ViewAt w.heap.size w' Bv v (ordR l))) ∧ Below w.heap.size w w' := by
  have HC := Lib.hid (order_any l v w hl hv)
  have hva : ∃ a c, v = .slice a l.length c := by obtain ⟨a, c, h, _⟩ := hv; exact ⟨a, c, h⟩
  obtain ⟨va, vc, rfl⟩ := hva
  have hle := ordR_le l
  clear hv
  go_enter Try.func58, Try.ntmps58
  go_wp2_with fail
  refine HC.out.mono ?_
  rintro e w1 ⟨h, b1⟩
  rcases h with ⟨hm, rfl⟩ | ⟨hm, nv, rfl, hown⟩
  · have HM := Lib.hid hm
    clear hm
    go_wp2_with fail
    go_ret2
    exact ⟨.inl ⟨HM.out, rfl⟩, b1⟩
  · obtain ⟨na, nc, rfl⟩ := ownsRow_slice hown
    have hb : ∀ b off s, na = some ⟨b, off, s⟩ → w.heap.size ≤ b := fun b off s e => (hown.lt b (by rw [e]; rfl)).1
    obtain ⟨_, _, en, nn, nh⟩ := rows_of_owns (enc := Nm.cells) (k := 3) (fun _ => rfl) hown
    cases en
    have hnd := ordR_nodup hm
    have HM := Lib.hid hm
    have HBB := Lib.hid hb
    have NN := Lib.hid nn
    have NH := Lib.hid nh
    have B1 := Lib.hid b1
    have HND := Lib.hid hnd
    clear hm hb nn nh b1 hown hnd
    generalize hns : ordR l = ns at *
    have HNS := Lib.hid hns
    clear hns
    go_wp2_with fail
    obtain ⟨w2, hw2⟩ : ∃ w2, (w1.alloc (.map #[] 0)).alloc (.cells #[.slice va l.length vc, .slice na ns.length nc, .map (some w1.heap.size)] 119) = w2 := ⟨_, rfl⟩
    have hbv : w2.heap[w1.heap.size + 1]? = some (.cells #[.slice va l.length vc, .slice na ns.length nc, .map (some w1.heap.size)] 119 (0, 0)) := hw2 ▸ heap_alloc2_new w1 _ _
    have hmp : MapIs nmV intV w2 w1.heap.size [] := hw2 ▸ (MapIs.new w1).kept (Below.heap_alloc _ _ _ (by simp))
    have hb2 : Below w1.heap.size w1 w2 := hw2 ▸ (below_alloc1 _).trans ((below_alloc1 _).mono (by simp))
    rw [hw2]
    have HBV := Lib.hid hbv
    have HMP := Lib.hid hmp
    have HB2 := Lib.hid hb2
    have HSZ := Lib.hid B1.out.size
    clear hw2 hbv hmp hb2
    obtain ⟨Mp, hMpe⟩ : ∃ Mp, Mp = w1.heap.size := ⟨_, rfl⟩
    obtain ⟨Bv, hBve⟩ : ∃ Bv, Bv = w1.heap.size + 1 := ⟨_, rfl⟩
    have hne : Bv ≠ Mp := by omega
    have hMp : w1.heap.size ≤ Mp := by omega
    have hBv : w1.heap.size ≤ Bv := by omega
    rw [← hBve, ← hMpe] at HBV
    rw [← hMpe] at HMP
    rw [← hBve, ← hMpe]
    clear hMpe hBve
    go_loopw [24] (fun io wr => ∃ (q : Nat) (mm : List (Nm × Int)), q ≤ ns.length ∧ io = .int .i64 q ∧ wr.heap[Bv]? = some (.cells #[.slice va l.length vc, .slice na ns.length nc, .map (some Mp)] 119 (0, 0)) ∧ MapIs nmV intV wr Mp mm ∧ Below w1.heap.size w1 wr ∧ plF mm (ns.drop q) q = plF [] ns 0) (fun io _ => ns.length - (intOf io).toNat)
    case atStart => exact ⟨0, [], Nat.zero_le _, rfl, HBV.out, HMP.out, HB2.out, rfl⟩
    case round =>
      obtain ⟨q, mm, hq, rfl, hbv, hmm0, hB, hpl⟩ := hrel
      by_cases hlt : q < ns.length
      · obtain ⟨nm, hnm⟩ : ∃ nm, ns[q]? = some nm := ⟨_, List.getElem?_eq_getElem hlt⟩
        obtain ⟨b, off, rfl, hb, hr⟩ := rows_some NN.out NH.out hlt
        obtain ⟨y0, y1, y2⟩ := (hr.below hb hB).nm hnm
        have HPL : Hid (plF (put mm nm ((q : Int) + 1)) (ns.drop (q + 1)) (q + 1) = plF [] ns 0) := by
          have := hpl
          rw [drop_cons hnm, plF] at this
          exact this
        have hwq : IntKind.i64.wrap ((q : Int) + 1) = (q : Int) + 1 := by simp [IntKind.wrap, IntKind.bits, IntKind.signed]; omega
        have HWQ := Lib.hid hwq
        obtain ⟨w0, hw0⟩ : ∃ w0, (wr.alloc (.cells #[.int .i64 nm.s, .int .i64 nm.i, .int .i64 nm.t] 34)).drew = w0 := ⟨_, rfl⟩
        have hbv0 : w0.heap[Bv]? = some (.cells #[.slice (some ⟨b, off, none⟩) ns.length nc, .slice (some ⟨b, off, none⟩) ns.length nc, .map (some Mp)] 119 (0, 0)) ∨ True := .inr trivial
        have HBV0 : Hid (w0.heap[Bv]? = some (.cells #[.slice va l.length vc, .slice (some ⟨b, off, none⟩) ns.length nc, .map (some Mp)] 119 (0, 0))) := hw0 ▸ (heap_alloc_old wr _ (lt_of_heap hbv)).trans hbv
        have hmm : MapIs nmV intV w0 Mp mm := hw0 ▸ hmm0.kept (w' := (wr.alloc (.cells #[.int .i64 nm.s, .int .i64 nm.i, .int .i64 nm.t] 34)).drew) (heap_alloc_old wr _ hmm0.lt)
        have HB0 : Hid (Below w1.heap.size w1 w0) := hw0 ▸ (hB.alloc hB.size _).drew
        have hbn0 : w0.heap[wr.heap.size]? = some (.cells #[.int .i64 nm.s, .int .i64 nm.i, .int .i64 nm.t] 34 (0, 0)) := hw0 ▸ heap_alloc_new wr _
        have hv2 : w0.cell? ⟨Bv, 2, none⟩ = some (.map (some Mp)) := by rw [cell_of_row w0 _ _ _ 119 (0, 0) HBV0.out]; rfl
        have m0 : w0.cell? ⟨wr.heap.size, 0, none⟩ = some (.int .i64 nm.s) := by rw [cell_of_row w0 _ _ _ 34 (0, 0) hbn0]; rfl
        have m1 : w0.cell? ⟨wr.heap.size, 1, none⟩ = some (.int .i64 nm.i) := by rw [cell_of_row w0 _ _ _ 34 (0, 0) hbn0]; rfl
        have m2 : w0.cell? ⟨wr.heap.size, 2, none⟩ = some (.int .i64 nm.t) := by rw [cell_of_row w0 _ _ _ 34 (0, 0) hbn0]; rfl
        have HW0 := Lib.hid hw0
        have HLT := Lib.hid hlt
        have HMM := Lib.hid hmm
        have HV2 := Lib.hid hv2
        have HM0 := Lib.hid (And.intro m0 (And.intro m1 m2))
        clear hbv hmm0 hB hpl hr hnm hw0 hbv0 hbn0 hmm hv2 m0 m1 m2 hwq
        go_wp2_with fail
        have hmm := HMM.out
        have hv2 := HV2.out
        obtain ⟨m0, m1, m2⟩ := HM0.out
        have hwq := HWQ.out
        generalize wr.heap.size = bn at *
        -- BEGIN LK
        refine wp_region_frame mixed (by kernel_rfl) [(0, 29, .pointer (some ⟨Bv, 0, none⟩)), (1, 30, .pointer (some ⟨Bv, 0, none⟩)), (2, 31, .pointer (some ⟨Bv, 2, none⟩)), (3, 32, .map (some Mp)), (4, 33, .agg #[.int .i64 nm.s, .int .i64 nm.i, .int .i64 nm.t]), (5, 34, .int .i64 (q : Int)), (6, 35, .int .i64 ((q : Int) + 1))] (fun L Wx => (L 7 = false → Wx = w0) ∧ (L 7 = true → w0.grownBy Wx (some Mp) ∧ MapIs nmV intV Wx Mp (put mm nm ((q : Int) + 1)))) ?_ ?_ (by rfl) (by rfl) ?_
        · exact ⟨fun _ => HW0.out, fun h => by cases h⟩
        · intro a0 ps ha0 hps
          have hsz : a0.tmps.size = 38 := by rw [ha0]; rfl
          have u6 : a0.tmps[6]? = some (.pointer (some ⟨Bv, 0, none⟩)) := by rw [ha0]; rfl
          have u7 : a0.tmps[7]? = some (.int .i64 (q : Int)) := by rw [ha0]; rfl
          have u8 : a0.tmps[8]? = some (.pointer (some ⟨bn, 0, none⟩)) := by rw [ha0]; rfl
          have n6 : slotOf ps 6 = none := by rw [hps]; rfl
          have n7 : slotOf ps 7 = none := by rw [hps]; rfl
          have n8 : slotOf ps 8 = none := by rw [hps]; rfl
          have k29 : slotOf ps 29 = some (0, .pointer (some ⟨Bv, 0, none⟩)) := by rw [hps]; rfl
          have q29 : keysOK ps 0 29 = true := by rw [hps]; rfl
          have k30 : slotOf ps 30 = some (1, .pointer (some ⟨Bv, 0, none⟩)) := by rw [hps]; rfl
          have q30 : keysOK ps 1 30 = true := by rw [hps]; rfl
          have k31 : slotOf ps 31 = some (2, .pointer (some ⟨Bv, 2, none⟩)) := by rw [hps]; rfl
          have q31 : keysOK ps 2 31 = true := by rw [hps]; rfl
          have k32 : slotOf ps 32 = some (3, .map (some Mp)) := by rw [hps]; rfl
          have q32 : keysOK ps 3 32 = true := by rw [hps]; rfl
          have k33 : slotOf ps 33 = some (4, .agg #[.int .i64 nm.s, .int .i64 nm.i, .int .i64 nm.t]) := by rw [hps]; rfl
          have q33 : keysOK ps 4 33 = true := by rw [hps]; rfl
          have k34 : slotOf ps 34 = some (5, .int .i64 (q : Int)) := by rw [hps]; rfl
          have q34 : keysOK ps 5 34 = true := by rw [hps]; rfl
          have k35 : slotOf ps 35 = some (6, .int .i64 ((q : Int) + 1)) := by rw [hps]; rfl
          have q35 : keysOK ps 6 35 = true := by rw [hps]; rfl
          have z7 : (ps.all fun p => !(p.1 == 7)) = true := by rw [hps]; rfl
          clear ha0 hps
          refine ⟨?_, ?_, ?_, ?_, ?_, ?_, ?_, ?_, trivial⟩
          · rintro L _ Wx ⟨rfl, hT⟩ hcl hk hd
            rw [if_pos (by simp [Region.wanted])]
            refine op_value (v := .pointer (some ⟨Bv, 0, none⟩)) (w' := Wx) (by simp [execOp, go_sem, frame_tout (n6) u6]) ⟨frame_put (k29) (q29), ?_⟩
            simpa [upd] using hT
          · rintro L _ Wx ⟨rfl, hT⟩ hcl hk hd
            have hL0 : L 0 = true := by have h := hd; simp [Region.binds] at h; simp [h]
            rw [if_pos (by simp [Region.wanted])]
            refine op_value (v := .pointer (some ⟨Bv, 0, none⟩)) (w' := Wx) (by simp [execOp, go_sem, frame_tmp (k29) hL0 (Nat.lt_of_lt_of_eq (by decide : 29 < 38) hsz.symm)]) ⟨frame_put (k30) (q30), ?_⟩
            simpa [upd] using hT
          · rintro L _ Wx ⟨rfl, hT⟩ hcl hk hd
            have hL1 : L 1 = true := by have h := hd; simp [Region.binds] at h; simp [h]
            rw [if_pos (by simp [Region.wanted])]
            refine op_value (v := .pointer (some ⟨Bv, 2, none⟩)) (w' := Wx) (by simp [execOp, go_sem, frame_tmp (k30) hL1 (Nat.lt_of_lt_of_eq (by decide : 30 < 38) hsz.symm)]) ⟨frame_put (k31) (q31), ?_⟩
            simpa [upd] using hT
          · rintro L _ Wx ⟨rfl, hT⟩ hcl hk hd
            have hL2 : L 2 = true := by have h := hd; simp [Region.binds] at h; simp [h]
            have hN : L 7 = false := by
              cases hh : L 7 with
              | false => rfl
              | true =>
                have h3 := hcl 7 _ rfl (by simp [hh])
                simp [Region.binds] at h3
                simp [hk] at h3
            rw [if_pos (by simp [Region.wanted])]
            refine op_value (v := .map (some Mp)) (w' := Wx) (by simp [execOp, go_sem, frame_tmp (k31) hL2 (Nat.lt_of_lt_of_eq (by decide : 31 < 38) hsz.symm), hT.1 hN, hv2]) ⟨frame_put (k32) (q32), ?_⟩
            simpa [upd] using hT
          · rintro L _ Wx ⟨rfl, hT⟩ hcl hk hd
            have hN : L 7 = false := by
              cases hh : L 7 with
              | false => rfl
              | true =>
                have h4 := hcl 7 _ rfl (by simp [hh])
                simp [Region.binds] at h4
                simp [hk] at h4
            rw [if_pos (by simp [Region.wanted])]
            refine op_value (v := .agg #[.int .i64 nm.s, .int .i64 nm.i, .int .i64 nm.t]) (w' := Wx) (by simp [execOp, go_sem, frame_tout (n8) u8, hT.1 hN, m0, m1, m2]) ⟨frame_put (k33) (q33), ?_⟩
            simpa [upd] using hT
          · rintro L _ Wx ⟨rfl, hT⟩ hcl hk hd
            rw [if_pos (by simp [Region.wanted])]
            refine op_value (v := .int .i64 (q : Int)) (w' := Wx) (by simp [execOp, go_sem, frame_tout (n7) u7]) ⟨frame_put (k34) (q34), ?_⟩
            simpa [upd] using hT
          · rintro L _ Wx ⟨rfl, hT⟩ hcl hk hd
            have hL5 : L 5 = true := by have h := hd; simp [Region.binds] at h; simp [h]
            rw [if_pos (by simp [Region.wanted])]
            refine op_value (v := .int .i64 ((q : Int) + 1)) (w' := Wx) (by simp [execOp, go_sem, frame_tmp (k34) hL5 (Nat.lt_of_lt_of_eq (by decide : 34 < 38) hsz.symm), hwq]) ⟨frame_put (k35) (q35), ?_⟩
            simpa [upd] using hT
          · rintro L _ Wx ⟨rfl, hT⟩ hcl hk hd
            have hL3 : L 3 = true := by have h := hd; simp [Region.binds] at h; simp [h]
            have hL4 : L 4 = true := by have h := hd; simp [Region.binds] at h; simp [h]
            have hL6 : L 6 = true := by have h := hd; simp [Region.binds] at h; simp [h]
            rw [if_pos (by simp [Region.wanted])]
            obtain rfl : Wx = w0 := hT.1 hk
            refine op_mapPut 117 (.tmp 32) (.tmp 33) (.tmp 35) rfl Try.underlying117 nmKey hmm (by rw [frame_in k32 hL3 (Nat.lt_of_lt_of_eq (by decide : 32 < 38) hsz.symm)]) nm (by rw [frame_in k33 hL4 (Nat.lt_of_lt_of_eq (by decide : 33 < 38) hsz.symm)]; rfl) ((q : Int) + 1) (by rw [frame_in k35 hL6 (Nat.lt_of_lt_of_eq (by decide : 35 < 38) hsz.symm)]; rfl) ?_
            intro w' hg hm'
            refine ⟨frame_putNone (z7), ?_⟩
            exact ⟨fun h => by simp [upd] at h, fun _ => ⟨hg, hm'⟩⟩
        · rintro L W' hT hall
          have hA7 : L 7 = true := hall 7 (by simp)
          simp only [putAll, Act.put, List.setIfInBounds_toArray, List.set_cons_succ, List.set_cons_zero]
          obtain ⟨hg, hm2⟩ := hT.2 hA7
          have HG := Lib.hid hg
          have HM2 := Lib.hid hm2
          clear hT hall hg hm2
          go_wp2_with fail
          go_roundw
          case rel => exact ⟨q + 1, put mm nm ((q : Int) + 1), by have := HLT.out; omega, by go_num, cells_turn HBV0.out HG.out (by omega), HM2.out, HB0.out.grown HG.out HB0.out.size (fun k e => by cases e; exact hMp), HPL.out⟩
          case measure => have := HLT.out; simp [intOf]; omega
        -- END LK
      · have hmf : mm = plF [] ns 0 := by
          rw [drop_end hlt] at hpl
          exact hpl
        have HBVF := Lib.hid hbv
        have HMF : Hid (MapIs nmV intV wr Mp (plF [] ns 0)) := hmf ▸ hmm0
        have HBF := Lib.hid hB
        clear hmf hbv hmm0 hB hpl
        go_wp2_with fail
        go_ret2
        rw [HNS.out]
        refine ⟨.inr ⟨HM.out, Bv, rfl, na, nc, Mp, Nat.le_trans HSZ.out hBv, Nat.le_trans HSZ.out hMp, HBVF.out, HMF.out, NN.out, fun b off s e => ⟨HBB.out b off s e, fun hp => ?_⟩⟩, B1.out.trans (HBF.out.mono HSZ.out)⟩
        obtain ⟨h1, h2, h3⟩ := NH.out b off s e hp
        exact ⟨h1, Nat.lt_of_lt_of_le h2 HBF.out.size, h3.below h2 HBF.out⟩

end Go.Proofs.Ytgdmgeihgkbjaaa
