/- 'cashboxref32.Same', 'cashboxref32.SameSteps' -/
import Derived.Test.YtgdmgeihgkbjaaaPd
namespace Go.Proofs.Ytgdmgeihgkbjaaa
open Go.RowKit Go.Shelf

theorem eqIn_ft (d : Nat) (a b : Ft) (w : World) : (Op.equalIn (d + 3) 59 (.agg (ftArr a)) (.agg (ftArr b))).run Try.prog w = .ok (decide (a = b)) w := by
  have e : decide (a = b) = (a.i == b.i && (decide (a.n = b.n) && (a.b == b.b && (decide (a.want = b.want) && (decide (a.got = b.got) && (decide (a.should = b.should) && (decide (a.was = b.was) && a.k == b.k))))))) := by
    obtain ⟨a1, a2, a3, a4, a5, a6, a7, a8⟩ := a
    obtain ⟨b1, b2, b3, b4, b5, b6, b7, b8⟩ := b
    simp only [Ft.mk.injEq, Bool.decide_and]
    rfl
  rw [e, run_equalIn_agg _ _ _ _ _ (by simp [go_sem]) (by simp [go_sem])]
  simp only [Program.fieldsOf, Try.underlying59]
  refine eqFields_cons (by decide) (a := .int .i64 a.i) (b := .int .i64 b.i) (by simp [go_sem, ftArr]) (by simp [go_sem, ftArr]) (by simp [go_sem]) ?_
  refine eqFields_cons (by decide) (by simp [go_sem, ftArr]) (by simp [go_sem, ftArr]) (eqIn_nm d a.n b.n w) ?_
  refine eqFields_cons (by decide) (a := .int .i64 a.b) (b := .int .i64 b.b) (by simp [go_sem, ftArr]) (by simp [go_sem, ftArr]) (by simp [go_sem]) ?_
  refine eqFields_cons (by decide) (by simp [go_sem, ftArr]) (by simp [go_sem, ftArr]) (eqIn_v8 d a.want b.want w) ?_
  refine eqFields_cons (by decide) (by simp [go_sem, ftArr]) (by simp [go_sem, ftArr]) (eqIn_v8 d a.got b.got w) ?_
  refine eqFields_cons (by decide) (by simp [go_sem, ftArr]) (by simp [go_sem, ftArr]) (eqIn_nm d a.should b.should w) ?_
  refine eqFields_cons (by decide) (by simp [go_sem, ftArr]) (by simp [go_sem, ftArr]) (eqIn_nm d a.was b.was w) ?_
  rw [← Bool.and_true (a.k == b.k)]
  exact eqFields_cons (by decide) (a := .int .i8 a.k) (b := .int .i8 b.k) (by simp [go_sem, ftArr]) (by simp [go_sem, ftArr]) (by simp [go_sem]) eqFields_nil

theorem eql_ft (a b : Ft) (w : World) : (binOp .eql 59 (.agg (ftArr a)) (.agg (ftArr b))).run Try.prog w = .ok (.bool (decide (a = b))) w := by
  rw [run_eql_struct, eqIn_ft 9997 a b w]; rfl
theorem neq_ft (a b : Ft) (w : World) : (binOp .neq 59 (.agg (ftArr a)) (.agg (ftArr b))).run Try.prog w = .ok (.bool (!decide (a = b))) w := by
  rw [run_neq_struct, eqIn_ft 9997 a b w]; rfl
theorem neq_snA (a b : Sn) (w : World) : (binOp .neq 36 (.agg (snArr a)) (.agg (snArr b))).run Try.prog w = .ok (.bool (!decide (a = b))) w := neq_sn a b w

/-- The slice value v holds the faults fs. -/
def FtRow (w : World) (v : Value) (fs : List Ft) : Prop := ∃ a c, v = .slice a fs.length c ∧ ∀ (q : Nat) f, fs[q]? = some f → ∃ b, a = some ⟨b, 0, none⟩ ∧ b < w.heap.size ∧ RowsAt Ft.cells 28 w b 0 fs
theorem FtRow.below {w w' : World} {v : Value} {fs : List Ft} (h : FtRow w v fs) (hb : Below w.heap.size w w') : FtRow w' v fs := by
  obtain ⟨a, c, e, h⟩ := h
  refine ⟨a, c, e, fun q f hf => ?_⟩
  obtain ⟨b, h1, h2, h3⟩ := h q f hf
  exact ⟨b, h1, Nat.lt_of_lt_of_le h2 hb.size, h3.below h2 hb⟩
theorem FtRow.nil (w : World) : FtRow w slNil [] := ⟨none, 0, rfl, fun q f h => by simp at h⟩
theorem FtRow.of_owns {w : World} {base : Nat} {v : Value} {fs : List Ft} (h : w.ownsRow base 59 28 v fs.length (fs.flatMap Ft.cells)) : FtRow w v fs := by
  obtain ⟨a, c, rfl⟩ := ownsRow_slice h
  refine ⟨a, c, rfl, fun q f hf => ?_⟩
  obtain ⟨g, h1, _, h3, h4⟩ := owns_rows (enc := Ft.cells) (fun _ => rfl) h (by have := (List.getElem?_eq_some_iff.1 hf).1; omega) rfl
  exact ⟨g, h1, h3, h4⟩

/-- The slice value v holds the steps l. -/
def SnRow (w : World) (v : Value) (l : List Sn) : Prop := ∃ a c, v = .slice a l.length c ∧ ∀ (q : Nat) x, l[q]? = some x → ∃ b o, a = some ⟨b, o, none⟩ ∧ b < w.heap.size ∧ RowsAt Sn.cells 14 w b o l
theorem SnRow.of_sns {w : World} {v : Value} {l : List Sn} (h : Sns w.heap.size w v l) : SnRow w v l := by
  obtain ⟨a, c, e, hn, ha⟩ := h
  refine ⟨a, c, e, fun q x hx => ?_⟩
  obtain ⟨b, off, h1, h2, h3⟩ := rows_some hn ha (List.getElem?_eq_some_iff.1 hx).1
  exact ⟨b, off, h1, h2, h3⟩
theorem info36s : (Try.prog.info? 36).map (·.size) = some 14 := by kernel_rfl
theorem ld_sn_row {w : World} {b off q : Nat} {l : List Sn} {x : Sn} (hr : RowsAt Sn.cells 14 w b off l) (hx : l[q]? = some x) : (loadVar 36 ⟨b, off + q * 14, none⟩).run Try.prog w = .ok (.agg (snArr x)) w :=
  run_loadVar_mid w b (off + q * 14) 36 x.cells _ (fun j v hv => hr q x hx j v hv) Try.underlying36 rfl info36s

set_option maxRecDepth 100000 in
set_option maxHeartbeats 4000000 in
theorem same33_any (fa fb : List Ft) (va vb : Value) (w : World) (hla : fa.length ≤ 10000000000) (hva : FtRow w va fa) (hvb : FtRow w vb fb) :
    Calls Try.prog 33 #[va, vb] w fun e w' => e = .returned (.bool (decide (fa = fb))) ∧ Below w.heap.size w w' := by
  obtain ⟨aa, ca, rfl, ha⟩ := hva
  obtain ⟨ab, cb, rfl, hb⟩ := hvb
  have HA := Lib.hid ha
  have HB := Lib.hid hb
  clear ha hb
  by_cases hlen : fa.length = fb.length
  · have e_l : ((fa.length : Int) != (fb.length : Int)) = false := by simp [hlen]
    have HLEN := Lib.hid hlen
    have hlen2 : (fb.length : Int) = (fa.length : Int) := by omega
    clear hlen
    go_enter Try.func33, Try.ntmps33
    go_wp2_with fail
    clear hlen2 e_l
    go_loopw [5] (fun io wr => ∃ q : Nat, q ≤ fa.length ∧ io = .int .i64 q ∧ Below w.heap.size w wr ∧ fa.take q = fb.take q) (fun io _ => fa.length - (intOf io).toNat)
    case atStart => exact ⟨0, Nat.zero_le _, rfl, Below.refl _ _, rfl⟩
    case round =>
      obtain ⟨q, hq, rfl, hB, hE⟩ := hrel
      have HBE := Lib.hid hB
      have HE := Lib.hid hE
      clear hB hE
      by_cases hlt : q < fa.length
      · obtain ⟨x, hx⟩ : ∃ x, fa[q]? = some x := ⟨_, List.getElem?_eq_getElem hlt⟩
        obtain ⟨y, hy⟩ : ∃ y, fb[q]? = some y := ⟨_, List.getElem?_eq_getElem (by have := HLEN.out; omega)⟩
        obtain ⟨ba,  rfl, hba, hra⟩ := HA.out q x hx
        obtain ⟨bb,  rfl, hbb, hrb⟩ := HB.out q y hy
        have hla : ∀ W, Below w.heap.size w W → (loadVar 59 ⟨ba, q * 28, none⟩).run Try.prog W = .ok (.agg (ftArr x)) W := fun W hW => by have h := ld_ft_row (hra.below hba hW) hx; rwa [Nat.zero_add] at h
        have hlb : ∀ W, Below w.heap.size w W → (loadVar 59 ⟨bb, q * 28, none⟩).run Try.prog W = .ok (.agg (ftArr y)) W := fun W hW => by have h := ld_ft_row (hrb.below hbb hW) hy; rwa [Nat.zero_add] at h
        have HLA := Lib.hid hla
        have HLB := Lib.hid hlb
        have HX := Lib.hid (And.intro hx hy)
        have HLT := Lib.hid hlt
        have hqa : (q : Int) < (fa.length : Int) := by omega
        have hqb : (q : Int) < (fb.length : Int) := by have := HLEN.out; omega
        have HQ := Lib.hid (And.intro hqa hqb)
        clear hra hrb hx hy hla hlb hlt hqa hqb
        by_cases hxy : x = y
        · have HXY : Hid (decide (x = y) = true) := Lib.hid (by simp [hxy])
          have HN : Hid (fa.take (q + 1) = fb.take (q + 1)) := Lib.hid (by rw [List.take_add_one, List.take_add_one, HE.out, HX.out.1, HX.out.2, hxy])
          clear hxy
          go_upto_region 6 with (fail)
          have hla := HLA.out
          have hlb := HLB.out
          have hxy := HXY.out
          obtain ⟨hqa, hqb⟩ := HQ.out
          have hT0 := HBE.out
          refine wp_region_frame mixed (by kernel_rfl) [(0, 17, .slice (some ⟨ba, 0, none⟩) fa.length ca), (1, 18, .int .i64 (q : Int)), (2, 19, .pointer (some ⟨ba, q * 28, none⟩)), (3, 20, .agg (ftArr x)), (4, 21, .slice (some ⟨bb, 0, none⟩) fb.length cb), (5, 22, .int .i64 (q : Int)), (6, 23, .pointer (some ⟨bb, q * 28, none⟩)), (7, 24, .agg (ftArr y)), (8, 25, .bool false)] (fun L Wx => Below w.heap.size w Wx) ?_ ?_ (by rfl) (by rfl) ?_
          · exact hT0.drew
          · intro a0 ps ha0 hps
            have hsz : a0.tmps.size = 26 := by rw [ha0]; rfl
            have u0 : a0.tmps[0]? = some (.slice (some ⟨ba, 0, none⟩) fa.length ca) := by rw [ha0]; rfl
            have u1 : a0.tmps[1]? = some (.slice (some ⟨bb, 0, none⟩) fb.length cb) := by rw [ha0]; rfl
            have u5 : a0.tmps[5]? = some (.int .i64 (q : Int)) := by rw [ha0]; rfl
            have n0 : slotOf ps 0 = none := by rw [hps]; rfl
            have n1 : slotOf ps 1 = none := by rw [hps]; rfl
            have n5 : slotOf ps 5 = none := by rw [hps]; rfl
            have k17 : slotOf ps 17 = some (0, .slice (some ⟨ba, 0, none⟩) fa.length ca) := by rw [hps]; rfl
            have q17 : keysOK ps 0 17 = true := by rw [hps]; rfl
            have k18 : slotOf ps 18 = some (1, .int .i64 (q : Int)) := by rw [hps]; rfl
            have q18 : keysOK ps 1 18 = true := by rw [hps]; rfl
            have k19 : slotOf ps 19 = some (2, .pointer (some ⟨ba, q * 28, none⟩)) := by rw [hps]; rfl
            have q19 : keysOK ps 2 19 = true := by rw [hps]; rfl
            have k20 : slotOf ps 20 = some (3, .agg (ftArr x)) := by rw [hps]; rfl
            have q20 : keysOK ps 3 20 = true := by rw [hps]; rfl
            have k21 : slotOf ps 21 = some (4, .slice (some ⟨bb, 0, none⟩) fb.length cb) := by rw [hps]; rfl
            have q21 : keysOK ps 4 21 = true := by rw [hps]; rfl
            have k22 : slotOf ps 22 = some (5, .int .i64 (q : Int)) := by rw [hps]; rfl
            have q22 : keysOK ps 5 22 = true := by rw [hps]; rfl
            have k23 : slotOf ps 23 = some (6, .pointer (some ⟨bb, q * 28, none⟩)) := by rw [hps]; rfl
            have q23 : keysOK ps 6 23 = true := by rw [hps]; rfl
            have k24 : slotOf ps 24 = some (7, .agg (ftArr y)) := by rw [hps]; rfl
            have q24 : keysOK ps 7 24 = true := by rw [hps]; rfl
            have k25 : slotOf ps 25 = some (8, .bool false) := by rw [hps]; rfl
            have q25 : keysOK ps 8 25 = true := by rw [hps]; rfl
            clear ha0 hps
            refine ⟨?_, ?_, ?_, ?_, ?_, ?_, ?_, ?_, ?_, trivial⟩
            · rintro L _ Wx ⟨rfl, hT⟩ hcl hk hd
              rw [if_pos (by simp [Region.wanted])]
              refine op_value (v := .slice (some ⟨ba, 0, none⟩) fa.length ca) (w' := Wx) (by simp [execOp, go_sem, frame_tout (n0) u0]) ⟨frame_put (k17) (q17), ?_⟩
              simpa [upd] using hT
            · rintro L _ Wx ⟨rfl, hT⟩ hcl hk hd
              rw [if_pos (by simp [Region.wanted])]
              refine op_value (v := .int .i64 (q : Int)) (w' := Wx) (by simp [execOp, go_sem, frame_tout (n5) u5]) ⟨frame_put (k18) (q18), ?_⟩
              simpa [upd] using hT
            · rintro L _ Wx ⟨rfl, hT⟩ hcl hk hd
              have hL0 : L 0 = true := by have h := hd; simp [Region.binds] at h; simp [h]
              have hL1 : L 1 = true := by have h := hd; simp [Region.binds] at h; simp [h]
              rw [if_pos (by simp [Region.wanted])]
              refine op_value (v := .pointer (some ⟨ba, q * 28, none⟩)) (w' := Wx) (by simp [execOp, go_sem, frame_tmp (k17) hL0 (Nat.lt_of_lt_of_eq (by decide : 17 < 26) hsz.symm), frame_tmp (k18) hL1 (Nat.lt_of_lt_of_eq (by decide : 18 < 26) hsz.symm), hqa]) ⟨frame_put (k19) (q19), ?_⟩
              simpa [upd] using hT
            · rintro L _ Wx ⟨rfl, hT⟩ hcl hk hd
              have hL2 : L 2 = true := by have h := hd; simp [Region.binds] at h; simp [h]
              rw [if_pos (by simp [Region.wanted])]
              refine op_loadF 59 (.tmp 19) rfl ⟨ba, q * 28, none⟩ (by rw [frame_in (k19) hL2 (Nat.lt_of_lt_of_eq (by decide : 19 < 26) hsz.symm)]) (.agg (ftArr x)) (hla Wx hT) ⟨frame_put (k20) (q20), ?_⟩
              simpa [upd] using hT
            · rintro L _ Wx ⟨rfl, hT⟩ hcl hk hd
              rw [if_pos (by simp [Region.wanted])]
              refine op_value (v := .slice (some ⟨bb, 0, none⟩) fb.length cb) (w' := Wx) (by simp [execOp, go_sem, frame_tout (n1) u1]) ⟨frame_put (k21) (q21), ?_⟩
              simpa [upd] using hT
            · rintro L _ Wx ⟨rfl, hT⟩ hcl hk hd
              rw [if_pos (by simp [Region.wanted])]
              refine op_value (v := .int .i64 (q : Int)) (w' := Wx) (by simp [execOp, go_sem, frame_tout (n5) u5]) ⟨frame_put (k22) (q22), ?_⟩
              simpa [upd] using hT
            · rintro L _ Wx ⟨rfl, hT⟩ hcl hk hd
              have hL4 : L 4 = true := by have h := hd; simp [Region.binds] at h; simp [h]
              have hL5 : L 5 = true := by have h := hd; simp [Region.binds] at h; simp [h]
              rw [if_pos (by simp [Region.wanted])]
              refine op_value (v := .pointer (some ⟨bb, q * 28, none⟩)) (w' := Wx) (by simp [execOp, go_sem, frame_tmp (k21) hL4 (Nat.lt_of_lt_of_eq (by decide : 21 < 26) hsz.symm), frame_tmp (k22) hL5 (Nat.lt_of_lt_of_eq (by decide : 22 < 26) hsz.symm), hqb]) ⟨frame_put (k23) (q23), ?_⟩
              simpa [upd] using hT
            · rintro L _ Wx ⟨rfl, hT⟩ hcl hk hd
              have hL6 : L 6 = true := by have h := hd; simp [Region.binds] at h; simp [h]
              rw [if_pos (by simp [Region.wanted])]
              refine op_loadF 59 (.tmp 23) rfl ⟨bb, q * 28, none⟩ (by rw [frame_in (k23) hL6 (Nat.lt_of_lt_of_eq (by decide : 23 < 26) hsz.symm)]) (.agg (ftArr y)) (hlb Wx hT) ⟨frame_put (k24) (q24), ?_⟩
              simpa [upd] using hT
            · rintro L _ Wx ⟨rfl, hT⟩ hcl hk hd
              have hL3 : L 3 = true := by have h := hd; simp [Region.binds] at h; simp [h]
              have hL7 : L 7 = true := by have h := hd; simp [Region.binds] at h; simp [h]
              rw [if_pos (by simp [Region.wanted])]
              refine op_value (v := .bool false) (w' := Wx) (by simp [execOp, go_sem, frame_tmp (k20) hL3 (Nat.lt_of_lt_of_eq (by decide : 20 < 26) hsz.symm), frame_tmp (k24) hL7 (Nat.lt_of_lt_of_eq (by decide : 24 < 26) hsz.symm), neq_ft, hxy]) ⟨frame_put (k25) (q25), ?_⟩
              simpa [upd] using hT
          · rintro L W' hT hall
            simp only [putAll, Act.put, List.setIfInBounds_toArray, List.set_cons_succ, List.set_cons_zero]
            have HT := Lib.hid hT
            clear hT hall hla hlb hxy hqa hqb hT0
            go_wp2_with fail
            go_roundw
            case rel => exact ⟨q + 1, by have := HLT.out; omega, by go_num, HT.out, HN.out⟩
            case measure => have := HLT.out; simp [intOf]; omega
        · have HXY : Hid (decide (x = y) = false) := Lib.hid (by simp [hxy])
          have HN : Hid (decide (fa = fb) = false) := Lib.hid (by
            simp only [decide_eq_false_iff_not]
            intro e
            rw [e] at HX
            have h := HX.out
            rw [h.1] at h
            exact hxy (Option.some.inj h.2))
          clear hxy
          go_upto_region 6 with (fail)
          have hla := HLA.out
          have hlb := HLB.out
          have hxy := HXY.out
          obtain ⟨hqa, hqb⟩ := HQ.out
          have hT0 := HBE.out
          refine wp_region_frame mixed (by kernel_rfl) [(0, 17, .slice (some ⟨ba, 0, none⟩) fa.length ca), (1, 18, .int .i64 (q : Int)), (2, 19, .pointer (some ⟨ba, q * 28, none⟩)), (3, 20, .agg (ftArr x)), (4, 21, .slice (some ⟨bb, 0, none⟩) fb.length cb), (5, 22, .int .i64 (q : Int)), (6, 23, .pointer (some ⟨bb, q * 28, none⟩)), (7, 24, .agg (ftArr y)), (8, 25, .bool true)] (fun L Wx => Below w.heap.size w Wx) ?_ ?_ (by rfl) (by rfl) ?_
          · exact hT0.drew
          · intro a0 ps ha0 hps
            have hsz : a0.tmps.size = 26 := by rw [ha0]; rfl
            have u0 : a0.tmps[0]? = some (.slice (some ⟨ba, 0, none⟩) fa.length ca) := by rw [ha0]; rfl
            have u1 : a0.tmps[1]? = some (.slice (some ⟨bb, 0, none⟩) fb.length cb) := by rw [ha0]; rfl
            have u5 : a0.tmps[5]? = some (.int .i64 (q : Int)) := by rw [ha0]; rfl
            have n0 : slotOf ps 0 = none := by rw [hps]; rfl
            have n1 : slotOf ps 1 = none := by rw [hps]; rfl
            have n5 : slotOf ps 5 = none := by rw [hps]; rfl
            have k17 : slotOf ps 17 = some (0, .slice (some ⟨ba, 0, none⟩) fa.length ca) := by rw [hps]; rfl
            have q17 : keysOK ps 0 17 = true := by rw [hps]; rfl
            have k18 : slotOf ps 18 = some (1, .int .i64 (q : Int)) := by rw [hps]; rfl
            have q18 : keysOK ps 1 18 = true := by rw [hps]; rfl
            have k19 : slotOf ps 19 = some (2, .pointer (some ⟨ba, q * 28, none⟩)) := by rw [hps]; rfl
            have q19 : keysOK ps 2 19 = true := by rw [hps]; rfl
            have k20 : slotOf ps 20 = some (3, .agg (ftArr x)) := by rw [hps]; rfl
            have q20 : keysOK ps 3 20 = true := by rw [hps]; rfl
            have k21 : slotOf ps 21 = some (4, .slice (some ⟨bb, 0, none⟩) fb.length cb) := by rw [hps]; rfl
            have q21 : keysOK ps 4 21 = true := by rw [hps]; rfl
            have k22 : slotOf ps 22 = some (5, .int .i64 (q : Int)) := by rw [hps]; rfl
            have q22 : keysOK ps 5 22 = true := by rw [hps]; rfl
            have k23 : slotOf ps 23 = some (6, .pointer (some ⟨bb, q * 28, none⟩)) := by rw [hps]; rfl
            have q23 : keysOK ps 6 23 = true := by rw [hps]; rfl
            have k24 : slotOf ps 24 = some (7, .agg (ftArr y)) := by rw [hps]; rfl
            have q24 : keysOK ps 7 24 = true := by rw [hps]; rfl
            have k25 : slotOf ps 25 = some (8, .bool true) := by rw [hps]; rfl
            have q25 : keysOK ps 8 25 = true := by rw [hps]; rfl
            clear ha0 hps
            refine ⟨?_, ?_, ?_, ?_, ?_, ?_, ?_, ?_, ?_, trivial⟩
            · rintro L _ Wx ⟨rfl, hT⟩ hcl hk hd
              rw [if_pos (by simp [Region.wanted])]
              refine op_value (v := .slice (some ⟨ba, 0, none⟩) fa.length ca) (w' := Wx) (by simp [execOp, go_sem, frame_tout (n0) u0]) ⟨frame_put (k17) (q17), ?_⟩
              simpa [upd] using hT
            · rintro L _ Wx ⟨rfl, hT⟩ hcl hk hd
              rw [if_pos (by simp [Region.wanted])]
              refine op_value (v := .int .i64 (q : Int)) (w' := Wx) (by simp [execOp, go_sem, frame_tout (n5) u5]) ⟨frame_put (k18) (q18), ?_⟩
              simpa [upd] using hT
            · rintro L _ Wx ⟨rfl, hT⟩ hcl hk hd
              have hL0 : L 0 = true := by have h := hd; simp [Region.binds] at h; simp [h]
              have hL1 : L 1 = true := by have h := hd; simp [Region.binds] at h; simp [h]
              rw [if_pos (by simp [Region.wanted])]
              refine op_value (v := .pointer (some ⟨ba, q * 28, none⟩)) (w' := Wx) (by simp [execOp, go_sem, frame_tmp (k17) hL0 (Nat.lt_of_lt_of_eq (by decide : 17 < 26) hsz.symm), frame_tmp (k18) hL1 (Nat.lt_of_lt_of_eq (by decide : 18 < 26) hsz.symm), hqa]) ⟨frame_put (k19) (q19), ?_⟩
              simpa [upd] using hT
            · rintro L _ Wx ⟨rfl, hT⟩ hcl hk hd
              have hL2 : L 2 = true := by have h := hd; simp [Region.binds] at h; simp [h]
              rw [if_pos (by simp [Region.wanted])]
              refine op_loadF 59 (.tmp 19) rfl ⟨ba, q * 28, none⟩ (by rw [frame_in (k19) hL2 (Nat.lt_of_lt_of_eq (by decide : 19 < 26) hsz.symm)]) (.agg (ftArr x)) (hla Wx hT) ⟨frame_put (k20) (q20), ?_⟩
              simpa [upd] using hT
            · rintro L _ Wx ⟨rfl, hT⟩ hcl hk hd
              rw [if_pos (by simp [Region.wanted])]
              refine op_value (v := .slice (some ⟨bb, 0, none⟩) fb.length cb) (w' := Wx) (by simp [execOp, go_sem, frame_tout (n1) u1]) ⟨frame_put (k21) (q21), ?_⟩
              simpa [upd] using hT
            · rintro L _ Wx ⟨rfl, hT⟩ hcl hk hd
              rw [if_pos (by simp [Region.wanted])]
              refine op_value (v := .int .i64 (q : Int)) (w' := Wx) (by simp [execOp, go_sem, frame_tout (n5) u5]) ⟨frame_put (k22) (q22), ?_⟩
              simpa [upd] using hT
            · rintro L _ Wx ⟨rfl, hT⟩ hcl hk hd
              have hL4 : L 4 = true := by have h := hd; simp [Region.binds] at h; simp [h]
              have hL5 : L 5 = true := by have h := hd; simp [Region.binds] at h; simp [h]
              rw [if_pos (by simp [Region.wanted])]
              refine op_value (v := .pointer (some ⟨bb, q * 28, none⟩)) (w' := Wx) (by simp [execOp, go_sem, frame_tmp (k21) hL4 (Nat.lt_of_lt_of_eq (by decide : 21 < 26) hsz.symm), frame_tmp (k22) hL5 (Nat.lt_of_lt_of_eq (by decide : 22 < 26) hsz.symm), hqb]) ⟨frame_put (k23) (q23), ?_⟩
              simpa [upd] using hT
            · rintro L _ Wx ⟨rfl, hT⟩ hcl hk hd
              have hL6 : L 6 = true := by have h := hd; simp [Region.binds] at h; simp [h]
              rw [if_pos (by simp [Region.wanted])]
              refine op_loadF 59 (.tmp 23) rfl ⟨bb, q * 28, none⟩ (by rw [frame_in (k23) hL6 (Nat.lt_of_lt_of_eq (by decide : 23 < 26) hsz.symm)]) (.agg (ftArr y)) (hlb Wx hT) ⟨frame_put (k24) (q24), ?_⟩
              simpa [upd] using hT
            · rintro L _ Wx ⟨rfl, hT⟩ hcl hk hd
              have hL3 : L 3 = true := by have h := hd; simp [Region.binds] at h; simp [h]
              have hL7 : L 7 = true := by have h := hd; simp [Region.binds] at h; simp [h]
              rw [if_pos (by simp [Region.wanted])]
              refine op_value (v := .bool true) (w' := Wx) (by simp [execOp, go_sem, frame_tmp (k20) hL3 (Nat.lt_of_lt_of_eq (by decide : 20 < 26) hsz.symm), frame_tmp (k24) hL7 (Nat.lt_of_lt_of_eq (by decide : 24 < 26) hsz.symm), neq_ft, hxy]) ⟨frame_put (k25) (q25), ?_⟩
              simpa [upd] using hT
          · rintro L W' hT hall
            simp only [putAll, Act.put, List.setIfInBounds_toArray, List.set_cons_succ, List.set_cons_zero]
            have HT := Lib.hid hT
            clear hT hall hla hlb hxy hqa hqb hT0
            go_wp2_with fail
            go_ret
            exact ⟨by rw [HN.out]; rfl, HT.out⟩
      · have HN : Hid (decide (fa = fb) = true) := Lib.hid (by
          have h := HE.out
          have e : q = fa.length := by omega
          rw [e, List.take_length, HLEN.out, List.take_length] at h
          simp [h])
        go_wp2_with fail
        go_ret
        exact ⟨by rw [HN.out]; rfl, HBE.out⟩
  · have e_l : ((fa.length : Int) != (fb.length : Int)) = true := by simp; omega
    have HN : Hid (decide (fa = fb) = false) := Lib.hid (by
      simp only [decide_eq_false_iff_not]
      intro e; exact hlen (by rw [e]))
    clear hlen
    go_enter Try.func33, Try.ntmps33
    go_wp2_with fail
    go_ret
    exact ⟨by rw [HN.out]; rfl, Below.refl _ _⟩

set_option maxRecDepth 100000 in
set_option maxHeartbeats 4000000 in
theorem sameSteps_any (fa fb : List Sn) (va vb : Value) (w : World) (hla : fa.length ≤ 10000000000) (hva : SnRow w va fa) (hvb : SnRow w vb fb) :
    Calls Try.prog 42 #[va, vb] w fun e w' => e = .returned (.bool (decide (fa = fb))) ∧ Below w.heap.size w w' := by
  obtain ⟨aa, ca, rfl, ha⟩ := hva
  obtain ⟨ab, cb, rfl, hb⟩ := hvb
  have HA := Lib.hid ha
  have HB := Lib.hid hb
  clear ha hb
  by_cases hlen : fa.length = fb.length
  · have e_l : ((fa.length : Int) != (fb.length : Int)) = false := by simp [hlen]
    have HLEN := Lib.hid hlen
    have hlen2 : (fb.length : Int) = (fa.length : Int) := by omega
    clear hlen
    go_enter Try.func42, Try.ntmps42
    go_wp2_with fail
    clear hlen2 e_l
    go_loopw [5] (fun io wr => ∃ q : Nat, q ≤ fa.length ∧ io = .int .i64 q ∧ Below w.heap.size w wr ∧ fa.take q = fb.take q) (fun io _ => fa.length - (intOf io).toNat)
    case atStart => exact ⟨0, Nat.zero_le _, rfl, Below.refl _ _, rfl⟩
    case round =>
      obtain ⟨q, hq, rfl, hB, hE⟩ := hrel
      have HBE := Lib.hid hB
      have HE := Lib.hid hE
      clear hB hE
      by_cases hlt : q < fa.length
      · obtain ⟨x, hx⟩ : ∃ x, fa[q]? = some x := ⟨_, List.getElem?_eq_getElem hlt⟩
        obtain ⟨y, hy⟩ : ∃ y, fb[q]? = some y := ⟨_, List.getElem?_eq_getElem (by have := HLEN.out; omega)⟩
        obtain ⟨ba, oa, rfl, hba, hra⟩ := HA.out q x hx
        obtain ⟨bb, ob, rfl, hbb, hrb⟩ := HB.out q y hy
        have hla : ∀ W, Below w.heap.size w W → (loadVar 36 ⟨ba, oa + q * 14, none⟩).run Try.prog W = .ok (.agg (snArr x)) W := fun W hW => ld_sn_row (hra.below hba hW) hx
        have hlb : ∀ W, Below w.heap.size w W → (loadVar 36 ⟨bb, ob + q * 14, none⟩).run Try.prog W = .ok (.agg (snArr y)) W := fun W hW => ld_sn_row (hrb.below hbb hW) hy
        have HLA := Lib.hid hla
        have HLB := Lib.hid hlb
        have HX := Lib.hid (And.intro hx hy)
        have HLT := Lib.hid hlt
        have hqa : (q : Int) < (fa.length : Int) := by omega
        have hqb : (q : Int) < (fb.length : Int) := by have := HLEN.out; omega
        have HQ := Lib.hid (And.intro hqa hqb)
        clear hra hrb hx hy hla hlb hlt hqa hqb
        by_cases hxy : x = y
        · have HXY : Hid (decide (x = y) = true) := Lib.hid (by simp [hxy])
          have HN : Hid (fa.take (q + 1) = fb.take (q + 1)) := Lib.hid (by rw [List.take_add_one, List.take_add_one, HE.out, HX.out.1, HX.out.2, hxy])
          clear hxy
          go_upto_region 6 with (fail)
          have hla := HLA.out
          have hlb := HLB.out
          have hxy := HXY.out
          obtain ⟨hqa, hqb⟩ := HQ.out
          have hT0 := HBE.out
          refine wp_region_frame mixed (by kernel_rfl) [(0, 17, .slice (some ⟨ba, oa, none⟩) fa.length ca), (1, 18, .int .i64 (q : Int)), (2, 19, .pointer (some ⟨ba, oa + q * 14, none⟩)), (3, 20, .agg (snArr x)), (4, 21, .slice (some ⟨bb, ob, none⟩) fb.length cb), (5, 22, .int .i64 (q : Int)), (6, 23, .pointer (some ⟨bb, ob + q * 14, none⟩)), (7, 24, .agg (snArr y)), (8, 25, .bool false)] (fun L Wx => Below w.heap.size w Wx) ?_ ?_ (by rfl) (by rfl) ?_
          · exact hT0.drew
          · intro a0 ps ha0 hps
            have hsz : a0.tmps.size = 26 := by rw [ha0]; rfl
            have u0 : a0.tmps[0]? = some (.slice (some ⟨ba, oa, none⟩) fa.length ca) := by rw [ha0]; rfl
            have u1 : a0.tmps[1]? = some (.slice (some ⟨bb, ob, none⟩) fb.length cb) := by rw [ha0]; rfl
            have u5 : a0.tmps[5]? = some (.int .i64 (q : Int)) := by rw [ha0]; rfl
            have n0 : slotOf ps 0 = none := by rw [hps]; rfl
            have n1 : slotOf ps 1 = none := by rw [hps]; rfl
            have n5 : slotOf ps 5 = none := by rw [hps]; rfl
            have k17 : slotOf ps 17 = some (0, .slice (some ⟨ba, oa, none⟩) fa.length ca) := by rw [hps]; rfl
            have q17 : keysOK ps 0 17 = true := by rw [hps]; rfl
            have k18 : slotOf ps 18 = some (1, .int .i64 (q : Int)) := by rw [hps]; rfl
            have q18 : keysOK ps 1 18 = true := by rw [hps]; rfl
            have k19 : slotOf ps 19 = some (2, .pointer (some ⟨ba, oa + q * 14, none⟩)) := by rw [hps]; rfl
            have q19 : keysOK ps 2 19 = true := by rw [hps]; rfl
            have k20 : slotOf ps 20 = some (3, .agg (snArr x)) := by rw [hps]; rfl
            have q20 : keysOK ps 3 20 = true := by rw [hps]; rfl
            have k21 : slotOf ps 21 = some (4, .slice (some ⟨bb, ob, none⟩) fb.length cb) := by rw [hps]; rfl
            have q21 : keysOK ps 4 21 = true := by rw [hps]; rfl
            have k22 : slotOf ps 22 = some (5, .int .i64 (q : Int)) := by rw [hps]; rfl
            have q22 : keysOK ps 5 22 = true := by rw [hps]; rfl
            have k23 : slotOf ps 23 = some (6, .pointer (some ⟨bb, ob + q * 14, none⟩)) := by rw [hps]; rfl
            have q23 : keysOK ps 6 23 = true := by rw [hps]; rfl
            have k24 : slotOf ps 24 = some (7, .agg (snArr y)) := by rw [hps]; rfl
            have q24 : keysOK ps 7 24 = true := by rw [hps]; rfl
            have k25 : slotOf ps 25 = some (8, .bool false) := by rw [hps]; rfl
            have q25 : keysOK ps 8 25 = true := by rw [hps]; rfl
            clear ha0 hps
            refine ⟨?_, ?_, ?_, ?_, ?_, ?_, ?_, ?_, ?_, trivial⟩
            · rintro L _ Wx ⟨rfl, hT⟩ hcl hk hd
              rw [if_pos (by simp [Region.wanted])]
              refine op_value (v := .slice (some ⟨ba, oa, none⟩) fa.length ca) (w' := Wx) (by simp [execOp, go_sem, frame_tout (n0) u0]) ⟨frame_put (k17) (q17), ?_⟩
              simpa [upd] using hT
            · rintro L _ Wx ⟨rfl, hT⟩ hcl hk hd
              rw [if_pos (by simp [Region.wanted])]
              refine op_value (v := .int .i64 (q : Int)) (w' := Wx) (by simp [execOp, go_sem, frame_tout (n5) u5]) ⟨frame_put (k18) (q18), ?_⟩
              simpa [upd] using hT
            · rintro L _ Wx ⟨rfl, hT⟩ hcl hk hd
              have hL0 : L 0 = true := by have h := hd; simp [Region.binds] at h; simp [h]
              have hL1 : L 1 = true := by have h := hd; simp [Region.binds] at h; simp [h]
              rw [if_pos (by simp [Region.wanted])]
              refine op_value (v := .pointer (some ⟨ba, oa + q * 14, none⟩)) (w' := Wx) (by simp [execOp, go_sem, frame_tmp (k17) hL0 (Nat.lt_of_lt_of_eq (by decide : 17 < 26) hsz.symm), frame_tmp (k18) hL1 (Nat.lt_of_lt_of_eq (by decide : 18 < 26) hsz.symm), hqa]) ⟨frame_put (k19) (q19), ?_⟩
              simpa [upd] using hT
            · rintro L _ Wx ⟨rfl, hT⟩ hcl hk hd
              have hL2 : L 2 = true := by have h := hd; simp [Region.binds] at h; simp [h]
              rw [if_pos (by simp [Region.wanted])]
              refine op_loadF 36 (.tmp 19) rfl ⟨ba, oa + q * 14, none⟩ (by rw [frame_in (k19) hL2 (Nat.lt_of_lt_of_eq (by decide : 19 < 26) hsz.symm)]) (.agg (snArr x)) (hla Wx hT) ⟨frame_put (k20) (q20), ?_⟩
              simpa [upd] using hT
            · rintro L _ Wx ⟨rfl, hT⟩ hcl hk hd
              rw [if_pos (by simp [Region.wanted])]
              refine op_value (v := .slice (some ⟨bb, ob, none⟩) fb.length cb) (w' := Wx) (by simp [execOp, go_sem, frame_tout (n1) u1]) ⟨frame_put (k21) (q21), ?_⟩
              simpa [upd] using hT
            · rintro L _ Wx ⟨rfl, hT⟩ hcl hk hd
              rw [if_pos (by simp [Region.wanted])]
              refine op_value (v := .int .i64 (q : Int)) (w' := Wx) (by simp [execOp, go_sem, frame_tout (n5) u5]) ⟨frame_put (k22) (q22), ?_⟩
              simpa [upd] using hT
            · rintro L _ Wx ⟨rfl, hT⟩ hcl hk hd
              have hL4 : L 4 = true := by have h := hd; simp [Region.binds] at h; simp [h]
              have hL5 : L 5 = true := by have h := hd; simp [Region.binds] at h; simp [h]
              rw [if_pos (by simp [Region.wanted])]
              refine op_value (v := .pointer (some ⟨bb, ob + q * 14, none⟩)) (w' := Wx) (by simp [execOp, go_sem, frame_tmp (k21) hL4 (Nat.lt_of_lt_of_eq (by decide : 21 < 26) hsz.symm), frame_tmp (k22) hL5 (Nat.lt_of_lt_of_eq (by decide : 22 < 26) hsz.symm), hqb]) ⟨frame_put (k23) (q23), ?_⟩
              simpa [upd] using hT
            · rintro L _ Wx ⟨rfl, hT⟩ hcl hk hd
              have hL6 : L 6 = true := by have h := hd; simp [Region.binds] at h; simp [h]
              rw [if_pos (by simp [Region.wanted])]
              refine op_loadF 36 (.tmp 23) rfl ⟨bb, ob + q * 14, none⟩ (by rw [frame_in (k23) hL6 (Nat.lt_of_lt_of_eq (by decide : 23 < 26) hsz.symm)]) (.agg (snArr y)) (hlb Wx hT) ⟨frame_put (k24) (q24), ?_⟩
              simpa [upd] using hT
            · rintro L _ Wx ⟨rfl, hT⟩ hcl hk hd
              have hL3 : L 3 = true := by have h := hd; simp [Region.binds] at h; simp [h]
              have hL7 : L 7 = true := by have h := hd; simp [Region.binds] at h; simp [h]
              rw [if_pos (by simp [Region.wanted])]
              refine op_value (v := .bool false) (w' := Wx) (by simp [execOp, go_sem, frame_tmp (k20) hL3 (Nat.lt_of_lt_of_eq (by decide : 20 < 26) hsz.symm), frame_tmp (k24) hL7 (Nat.lt_of_lt_of_eq (by decide : 24 < 26) hsz.symm), neq_snA, hxy]) ⟨frame_put (k25) (q25), ?_⟩
              simpa [upd] using hT
          · rintro L W' hT hall
            simp only [putAll, Act.put, List.setIfInBounds_toArray, List.set_cons_succ, List.set_cons_zero]
            have HT := Lib.hid hT
            clear hT hall hla hlb hxy hqa hqb hT0
            go_wp2_with fail
            go_roundw
            case rel => exact ⟨q + 1, by have := HLT.out; omega, by go_num, HT.out, HN.out⟩
            case measure => have := HLT.out; simp [intOf]; omega
        · have HXY : Hid (decide (x = y) = false) := Lib.hid (by simp [hxy])
          have HN : Hid (decide (fa = fb) = false) := Lib.hid (by
            simp only [decide_eq_false_iff_not]
            intro e
            rw [e] at HX
            have h := HX.out
            rw [h.1] at h
            exact hxy (Option.some.inj h.2))
          clear hxy
          go_upto_region 6 with (fail)
          have hla := HLA.out
          have hlb := HLB.out
          have hxy := HXY.out
          obtain ⟨hqa, hqb⟩ := HQ.out
          have hT0 := HBE.out
          refine wp_region_frame mixed (by kernel_rfl) [(0, 17, .slice (some ⟨ba, oa, none⟩) fa.length ca), (1, 18, .int .i64 (q : Int)), (2, 19, .pointer (some ⟨ba, oa + q * 14, none⟩)), (3, 20, .agg (snArr x)), (4, 21, .slice (some ⟨bb, ob, none⟩) fb.length cb), (5, 22, .int .i64 (q : Int)), (6, 23, .pointer (some ⟨bb, ob + q * 14, none⟩)), (7, 24, .agg (snArr y)), (8, 25, .bool true)] (fun L Wx => Below w.heap.size w Wx) ?_ ?_ (by rfl) (by rfl) ?_
          · exact hT0.drew
          · intro a0 ps ha0 hps
            have hsz : a0.tmps.size = 26 := by rw [ha0]; rfl
            have u0 : a0.tmps[0]? = some (.slice (some ⟨ba, oa, none⟩) fa.length ca) := by rw [ha0]; rfl
            have u1 : a0.tmps[1]? = some (.slice (some ⟨bb, ob, none⟩) fb.length cb) := by rw [ha0]; rfl
            have u5 : a0.tmps[5]? = some (.int .i64 (q : Int)) := by rw [ha0]; rfl
            have n0 : slotOf ps 0 = none := by rw [hps]; rfl
            have n1 : slotOf ps 1 = none := by rw [hps]; rfl
            have n5 : slotOf ps 5 = none := by rw [hps]; rfl
            have k17 : slotOf ps 17 = some (0, .slice (some ⟨ba, oa, none⟩) fa.length ca) := by rw [hps]; rfl
            have q17 : keysOK ps 0 17 = true := by rw [hps]; rfl
            have k18 : slotOf ps 18 = some (1, .int .i64 (q : Int)) := by rw [hps]; rfl
            have q18 : keysOK ps 1 18 = true := by rw [hps]; rfl
            have k19 : slotOf ps 19 = some (2, .pointer (some ⟨ba, oa + q * 14, none⟩)) := by rw [hps]; rfl
            have q19 : keysOK ps 2 19 = true := by rw [hps]; rfl
            have k20 : slotOf ps 20 = some (3, .agg (snArr x)) := by rw [hps]; rfl
            have q20 : keysOK ps 3 20 = true := by rw [hps]; rfl
            have k21 : slotOf ps 21 = some (4, .slice (some ⟨bb, ob, none⟩) fb.length cb) := by rw [hps]; rfl
            have q21 : keysOK ps 4 21 = true := by rw [hps]; rfl
            have k22 : slotOf ps 22 = some (5, .int .i64 (q : Int)) := by rw [hps]; rfl
            have q22 : keysOK ps 5 22 = true := by rw [hps]; rfl
            have k23 : slotOf ps 23 = some (6, .pointer (some ⟨bb, ob + q * 14, none⟩)) := by rw [hps]; rfl
            have q23 : keysOK ps 6 23 = true := by rw [hps]; rfl
            have k24 : slotOf ps 24 = some (7, .agg (snArr y)) := by rw [hps]; rfl
            have q24 : keysOK ps 7 24 = true := by rw [hps]; rfl
            have k25 : slotOf ps 25 = some (8, .bool true) := by rw [hps]; rfl
            have q25 : keysOK ps 8 25 = true := by rw [hps]; rfl
            clear ha0 hps
            refine ⟨?_, ?_, ?_, ?_, ?_, ?_, ?_, ?_, ?_, trivial⟩
            · rintro L _ Wx ⟨rfl, hT⟩ hcl hk hd
              rw [if_pos (by simp [Region.wanted])]
              refine op_value (v := .slice (some ⟨ba, oa, none⟩) fa.length ca) (w' := Wx) (by simp [execOp, go_sem, frame_tout (n0) u0]) ⟨frame_put (k17) (q17), ?_⟩
              simpa [upd] using hT
            · rintro L _ Wx ⟨rfl, hT⟩ hcl hk hd
              rw [if_pos (by simp [Region.wanted])]
              refine op_value (v := .int .i64 (q : Int)) (w' := Wx) (by simp [execOp, go_sem, frame_tout (n5) u5]) ⟨frame_put (k18) (q18), ?_⟩
              simpa [upd] using hT
            · rintro L _ Wx ⟨rfl, hT⟩ hcl hk hd
              have hL0 : L 0 = true := by have h := hd; simp [Region.binds] at h; simp [h]
              have hL1 : L 1 = true := by have h := hd; simp [Region.binds] at h; simp [h]
              rw [if_pos (by simp [Region.wanted])]
              refine op_value (v := .pointer (some ⟨ba, oa + q * 14, none⟩)) (w' := Wx) (by simp [execOp, go_sem, frame_tmp (k17) hL0 (Nat.lt_of_lt_of_eq (by decide : 17 < 26) hsz.symm), frame_tmp (k18) hL1 (Nat.lt_of_lt_of_eq (by decide : 18 < 26) hsz.symm), hqa]) ⟨frame_put (k19) (q19), ?_⟩
              simpa [upd] using hT
            · rintro L _ Wx ⟨rfl, hT⟩ hcl hk hd
              have hL2 : L 2 = true := by have h := hd; simp [Region.binds] at h; simp [h]
              rw [if_pos (by simp [Region.wanted])]
              refine op_loadF 36 (.tmp 19) rfl ⟨ba, oa + q * 14, none⟩ (by rw [frame_in (k19) hL2 (Nat.lt_of_lt_of_eq (by decide : 19 < 26) hsz.symm)]) (.agg (snArr x)) (hla Wx hT) ⟨frame_put (k20) (q20), ?_⟩
              simpa [upd] using hT
            · rintro L _ Wx ⟨rfl, hT⟩ hcl hk hd
              rw [if_pos (by simp [Region.wanted])]
              refine op_value (v := .slice (some ⟨bb, ob, none⟩) fb.length cb) (w' := Wx) (by simp [execOp, go_sem, frame_tout (n1) u1]) ⟨frame_put (k21) (q21), ?_⟩
              simpa [upd] using hT
            · rintro L _ Wx ⟨rfl, hT⟩ hcl hk hd
              rw [if_pos (by simp [Region.wanted])]
              refine op_value (v := .int .i64 (q : Int)) (w' := Wx) (by simp [execOp, go_sem, frame_tout (n5) u5]) ⟨frame_put (k22) (q22), ?_⟩
              simpa [upd] using hT
            · rintro L _ Wx ⟨rfl, hT⟩ hcl hk hd
              have hL4 : L 4 = true := by have h := hd; simp [Region.binds] at h; simp [h]
              have hL5 : L 5 = true := by have h := hd; simp [Region.binds] at h; simp [h]
              rw [if_pos (by simp [Region.wanted])]
              refine op_value (v := .pointer (some ⟨bb, ob + q * 14, none⟩)) (w' := Wx) (by simp [execOp, go_sem, frame_tmp (k21) hL4 (Nat.lt_of_lt_of_eq (by decide : 21 < 26) hsz.symm), frame_tmp (k22) hL5 (Nat.lt_of_lt_of_eq (by decide : 22 < 26) hsz.symm), hqb]) ⟨frame_put (k23) (q23), ?_⟩
              simpa [upd] using hT
            · rintro L _ Wx ⟨rfl, hT⟩ hcl hk hd
              have hL6 : L 6 = true := by have h := hd; simp [Region.binds] at h; simp [h]
              rw [if_pos (by simp [Region.wanted])]
              refine op_loadF 36 (.tmp 23) rfl ⟨bb, ob + q * 14, none⟩ (by rw [frame_in (k23) hL6 (Nat.lt_of_lt_of_eq (by decide : 23 < 26) hsz.symm)]) (.agg (snArr y)) (hlb Wx hT) ⟨frame_put (k24) (q24), ?_⟩
              simpa [upd] using hT
            · rintro L _ Wx ⟨rfl, hT⟩ hcl hk hd
              have hL3 : L 3 = true := by have h := hd; simp [Region.binds] at h; simp [h]
              have hL7 : L 7 = true := by have h := hd; simp [Region.binds] at h; simp [h]
              rw [if_pos (by simp [Region.wanted])]
              refine op_value (v := .bool true) (w' := Wx) (by simp [execOp, go_sem, frame_tmp (k20) hL3 (Nat.lt_of_lt_of_eq (by decide : 20 < 26) hsz.symm), frame_tmp (k24) hL7 (Nat.lt_of_lt_of_eq (by decide : 24 < 26) hsz.symm), neq_snA, hxy]) ⟨frame_put (k25) (q25), ?_⟩
              simpa [upd] using hT
          · rintro L W' hT hall
            simp only [putAll, Act.put, List.setIfInBounds_toArray, List.set_cons_succ, List.set_cons_zero]
            have HT := Lib.hid hT
            clear hT hall hla hlb hxy hqa hqb hT0
            go_wp2_with fail
            go_ret
            exact ⟨by rw [HN.out]; rfl, HT.out⟩
      · have HN : Hid (decide (fa = fb) = true) := Lib.hid (by
          have h := HE.out
          have e : q = fa.length := by omega
          rw [e, List.take_length, HLEN.out, List.take_length] at h
          simp [h])
        go_wp2_with fail
        go_ret
        exact ⟨by rw [HN.out]; rfl, HBE.out⟩
  · have e_l : ((fa.length : Int) != (fb.length : Int)) = true := by simp; omega
    have HN : Hid (decide (fa = fb) = false) := Lib.hid (by
      simp only [decide_eq_false_iff_not]
      intro e; exact hlen (by rw [e]))
    clear hlen
    go_enter Try.func42, Try.ntmps42
    go_wp2_with fail
    go_ret
    exact ⟨by rw [HN.out]; rfl, Below.refl _ _⟩

end Go.Proofs.Ytgdmgeihgkbjaaa
