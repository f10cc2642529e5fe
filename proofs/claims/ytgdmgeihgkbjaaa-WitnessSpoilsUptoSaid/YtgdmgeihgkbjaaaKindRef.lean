/- 'cashboxref32.kind' -/
import Derived.Test.YtgdmgeihgkbjaaaWasRef
import Derived.Test.YtgdmgeihgkbjaaaPd
namespace Go.Proofs.Ytgdmgeihgkbjaaa
open Go.RowKit Go.Shelf

def refK (f : Ft) (a b : Int) : Int := if f.was = nz then (if f.got = z0 then 0 else 4) else if f.was = f.n then 3 else if a < 0 then 2 else if a < b then 0 else 1

theorem place_inj {ns : List Nm} {a b : Nm} (h : placeOf ns a = placeOf ns b) (h0 : placeOf ns a ≠ 0) : a = b := by
  unfold placeOf at h h0
  cases ha : ns.findIdx? (fun x => decide (x = a)) with
  | none => rw [ha] at h0; exact absurd rfl h0
  | some i =>
    rw [ha] at h
    cases hb : ns.findIdx? (fun x => decide (x = b)) with
    | none => rw [hb] at h; simp only at h; omega
    | some j =>
      rw [hb] at h
      simp only at h
      have hij : i = j := by omega
      subst hij
      obtain ⟨h1, h2, _⟩ := List.findIdx?_eq_some_iff_getElem.1 ha
      obtain ⟨_, h3, _⟩ := List.findIdx?_eq_some_iff_getElem.1 hb
      simp only [decide_eq_true_eq] at h2 h3
      rw [← h2, ← h3]

theorem place_none {ns : List Nm} {a : Nm} (h : a ∉ ns) : placeOf ns a = 0 := by
  unfold placeOf
  cases ha : ns.findIdx? (fun x => decide (x = a)) with
  | none => rfl
  | some i =>
    obtain ⟨h1, h2, _⟩ := List.findIdx?_eq_some_iff_getElem.1 ha
    simp only [decide_eq_true_eq] at h2
    exact absurd (h2 ▸ List.getElem_mem h1) h

theorem place_nonneg (ns : List Nm) (a : Nm) : 0 ≤ placeOf ns a := by
  unfold placeOf
  split <;> omega

theorem refK_kind {ns : List Nm} {f : Ft} (hz : nz ∉ ns) (hn : f.n ≠ nz) : refK f (ordAt f.was ns 0) (ordAt f.n ns 0) = kindP ns f.n f.was f.got := by
  unfold refK kindP
  rw [ordAt_place, ordAt_place]
  have h1 := place_nonneg ns f.n
  have h2 := place_nonneg ns f.was
  by_cases hw : f.was = nz
  · have hp : placeOf ns f.was = 0 := by rw [hw]; exact place_none hz
    have hwn : ¬ f.was = f.n := fun e => hn (e ▸ hw)
    by_cases hg : f.got = z0
    · rw [if_pos hw, if_pos hg, if_neg (fun h => h.2 hg), if_neg hwn, if_neg (fun h => h.1 hw), if_neg (by omega)]
    · rw [if_pos hw, if_neg hg, if_pos ⟨hw, hg⟩]
  · rw [if_neg hw, if_neg (show ¬ (f.was = nz ∧ f.got ≠ z0) from fun h => hw h.1)]
    by_cases hwn : f.was = f.n
    · rw [if_pos hwn, if_pos hwn]
    · rw [if_neg hwn, if_neg hwn]
      by_cases hp : placeOf ns f.was = 0
      · rw [if_pos (show placeOf ns f.was - 1 < 0 by omega), if_pos (show f.was ≠ nz ∧ placeOf ns f.was = 0 from ⟨hw, hp⟩)]
      · rw [if_neg (show ¬ placeOf ns f.was - 1 < 0 by omega), if_neg (show ¬ (f.was ≠ nz ∧ placeOf ns f.was = 0) from fun h => hp h.2)]
        have hne : placeOf ns f.was ≠ placeOf ns f.n := fun e => hwn (place_inj e hp)
        by_cases hlt : placeOf ns f.was < placeOf ns f.n
        · rw [if_pos (show placeOf ns f.was - 1 < placeOf ns f.n - 1 by omega), if_neg (show ¬ placeOf ns f.was > placeOf ns f.n by omega)]
        · rw [if_neg (show ¬ placeOf ns f.was - 1 < placeOf ns f.n - 1 by omega), if_pos (show placeOf ns f.was > placeOf ns f.n by omega)]

set_option maxRecDepth 100000 in
set_option maxHeartbeats 4000000 in
theorem kind78_any (ns : List Nm) (v : Value) (f : Ft) (w : World) (hl : ns.length ≤ 100000) (hv : NmRow w v ns) :
    Calls Try.prog 78 #[v, .agg (ftArr f)] w fun e w' => e = .returned (.int .i8 (refK f (ordAt f.was ns 0) (ordAt f.n ns 0))) ∧ Below w.heap.size w w' := by
  obtain ⟨w1, hw1⟩ : ∃ w1, w.alloc (.cells (ftArr f) 59) = w1 := ⟨_, rfl⟩
  have hb1 : Below w.heap.size w w1 := hw1 ▸ below_alloc1 _
  have hx1 : w1.heap[w.heap.size]? = some (.cells (ftArr f) 59 (0, 0)) := hw1 ▸ heap_alloc_new w _
  have HVB := Lib.hid (hv.below hb1)
  obtain ⟨na, nc, rfl, _⟩ := hv
  have hc : ∀ W, Below w1.heap.size w1 W → ∀ j u, (ftArr f)[j]? = some u → W.cell? ⟨w.heap.size, j, none⟩ = some u := fun W hW j u hu => by
    rw [cell_of_row W _ _ _ 59 (0, 0) ((hW.block _ (lt_of_heap hx1)).trans hx1)]; exact hu
  have n0 : w1.cell? ⟨w.heap.size, 1, none⟩ = some (.int .i64 f.n.s) := hc w1 (Below.refl _ _) 1 _ rfl
  have n1 : w1.cell? ⟨w.heap.size, 2, none⟩ = some (.int .i64 f.n.i) := hc w1 (Below.refl _ _) 2 _ rfl
  have n2 : w1.cell? ⟨w.heap.size, 3, none⟩ = some (.int .i64 f.n.t) := hc w1 (Below.refl _ _) 3 _ rfl
  have g0 : w1.cell? ⟨w.heap.size, 13, none⟩ = some (.int .u8 f.got.a) := hc w1 (Below.refl _ _) 13 _ rfl
  have g1 : w1.cell? ⟨w.heap.size, 14, none⟩ = some (.int .u8 f.got.b) := hc w1 (Below.refl _ _) 14 _ rfl
  have g2 : w1.cell? ⟨w.heap.size, 15, none⟩ = some (.int .u8 f.got.c) := hc w1 (Below.refl _ _) 15 _ rfl
  have g3 : w1.cell? ⟨w.heap.size, 16, none⟩ = some (.int .u8 f.got.d) := hc w1 (Below.refl _ _) 16 _ rfl
  have g4 : w1.cell? ⟨w.heap.size, 17, none⟩ = some (.int .u8 f.got.e) := hc w1 (Below.refl _ _) 17 _ rfl
  have g5 : w1.cell? ⟨w.heap.size, 18, none⟩ = some (.int .u8 f.got.f) := hc w1 (Below.refl _ _) 18 _ rfl
  have g6 : w1.cell? ⟨w.heap.size, 19, none⟩ = some (.int .u8 f.got.g) := hc w1 (Below.refl _ _) 19 _ rfl
  have g7 : w1.cell? ⟨w.heap.size, 20, none⟩ = some (.int .u8 f.got.h) := hc w1 (Below.refl _ _) 20 _ rfl
  have s0 : w1.cell? ⟨w.heap.size, 24, none⟩ = some (.int .i64 f.was.s) := hc w1 (Below.refl _ _) 24 _ rfl
  have s1 : w1.cell? ⟨w.heap.size, 25, none⟩ = some (.int .i64 f.was.i) := hc w1 (Below.refl _ _) 25 _ rfl
  have s2 : w1.cell? ⟨w.heap.size, 26, none⟩ = some (.int .i64 f.was.t) := hc w1 (Below.refl _ _) 26 _ rfl
  have ez := fun w => eql_nm_z f.was w
  have eg := fun w => eql_v8_z f.got w
  have en := fun w => eql_nm f.was f.n w
  have HW1 := Lib.hid hw1
  have HB1 := Lib.hid hb1
  have HC := Lib.hid hc
  have HK : Hid (∀ a b, refK f a b = if f.was = nz then (if f.got = z0 then 0 else 4) else if f.was = f.n then 3 else if a < 0 then 2 else if a < b then 0 else 1) := fun _ _ => rfl
  clear hw1 hb1 hx1 hc
  go_enter Try.func78, Try.ntmps78
  go_upto_region 1 with (fail)
  rw [HW1.out]
  by_cases hz : f.was = nz
  · have d1 : decide (f.was = ⟨0, 0, 0⟩) = true := by simpa [nz] using hz
    by_cases hg : f.got = z0
    · have d2 : decide (f.got = ⟨0, 0, 0, 0, 0, 0, 0, 0⟩) = true := by simpa [z0] using hg
      have HR : Hid (∀ a b, refK f a b = 0) := Lib.hid (fun a b => by rw [HK.out, if_pos hz, if_pos hg])
      clear hz hg
      go_wp2_with fail
      go_ret
      exact ⟨by rw [HR.out]; rfl, HB1.out⟩
    · have d2 : decide (f.got = ⟨0, 0, 0, 0, 0, 0, 0, 0⟩) = false := by simpa [z0] using hg
      have HR : Hid (∀ a b, refK f a b = 4) := Lib.hid (fun a b => by rw [HK.out, if_pos hz, if_neg hg])
      clear hz hg
      go_wp2_with fail
      go_ret
      exact ⟨by rw [HR.out]; rfl, HB1.out⟩
  · have d1 : decide (f.was = ⟨0, 0, 0⟩) = false := by simpa [nz] using hz
    by_cases hn : f.was = f.n
    · have d3 : decide (f.was = f.n) = true := by simpa using hn
      have HR : Hid (∀ a b, refK f a b = 3) := Lib.hid (fun a b => by rw [HK.out, if_neg hz, if_pos hn])
      clear hz hn
      go_wp2_with fail
      go_ret
      exact ⟨by rw [HR.out]; rfl, HB1.out⟩
    · have d3 : decide (f.was = f.n) = false := by simpa using hn
      have HR : Hid (∀ a b, refK f a b = if a < 0 then 2 else if a < b then 0 else 1) := Lib.hid (fun a b => by rw [HK.out, if_neg hz, if_neg hn])
      clear hz hn
      go_upto_region 7 with (fail)
      clear n0 n1 n2 g0 g1 g2 g3 g4 g5 g6 g7 s0 s1 s2 ez eg en d1 d3
      have hcw : ∀ Wx, Below w1.heap.size w1 Wx → Wx.cell? ⟨w.heap.size, 24, none⟩ = some (.int .i64 f.was.s) ∧ Wx.cell? ⟨w.heap.size, 25, none⟩ = some (.int .i64 f.was.i) ∧ Wx.cell? ⟨w.heap.size, 26, none⟩ = some (.int .i64 f.was.t) ∧ Wx.cell? ⟨w.heap.size, 1, none⟩ = some (.int .i64 f.n.s) ∧ Wx.cell? ⟨w.heap.size, 2, none⟩ = some (.int .i64 f.n.i) ∧ Wx.cell? ⟨w.heap.size, 3, none⟩ = some (.int .i64 f.n.t) := fun Wx hW =>
        ⟨HC.out Wx hW 24 _ rfl, HC.out Wx hW 25 _ rfl, HC.out Wx hW 26 _ rfl, HC.out Wx hW 1 _ rfl, HC.out Wx hW 2 _ rfl, HC.out Wx hW 3 _ rfl⟩
      have hnr := HVB.out
      have hll := hl
      refine wp_region_frame mixed (by kernel_rfl) [(0, 20, .slice na ns.length nc), (1, 21, .pointer (some ⟨w.heap.size, 24, none⟩)), (2, 22, .agg #[.int .i64 f.was.s, .int .i64 f.was.i, .int .i64 f.was.t]), (3, 23, .int .i64 (ordAt f.was ns 0)), (4, 24, .slice na ns.length nc), (5, 25, .pointer (some ⟨w.heap.size, 1, none⟩)), (6, 26, .agg #[.int .i64 f.n.s, .int .i64 f.n.i, .int .i64 f.n.t]), (7, 27, .int .i64 (ordAt f.n ns 0)), (8, 5, .int .i64 (ordAt f.was ns 0)), (9, 6, .int .i64 (ordAt f.n ns 0))] (fun L Wx => Below w1.heap.size w1 Wx) ?_ ?_ (by rfl) (by rfl) ?_
      · exact (Below.refl _ _).drew
      · intro a0 ps ha0 hps
        have hsz : a0.tmps.size = 33 := by rw [ha0]; rfl
        have u0 : a0.tmps[0]? = some (.slice na ns.length nc) := by rw [ha0]; rfl
        have u3 : a0.tmps[3]? = some (.pointer (some ⟨w.heap.size, 0, none⟩)) := by rw [ha0]; rfl
        have n0 : slotOf ps 0 = none := by rw [hps]; rfl
        have n3 : slotOf ps 3 = none := by rw [hps]; rfl
        have k20 : slotOf ps 20 = some (0, .slice na ns.length nc) := by rw [hps]; rfl
        have q20 : keysOK ps 0 20 = true := by rw [hps]; rfl
        have k21 : slotOf ps 21 = some (1, .pointer (some ⟨w.heap.size, 24, none⟩)) := by rw [hps]; rfl
        have q21 : keysOK ps 1 21 = true := by rw [hps]; rfl
        have k22 : slotOf ps 22 = some (2, .agg #[.int .i64 f.was.s, .int .i64 f.was.i, .int .i64 f.was.t]) := by rw [hps]; rfl
        have q22 : keysOK ps 2 22 = true := by rw [hps]; rfl
        have k23 : slotOf ps 23 = some (3, .int .i64 (ordAt f.was ns 0)) := by rw [hps]; rfl
        have q23 : keysOK ps 3 23 = true := by rw [hps]; rfl
        have k24 : slotOf ps 24 = some (4, .slice na ns.length nc) := by rw [hps]; rfl
        have q24 : keysOK ps 4 24 = true := by rw [hps]; rfl
        have k25 : slotOf ps 25 = some (5, .pointer (some ⟨w.heap.size, 1, none⟩)) := by rw [hps]; rfl
        have q25 : keysOK ps 5 25 = true := by rw [hps]; rfl
        have k26 : slotOf ps 26 = some (6, .agg #[.int .i64 f.n.s, .int .i64 f.n.i, .int .i64 f.n.t]) := by rw [hps]; rfl
        have q26 : keysOK ps 6 26 = true := by rw [hps]; rfl
        have k27 : slotOf ps 27 = some (7, .int .i64 (ordAt f.n ns 0)) := by rw [hps]; rfl
        have q27 : keysOK ps 7 27 = true := by rw [hps]; rfl
        have k5 : slotOf ps 5 = some (8, .int .i64 (ordAt f.was ns 0)) := by rw [hps]; rfl
        have q5 : keysOK ps 8 5 = true := by rw [hps]; rfl
        have k6 : slotOf ps 6 = some (9, .int .i64 (ordAt f.n ns 0)) := by rw [hps]; rfl
        have q6 : keysOK ps 9 6 = true := by rw [hps]; rfl
        clear ha0 hps
        refine ⟨?_, ?_, ?_, ?_, ?_, ?_, ?_, ?_, ?_, ?_, trivial⟩
        · rintro L _ Wx ⟨rfl, hT⟩ hcl hk hd
          rw [if_pos (by simp [Region.wanted])]
          refine op_value (v := .slice na ns.length nc) (w' := Wx) (by simp [execOp, go_sem, frame_tout (n0) u0]) ⟨frame_put (k20) (q20), ?_⟩
          simpa [upd] using hT
        · rintro L _ Wx ⟨rfl, hT⟩ hcl hk hd
          rw [if_pos (by simp [Region.wanted])]
          refine op_value (v := .pointer (some ⟨w.heap.size, 24, none⟩)) (w' := Wx) (by simp [execOp, go_sem, frame_tout (n3) u3]) ⟨frame_put (k21) (q21), ?_⟩
          simpa [upd] using hT
        · rintro L _ Wx ⟨rfl, hT⟩ hcl hk hd
          have hL1 : L 1 = true := by have h := hd; simp [Region.binds] at h; simp [h]
          rw [if_pos (by simp [Region.wanted])]
          refine op_value (v := .agg #[.int .i64 f.was.s, .int .i64 f.was.i, .int .i64 f.was.t]) (w' := Wx) (by simp [execOp, go_sem, frame_tmp (k21) hL1 (Nat.lt_of_lt_of_eq (by decide : 21 < 33) hsz.symm), (hcw _ hT).1, (hcw _ hT).2.1, (hcw _ hT).2.2.1]) ⟨frame_put (k22) (q22), ?_⟩
          simpa [upd] using hT
        · rintro L _ Wx ⟨rfl, hT⟩ hcl hk hd
          have hL0 : L 0 = true := by have h := hd; simp [Region.binds] at h; simp [h]
          have hL2 : L 2 = true := by have h := hd; simp [Region.binds] at h; simp [h]
          rw [if_pos (by simp [Region.wanted])]
          refine op_callP (f := 90) (args := #[.slice na ns.length nc, .agg #[.int .i64 f.was.s, .int .i64 f.was.i, .int .i64 f.was.t]]) (by simp [go_sem, frame_tmp (k20) hL0 (Nat.lt_of_lt_of_eq (by decide : 20 < 33) hsz.symm), frame_tmp (k22) hL2 (Nat.lt_of_lt_of_eq (by decide : 22 < 33) hsz.symm)]) (order90_any ns _ f.was Wx hll (hnr.below hT)) ?_
          rintro e w' ⟨rfl, hb'⟩
          refine ⟨_, rfl, frame_put (k23) (q23), ?_⟩
          exact hT.trans (hb'.mono hT.size)
        · rintro L _ Wx ⟨rfl, hT⟩ hcl hk hd
          rw [if_pos (by simp [Region.wanted])]
          refine op_value (v := .slice na ns.length nc) (w' := Wx) (by simp [execOp, go_sem, frame_tout (n0) u0]) ⟨frame_put (k24) (q24), ?_⟩
          simpa [upd] using hT
        · rintro L _ Wx ⟨rfl, hT⟩ hcl hk hd
          rw [if_pos (by simp [Region.wanted])]
          refine op_value (v := .pointer (some ⟨w.heap.size, 1, none⟩)) (w' := Wx) (by simp [execOp, go_sem, frame_tout (n3) u3]) ⟨frame_put (k25) (q25), ?_⟩
          simpa [upd] using hT
        · rintro L _ Wx ⟨rfl, hT⟩ hcl hk hd
          have hL5 : L 5 = true := by have h := hd; simp [Region.binds] at h; simp [h]
          rw [if_pos (by simp [Region.wanted])]
          refine op_value (v := .agg #[.int .i64 f.n.s, .int .i64 f.n.i, .int .i64 f.n.t]) (w' := Wx) (by simp [execOp, go_sem, frame_tmp (k25) hL5 (Nat.lt_of_lt_of_eq (by decide : 25 < 33) hsz.symm), (hcw _ hT).2.2.2.1, (hcw _ hT).2.2.2.2.1, (hcw _ hT).2.2.2.2.2]) ⟨frame_put (k26) (q26), ?_⟩
          simpa [upd] using hT
        · rintro L _ Wx ⟨rfl, hT⟩ hcl hk hd
          have hL4 : L 4 = true := by have h := hd; simp [Region.binds] at h; simp [h]
          have hL6 : L 6 = true := by have h := hd; simp [Region.binds] at h; simp [h]
          rw [if_pos (by simp [Region.wanted])]
          refine op_callP (f := 90) (args := #[.slice na ns.length nc, .agg #[.int .i64 f.n.s, .int .i64 f.n.i, .int .i64 f.n.t]]) (by simp [go_sem, frame_tmp (k24) hL4 (Nat.lt_of_lt_of_eq (by decide : 24 < 33) hsz.symm), frame_tmp (k26) hL6 (Nat.lt_of_lt_of_eq (by decide : 26 < 33) hsz.symm)]) (order90_any ns _ f.n Wx hll (hnr.below hT)) ?_
          rintro e w' ⟨rfl, hb'⟩
          refine ⟨_, rfl, frame_put (k27) (q27), ?_⟩
          exact hT.trans (hb'.mono hT.size)
        · rintro L _ Wx ⟨rfl, hT⟩ hcl hk hd
          have hL3 : L 3 = true := by have h := hd; simp [Region.binds] at h; simp [h]
          rw [if_pos (by simp [Region.wanted])]
          refine op_value (v := .int .i64 (ordAt f.was ns 0)) (w' := Wx) (by simp [execOp, go_sem, frame_tmp (k23) hL3 (Nat.lt_of_lt_of_eq (by decide : 23 < 33) hsz.symm)]) ⟨frame_put (k5) (q5), ?_⟩
          simpa [upd] using hT
        · rintro L _ Wx ⟨rfl, hT⟩ hcl hk hd
          have hL7 : L 7 = true := by have h := hd; simp [Region.binds] at h; simp [h]
          rw [if_pos (by simp [Region.wanted])]
          refine op_value (v := .int .i64 (ordAt f.n ns 0)) (w' := Wx) (by simp [execOp, go_sem, frame_tmp (k27) hL7 (Nat.lt_of_lt_of_eq (by decide : 27 < 33) hsz.symm)]) ⟨frame_put (k6) (q6), ?_⟩
          simpa [upd] using hT
      · rintro L W' hT hall
        simp only [putAll, Act.put, List.setIfInBounds_toArray, List.set_cons_succ, List.set_cons_zero]
        have HBW := Lib.hid (HB1.out.trans (hT.mono HB1.out.size))
        clear hT hall hcw hnr
        generalize hqa : ordAt f.was ns 0 = a at *
        generalize hqb : ordAt f.n ns 0 = b at *
        have HQA := Lib.hid hqa
        have HQB := Lib.hid hqb
        clear hqa hqb
        by_cases ha : a < 0
        · have e_a : decide (a < 0) = true := by simp; omega
          have HR2 : Hid (refK f a b = 2) := Lib.hid (by rw [HR.out, if_pos ha])
          clear ha
          go_wp2_with fail
          go_ret
          exact ⟨by rw [HQA.out, HQB.out, HR2.out]; rfl, HBW.out⟩
        · have e_a : decide (a < 0) = false := by simp; omega
          by_cases hab : a < b
          · have e_b : decide (a < b) = true := by simp; omega
            have HR2 : Hid (refK f a b = 0) := Lib.hid (by rw [HR.out, if_neg ha, if_pos hab])
            clear ha hab
            go_wp2_with fail
            go_ret
            exact ⟨by rw [HQA.out, HQB.out, HR2.out]; rfl, HBW.out⟩
          · have e_b : decide (a < b) = false := by simp; omega
            have HR2 : Hid (refK f a b = 1) := Lib.hid (by rw [HR.out, if_neg ha, if_neg hab])
            clear ha hab
            go_wp2_with fail
            go_ret
            exact ⟨by rw [HQA.out, HQB.out, HR2.out]; rfl, HBW.out⟩

end Go.Proofs.Ytgdmgeihgkbjaaa

