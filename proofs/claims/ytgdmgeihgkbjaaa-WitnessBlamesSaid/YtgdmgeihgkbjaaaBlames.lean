/- 'cashboxlaw32.WitnessBlames' -/
import Derived.Test.YtgdmgeihgkbjaaaBlameLaw
import Derived.Deep.MidRow
import Derived.BigQuiet
namespace Go.Proofs.Ytgdmgeihgkbjaaa
open Go.RowKit Go.Shelf Go.BigFrame

theorem ld_ft_row {w : World} {b off q : Nat} {l : List Ft} {f : Ft} (hr : RowsAt Ft.cells 28 w b off l) (hx : l[q]? = some f) : (loadVar 59 ⟨b, off + q * 28, none⟩).run Try.prog w = .ok (.agg (ftArr f)) w :=
  run_loadVar_mid w b (off + q * 28) 59 f.cells _ (fun j v hv => hr q f hx j v hv) Try.underlying59 rfl info59

theorem wrong_err (l : List Sn) (v : Value) (w : World) (hl : l.length ≤ 100000) (hv : Sns w.heap.size w v l) (hm : mayP l = false) :
    Calls Try.prog 29 #[v] w fun e w' => e = .returned (.tuple #[slNil, .int .i64 2]) ∧ Below w.heap.size w w' := by
  refine (wrong_any l v w hl hv).mono ?_
  rintro e w' ⟨h, hb⟩
  rcases h with ⟨_, h⟩ | ⟨h, _⟩
  · exact ⟨h, hb⟩
  · rw [hm] at h; cases h

theorem wrong_ok (l : List Sn) (v : Value) (w : World) (hl : l.length ≤ 100000) (hv : Sns w.heap.size w v l) (hm : mayP l = true) :
    Calls Try.prog 29 #[v] w fun e w' => ∃ a c, e = .returned (.tuple #[.slice a (wrongP l).length c, .int .i64 0]) ∧ (∀ (q : Nat) (f : Ft), (wrongP l)[q]? = some f → ∃ b, a = some ⟨b, 0, none⟩ ∧ b < w'.heap.size ∧ RowsAt Ft.cells 28 w' b 0 (wrongP l)) ∧ Below w.heap.size w w' := by
  refine (wrong_any l v w hl hv).mono ?_
  rintro e w' ⟨h, hb⟩
  rcases h with ⟨h, _⟩ | ⟨_, vo, rfl, hr⟩
  · rw [hm] at h; cases h
  · obtain ⟨a, c, rfl⟩ := ownsRow_slice hr
    refine ⟨a, c, rfl, fun q f hf => ?_, hb⟩
    obtain ⟨_, _, e, hn, ha⟩ := rows_of_owns (enc := Ft.cells) (k := 28) (fun _ => rfl) hr
    cases e
    have hlt : 0 < (wrongP l).length := by have := (List.getElem?_eq_some_iff.1 hf).1; omega
    rcases hr.2 with ⟨_, h0⟩ | ⟨g, cap, cur, e1, _, _⟩
    · omega
    · cases e1
      obtain ⟨_, h2, h3⟩ := ha g 0 none rfl hlt
      exact ⟨g, rfl, h2, h3⟩

/-- What a round of the law reads. -/
def BlF (W : World) (B lb loff i : Nat) (x : Sn) (fw : V8) (fs fwas : Nm) (fk : Int) : Prop := W.cell? ⟨B, 0, none⟩ = some (.int .i64 (i : Int)) ∧ W.cell? ⟨B, 1, none⟩ = some (.int .i64 x.n.s) ∧ W.cell? ⟨B, 2, none⟩ = some (.int .i64 x.n.i) ∧ W.cell? ⟨B, 3, none⟩ = some (.int .i64 x.n.t) ∧ W.cell? ⟨B, 4, none⟩ = some (.int .i64 x.b) ∧ W.cell? ⟨B, 5, none⟩ = some (.int .u8 fw.a) ∧ W.cell? ⟨B, 6, none⟩ = some (.int .u8 fw.b) ∧ W.cell? ⟨B, 7, none⟩ = some (.int .u8 fw.c) ∧ W.cell? ⟨B, 8, none⟩ = some (.int .u8 fw.d) ∧ W.cell? ⟨B, 9, none⟩ = some (.int .u8 fw.e) ∧ W.cell? ⟨B, 10, none⟩ = some (.int .u8 fw.f) ∧ W.cell? ⟨B, 11, none⟩ = some (.int .u8 fw.g) ∧ W.cell? ⟨B, 12, none⟩ = some (.int .u8 fw.h) ∧ W.cell? ⟨B, 13, none⟩ = some (.int .u8 x.v.a) ∧ W.cell? ⟨B, 14, none⟩ = some (.int .u8 x.v.b) ∧ W.cell? ⟨B, 15, none⟩ = some (.int .u8 x.v.c) ∧ W.cell? ⟨B, 16, none⟩ = some (.int .u8 x.v.d) ∧ W.cell? ⟨B, 17, none⟩ = some (.int .u8 x.v.e) ∧ W.cell? ⟨B, 18, none⟩ = some (.int .u8 x.v.f) ∧ W.cell? ⟨B, 19, none⟩ = some (.int .u8 x.v.g) ∧ W.cell? ⟨B, 20, none⟩ = some (.int .u8 x.v.h) ∧ W.cell? ⟨B, 21, none⟩ = some (.int .i64 fs.s) ∧ W.cell? ⟨B, 22, none⟩ = some (.int .i64 fs.i) ∧ W.cell? ⟨B, 23, none⟩ = some (.int .i64 fs.t) ∧ W.cell? ⟨B, 24, none⟩ = some (.int .i64 fwas.s) ∧ W.cell? ⟨B, 25, none⟩ = some (.int .i64 fwas.i) ∧ W.cell? ⟨B, 26, none⟩ = some (.int .i64 fwas.t) ∧ W.cell? ⟨B, 27, none⟩ = some (.int .i8 fk) ∧ W.cell? ⟨lb, loff + i * 14, none⟩ = some (.int .i8 x.k) ∧ W.cell? ⟨lb, loff + i * 14 + 1, none⟩ = some (.int .i64 x.n.s) ∧ W.cell? ⟨lb, loff + i * 14 + 2, none⟩ = some (.int .i64 x.n.i) ∧ W.cell? ⟨lb, loff + i * 14 + 3, none⟩ = some (.int .i64 x.n.t) ∧ W.cell? ⟨lb, loff + i * 14 + 4, none⟩ = some (.int .i64 x.b) ∧ W.cell? ⟨lb, loff + i * 14 + 5, none⟩ = some (.int .u8 x.v.a) ∧ W.cell? ⟨lb, loff + i * 14 + 6, none⟩ = some (.int .u8 x.v.b) ∧ W.cell? ⟨lb, loff + i * 14 + 7, none⟩ = some (.int .u8 x.v.c) ∧ W.cell? ⟨lb, loff + i * 14 + 8, none⟩ = some (.int .u8 x.v.d) ∧ W.cell? ⟨lb, loff + i * 14 + 9, none⟩ = some (.int .u8 x.v.e) ∧ W.cell? ⟨lb, loff + i * 14 + 10, none⟩ = some (.int .u8 x.v.f) ∧ W.cell? ⟨lb, loff + i * 14 + 11, none⟩ = some (.int .u8 x.v.g) ∧ W.cell? ⟨lb, loff + i * 14 + 12, none⟩ = some (.int .u8 x.v.h)

theorem blF_of {w3 W : World} {B lb loff i : Nat} {x : Sn} {fw : V8} {fs fwas : Nm} {fk : Int} {l : List Sn} (hb : Below w3.heap.size w3 W) (hbx : w3.heap[B]? = some (.cells (ftArr ⟨(i : Int), x.n, x.b, fw, x.v, fs, fwas, fk⟩) 59 (0, 0)))
    (hlb : lb < w3.heap.size) (hlr : RowsAt Sn.cells 14 w3 lb loff l) (hx : l[i]? = some x) : BlF W B lb loff i x fw fs fwas fk := by
  have hbW := (hb.block _ (lt_of_heap hbx)).trans hbx
  obtain ⟨c0, c1, c2, c3, c4, c5, c6, c7, c8, c9, c10, c11, c12, c13⟩ := (hlr.below hlb hb).sn hx
  exact ⟨(by rw [cell_of_row W _ _ _ 59 (0, 0) hbW]; rfl), (by rw [cell_of_row W _ _ _ 59 (0, 0) hbW]; rfl), (by rw [cell_of_row W _ _ _ 59 (0, 0) hbW]; rfl), (by rw [cell_of_row W _ _ _ 59 (0, 0) hbW]; rfl), (by rw [cell_of_row W _ _ _ 59 (0, 0) hbW]; rfl), (by rw [cell_of_row W _ _ _ 59 (0, 0) hbW]; rfl), (by rw [cell_of_row W _ _ _ 59 (0, 0) hbW]; rfl), (by rw [cell_of_row W _ _ _ 59 (0, 0) hbW]; rfl), (by rw [cell_of_row W _ _ _ 59 (0, 0) hbW]; rfl), (by rw [cell_of_row W _ _ _ 59 (0, 0) hbW]; rfl), (by rw [cell_of_row W _ _ _ 59 (0, 0) hbW]; rfl), (by rw [cell_of_row W _ _ _ 59 (0, 0) hbW]; rfl), (by rw [cell_of_row W _ _ _ 59 (0, 0) hbW]; rfl), (by rw [cell_of_row W _ _ _ 59 (0, 0) hbW]; rfl), (by rw [cell_of_row W _ _ _ 59 (0, 0) hbW]; rfl), (by rw [cell_of_row W _ _ _ 59 (0, 0) hbW]; rfl), (by rw [cell_of_row W _ _ _ 59 (0, 0) hbW]; rfl), (by rw [cell_of_row W _ _ _ 59 (0, 0) hbW]; rfl), (by rw [cell_of_row W _ _ _ 59 (0, 0) hbW]; rfl), (by rw [cell_of_row W _ _ _ 59 (0, 0) hbW]; rfl), (by rw [cell_of_row W _ _ _ 59 (0, 0) hbW]; rfl), (by rw [cell_of_row W _ _ _ 59 (0, 0) hbW]; rfl), (by rw [cell_of_row W _ _ _ 59 (0, 0) hbW]; rfl), (by rw [cell_of_row W _ _ _ 59 (0, 0) hbW]; rfl), (by rw [cell_of_row W _ _ _ 59 (0, 0) hbW]; rfl), (by rw [cell_of_row W _ _ _ 59 (0, 0) hbW]; rfl), (by rw [cell_of_row W _ _ _ 59 (0, 0) hbW]; rfl), (by rw [cell_of_row W _ _ _ 59 (0, 0) hbW]; rfl), c0, c1, c2, c3, c4, c5, c6, c7, c8, c9, c10, c11, c12⟩

set_option maxRecDepth 100000 in
set_option maxHeartbeats 4000000 in
theorem blames_bad (l : List Sn) (v : Value) (w : World) (hv : Sns w.heap.size w v l) (hb : 300 < l.length) : Calls Try.prog 8 #[v] w fun e w' => e = .returned (.bool true) ∧ Below w.heap.size w w' := by
  obtain ⟨a, cap, rfl, _, _⟩ := hv
  go_enter Try.func8, Try.ntmps8
  go_wp2_with fail
  refine (wakes32_any _).mono ?_
  rintro e w' ⟨rfl, bel⟩
  go_wp2_with fail
  go_ret
  exact ⟨rfl, bel⟩

set_option maxRecDepth 100000 in
set_option maxHeartbeats 4000000 in
theorem blames_err (l : List Sn) (v : Value) (w : World) (hv : Sns w.heap.size w v l) (hb : l.length ≤ 300) (hm : mayP l = false) : Calls Try.prog 8 #[v] w fun e w' => e = .returned (.bool true) ∧ Below w.heap.size w w' := by
  have HC := Lib.hid (wrong_err l v w (by omega) hv hm)
  obtain ⟨a, cap, rfl, _, _⟩ := hv
  go_enter Try.func8, Try.ntmps8
  go_wp2_with fail
  refine HC.out.mono ?_
  rintro e w' ⟨rfl, bel⟩
  have BEL := Lib.hid bel
  clear bel
  simp only [slNil]
  go_wp2_with fail
  refine (wakes32_any _).mono ?_
  rintro e w2 ⟨rfl, bel2⟩
  have BEL2 := Lib.hid (BEL.out.trans (bel2.mono BEL.out.size))
  clear bel2
  go_wp2_with fail
  go_ret
  exact ⟨rfl, BEL2.out⟩

set_option maxRecDepth 100000 in
set_option maxHeartbeats 4000000 in
theorem blames_ok (l : List Sn) (v : Value) (w : World) (hv : Sns w.heap.size w v l) (hb : l.length ≤ 300) (hm : mayP l = true) (hcap : ∀ a n c, v = .slice a n c → n ≤ c) : Calls Try.prog 8 #[v] w fun e w' => e = .returned (.bool true) ∧ Below w.heap.size w w' := by
  have HC := Lib.hid (wrong_ok l v w (by omega) hv hm)
  obtain ⟨va, vc, rfl, hn, ha⟩ := hv
  have hcp := hcap _ _ _ rfl
  have HCP := Lib.hid hcp
  clear hcap hcp
  have HN := Lib.hid hn
  have HA := Lib.hid ha
  have hwl : (wrongP l).length ≤ 10000000000 := Nat.le_trans (List.length_filter_le _ _) (reads_length (by omega))
  have HM := Lib.hid hm
  clear hn ha hm
  go_enter Try.func8, Try.ntmps8
  go_wp2_with fail
  refine HC.out.mono ?_
  rintro e w2 ⟨a, c, rfl, hrow, bel⟩
  have HROW := Lib.hid hrow
  have BEL := Lib.hid bel
  clear hrow bel
  go_wp2_with fail
  go_loopw [5] (fun io wr => ∃ q : Nat, q ≤ (wrongP l).length ∧ io = .int .i64 q ∧ Below w2.heap.size w2 wr) (fun io _ => (wrongP l).length - (intOf io).toNat)
  case atStart => exact ⟨0, Nat.zero_le _, rfl, Below.refl _ _⟩
  case round =>
    obtain ⟨q, hq, rfl, hB⟩ := hrel
    have HB := Lib.hid hB
    clear hB
    by_cases hlt : q < (wrongP l).length
    · obtain ⟨f, hf⟩ : ∃ f, (wrongP l)[q]? = some f := ⟨_, List.getElem?_eq_getElem hlt⟩
      obtain ⟨i, x, hbl⟩ := blame_ok HM.out (List.mem_of_getElem? hf)
      obtain ⟨g, rfl, hg, hfr⟩ := HROW.out q f hf
      obtain ⟨fi, fn, fb, fw, fg, fs, fwas, fk⟩ := f
      obtain ⟨h1, hx, hk, h2, h3, h4, hne, hs0, hs1, hw0, hw1, hk0, hk4, hk3, hkn⟩ := hbl
      simp only at h1 h2 h3 h4 hne hs0 hs1 hw0 hw1 hk0 hk4 hk3 hkn
      subst h1 h2 h3 h4
      have hil : i < l.length := (List.getElem?_eq_some_iff.1 hx).1
      obtain ⟨lb, loff, rfl, hlb, hlr⟩ := rows_some HN.out HA.out (q := i) hil
      have hld := ld_ft_row (hfr.below hg HB.out) hf
      rw [Nat.zero_add] at hld
      obtain ⟨w3, hw3⟩ : ∃ w3, wr.alloc (.cells (ftArr ⟨(i : Int), x.n, x.b, fw, x.v, fs, fwas, fk⟩) 59) = w3 := ⟨_, rfl⟩
      have hb3 : Below w2.heap.size w2 w3 := hw3 ▸ HB.out.alloc HB.out.size _
      have hbw : Below w.heap.size w w3 := BEL.out.trans (hb3.mono BEL.out.size)
      have hbx : w3.heap[wr.heap.size]? = some (.cells (ftArr ⟨(i : Int), x.n, x.b, fw, x.v, fs, fwas, fk⟩) 59 (0, 0)) := hw3 ▸ heap_alloc_new wr _
      have HB3 := Lib.hid hb3
      have HLD := Lib.hid hld
      have HW3 := Lib.hid hw3
      have HBX := Lib.hid hbx
      have HBW := Lib.hid hbw
      have HLR := Lib.hid (hlr.below hlb hbw)
      have HX := Lib.hid hx
      have HLT := Lib.hid hlt
      have HBL := Lib.hid (And.intro hne (And.intro hs0 (And.intro hs1 (And.intro hw0 (And.intro hw1 (And.intro hk0 (And.intro hk4 (And.intro hk3 hkn))))))))
      have hk1 : (x.k == 1) = true := by simp [hk]
      have hk2 : (x.k != 1) = false := by simp [hk]
      have HK := Lib.hid hk
      clear hf hfr hld hw3 hbx hbw hlr hx hlt hne hs0 hs1 hw0 hw1 hk0 hk4 hk3 hkn hb3 hk
      go_upto_region 10 with (first | (refine wpList_load rfl 59 (.tmp 32) rfl ⟨g, q * 28, none⟩ rfl (.agg (ftArr ⟨(i : Int), x.n, x.b, fw, x.v, fs, fwas, fk⟩)) HLD.out ?_) | (refine wpList_store rfl 59 (.tmp 6) (.tmp 33) rfl ⟨wr.heap.size, 0, none⟩ rfl (.agg (ftArr ⟨(i : Int), x.n, x.b, fw, x.v, fs, fwas, fk⟩)) rfl (st_ft wr _) ?_))
      rw [HW3.out]
      have HF : Hid (∀ W, Below w3.heap.size w3 W → BlF W wr.heap.size lb loff i x fw fs fwas fk) := fun W hW => blF_of hW HBX.out (by have := HBW.out.size; omega) HLR.out HX.out
      have HS : Hid (∀ W, Below w3.heap.size w3 W → Sns W.heap.size W (.slice (some ⟨lb, loff, none⟩) l.length vc) l) := fun W hW => ⟨_, vc, rfl, (fun h => by cases h), fun b off s e _ => by
        cases e
        exact ⟨rfl, by have := HBW.out.size; have := hW.size; omega, HLR.out.below (by have := HBW.out.size; omega) hW⟩⟩
      obtain ⟨hne, hs0, hs1, hw0, hw1, hk0, hk4, hk3, hkn⟩ := HBL.out
      have hq1 := fun w => neq_nm x.n x.n w
      have hq2 := fun w => neq_v8 x.v x.v w
      have hq3 := fun w => eql_v8 fw x.v w
      have hd3 : decide (fw = x.v) = false := by simpa using hne
      have hd4 : decide ((i : Int) < 0) = false := by simp
      have hd5 : decide ((i : Int) ≥ (l.length : Int)) = false := by simp; omega
      have hd8 : (0 : Int) ≤ (i : Int) := by omega
      have hd9 : (i : Int) < (l.length : Int) := by omega
      have hd10 : decide (l.length ≤ i) = false := by simp; omega
      have hd6 : ¬ ((i : Int) < 0) := by omega
      have hd7 : ¬ ((l.length : Int) ≤ (i : Int)) := by omega
      obtain ⟨e0, e1, e2, e3, e4, e5, e6, e7, e8, e9, e10, e11, e12, e13, e14, e15, e16, e17, e18, e19, e20, e21, e22, e23, e24, e25, e26, e27, c0, c1, c2, c3, c4, c5, c6, c7, c8, c9, c10, c11, c12⟩ := HF.out w3 (Below.refl _ _)
      clear hs0 hs1 hw0 hw1 hk0 hk4 hk3 hkn hne
      go_wp2_with fail
      go_quiet (fail)
      obtain ⟨w4, hw4⟩ : ∃ w4, w3.drewN nq = w4 := ⟨_, rfl⟩
      rw [hw4]
      have HB4 : Hid (Below w3.heap.size w3 w4) := hw4 ▸ ⟨rfl, rfl, rfl, Nat.le_refl _, fun _ _ => rfl⟩
      clear e0 e1 e2 e3 e4 e5 e6 e7 e8 e9 e10 e11 e12 e13 e14 e15 e16 e17 e18 e19 e20 e21 e22 e23 e24 e25 e26 e27 c0 c1 c2 c3 c4 c5 c6 c7 c8 c9 c10 c11 c12 hw4 hq1 hq2 hq3 hd3 hd4 hd5 hd6 hd7 hd8 hd9 hd10
      obtain ⟨e0, e1, e2, e3, e4, e5, e6, e7, e8, e9, e10, e11, e12, e13, e14, e15, e16, e17, e18, e19, e20, e21, e22, e23, e24, e25, e26, e27, c0, c1, c2, c3, c4, c5, c6, c7, c8, c9, c10, c11, c12⟩ := HF.out w4 HB4.out
      have hsz := fun w => eql_nm_z fs w
      have hsn := fun w => neq_nm_z fs w
      have hfz := fun w => neq_v8_z fw w
      by_cases hs : fs = nz
      · have hdS : decide (fs = ⟨0, 0, 0⟩) = true := by simpa [nz] using hs
        have hdW : decide (fw = ⟨0, 0, 0, 0, 0, 0, 0, 0⟩) = true := by simpa [z0] using HBL.out.2.1 hs
        go_wp2_with fail
        clear e0 e1 e2 e3 e4 e5 e6 e7 e8 e9 e10 e11 e12 e13 e14 e15 e16 e17 e18 e19 e20 e21 e22 e23 e24 e25 e26 e27 c0 c1 c2 c3 c4 c5 c6 c7 c8 c9 c10 c11 c12 hdS hdW hsz hsn hfz hs
        obtain ⟨w5, hw5⟩ : ∃ w5, w5 = w4 := ⟨_, rfl⟩
        rw [← hw5]
        have HB5 : Hid (Below w3.heap.size w3 w5) := hw5 ▸ HB4.out
        clear hw5
        · have hez := fun w => eql_nm_z fwas w
          have hnz := fun w => neq_nm_z fwas w
          have hcp := HCP.out
          have hi0 : (0 : Int) ≤ (i : Int) := by omega
          have hic : (i : Int) ≤ (vc : Int) := by omega
          by_cases hwz : fwas = nz
          · have hdz : decide (fwas = ⟨0, 0, 0⟩) = true := by simpa [nz] using hwz
            have hBy : ∀ Wx, Below w5.heap.size w5 Wx → Calls Try.prog 31 #[.slice (some ⟨lb, loff, none⟩) i vc, .int .i64 x.b, .agg #[.int .u8 x.v.a, .int .u8 x.v.b, .int .u8 x.v.c, .int .u8 x.v.d, .int .u8 x.v.e, .int .u8 x.v.f, .int .u8 x.v.g, .int .u8 x.v.h]] Wx fun e w' => e = .returned (.bool false) ∧ Below Wx.heap.size Wx w' := fun Wx hT => by
              have h := wroteBy_any (l.take i) (.slice (some ⟨lb, loff, none⟩) (l.take i).length vc) x.b x.v Wx (by rw [List.length_take]; omega) (sns_take (HS.out Wx (HB5.out.trans (hT.mono HB5.out.size))) i (by omega))
              rw [List.length_take, Nat.min_eq_left (by omega), HBL.out.2.2.2.1 hwz] at h
              exact h
            go_wp2_with fail
            -- BEGIN CAZ
            refine wp_region_frame mixed (by kernel_rfl) [(0, 120, .pointer (some ⟨wr.heap.size, 24, none⟩)), (1, 121, .agg #[.int .i64 fwas.s, .int .i64 fwas.i, .int .i64 fwas.t]), (2, 122, .agg #[.int .i64 0, .int .i64 0, .int .i64 0]), (3, 123, .bool true), (4, 124, .bool true), (5, 125, .slice (some ⟨lb, loff, none⟩) l.length vc), (6, 126, .pointer (some ⟨wr.heap.size, 0, none⟩)), (7, 127, .int .i64 (i : Int)), (8, 128, .slice (some ⟨lb, loff, none⟩) i vc), (9, 129, .pointer (some ⟨wr.heap.size, 4, none⟩)), (10, 130, .int .i64 x.b), (11, 131, .pointer (some ⟨wr.heap.size, 13, none⟩)), (12, 132, .agg #[.int .u8 x.v.a, .int .u8 x.v.b, .int .u8 x.v.c, .int .u8 x.v.d, .int .u8 x.v.e, .int .u8 x.v.f, .int .u8 x.v.g, .int .u8 x.v.h]), (13, 133, .bool false), (14, 134, .bool false), (15, 135, .bool false), (16, 136, .pointer (some ⟨wr.heap.size, 24, none⟩)), (17, 137, .agg #[.int .i64 fwas.s, .int .i64 fwas.i, .int .i64 fwas.t]), (18, 138, .agg #[.int .i64 0, .int .i64 0, .int .i64 0]), (19, 139, .bool false), (20, 140, .bool false), (21, 141, undef), (22, 142, undef), (23, 143, undef), (24, 144, undef), (25, 145, undef), (26, 146, undef), (27, 147, undef), (28, 148, undef), (29, 149, undef), (30, 150, undef), (31, 151, undef), (32, 152, undef), (33, 153, .bool false), (34, 154, .bool false)] (fun L Wx => Below w5.heap.size w5 Wx) ?_ ?_ (by rfl) (by rfl) ?_
            · exact (Below.refl _ _).drew
            · intro a0 ps ha0 hps
              have hsz : a0.tmps.size = 186 := by rw [ha0]; rfl
              have u0 : a0.tmps[0]? = some (.slice (some ⟨lb, loff, none⟩) l.length vc) := by rw [ha0]; rfl
              have u6 : a0.tmps[6]? = some (.pointer (some ⟨wr.heap.size, 0, none⟩)) := by rw [ha0]; rfl
              have n0 : slotOf ps 0 = none := by rw [hps]; rfl
              have n6 : slotOf ps 6 = none := by rw [hps]; rfl
              have k120 : slotOf ps 120 = some (0, .pointer (some ⟨wr.heap.size, 24, none⟩)) := by rw [hps]; rfl
              have q120 : keysOK ps 0 120 = true := by rw [hps]; rfl
              have k121 : slotOf ps 121 = some (1, .agg #[.int .i64 fwas.s, .int .i64 fwas.i, .int .i64 fwas.t]) := by rw [hps]; rfl
              have q121 : keysOK ps 1 121 = true := by rw [hps]; rfl
              have k122 : slotOf ps 122 = some (2, .agg #[.int .i64 0, .int .i64 0, .int .i64 0]) := by rw [hps]; rfl
              have q122 : keysOK ps 2 122 = true := by rw [hps]; rfl
              have k123 : slotOf ps 123 = some (3, .bool true) := by rw [hps]; rfl
              have q123 : keysOK ps 3 123 = true := by rw [hps]; rfl
              have k124 : slotOf ps 124 = some (4, .bool true) := by rw [hps]; rfl
              have q124 : keysOK ps 4 124 = true := by rw [hps]; rfl
              have k125 : slotOf ps 125 = some (5, .slice (some ⟨lb, loff, none⟩) l.length vc) := by rw [hps]; rfl
              have q125 : keysOK ps 5 125 = true := by rw [hps]; rfl
              have k126 : slotOf ps 126 = some (6, .pointer (some ⟨wr.heap.size, 0, none⟩)) := by rw [hps]; rfl
              have q126 : keysOK ps 6 126 = true := by rw [hps]; rfl
              have k127 : slotOf ps 127 = some (7, .int .i64 (i : Int)) := by rw [hps]; rfl
              have q127 : keysOK ps 7 127 = true := by rw [hps]; rfl
              have k128 : slotOf ps 128 = some (8, .slice (some ⟨lb, loff, none⟩) i vc) := by rw [hps]; rfl
              have q128 : keysOK ps 8 128 = true := by rw [hps]; rfl
              have k129 : slotOf ps 129 = some (9, .pointer (some ⟨wr.heap.size, 4, none⟩)) := by rw [hps]; rfl
              have q129 : keysOK ps 9 129 = true := by rw [hps]; rfl
              have k130 : slotOf ps 130 = some (10, .int .i64 x.b) := by rw [hps]; rfl
              have q130 : keysOK ps 10 130 = true := by rw [hps]; rfl
              have k131 : slotOf ps 131 = some (11, .pointer (some ⟨wr.heap.size, 13, none⟩)) := by rw [hps]; rfl
              have q131 : keysOK ps 11 131 = true := by rw [hps]; rfl
              have k132 : slotOf ps 132 = some (12, .agg #[.int .u8 x.v.a, .int .u8 x.v.b, .int .u8 x.v.c, .int .u8 x.v.d, .int .u8 x.v.e, .int .u8 x.v.f, .int .u8 x.v.g, .int .u8 x.v.h]) := by rw [hps]; rfl
              have q132 : keysOK ps 12 132 = true := by rw [hps]; rfl
              have k133 : slotOf ps 133 = some (13, .bool false) := by rw [hps]; rfl
              have q133 : keysOK ps 13 133 = true := by rw [hps]; rfl
              have k134 : slotOf ps 134 = some (14, .bool false) := by rw [hps]; rfl
              have q134 : keysOK ps 14 134 = true := by rw [hps]; rfl
              have k135 : slotOf ps 135 = some (15, .bool false) := by rw [hps]; rfl
              have q135 : keysOK ps 15 135 = true := by rw [hps]; rfl
              have k136 : slotOf ps 136 = some (16, .pointer (some ⟨wr.heap.size, 24, none⟩)) := by rw [hps]; rfl
              have q136 : keysOK ps 16 136 = true := by rw [hps]; rfl
              have k137 : slotOf ps 137 = some (17, .agg #[.int .i64 fwas.s, .int .i64 fwas.i, .int .i64 fwas.t]) := by rw [hps]; rfl
              have q137 : keysOK ps 17 137 = true := by rw [hps]; rfl
              have k138 : slotOf ps 138 = some (18, .agg #[.int .i64 0, .int .i64 0, .int .i64 0]) := by rw [hps]; rfl
              have q138 : keysOK ps 18 138 = true := by rw [hps]; rfl
              have k139 : slotOf ps 139 = some (19, .bool false) := by rw [hps]; rfl
              have q139 : keysOK ps 19 139 = true := by rw [hps]; rfl
              have k140 : slotOf ps 140 = some (20, .bool false) := by rw [hps]; rfl
              have q140 : keysOK ps 20 140 = true := by rw [hps]; rfl
              have k141 : slotOf ps 141 = some (21, undef) := by rw [hps]; rfl
              have q141 : keysOK ps 21 141 = true := by rw [hps]; rfl
              have k142 : slotOf ps 142 = some (22, undef) := by rw [hps]; rfl
              have q142 : keysOK ps 22 142 = true := by rw [hps]; rfl
              have k143 : slotOf ps 143 = some (23, undef) := by rw [hps]; rfl
              have q143 : keysOK ps 23 143 = true := by rw [hps]; rfl
              have k144 : slotOf ps 144 = some (24, undef) := by rw [hps]; rfl
              have q144 : keysOK ps 24 144 = true := by rw [hps]; rfl
              have k145 : slotOf ps 145 = some (25, undef) := by rw [hps]; rfl
              have q145 : keysOK ps 25 145 = true := by rw [hps]; rfl
              have k146 : slotOf ps 146 = some (26, undef) := by rw [hps]; rfl
              have q146 : keysOK ps 26 146 = true := by rw [hps]; rfl
              have k147 : slotOf ps 147 = some (27, undef) := by rw [hps]; rfl
              have q147 : keysOK ps 27 147 = true := by rw [hps]; rfl
              have k148 : slotOf ps 148 = some (28, undef) := by rw [hps]; rfl
              have q148 : keysOK ps 28 148 = true := by rw [hps]; rfl
              have k149 : slotOf ps 149 = some (29, undef) := by rw [hps]; rfl
              have q149 : keysOK ps 29 149 = true := by rw [hps]; rfl
              have k150 : slotOf ps 150 = some (30, undef) := by rw [hps]; rfl
              have q150 : keysOK ps 30 150 = true := by rw [hps]; rfl
              have k151 : slotOf ps 151 = some (31, undef) := by rw [hps]; rfl
              have q151 : keysOK ps 31 151 = true := by rw [hps]; rfl
              have k152 : slotOf ps 152 = some (32, undef) := by rw [hps]; rfl
              have q152 : keysOK ps 32 152 = true := by rw [hps]; rfl
              have k153 : slotOf ps 153 = some (33, .bool false) := by rw [hps]; rfl
              have q153 : keysOK ps 33 153 = true := by rw [hps]; rfl
              have k154 : slotOf ps 154 = some (34, .bool false) := by rw [hps]; rfl
              have q154 : keysOK ps 34 154 = true := by rw [hps]; rfl
              clear ha0 hps
              refine ⟨?_, ?_, ?_, ?_, ?_, ?_, ?_, ?_, ?_, ?_, ?_, ?_, ?_, ?_, ?_, ?_, ?_, ?_, ?_, ?_, ?_, ?_, ?_, ?_, ?_, ?_, ?_, ?_, ?_, ?_, ?_, ?_, ?_, ?_, ?_, trivial⟩
              · rintro L _ Wx ⟨rfl, hT⟩ hcl hk hd
                rw [if_pos (by simp [Region.wanted])]
                refine op_value (v := .pointer (some ⟨wr.heap.size, 24, none⟩)) (w' := Wx) (by simp [execOp, go_sem, frame_tout (n6) u6]) ⟨frame_put (k120) (q120), ?_⟩
                simpa [upd] using hT
              · rintro L _ Wx ⟨rfl, hT⟩ hcl hk hd
                have hL0 : L 0 = true := by have h := hd; simp [Region.binds] at h; simp [h]
                rw [if_pos (by simp [Region.wanted])]
                obtain ⟨e0, e1, e2, e3, e4, e5, e6, e7, e8, e9, e10, e11, e12, e13, e14, e15, e16, e17, e18, e19, e20, e21, e22, e23, e24, e25, e26, e27, c0, c1, c2, c3, c4, c5, c6, c7, c8, c9, c10, c11, c12⟩ := HF.out Wx (HB5.out.trans (hT.mono HB5.out.size))
                refine op_value (v := .agg #[.int .i64 fwas.s, .int .i64 fwas.i, .int .i64 fwas.t]) (w' := Wx) (by simp [execOp, go_sem, frame_tmp (k120) hL0 (Nat.lt_of_lt_of_eq (by decide : 120 < 186) hsz.symm), e24, e25, e26]) ⟨frame_put (k121) (q121), ?_⟩
                simpa [upd] using hT
              · rintro L _ Wx ⟨rfl, hT⟩ hcl hk hd
                rw [if_pos (by simp [Region.wanted])]
                refine op_value (v := .agg #[.int .i64 0, .int .i64 0, .int .i64 0]) (w' := Wx) (by simp [execOp, go_sem]) ⟨frame_put (k122) (q122), ?_⟩
                simpa [upd] using hT
              · rintro L _ Wx ⟨rfl, hT⟩ hcl hk hd
                have hL1 : L 1 = true := by have h := hd; simp [Region.binds] at h; simp [h]
                have hL2 : L 2 = true := by have h := hd; simp [Region.binds] at h; simp [h]
                rw [if_pos (by simp [Region.wanted])]
                refine op_value (v := .bool true) (w' := Wx) (by simp [execOp, go_sem, frame_tmp (k121) hL1 (Nat.lt_of_lt_of_eq (by decide : 121 < 186) hsz.symm), frame_tmp (k122) hL2 (Nat.lt_of_lt_of_eq (by decide : 122 < 186) hsz.symm), hez, hdz]) ⟨frame_put (k123) (q123), ?_⟩
                simpa [upd] using hT
              · rintro L _ Wx ⟨rfl, hT⟩ hcl hk hd
                have hL3 : L 3 = true := by have h := hd; simp [Region.binds] at h; simp [h]
                rw [if_pos (by simp [Region.wanted])]
                refine op_value (v := .bool true) (w' := Wx) (by simp [execOp, go_sem, frame_tmp (k123) hL3 (Nat.lt_of_lt_of_eq (by decide : 123 < 186) hsz.symm)]) ⟨frame_put (k124) (q124), ?_⟩
                simpa [upd] using hT
              · rintro L _ Wx ⟨rfl, hT⟩ hcl hk hd
                have hL4 : L 4 = true := by have h := hd; simp [Region.binds] at h; simp [h]
                rw [if_pos (by simp [Region.wanted, yielded, frame_tmp (k124) hL4 (Nat.lt_of_lt_of_eq (by decide : 124 < 186) hsz.symm)])]
                refine op_value (v := .slice (some ⟨lb, loff, none⟩) l.length vc) (w' := Wx) (by simp [execOp, go_sem, frame_tout (n0) u0]) ⟨frame_put (k125) (q125), ?_⟩
                simpa [upd] using hT
              · rintro L _ Wx ⟨rfl, hT⟩ hcl hk hd
                have hL4 : L 4 = true := by have h := hd; simp [Region.binds] at h; simp [h]
                rw [if_pos (by simp [Region.wanted, yielded, frame_tmp (k124) hL4 (Nat.lt_of_lt_of_eq (by decide : 124 < 186) hsz.symm)])]
                refine op_value (v := .pointer (some ⟨wr.heap.size, 0, none⟩)) (w' := Wx) (by simp [execOp, go_sem, frame_tout (n6) u6]) ⟨frame_put (k126) (q126), ?_⟩
                simpa [upd] using hT
              · rintro L _ Wx ⟨rfl, hT⟩ hcl hk hd
                have hL4 : L 4 = true := by have h := hd; simp [Region.binds] at h; simp [h]
                have hL6 : L 6 = true := by have h := hd; simp [Region.binds] at h; simp [h]
                rw [if_pos (by simp [Region.wanted, yielded, frame_tmp (k124) hL4 (Nat.lt_of_lt_of_eq (by decide : 124 < 186) hsz.symm)])]
                obtain ⟨e0, e1, e2, e3, e4, e5, e6, e7, e8, e9, e10, e11, e12, e13, e14, e15, e16, e17, e18, e19, e20, e21, e22, e23, e24, e25, e26, e27, c0, c1, c2, c3, c4, c5, c6, c7, c8, c9, c10, c11, c12⟩ := HF.out Wx (HB5.out.trans (hT.mono HB5.out.size))
                refine op_value (v := .int .i64 (i : Int)) (w' := Wx) (by simp [execOp, go_sem, frame_tmp (k126) hL6 (Nat.lt_of_lt_of_eq (by decide : 126 < 186) hsz.symm), e0]) ⟨frame_put (k127) (q127), ?_⟩
                simpa [upd] using hT
              · rintro L _ Wx ⟨rfl, hT⟩ hcl hk hd
                have hL4 : L 4 = true := by have h := hd; simp [Region.binds] at h; simp [h]
                have hL5 : L 5 = true := by have h := hd; simp [Region.binds] at h; simp [h]
                have hL7 : L 7 = true := by have h := hd; simp [Region.binds] at h; simp [h]
                rw [if_pos (by simp [Region.wanted, yielded, frame_tmp (k124) hL4 (Nat.lt_of_lt_of_eq (by decide : 124 < 186) hsz.symm)])]
                refine op_value (v := .slice (some ⟨lb, loff, none⟩) i vc) (w' := Wx) (by simp [execOp, go_sem, frame_tmp (k125) hL5 (Nat.lt_of_lt_of_eq (by decide : 125 < 186) hsz.symm), frame_tmp (k127) hL7 (Nat.lt_of_lt_of_eq (by decide : 127 < 186) hsz.symm), hi0, hic]) ⟨frame_put (k128) (q128), ?_⟩
                simpa [upd] using hT
              · rintro L _ Wx ⟨rfl, hT⟩ hcl hk hd
                have hL4 : L 4 = true := by have h := hd; simp [Region.binds] at h; simp [h]
                rw [if_pos (by simp [Region.wanted, yielded, frame_tmp (k124) hL4 (Nat.lt_of_lt_of_eq (by decide : 124 < 186) hsz.symm)])]
                refine op_value (v := .pointer (some ⟨wr.heap.size, 4, none⟩)) (w' := Wx) (by simp [execOp, go_sem, frame_tout (n6) u6]) ⟨frame_put (k129) (q129), ?_⟩
                simpa [upd] using hT
              · rintro L _ Wx ⟨rfl, hT⟩ hcl hk hd
                have hL4 : L 4 = true := by have h := hd; simp [Region.binds] at h; simp [h]
                have hL9 : L 9 = true := by have h := hd; simp [Region.binds] at h; simp [h]
                rw [if_pos (by simp [Region.wanted, yielded, frame_tmp (k124) hL4 (Nat.lt_of_lt_of_eq (by decide : 124 < 186) hsz.symm)])]
                obtain ⟨e0, e1, e2, e3, e4, e5, e6, e7, e8, e9, e10, e11, e12, e13, e14, e15, e16, e17, e18, e19, e20, e21, e22, e23, e24, e25, e26, e27, c0, c1, c2, c3, c4, c5, c6, c7, c8, c9, c10, c11, c12⟩ := HF.out Wx (HB5.out.trans (hT.mono HB5.out.size))
                refine op_value (v := .int .i64 x.b) (w' := Wx) (by simp [execOp, go_sem, frame_tmp (k129) hL9 (Nat.lt_of_lt_of_eq (by decide : 129 < 186) hsz.symm), e4]) ⟨frame_put (k130) (q130), ?_⟩
                simpa [upd] using hT
              · rintro L _ Wx ⟨rfl, hT⟩ hcl hk hd
                have hL4 : L 4 = true := by have h := hd; simp [Region.binds] at h; simp [h]
                rw [if_pos (by simp [Region.wanted, yielded, frame_tmp (k124) hL4 (Nat.lt_of_lt_of_eq (by decide : 124 < 186) hsz.symm)])]
                refine op_value (v := .pointer (some ⟨wr.heap.size, 13, none⟩)) (w' := Wx) (by simp [execOp, go_sem, frame_tout (n6) u6]) ⟨frame_put (k131) (q131), ?_⟩
                simpa [upd] using hT
              · rintro L _ Wx ⟨rfl, hT⟩ hcl hk hd
                have hL4 : L 4 = true := by have h := hd; simp [Region.binds] at h; simp [h]
                have hL11 : L 11 = true := by have h := hd; simp [Region.binds] at h; simp [h]
                rw [if_pos (by simp [Region.wanted, yielded, frame_tmp (k124) hL4 (Nat.lt_of_lt_of_eq (by decide : 124 < 186) hsz.symm)])]
                obtain ⟨e0, e1, e2, e3, e4, e5, e6, e7, e8, e9, e10, e11, e12, e13, e14, e15, e16, e17, e18, e19, e20, e21, e22, e23, e24, e25, e26, e27, c0, c1, c2, c3, c4, c5, c6, c7, c8, c9, c10, c11, c12⟩ := HF.out Wx (HB5.out.trans (hT.mono HB5.out.size))
                refine op_value (v := .agg #[.int .u8 x.v.a, .int .u8 x.v.b, .int .u8 x.v.c, .int .u8 x.v.d, .int .u8 x.v.e, .int .u8 x.v.f, .int .u8 x.v.g, .int .u8 x.v.h]) (w' := Wx) (by simp [execOp, go_sem, frame_tmp (k131) hL11 (Nat.lt_of_lt_of_eq (by decide : 131 < 186) hsz.symm), e13, e14, e15, e16, e17, e18, e19, e20]) ⟨frame_put (k132) (q132), ?_⟩
                simpa [upd] using hT
              · rintro L _ Wx ⟨rfl, hT⟩ hcl hk hd
                have hL4 : L 4 = true := by have h := hd; simp [Region.binds] at h; simp [h]
                have hL8 : L 8 = true := by have h := hd; simp [Region.binds] at h; simp [h]
                have hL10 : L 10 = true := by have h := hd; simp [Region.binds] at h; simp [h]
                have hL12 : L 12 = true := by have h := hd; simp [Region.binds] at h; simp [h]
                rw [if_pos (by simp [Region.wanted, yielded, frame_tmp (k124) hL4 (Nat.lt_of_lt_of_eq (by decide : 124 < 186) hsz.symm)])]
                refine op_callP (f := 31) (args := #[.slice (some ⟨lb, loff, none⟩) i vc, .int .i64 x.b, .agg #[.int .u8 x.v.a, .int .u8 x.v.b, .int .u8 x.v.c, .int .u8 x.v.d, .int .u8 x.v.e, .int .u8 x.v.f, .int .u8 x.v.g, .int .u8 x.v.h]]) (by simp [go_sem, frame_tmp (k128) hL8 (Nat.lt_of_lt_of_eq (by decide : 128 < 186) hsz.symm), frame_tmp (k130) hL10 (Nat.lt_of_lt_of_eq (by decide : 130 < 186) hsz.symm), frame_tmp (k132) hL12 (Nat.lt_of_lt_of_eq (by decide : 132 < 186) hsz.symm)]) (hBy Wx hT) ?_
                rintro e w' ⟨rfl, hb'⟩
                refine ⟨_, rfl, frame_put (k133) (q133), ?_⟩
                exact hT.trans (hb'.mono hT.size)
              · rintro L _ Wx ⟨rfl, hT⟩ hcl hk hd
                have hL4 : L 4 = true := by have h := hd; simp [Region.binds] at h; simp [h]
                have hL13 : L 13 = true := by have h := hd; simp [Region.binds] at h; simp [h]
                rw [if_pos (by simp [Region.wanted])]
                refine op_value (v := .bool false) (w' := Wx) (by simp [execOp, go_sem, frame_tmp (k124) hL4 (Nat.lt_of_lt_of_eq (by decide : 124 < 186) hsz.symm), frame_tmp (k133) hL13 (Nat.lt_of_lt_of_eq (by decide : 133 < 186) hsz.symm)]) ⟨frame_put (k134) (q134), ?_⟩
                simpa [upd] using hT
              · rintro L _ Wx ⟨rfl, hT⟩ hcl hk hd
                have hL14 : L 14 = true := by have h := hd; simp [Region.binds] at h; simp [h]
                rw [if_pos (by simp [Region.wanted])]
                refine op_value (v := .bool false) (w' := Wx) (by simp [execOp, go_sem, frame_tmp (k134) hL14 (Nat.lt_of_lt_of_eq (by decide : 134 < 186) hsz.symm)]) ⟨frame_put (k135) (q135), ?_⟩
                simpa [upd] using hT
              · rintro L _ Wx ⟨rfl, hT⟩ hcl hk hd
                have hL15 : L 15 = true := by have h := hd; simp [Region.binds] at h; simp [h]
                rw [if_pos (by simp [Region.wanted, yielded, frame_tmp (k135) hL15 (Nat.lt_of_lt_of_eq (by decide : 135 < 186) hsz.symm)])]
                refine op_value (v := .pointer (some ⟨wr.heap.size, 24, none⟩)) (w' := Wx) (by simp [execOp, go_sem, frame_tout (n6) u6]) ⟨frame_put (k136) (q136), ?_⟩
                simpa [upd] using hT
              · rintro L _ Wx ⟨rfl, hT⟩ hcl hk hd
                have hL15 : L 15 = true := by have h := hd; simp [Region.binds] at h; simp [h]
                have hL16 : L 16 = true := by have h := hd; simp [Region.binds] at h; simp [h]
                rw [if_pos (by simp [Region.wanted, yielded, frame_tmp (k135) hL15 (Nat.lt_of_lt_of_eq (by decide : 135 < 186) hsz.symm)])]
                obtain ⟨e0, e1, e2, e3, e4, e5, e6, e7, e8, e9, e10, e11, e12, e13, e14, e15, e16, e17, e18, e19, e20, e21, e22, e23, e24, e25, e26, e27, c0, c1, c2, c3, c4, c5, c6, c7, c8, c9, c10, c11, c12⟩ := HF.out Wx (HB5.out.trans (hT.mono HB5.out.size))
                refine op_value (v := .agg #[.int .i64 fwas.s, .int .i64 fwas.i, .int .i64 fwas.t]) (w' := Wx) (by simp [execOp, go_sem, frame_tmp (k136) hL16 (Nat.lt_of_lt_of_eq (by decide : 136 < 186) hsz.symm), e24, e25, e26]) ⟨frame_put (k137) (q137), ?_⟩
                simpa [upd] using hT
              · rintro L _ Wx ⟨rfl, hT⟩ hcl hk hd
                have hL15 : L 15 = true := by have h := hd; simp [Region.binds] at h; simp [h]
                rw [if_pos (by simp [Region.wanted, yielded, frame_tmp (k135) hL15 (Nat.lt_of_lt_of_eq (by decide : 135 < 186) hsz.symm)])]
                refine op_value (v := .agg #[.int .i64 0, .int .i64 0, .int .i64 0]) (w' := Wx) (by simp [execOp, go_sem]) ⟨frame_put (k138) (q138), ?_⟩
                simpa [upd] using hT
              · rintro L _ Wx ⟨rfl, hT⟩ hcl hk hd
                have hL15 : L 15 = true := by have h := hd; simp [Region.binds] at h; simp [h]
                have hL17 : L 17 = true := by have h := hd; simp [Region.binds] at h; simp [h]
                have hL18 : L 18 = true := by have h := hd; simp [Region.binds] at h; simp [h]
                rw [if_pos (by simp [Region.wanted, yielded, frame_tmp (k135) hL15 (Nat.lt_of_lt_of_eq (by decide : 135 < 186) hsz.symm)])]
                refine op_value (v := .bool false) (w' := Wx) (by simp [execOp, go_sem, frame_tmp (k137) hL17 (Nat.lt_of_lt_of_eq (by decide : 137 < 186) hsz.symm), frame_tmp (k138) hL18 (Nat.lt_of_lt_of_eq (by decide : 138 < 186) hsz.symm), hnz, hdz]) ⟨frame_put (k139) (q139), ?_⟩
                simpa [upd] using hT
              · rintro L _ Wx ⟨rfl, hT⟩ hcl hk hd
                have hL15 : L 15 = true := by have h := hd; simp [Region.binds] at h; simp [h]
                have hL19 : L 19 = true := by have h := hd; simp [Region.binds] at h; simp [h]
                rw [if_pos (by simp [Region.wanted, yielded, frame_tmp (k135) hL15 (Nat.lt_of_lt_of_eq (by decide : 135 < 186) hsz.symm)])]
                refine op_value (v := .bool false) (w' := Wx) (by simp [execOp, go_sem, frame_tmp (k139) hL19 (Nat.lt_of_lt_of_eq (by decide : 139 < 186) hsz.symm)]) ⟨frame_put (k140) (q140), ?_⟩
                simpa [upd] using hT
              · rintro L _ Wx ⟨rfl, hT⟩ hcl hk hd
                have hL20 : L 20 = true := by have h := hd; simp [Region.binds] at h; simp [h]
                rw [if_neg (by simp [Region.wanted, yielded, frame_tmp (k140) hL20 (Nat.lt_of_lt_of_eq (by decide : 140 < 186) hsz.symm)])]
                refine ⟨frame_put (k141) (q141), ?_⟩
                simpa [upd] using hT
              · rintro L _ Wx ⟨rfl, hT⟩ hcl hk hd
                have hL20 : L 20 = true := by have h := hd; simp [Region.binds] at h; simp [h]
                rw [if_neg (by simp [Region.wanted, yielded, frame_tmp (k140) hL20 (Nat.lt_of_lt_of_eq (by decide : 140 < 186) hsz.symm)])]
                refine ⟨frame_put (k142) (q142), ?_⟩
                simpa [upd] using hT
              · rintro L _ Wx ⟨rfl, hT⟩ hcl hk hd
                have hL20 : L 20 = true := by have h := hd; simp [Region.binds] at h; simp [h]
                rw [if_neg (by simp [Region.wanted, yielded, frame_tmp (k140) hL20 (Nat.lt_of_lt_of_eq (by decide : 140 < 186) hsz.symm)])]
                refine ⟨frame_put (k143) (q143), ?_⟩
                simpa [upd] using hT
              · rintro L _ Wx ⟨rfl, hT⟩ hcl hk hd
                have hL20 : L 20 = true := by have h := hd; simp [Region.binds] at h; simp [h]
                rw [if_neg (by simp [Region.wanted, yielded, frame_tmp (k140) hL20 (Nat.lt_of_lt_of_eq (by decide : 140 < 186) hsz.symm)])]
                refine ⟨frame_put (k144) (q144), ?_⟩
                simpa [upd] using hT
              · rintro L _ Wx ⟨rfl, hT⟩ hcl hk hd
                have hL20 : L 20 = true := by have h := hd; simp [Region.binds] at h; simp [h]
                rw [if_neg (by simp [Region.wanted, yielded, frame_tmp (k140) hL20 (Nat.lt_of_lt_of_eq (by decide : 140 < 186) hsz.symm)])]
                refine ⟨frame_put (k145) (q145), ?_⟩
                simpa [upd] using hT
              · rintro L _ Wx ⟨rfl, hT⟩ hcl hk hd
                have hL20 : L 20 = true := by have h := hd; simp [Region.binds] at h; simp [h]
                rw [if_neg (by simp [Region.wanted, yielded, frame_tmp (k140) hL20 (Nat.lt_of_lt_of_eq (by decide : 140 < 186) hsz.symm)])]
                refine ⟨frame_put (k146) (q146), ?_⟩
                simpa [upd] using hT
              · rintro L _ Wx ⟨rfl, hT⟩ hcl hk hd
                have hL20 : L 20 = true := by have h := hd; simp [Region.binds] at h; simp [h]
                rw [if_neg (by simp [Region.wanted, yielded, frame_tmp (k140) hL20 (Nat.lt_of_lt_of_eq (by decide : 140 < 186) hsz.symm)])]
                refine ⟨frame_put (k147) (q147), ?_⟩
                simpa [upd] using hT
              · rintro L _ Wx ⟨rfl, hT⟩ hcl hk hd
                have hL20 : L 20 = true := by have h := hd; simp [Region.binds] at h; simp [h]
                rw [if_neg (by simp [Region.wanted, yielded, frame_tmp (k140) hL20 (Nat.lt_of_lt_of_eq (by decide : 140 < 186) hsz.symm)])]
                refine ⟨frame_put (k148) (q148), ?_⟩
                simpa [upd] using hT
              · rintro L _ Wx ⟨rfl, hT⟩ hcl hk hd
                have hL20 : L 20 = true := by have h := hd; simp [Region.binds] at h; simp [h]
                rw [if_neg (by simp [Region.wanted, yielded, frame_tmp (k140) hL20 (Nat.lt_of_lt_of_eq (by decide : 140 < 186) hsz.symm)])]
                refine ⟨frame_put (k149) (q149), ?_⟩
                simpa [upd] using hT
              · rintro L _ Wx ⟨rfl, hT⟩ hcl hk hd
                have hL20 : L 20 = true := by have h := hd; simp [Region.binds] at h; simp [h]
                rw [if_neg (by simp [Region.wanted, yielded, frame_tmp (k140) hL20 (Nat.lt_of_lt_of_eq (by decide : 140 < 186) hsz.symm)])]
                refine ⟨frame_put (k150) (q150), ?_⟩
                simpa [upd] using hT
              · rintro L _ Wx ⟨rfl, hT⟩ hcl hk hd
                have hL20 : L 20 = true := by have h := hd; simp [Region.binds] at h; simp [h]
                rw [if_neg (by simp [Region.wanted, yielded, frame_tmp (k140) hL20 (Nat.lt_of_lt_of_eq (by decide : 140 < 186) hsz.symm)])]
                refine ⟨frame_put (k151) (q151), ?_⟩
                simpa [upd] using hT
              · rintro L _ Wx ⟨rfl, hT⟩ hcl hk hd
                have hL20 : L 20 = true := by have h := hd; simp [Region.binds] at h; simp [h]
                rw [if_neg (by simp [Region.wanted, yielded, frame_tmp (k140) hL20 (Nat.lt_of_lt_of_eq (by decide : 140 < 186) hsz.symm)])]
                refine ⟨frame_put (k152) (q152), ?_⟩
                simpa [upd] using hT
              · rintro L _ Wx ⟨rfl, hT⟩ hcl hk hd
                have hL15 : L 15 = true := by have h := hd; simp [Region.binds] at h; simp [h]
                have hL20 : L 20 = true := by have h := hd; simp [Region.binds] at h; simp [h]
                rw [if_pos (by simp [Region.wanted, yielded, frame_tmp (k135) hL15 (Nat.lt_of_lt_of_eq (by decide : 135 < 186) hsz.symm)])]
                refine op_value (v := .bool false) (w' := Wx) (by simp [execOp, go_sem, frame_tmp (k140) hL20 (Nat.lt_of_lt_of_eq (by decide : 140 < 186) hsz.symm)]) ⟨frame_put (k153) (q153), ?_⟩
                simpa [upd] using hT
              · rintro L _ Wx ⟨rfl, hT⟩ hcl hk hd
                have hL15 : L 15 = true := by have h := hd; simp [Region.binds] at h; simp [h]
                have hL33 : L 33 = true := by have h := hd; simp [Region.binds] at h; simp [h]
                rw [if_pos (by simp [Region.wanted])]
                refine op_value (v := .bool false) (w' := Wx) (by simp [execOp, go_sem, frame_tmp (k135) hL15 (Nat.lt_of_lt_of_eq (by decide : 135 < 186) hsz.symm), frame_tmp (k153) hL33 (Nat.lt_of_lt_of_eq (by decide : 153 < 186) hsz.symm)]) ⟨frame_put (k154) (q154), ?_⟩
                simpa [upd] using hT
            · rintro L W' hT hall
              simp only [putAll, Act.put, List.setIfInBounds_toArray, List.set_cons_succ, List.set_cons_zero]
              have HB6 := Lib.hid (HB5.out.trans (hT.mono HB5.out.size))
              clear hT hall
              obtain ⟨e0, e1, e2, e3, e4, e5, e6, e7, e8, e9, e10, e11, e12, e13, e14, e15, e16, e17, e18, e19, e20, e21, e22, e23, e24, e25, e26, e27, c0, c1, c2, c3, c4, c5, c6, c7, c8, c9, c10, c11, c12⟩ := HF.out W' HB6.out
              have hen := fun w => eql_nm fwas x.n w
              obtain ⟨_, _, _, _, _, hk0, hk4, hk3, hkn⟩ := HBL.out
              have hl1 : decide (fk < 0) = false := by simp; omega
              have hl2 : decide (fk > 4) = false := by simp; omega
              have HK3 := Lib.hid hk3
              have HKN := Lib.hid hkn
              have HG := Lib.hid (step_good HM.out HX.out)
              have HWZ := Lib.hid hwz
              clear hk0 hk4 hk3 hkn hwz
              by_cases q4 : fk = 4
              · first
                | exact absurd (HKN.out q4) HWZ.out
                | have b4 : (fk == 4) = true := by simp [q4]
                  have b3 : (fk == 3) = false := by simp [q4]
                  have dN : decide (fwas = x.n) = false := by
                    have h1 := HKN.out q4
                    have h2 := HG.out
                    simp only [decide_eq_false_iff_not]
                    intro h3
                    exact h2 (h3.symm.trans h1)
                  clear q4
                  go_wp2_with fail
                  go_quiet (fail)
                  go_wp2_with fail
                  go_roundw
                  case rel => exact ⟨q + 1, by have := HLT.out; omega, by go_num, (HB3.out.trans (HB6.out.mono HB3.out.size)).trans ⟨rfl, rfl, rfl, Nat.le_refl _, fun _ _ => rfl⟩⟩
                  case measure => have := HLT.out; simp [intOf]; omega
              · have b4 : (fk == 4) = false := by simpa using q4
                by_cases q3 : fk = 3
                · have b3 : (fk == 3) = true := by simp [q3]
                  have dN : decide (fwas = x.n) = true := by simpa using HK3.out.1 q3
                  clear q3 q4
                  go_wp2_with fail
                  go_quiet (fail)
                  go_wp2_with fail
                  go_roundw
                  case rel => exact ⟨q + 1, by have := HLT.out; omega, by go_num, (HB3.out.trans (HB6.out.mono HB3.out.size)).trans ⟨rfl, rfl, rfl, Nat.le_refl _, fun _ _ => rfl⟩⟩
                  case measure => have := HLT.out; simp [intOf]; omega
                · have b3 : (fk == 3) = false := by simpa using q3
                  have dN : decide (fwas = x.n) = false := by
                    simp only [decide_eq_false_iff_not]
                    exact fun h => q3 (HK3.out.2 h)
                  clear q3 q4
                  go_wp2_with fail
                  go_quiet (fail)
                  go_wp2_with fail
                  go_roundw
                  case rel => exact ⟨q + 1, by have := HLT.out; omega, by go_num, (HB3.out.trans (HB6.out.mono HB3.out.size)).trans ⟨rfl, rfl, rfl, Nat.le_refl _, fun _ _ => rfl⟩⟩
                  case measure => have := HLT.out; simp [intOf]; omega
            -- END CAZ
          · have hdz : decide (fwas = ⟨0, 0, 0⟩) = false := by simpa [nz] using hwz
            have hWb : ∀ Wx, Below w5.heap.size w5 Wx → Calls Try.prog 30 #[.slice (some ⟨lb, loff, none⟩) i vc, .agg #[.int .i64 fwas.s, .int .i64 fwas.i, .int .i64 fwas.t], .int .i64 x.b, .agg #[.int .u8 x.v.a, .int .u8 x.v.b, .int .u8 x.v.c, .int .u8 x.v.d, .int .u8 x.v.e, .int .u8 x.v.f, .int .u8 x.v.g, .int .u8 x.v.h]] Wx fun e w' => e = .returned (.bool true) ∧ Below Wx.heap.size Wx w' := fun Wx hT => by
              have h := wrote_any (l.take i) (.slice (some ⟨lb, loff, none⟩) (l.take i).length vc) fwas x.b x.v Wx (by rw [List.length_take]; omega) (sns_take (HS.out Wx (HB5.out.trans (hT.mono HB5.out.size))) i (by omega))
              rw [List.length_take, Nat.min_eq_left (by omega), HBL.out.2.2.2.2.1 hwz] at h
              exact h
            go_wp2_with fail
            -- BEGIN CAN
            refine wp_region_frame mixed (by kernel_rfl) [(0, 120, .pointer (some ⟨wr.heap.size, 24, none⟩)), (1, 121, .agg #[.int .i64 fwas.s, .int .i64 fwas.i, .int .i64 fwas.t]), (2, 122, .agg #[.int .i64 0, .int .i64 0, .int .i64 0]), (3, 123, .bool false), (4, 124, .bool false), (5, 125, undef), (6, 126, undef), (7, 127, undef), (8, 128, undef), (9, 129, undef), (10, 130, undef), (11, 131, undef), (12, 132, undef), (13, 133, undef), (14, 134, .bool false), (15, 135, .bool false), (16, 136, .pointer (some ⟨wr.heap.size, 24, none⟩)), (17, 137, .agg #[.int .i64 fwas.s, .int .i64 fwas.i, .int .i64 fwas.t]), (18, 138, .agg #[.int .i64 0, .int .i64 0, .int .i64 0]), (19, 139, .bool true), (20, 140, .bool true), (21, 141, .slice (some ⟨lb, loff, none⟩) l.length vc), (22, 142, .pointer (some ⟨wr.heap.size, 0, none⟩)), (23, 143, .int .i64 (i : Int)), (24, 144, .slice (some ⟨lb, loff, none⟩) i vc), (25, 145, .pointer (some ⟨wr.heap.size, 24, none⟩)), (26, 146, .agg #[.int .i64 fwas.s, .int .i64 fwas.i, .int .i64 fwas.t]), (27, 147, .pointer (some ⟨wr.heap.size, 4, none⟩)), (28, 148, .int .i64 x.b), (29, 149, .pointer (some ⟨wr.heap.size, 13, none⟩)), (30, 150, .agg #[.int .u8 x.v.a, .int .u8 x.v.b, .int .u8 x.v.c, .int .u8 x.v.d, .int .u8 x.v.e, .int .u8 x.v.f, .int .u8 x.v.g, .int .u8 x.v.h]), (31, 151, .bool true), (32, 152, .bool false), (33, 153, .bool false), (34, 154, .bool false)] (fun L Wx => Below w5.heap.size w5 Wx) ?_ ?_ (by rfl) (by rfl) ?_
            · exact (Below.refl _ _).drew
            · intro a0 ps ha0 hps
              have hsz : a0.tmps.size = 186 := by rw [ha0]; rfl
              have u0 : a0.tmps[0]? = some (.slice (some ⟨lb, loff, none⟩) l.length vc) := by rw [ha0]; rfl
              have u6 : a0.tmps[6]? = some (.pointer (some ⟨wr.heap.size, 0, none⟩)) := by rw [ha0]; rfl
              have n0 : slotOf ps 0 = none := by rw [hps]; rfl
              have n6 : slotOf ps 6 = none := by rw [hps]; rfl
              have k120 : slotOf ps 120 = some (0, .pointer (some ⟨wr.heap.size, 24, none⟩)) := by rw [hps]; rfl
              have q120 : keysOK ps 0 120 = true := by rw [hps]; rfl
              have k121 : slotOf ps 121 = some (1, .agg #[.int .i64 fwas.s, .int .i64 fwas.i, .int .i64 fwas.t]) := by rw [hps]; rfl
              have q121 : keysOK ps 1 121 = true := by rw [hps]; rfl
              have k122 : slotOf ps 122 = some (2, .agg #[.int .i64 0, .int .i64 0, .int .i64 0]) := by rw [hps]; rfl
              have q122 : keysOK ps 2 122 = true := by rw [hps]; rfl
              have k123 : slotOf ps 123 = some (3, .bool false) := by rw [hps]; rfl
              have q123 : keysOK ps 3 123 = true := by rw [hps]; rfl
              have k124 : slotOf ps 124 = some (4, .bool false) := by rw [hps]; rfl
              have q124 : keysOK ps 4 124 = true := by rw [hps]; rfl
              have k125 : slotOf ps 125 = some (5, undef) := by rw [hps]; rfl
              have q125 : keysOK ps 5 125 = true := by rw [hps]; rfl
              have k126 : slotOf ps 126 = some (6, undef) := by rw [hps]; rfl
              have q126 : keysOK ps 6 126 = true := by rw [hps]; rfl
              have k127 : slotOf ps 127 = some (7, undef) := by rw [hps]; rfl
              have q127 : keysOK ps 7 127 = true := by rw [hps]; rfl
              have k128 : slotOf ps 128 = some (8, undef) := by rw [hps]; rfl
              have q128 : keysOK ps 8 128 = true := by rw [hps]; rfl
              have k129 : slotOf ps 129 = some (9, undef) := by rw [hps]; rfl
              have q129 : keysOK ps 9 129 = true := by rw [hps]; rfl
              have k130 : slotOf ps 130 = some (10, undef) := by rw [hps]; rfl
              have q130 : keysOK ps 10 130 = true := by rw [hps]; rfl
              have k131 : slotOf ps 131 = some (11, undef) := by rw [hps]; rfl
              have q131 : keysOK ps 11 131 = true := by rw [hps]; rfl
              have k132 : slotOf ps 132 = some (12, undef) := by rw [hps]; rfl
              have q132 : keysOK ps 12 132 = true := by rw [hps]; rfl
              have k133 : slotOf ps 133 = some (13, undef) := by rw [hps]; rfl
              have q133 : keysOK ps 13 133 = true := by rw [hps]; rfl
              have k134 : slotOf ps 134 = some (14, .bool false) := by rw [hps]; rfl
              have q134 : keysOK ps 14 134 = true := by rw [hps]; rfl
              have k135 : slotOf ps 135 = some (15, .bool false) := by rw [hps]; rfl
              have q135 : keysOK ps 15 135 = true := by rw [hps]; rfl
              have k136 : slotOf ps 136 = some (16, .pointer (some ⟨wr.heap.size, 24, none⟩)) := by rw [hps]; rfl
              have q136 : keysOK ps 16 136 = true := by rw [hps]; rfl
              have k137 : slotOf ps 137 = some (17, .agg #[.int .i64 fwas.s, .int .i64 fwas.i, .int .i64 fwas.t]) := by rw [hps]; rfl
              have q137 : keysOK ps 17 137 = true := by rw [hps]; rfl
              have k138 : slotOf ps 138 = some (18, .agg #[.int .i64 0, .int .i64 0, .int .i64 0]) := by rw [hps]; rfl
              have q138 : keysOK ps 18 138 = true := by rw [hps]; rfl
              have k139 : slotOf ps 139 = some (19, .bool true) := by rw [hps]; rfl
              have q139 : keysOK ps 19 139 = true := by rw [hps]; rfl
              have k140 : slotOf ps 140 = some (20, .bool true) := by rw [hps]; rfl
              have q140 : keysOK ps 20 140 = true := by rw [hps]; rfl
              have k141 : slotOf ps 141 = some (21, .slice (some ⟨lb, loff, none⟩) l.length vc) := by rw [hps]; rfl
              have q141 : keysOK ps 21 141 = true := by rw [hps]; rfl
              have k142 : slotOf ps 142 = some (22, .pointer (some ⟨wr.heap.size, 0, none⟩)) := by rw [hps]; rfl
              have q142 : keysOK ps 22 142 = true := by rw [hps]; rfl
              have k143 : slotOf ps 143 = some (23, .int .i64 (i : Int)) := by rw [hps]; rfl
              have q143 : keysOK ps 23 143 = true := by rw [hps]; rfl
              have k144 : slotOf ps 144 = some (24, .slice (some ⟨lb, loff, none⟩) i vc) := by rw [hps]; rfl
              have q144 : keysOK ps 24 144 = true := by rw [hps]; rfl
              have k145 : slotOf ps 145 = some (25, .pointer (some ⟨wr.heap.size, 24, none⟩)) := by rw [hps]; rfl
              have q145 : keysOK ps 25 145 = true := by rw [hps]; rfl
              have k146 : slotOf ps 146 = some (26, .agg #[.int .i64 fwas.s, .int .i64 fwas.i, .int .i64 fwas.t]) := by rw [hps]; rfl
              have q146 : keysOK ps 26 146 = true := by rw [hps]; rfl
              have k147 : slotOf ps 147 = some (27, .pointer (some ⟨wr.heap.size, 4, none⟩)) := by rw [hps]; rfl
              have q147 : keysOK ps 27 147 = true := by rw [hps]; rfl
              have k148 : slotOf ps 148 = some (28, .int .i64 x.b) := by rw [hps]; rfl
              have q148 : keysOK ps 28 148 = true := by rw [hps]; rfl
              have k149 : slotOf ps 149 = some (29, .pointer (some ⟨wr.heap.size, 13, none⟩)) := by rw [hps]; rfl
              have q149 : keysOK ps 29 149 = true := by rw [hps]; rfl
              have k150 : slotOf ps 150 = some (30, .agg #[.int .u8 x.v.a, .int .u8 x.v.b, .int .u8 x.v.c, .int .u8 x.v.d, .int .u8 x.v.e, .int .u8 x.v.f, .int .u8 x.v.g, .int .u8 x.v.h]) := by rw [hps]; rfl
              have q150 : keysOK ps 30 150 = true := by rw [hps]; rfl
              have k151 : slotOf ps 151 = some (31, .bool true) := by rw [hps]; rfl
              have q151 : keysOK ps 31 151 = true := by rw [hps]; rfl
              have k152 : slotOf ps 152 = some (32, .bool false) := by rw [hps]; rfl
              have q152 : keysOK ps 32 152 = true := by rw [hps]; rfl
              have k153 : slotOf ps 153 = some (33, .bool false) := by rw [hps]; rfl
              have q153 : keysOK ps 33 153 = true := by rw [hps]; rfl
              have k154 : slotOf ps 154 = some (34, .bool false) := by rw [hps]; rfl
              have q154 : keysOK ps 34 154 = true := by rw [hps]; rfl
              clear ha0 hps
              refine ⟨?_, ?_, ?_, ?_, ?_, ?_, ?_, ?_, ?_, ?_, ?_, ?_, ?_, ?_, ?_, ?_, ?_, ?_, ?_, ?_, ?_, ?_, ?_, ?_, ?_, ?_, ?_, ?_, ?_, ?_, ?_, ?_, ?_, ?_, ?_, trivial⟩
              · rintro L _ Wx ⟨rfl, hT⟩ hcl hk hd
                rw [if_pos (by simp [Region.wanted])]
                refine op_value (v := .pointer (some ⟨wr.heap.size, 24, none⟩)) (w' := Wx) (by simp [execOp, go_sem, frame_tout (n6) u6]) ⟨frame_put (k120) (q120), ?_⟩
                simpa [upd] using hT
              · rintro L _ Wx ⟨rfl, hT⟩ hcl hk hd
                have hL0 : L 0 = true := by have h := hd; simp [Region.binds] at h; simp [h]
                rw [if_pos (by simp [Region.wanted])]
                obtain ⟨e0, e1, e2, e3, e4, e5, e6, e7, e8, e9, e10, e11, e12, e13, e14, e15, e16, e17, e18, e19, e20, e21, e22, e23, e24, e25, e26, e27, c0, c1, c2, c3, c4, c5, c6, c7, c8, c9, c10, c11, c12⟩ := HF.out Wx (HB5.out.trans (hT.mono HB5.out.size))
                refine op_value (v := .agg #[.int .i64 fwas.s, .int .i64 fwas.i, .int .i64 fwas.t]) (w' := Wx) (by simp [execOp, go_sem, frame_tmp (k120) hL0 (Nat.lt_of_lt_of_eq (by decide : 120 < 186) hsz.symm), e24, e25, e26]) ⟨frame_put (k121) (q121), ?_⟩
                simpa [upd] using hT
              · rintro L _ Wx ⟨rfl, hT⟩ hcl hk hd
                rw [if_pos (by simp [Region.wanted])]
                refine op_value (v := .agg #[.int .i64 0, .int .i64 0, .int .i64 0]) (w' := Wx) (by simp [execOp, go_sem]) ⟨frame_put (k122) (q122), ?_⟩
                simpa [upd] using hT
              · rintro L _ Wx ⟨rfl, hT⟩ hcl hk hd
                have hL1 : L 1 = true := by have h := hd; simp [Region.binds] at h; simp [h]
                have hL2 : L 2 = true := by have h := hd; simp [Region.binds] at h; simp [h]
                rw [if_pos (by simp [Region.wanted])]
                refine op_value (v := .bool false) (w' := Wx) (by simp [execOp, go_sem, frame_tmp (k121) hL1 (Nat.lt_of_lt_of_eq (by decide : 121 < 186) hsz.symm), frame_tmp (k122) hL2 (Nat.lt_of_lt_of_eq (by decide : 122 < 186) hsz.symm), hez, hdz]) ⟨frame_put (k123) (q123), ?_⟩
                simpa [upd] using hT
              · rintro L _ Wx ⟨rfl, hT⟩ hcl hk hd
                have hL3 : L 3 = true := by have h := hd; simp [Region.binds] at h; simp [h]
                rw [if_pos (by simp [Region.wanted])]
                refine op_value (v := .bool false) (w' := Wx) (by simp [execOp, go_sem, frame_tmp (k123) hL3 (Nat.lt_of_lt_of_eq (by decide : 123 < 186) hsz.symm)]) ⟨frame_put (k124) (q124), ?_⟩
                simpa [upd] using hT
              · rintro L _ Wx ⟨rfl, hT⟩ hcl hk hd
                have hL4 : L 4 = true := by have h := hd; simp [Region.binds] at h; simp [h]
                rw [if_neg (by simp [Region.wanted, yielded, frame_tmp (k124) hL4 (Nat.lt_of_lt_of_eq (by decide : 124 < 186) hsz.symm)])]
                refine ⟨frame_put (k125) (q125), ?_⟩
                simpa [upd] using hT
              · rintro L _ Wx ⟨rfl, hT⟩ hcl hk hd
                have hL4 : L 4 = true := by have h := hd; simp [Region.binds] at h; simp [h]
                rw [if_neg (by simp [Region.wanted, yielded, frame_tmp (k124) hL4 (Nat.lt_of_lt_of_eq (by decide : 124 < 186) hsz.symm)])]
                refine ⟨frame_put (k126) (q126), ?_⟩
                simpa [upd] using hT
              · rintro L _ Wx ⟨rfl, hT⟩ hcl hk hd
                have hL4 : L 4 = true := by have h := hd; simp [Region.binds] at h; simp [h]
                rw [if_neg (by simp [Region.wanted, yielded, frame_tmp (k124) hL4 (Nat.lt_of_lt_of_eq (by decide : 124 < 186) hsz.symm)])]
                refine ⟨frame_put (k127) (q127), ?_⟩
                simpa [upd] using hT
              · rintro L _ Wx ⟨rfl, hT⟩ hcl hk hd
                have hL4 : L 4 = true := by have h := hd; simp [Region.binds] at h; simp [h]
                rw [if_neg (by simp [Region.wanted, yielded, frame_tmp (k124) hL4 (Nat.lt_of_lt_of_eq (by decide : 124 < 186) hsz.symm)])]
                refine ⟨frame_put (k128) (q128), ?_⟩
                simpa [upd] using hT
              · rintro L _ Wx ⟨rfl, hT⟩ hcl hk hd
                have hL4 : L 4 = true := by have h := hd; simp [Region.binds] at h; simp [h]
                rw [if_neg (by simp [Region.wanted, yielded, frame_tmp (k124) hL4 (Nat.lt_of_lt_of_eq (by decide : 124 < 186) hsz.symm)])]
                refine ⟨frame_put (k129) (q129), ?_⟩
                simpa [upd] using hT
              · rintro L _ Wx ⟨rfl, hT⟩ hcl hk hd
                have hL4 : L 4 = true := by have h := hd; simp [Region.binds] at h; simp [h]
                rw [if_neg (by simp [Region.wanted, yielded, frame_tmp (k124) hL4 (Nat.lt_of_lt_of_eq (by decide : 124 < 186) hsz.symm)])]
                refine ⟨frame_put (k130) (q130), ?_⟩
                simpa [upd] using hT
              · rintro L _ Wx ⟨rfl, hT⟩ hcl hk hd
                have hL4 : L 4 = true := by have h := hd; simp [Region.binds] at h; simp [h]
                rw [if_neg (by simp [Region.wanted, yielded, frame_tmp (k124) hL4 (Nat.lt_of_lt_of_eq (by decide : 124 < 186) hsz.symm)])]
                refine ⟨frame_put (k131) (q131), ?_⟩
                simpa [upd] using hT
              · rintro L _ Wx ⟨rfl, hT⟩ hcl hk hd
                have hL4 : L 4 = true := by have h := hd; simp [Region.binds] at h; simp [h]
                rw [if_neg (by simp [Region.wanted, yielded, frame_tmp (k124) hL4 (Nat.lt_of_lt_of_eq (by decide : 124 < 186) hsz.symm)])]
                refine ⟨frame_put (k132) (q132), ?_⟩
                simpa [upd] using hT
              · rintro L _ Wx ⟨rfl, hT⟩ hcl hk hd
                have hL4 : L 4 = true := by have h := hd; simp [Region.binds] at h; simp [h]
                rw [if_neg (by simp [Region.wanted, yielded, frame_tmp (k124) hL4 (Nat.lt_of_lt_of_eq (by decide : 124 < 186) hsz.symm)])]
                refine ⟨frame_put (k133) (q133), ?_⟩
                simpa [upd] using hT
              · rintro L _ Wx ⟨rfl, hT⟩ hcl hk hd
                have hL4 : L 4 = true := by have h := hd; simp [Region.binds] at h; simp [h]
                rw [if_pos (by simp [Region.wanted])]
                refine op_value (v := .bool false) (w' := Wx) (by simp [execOp, go_sem, frame_tmp (k124) hL4 (Nat.lt_of_lt_of_eq (by decide : 124 < 186) hsz.symm), undef]) ⟨frame_put (k134) (q134), ?_⟩
                simpa [upd] using hT
              · rintro L _ Wx ⟨rfl, hT⟩ hcl hk hd
                have hL14 : L 14 = true := by have h := hd; simp [Region.binds] at h; simp [h]
                rw [if_pos (by simp [Region.wanted])]
                refine op_value (v := .bool false) (w' := Wx) (by simp [execOp, go_sem, frame_tmp (k134) hL14 (Nat.lt_of_lt_of_eq (by decide : 134 < 186) hsz.symm)]) ⟨frame_put (k135) (q135), ?_⟩
                simpa [upd] using hT
              · rintro L _ Wx ⟨rfl, hT⟩ hcl hk hd
                have hL15 : L 15 = true := by have h := hd; simp [Region.binds] at h; simp [h]
                rw [if_pos (by simp [Region.wanted, yielded, frame_tmp (k135) hL15 (Nat.lt_of_lt_of_eq (by decide : 135 < 186) hsz.symm)])]
                refine op_value (v := .pointer (some ⟨wr.heap.size, 24, none⟩)) (w' := Wx) (by simp [execOp, go_sem, frame_tout (n6) u6]) ⟨frame_put (k136) (q136), ?_⟩
                simpa [upd] using hT
              · rintro L _ Wx ⟨rfl, hT⟩ hcl hk hd
                have hL15 : L 15 = true := by have h := hd; simp [Region.binds] at h; simp [h]
                have hL16 : L 16 = true := by have h := hd; simp [Region.binds] at h; simp [h]
                rw [if_pos (by simp [Region.wanted, yielded, frame_tmp (k135) hL15 (Nat.lt_of_lt_of_eq (by decide : 135 < 186) hsz.symm)])]
                obtain ⟨e0, e1, e2, e3, e4, e5, e6, e7, e8, e9, e10, e11, e12, e13, e14, e15, e16, e17, e18, e19, e20, e21, e22, e23, e24, e25, e26, e27, c0, c1, c2, c3, c4, c5, c6, c7, c8, c9, c10, c11, c12⟩ := HF.out Wx (HB5.out.trans (hT.mono HB5.out.size))
                refine op_value (v := .agg #[.int .i64 fwas.s, .int .i64 fwas.i, .int .i64 fwas.t]) (w' := Wx) (by simp [execOp, go_sem, frame_tmp (k136) hL16 (Nat.lt_of_lt_of_eq (by decide : 136 < 186) hsz.symm), e24, e25, e26]) ⟨frame_put (k137) (q137), ?_⟩
                simpa [upd] using hT
              · rintro L _ Wx ⟨rfl, hT⟩ hcl hk hd
                have hL15 : L 15 = true := by have h := hd; simp [Region.binds] at h; simp [h]
                rw [if_pos (by simp [Region.wanted, yielded, frame_tmp (k135) hL15 (Nat.lt_of_lt_of_eq (by decide : 135 < 186) hsz.symm)])]
                refine op_value (v := .agg #[.int .i64 0, .int .i64 0, .int .i64 0]) (w' := Wx) (by simp [execOp, go_sem]) ⟨frame_put (k138) (q138), ?_⟩
                simpa [upd] using hT
              · rintro L _ Wx ⟨rfl, hT⟩ hcl hk hd
                have hL15 : L 15 = true := by have h := hd; simp [Region.binds] at h; simp [h]
                have hL17 : L 17 = true := by have h := hd; simp [Region.binds] at h; simp [h]
                have hL18 : L 18 = true := by have h := hd; simp [Region.binds] at h; simp [h]
                rw [if_pos (by simp [Region.wanted, yielded, frame_tmp (k135) hL15 (Nat.lt_of_lt_of_eq (by decide : 135 < 186) hsz.symm)])]
                refine op_value (v := .bool true) (w' := Wx) (by simp [execOp, go_sem, frame_tmp (k137) hL17 (Nat.lt_of_lt_of_eq (by decide : 137 < 186) hsz.symm), frame_tmp (k138) hL18 (Nat.lt_of_lt_of_eq (by decide : 138 < 186) hsz.symm), hnz, hdz]) ⟨frame_put (k139) (q139), ?_⟩
                simpa [upd] using hT
              · rintro L _ Wx ⟨rfl, hT⟩ hcl hk hd
                have hL15 : L 15 = true := by have h := hd; simp [Region.binds] at h; simp [h]
                have hL19 : L 19 = true := by have h := hd; simp [Region.binds] at h; simp [h]
                rw [if_pos (by simp [Region.wanted, yielded, frame_tmp (k135) hL15 (Nat.lt_of_lt_of_eq (by decide : 135 < 186) hsz.symm)])]
                refine op_value (v := .bool true) (w' := Wx) (by simp [execOp, go_sem, frame_tmp (k139) hL19 (Nat.lt_of_lt_of_eq (by decide : 139 < 186) hsz.symm)]) ⟨frame_put (k140) (q140), ?_⟩
                simpa [upd] using hT
              · rintro L _ Wx ⟨rfl, hT⟩ hcl hk hd
                have hL20 : L 20 = true := by have h := hd; simp [Region.binds] at h; simp [h]
                rw [if_pos (by simp [Region.wanted, yielded, frame_tmp (k140) hL20 (Nat.lt_of_lt_of_eq (by decide : 140 < 186) hsz.symm)])]
                refine op_value (v := .slice (some ⟨lb, loff, none⟩) l.length vc) (w' := Wx) (by simp [execOp, go_sem, frame_tout (n0) u0]) ⟨frame_put (k141) (q141), ?_⟩
                simpa [upd] using hT
              · rintro L _ Wx ⟨rfl, hT⟩ hcl hk hd
                have hL20 : L 20 = true := by have h := hd; simp [Region.binds] at h; simp [h]
                rw [if_pos (by simp [Region.wanted, yielded, frame_tmp (k140) hL20 (Nat.lt_of_lt_of_eq (by decide : 140 < 186) hsz.symm)])]
                refine op_value (v := .pointer (some ⟨wr.heap.size, 0, none⟩)) (w' := Wx) (by simp [execOp, go_sem, frame_tout (n6) u6]) ⟨frame_put (k142) (q142), ?_⟩
                simpa [upd] using hT
              · rintro L _ Wx ⟨rfl, hT⟩ hcl hk hd
                have hL20 : L 20 = true := by have h := hd; simp [Region.binds] at h; simp [h]
                have hL22 : L 22 = true := by have h := hd; simp [Region.binds] at h; simp [h]
                rw [if_pos (by simp [Region.wanted, yielded, frame_tmp (k140) hL20 (Nat.lt_of_lt_of_eq (by decide : 140 < 186) hsz.symm)])]
                obtain ⟨e0, e1, e2, e3, e4, e5, e6, e7, e8, e9, e10, e11, e12, e13, e14, e15, e16, e17, e18, e19, e20, e21, e22, e23, e24, e25, e26, e27, c0, c1, c2, c3, c4, c5, c6, c7, c8, c9, c10, c11, c12⟩ := HF.out Wx (HB5.out.trans (hT.mono HB5.out.size))
                refine op_value (v := .int .i64 (i : Int)) (w' := Wx) (by simp [execOp, go_sem, frame_tmp (k142) hL22 (Nat.lt_of_lt_of_eq (by decide : 142 < 186) hsz.symm), e0]) ⟨frame_put (k143) (q143), ?_⟩
                simpa [upd] using hT
              · rintro L _ Wx ⟨rfl, hT⟩ hcl hk hd
                have hL20 : L 20 = true := by have h := hd; simp [Region.binds] at h; simp [h]
                have hL21 : L 21 = true := by have h := hd; simp [Region.binds] at h; simp [h]
                have hL23 : L 23 = true := by have h := hd; simp [Region.binds] at h; simp [h]
                rw [if_pos (by simp [Region.wanted, yielded, frame_tmp (k140) hL20 (Nat.lt_of_lt_of_eq (by decide : 140 < 186) hsz.symm)])]
                refine op_value (v := .slice (some ⟨lb, loff, none⟩) i vc) (w' := Wx) (by simp [execOp, go_sem, frame_tmp (k141) hL21 (Nat.lt_of_lt_of_eq (by decide : 141 < 186) hsz.symm), frame_tmp (k143) hL23 (Nat.lt_of_lt_of_eq (by decide : 143 < 186) hsz.symm), hi0, hic]) ⟨frame_put (k144) (q144), ?_⟩
                simpa [upd] using hT
              · rintro L _ Wx ⟨rfl, hT⟩ hcl hk hd
                have hL20 : L 20 = true := by have h := hd; simp [Region.binds] at h; simp [h]
                rw [if_pos (by simp [Region.wanted, yielded, frame_tmp (k140) hL20 (Nat.lt_of_lt_of_eq (by decide : 140 < 186) hsz.symm)])]
                refine op_value (v := .pointer (some ⟨wr.heap.size, 24, none⟩)) (w' := Wx) (by simp [execOp, go_sem, frame_tout (n6) u6]) ⟨frame_put (k145) (q145), ?_⟩
                simpa [upd] using hT
              · rintro L _ Wx ⟨rfl, hT⟩ hcl hk hd
                have hL20 : L 20 = true := by have h := hd; simp [Region.binds] at h; simp [h]
                have hL25 : L 25 = true := by have h := hd; simp [Region.binds] at h; simp [h]
                rw [if_pos (by simp [Region.wanted, yielded, frame_tmp (k140) hL20 (Nat.lt_of_lt_of_eq (by decide : 140 < 186) hsz.symm)])]
                obtain ⟨e0, e1, e2, e3, e4, e5, e6, e7, e8, e9, e10, e11, e12, e13, e14, e15, e16, e17, e18, e19, e20, e21, e22, e23, e24, e25, e26, e27, c0, c1, c2, c3, c4, c5, c6, c7, c8, c9, c10, c11, c12⟩ := HF.out Wx (HB5.out.trans (hT.mono HB5.out.size))
                refine op_value (v := .agg #[.int .i64 fwas.s, .int .i64 fwas.i, .int .i64 fwas.t]) (w' := Wx) (by simp [execOp, go_sem, frame_tmp (k145) hL25 (Nat.lt_of_lt_of_eq (by decide : 145 < 186) hsz.symm), e24, e25, e26]) ⟨frame_put (k146) (q146), ?_⟩
                simpa [upd] using hT
              · rintro L _ Wx ⟨rfl, hT⟩ hcl hk hd
                have hL20 : L 20 = true := by have h := hd; simp [Region.binds] at h; simp [h]
                rw [if_pos (by simp [Region.wanted, yielded, frame_tmp (k140) hL20 (Nat.lt_of_lt_of_eq (by decide : 140 < 186) hsz.symm)])]
                refine op_value (v := .pointer (some ⟨wr.heap.size, 4, none⟩)) (w' := Wx) (by simp [execOp, go_sem, frame_tout (n6) u6]) ⟨frame_put (k147) (q147), ?_⟩
                simpa [upd] using hT
              · rintro L _ Wx ⟨rfl, hT⟩ hcl hk hd
                have hL20 : L 20 = true := by have h := hd; simp [Region.binds] at h; simp [h]
                have hL27 : L 27 = true := by have h := hd; simp [Region.binds] at h; simp [h]
                rw [if_pos (by simp [Region.wanted, yielded, frame_tmp (k140) hL20 (Nat.lt_of_lt_of_eq (by decide : 140 < 186) hsz.symm)])]
                obtain ⟨e0, e1, e2, e3, e4, e5, e6, e7, e8, e9, e10, e11, e12, e13, e14, e15, e16, e17, e18, e19, e20, e21, e22, e23, e24, e25, e26, e27, c0, c1, c2, c3, c4, c5, c6, c7, c8, c9, c10, c11, c12⟩ := HF.out Wx (HB5.out.trans (hT.mono HB5.out.size))
                refine op_value (v := .int .i64 x.b) (w' := Wx) (by simp [execOp, go_sem, frame_tmp (k147) hL27 (Nat.lt_of_lt_of_eq (by decide : 147 < 186) hsz.symm), e4]) ⟨frame_put (k148) (q148), ?_⟩
                simpa [upd] using hT
              · rintro L _ Wx ⟨rfl, hT⟩ hcl hk hd
                have hL20 : L 20 = true := by have h := hd; simp [Region.binds] at h; simp [h]
                rw [if_pos (by simp [Region.wanted, yielded, frame_tmp (k140) hL20 (Nat.lt_of_lt_of_eq (by decide : 140 < 186) hsz.symm)])]
                refine op_value (v := .pointer (some ⟨wr.heap.size, 13, none⟩)) (w' := Wx) (by simp [execOp, go_sem, frame_tout (n6) u6]) ⟨frame_put (k149) (q149), ?_⟩
                simpa [upd] using hT
              · rintro L _ Wx ⟨rfl, hT⟩ hcl hk hd
                have hL20 : L 20 = true := by have h := hd; simp [Region.binds] at h; simp [h]
                have hL29 : L 29 = true := by have h := hd; simp [Region.binds] at h; simp [h]
                rw [if_pos (by simp [Region.wanted, yielded, frame_tmp (k140) hL20 (Nat.lt_of_lt_of_eq (by decide : 140 < 186) hsz.symm)])]
                obtain ⟨e0, e1, e2, e3, e4, e5, e6, e7, e8, e9, e10, e11, e12, e13, e14, e15, e16, e17, e18, e19, e20, e21, e22, e23, e24, e25, e26, e27, c0, c1, c2, c3, c4, c5, c6, c7, c8, c9, c10, c11, c12⟩ := HF.out Wx (HB5.out.trans (hT.mono HB5.out.size))
                refine op_value (v := .agg #[.int .u8 x.v.a, .int .u8 x.v.b, .int .u8 x.v.c, .int .u8 x.v.d, .int .u8 x.v.e, .int .u8 x.v.f, .int .u8 x.v.g, .int .u8 x.v.h]) (w' := Wx) (by simp [execOp, go_sem, frame_tmp (k149) hL29 (Nat.lt_of_lt_of_eq (by decide : 149 < 186) hsz.symm), e13, e14, e15, e16, e17, e18, e19, e20]) ⟨frame_put (k150) (q150), ?_⟩
                simpa [upd] using hT
              · rintro L _ Wx ⟨rfl, hT⟩ hcl hk hd
                have hL20 : L 20 = true := by have h := hd; simp [Region.binds] at h; simp [h]
                have hL24 : L 24 = true := by have h := hd; simp [Region.binds] at h; simp [h]
                have hL26 : L 26 = true := by have h := hd; simp [Region.binds] at h; simp [h]
                have hL28 : L 28 = true := by have h := hd; simp [Region.binds] at h; simp [h]
                have hL30 : L 30 = true := by have h := hd; simp [Region.binds] at h; simp [h]
                rw [if_pos (by simp [Region.wanted, yielded, frame_tmp (k140) hL20 (Nat.lt_of_lt_of_eq (by decide : 140 < 186) hsz.symm)])]
                refine op_callP (f := 30) (args := #[.slice (some ⟨lb, loff, none⟩) i vc, .agg #[.int .i64 fwas.s, .int .i64 fwas.i, .int .i64 fwas.t], .int .i64 x.b, .agg #[.int .u8 x.v.a, .int .u8 x.v.b, .int .u8 x.v.c, .int .u8 x.v.d, .int .u8 x.v.e, .int .u8 x.v.f, .int .u8 x.v.g, .int .u8 x.v.h]]) (by simp [go_sem, frame_tmp (k144) hL24 (Nat.lt_of_lt_of_eq (by decide : 144 < 186) hsz.symm), frame_tmp (k146) hL26 (Nat.lt_of_lt_of_eq (by decide : 146 < 186) hsz.symm), frame_tmp (k148) hL28 (Nat.lt_of_lt_of_eq (by decide : 148 < 186) hsz.symm), frame_tmp (k150) hL30 (Nat.lt_of_lt_of_eq (by decide : 150 < 186) hsz.symm)]) (hWb Wx hT) ?_
                rintro e w' ⟨rfl, hb'⟩
                refine ⟨_, rfl, frame_put (k151) (q151), ?_⟩
                exact hT.trans (hb'.mono hT.size)
              · rintro L _ Wx ⟨rfl, hT⟩ hcl hk hd
                have hL20 : L 20 = true := by have h := hd; simp [Region.binds] at h; simp [h]
                have hL31 : L 31 = true := by have h := hd; simp [Region.binds] at h; simp [h]
                rw [if_pos (by simp [Region.wanted, yielded, frame_tmp (k140) hL20 (Nat.lt_of_lt_of_eq (by decide : 140 < 186) hsz.symm)])]
                refine op_value (v := .bool false) (w' := Wx) (by simp [execOp, go_sem, frame_tmp (k151) hL31 (Nat.lt_of_lt_of_eq (by decide : 151 < 186) hsz.symm)]) ⟨frame_put (k152) (q152), ?_⟩
                simpa [upd] using hT
              · rintro L _ Wx ⟨rfl, hT⟩ hcl hk hd
                have hL15 : L 15 = true := by have h := hd; simp [Region.binds] at h; simp [h]
                have hL20 : L 20 = true := by have h := hd; simp [Region.binds] at h; simp [h]
                have hL32 : L 32 = true := by have h := hd; simp [Region.binds] at h; simp [h]
                rw [if_pos (by simp [Region.wanted, yielded, frame_tmp (k135) hL15 (Nat.lt_of_lt_of_eq (by decide : 135 < 186) hsz.symm)])]
                refine op_value (v := .bool false) (w' := Wx) (by simp [execOp, go_sem, frame_tmp (k140) hL20 (Nat.lt_of_lt_of_eq (by decide : 140 < 186) hsz.symm), frame_tmp (k152) hL32 (Nat.lt_of_lt_of_eq (by decide : 152 < 186) hsz.symm)]) ⟨frame_put (k153) (q153), ?_⟩
                simpa [upd] using hT
              · rintro L _ Wx ⟨rfl, hT⟩ hcl hk hd
                have hL15 : L 15 = true := by have h := hd; simp [Region.binds] at h; simp [h]
                have hL33 : L 33 = true := by have h := hd; simp [Region.binds] at h; simp [h]
                rw [if_pos (by simp [Region.wanted])]
                refine op_value (v := .bool false) (w' := Wx) (by simp [execOp, go_sem, frame_tmp (k135) hL15 (Nat.lt_of_lt_of_eq (by decide : 135 < 186) hsz.symm), frame_tmp (k153) hL33 (Nat.lt_of_lt_of_eq (by decide : 153 < 186) hsz.symm)]) ⟨frame_put (k154) (q154), ?_⟩
                simpa [upd] using hT
            · rintro L W' hT hall
              simp only [putAll, Act.put, List.setIfInBounds_toArray, List.set_cons_succ, List.set_cons_zero]
              have HB6 := Lib.hid (HB5.out.trans (hT.mono HB5.out.size))
              clear hT hall
              obtain ⟨e0, e1, e2, e3, e4, e5, e6, e7, e8, e9, e10, e11, e12, e13, e14, e15, e16, e17, e18, e19, e20, e21, e22, e23, e24, e25, e26, e27, c0, c1, c2, c3, c4, c5, c6, c7, c8, c9, c10, c11, c12⟩ := HF.out W' HB6.out
              have hen := fun w => eql_nm fwas x.n w
              obtain ⟨_, _, _, _, _, hk0, hk4, hk3, hkn⟩ := HBL.out
              have hl1 : decide (fk < 0) = false := by simp; omega
              have hl2 : decide (fk > 4) = false := by simp; omega
              have HK3 := Lib.hid hk3
              have HKN := Lib.hid hkn
              have HG := Lib.hid (step_good HM.out HX.out)
              have HWZ := Lib.hid hwz
              clear hk0 hk4 hk3 hkn hwz
              by_cases q4 : fk = 4
              · first
                | exact absurd (HKN.out q4) HWZ.out
                | have b4 : (fk == 4) = true := by simp [q4]
                  have b3 : (fk == 3) = false := by simp [q4]
                  have dN : decide (fwas = x.n) = false := by
                    have h1 := HKN.out q4
                    have h2 := HG.out
                    simp only [decide_eq_false_iff_not]
                    intro h3
                    exact h2 (h3.symm.trans h1)
                  clear q4
                  go_wp2_with fail
                  go_quiet (fail)
                  go_wp2_with fail
                  go_roundw
                  case rel => exact ⟨q + 1, by have := HLT.out; omega, by go_num, (HB3.out.trans (HB6.out.mono HB3.out.size)).trans ⟨rfl, rfl, rfl, Nat.le_refl _, fun _ _ => rfl⟩⟩
                  case measure => have := HLT.out; simp [intOf]; omega
              · have b4 : (fk == 4) = false := by simpa using q4
                by_cases q3 : fk = 3
                · have b3 : (fk == 3) = true := by simp [q3]
                  have dN : decide (fwas = x.n) = true := by simpa using HK3.out.1 q3
                  clear q3 q4
                  go_wp2_with fail
                  go_quiet (fail)
                  go_wp2_with fail
                  go_roundw
                  case rel => exact ⟨q + 1, by have := HLT.out; omega, by go_num, (HB3.out.trans (HB6.out.mono HB3.out.size)).trans ⟨rfl, rfl, rfl, Nat.le_refl _, fun _ _ => rfl⟩⟩
                  case measure => have := HLT.out; simp [intOf]; omega
                · have b3 : (fk == 3) = false := by simpa using q3
                  have dN : decide (fwas = x.n) = false := by
                    simp only [decide_eq_false_iff_not]
                    exact fun h => q3 (HK3.out.2 h)
                  clear q3 q4
                  go_wp2_with fail
                  go_quiet (fail)
                  go_wp2_with fail
                  go_roundw
                  case rel => exact ⟨q + 1, by have := HLT.out; omega, by go_num, (HB3.out.trans (HB6.out.mono HB3.out.size)).trans ⟨rfl, rfl, rfl, Nat.le_refl _, fun _ _ => rfl⟩⟩
                  case measure => have := HLT.out; simp [intOf]; omega
            -- END CAN
      · have hdS : decide (fs = ⟨0, 0, 0⟩) = false := by simpa [nz] using hs
        have hwr := wrote_any l (.slice (some ⟨lb, loff, none⟩) l.length vc) fs x.b fw w4 (by omega) (HS.out w4 HB4.out)
        rw [HBL.out.2.2.1 hs] at hwr
        have HWR := Lib.hid hwr
        clear hwr hs
        go_wp2_with fail
        refine HWR.out.mono ?_
        rintro e w5 ⟨rfl, b5⟩
        have HB5 : Hid (Below w3.heap.size w3 w5) := HB4.out.trans (b5.mono HB4.out.size)
        clear b5 e0 e1 e2 e3 e4 e5 e6 e7 e8 e9 e10 e11 e12 e13 e14 e15 e16 e17 e18 e19 e20 e21 e22 e23 e24 e25 e26 e27 c0 c1 c2 c3 c4 c5 c6 c7 c8 c9 c10 c11 c12 hsz hsn hfz hdS
        · have hez := fun w => eql_nm_z fwas w
          have hnz := fun w => neq_nm_z fwas w
          have hcp := HCP.out
          have hi0 : (0 : Int) ≤ (i : Int) := by omega
          have hic : (i : Int) ≤ (vc : Int) := by omega
          by_cases hwz : fwas = nz
          · have hdz : decide (fwas = ⟨0, 0, 0⟩) = true := by simpa [nz] using hwz
            have hBy : ∀ Wx, Below w5.heap.size w5 Wx → Calls Try.prog 31 #[.slice (some ⟨lb, loff, none⟩) i vc, .int .i64 x.b, .agg #[.int .u8 x.v.a, .int .u8 x.v.b, .int .u8 x.v.c, .int .u8 x.v.d, .int .u8 x.v.e, .int .u8 x.v.f, .int .u8 x.v.g, .int .u8 x.v.h]] Wx fun e w' => e = .returned (.bool false) ∧ Below Wx.heap.size Wx w' := fun Wx hT => by
              have h := wroteBy_any (l.take i) (.slice (some ⟨lb, loff, none⟩) (l.take i).length vc) x.b x.v Wx (by rw [List.length_take]; omega) (sns_take (HS.out Wx (HB5.out.trans (hT.mono HB5.out.size))) i (by omega))
              rw [List.length_take, Nat.min_eq_left (by omega), HBL.out.2.2.2.1 hwz] at h
              exact h
            go_wp2_with fail
            -- BEGIN CBZ
            refine wp_region_frame mixed (by kernel_rfl) [(0, 120, .pointer (some ⟨wr.heap.size, 24, none⟩)), (1, 121, .agg #[.int .i64 fwas.s, .int .i64 fwas.i, .int .i64 fwas.t]), (2, 122, .agg #[.int .i64 0, .int .i64 0, .int .i64 0]), (3, 123, .bool true), (4, 124, .bool true), (5, 125, .slice (some ⟨lb, loff, none⟩) l.length vc), (6, 126, .pointer (some ⟨wr.heap.size, 0, none⟩)), (7, 127, .int .i64 (i : Int)), (8, 128, .slice (some ⟨lb, loff, none⟩) i vc), (9, 129, .pointer (some ⟨wr.heap.size, 4, none⟩)), (10, 130, .int .i64 x.b), (11, 131, .pointer (some ⟨wr.heap.size, 13, none⟩)), (12, 132, .agg #[.int .u8 x.v.a, .int .u8 x.v.b, .int .u8 x.v.c, .int .u8 x.v.d, .int .u8 x.v.e, .int .u8 x.v.f, .int .u8 x.v.g, .int .u8 x.v.h]), (13, 133, .bool false), (14, 134, .bool false), (15, 135, .bool false), (16, 136, .pointer (some ⟨wr.heap.size, 24, none⟩)), (17, 137, .agg #[.int .i64 fwas.s, .int .i64 fwas.i, .int .i64 fwas.t]), (18, 138, .agg #[.int .i64 0, .int .i64 0, .int .i64 0]), (19, 139, .bool false), (20, 140, .bool false), (21, 141, undef), (22, 142, undef), (23, 143, undef), (24, 144, undef), (25, 145, undef), (26, 146, undef), (27, 147, undef), (28, 148, undef), (29, 149, undef), (30, 150, undef), (31, 151, undef), (32, 152, undef), (33, 153, .bool false), (34, 154, .bool false)] (fun L Wx => Below w5.heap.size w5 Wx) ?_ ?_ (by rfl) (by rfl) ?_
            · exact (Below.refl _ _).drew
            · intro a0 ps ha0 hps
              have hsz : a0.tmps.size = 186 := by rw [ha0]; rfl
              have u0 : a0.tmps[0]? = some (.slice (some ⟨lb, loff, none⟩) l.length vc) := by rw [ha0]; rfl
              have u6 : a0.tmps[6]? = some (.pointer (some ⟨wr.heap.size, 0, none⟩)) := by rw [ha0]; rfl
              have n0 : slotOf ps 0 = none := by rw [hps]; rfl
              have n6 : slotOf ps 6 = none := by rw [hps]; rfl
              have k120 : slotOf ps 120 = some (0, .pointer (some ⟨wr.heap.size, 24, none⟩)) := by rw [hps]; rfl
              have q120 : keysOK ps 0 120 = true := by rw [hps]; rfl
              have k121 : slotOf ps 121 = some (1, .agg #[.int .i64 fwas.s, .int .i64 fwas.i, .int .i64 fwas.t]) := by rw [hps]; rfl
              have q121 : keysOK ps 1 121 = true := by rw [hps]; rfl
              have k122 : slotOf ps 122 = some (2, .agg #[.int .i64 0, .int .i64 0, .int .i64 0]) := by rw [hps]; rfl
              have q122 : keysOK ps 2 122 = true := by rw [hps]; rfl
              have k123 : slotOf ps 123 = some (3, .bool true) := by rw [hps]; rfl
              have q123 : keysOK ps 3 123 = true := by rw [hps]; rfl
              have k124 : slotOf ps 124 = some (4, .bool true) := by rw [hps]; rfl
              have q124 : keysOK ps 4 124 = true := by rw [hps]; rfl
              have k125 : slotOf ps 125 = some (5, .slice (some ⟨lb, loff, none⟩) l.length vc) := by rw [hps]; rfl
              have q125 : keysOK ps 5 125 = true := by rw [hps]; rfl
              have k126 : slotOf ps 126 = some (6, .pointer (some ⟨wr.heap.size, 0, none⟩)) := by rw [hps]; rfl
              have q126 : keysOK ps 6 126 = true := by rw [hps]; rfl
              have k127 : slotOf ps 127 = some (7, .int .i64 (i : Int)) := by rw [hps]; rfl
              have q127 : keysOK ps 7 127 = true := by rw [hps]; rfl
              have k128 : slotOf ps 128 = some (8, .slice (some ⟨lb, loff, none⟩) i vc) := by rw [hps]; rfl
              have q128 : keysOK ps 8 128 = true := by rw [hps]; rfl
              have k129 : slotOf ps 129 = some (9, .pointer (some ⟨wr.heap.size, 4, none⟩)) := by rw [hps]; rfl
              have q129 : keysOK ps 9 129 = true := by rw [hps]; rfl
              have k130 : slotOf ps 130 = some (10, .int .i64 x.b) := by rw [hps]; rfl
              have q130 : keysOK ps 10 130 = true := by rw [hps]; rfl
              have k131 : slotOf ps 131 = some (11, .pointer (some ⟨wr.heap.size, 13, none⟩)) := by rw [hps]; rfl
              have q131 : keysOK ps 11 131 = true := by rw [hps]; rfl
              have k132 : slotOf ps 132 = some (12, .agg #[.int .u8 x.v.a, .int .u8 x.v.b, .int .u8 x.v.c, .int .u8 x.v.d, .int .u8 x.v.e, .int .u8 x.v.f, .int .u8 x.v.g, .int .u8 x.v.h]) := by rw [hps]; rfl
              have q132 : keysOK ps 12 132 = true := by rw [hps]; rfl
              have k133 : slotOf ps 133 = some (13, .bool false) := by rw [hps]; rfl
              have q133 : keysOK ps 13 133 = true := by rw [hps]; rfl
              have k134 : slotOf ps 134 = some (14, .bool false) := by rw [hps]; rfl
              have q134 : keysOK ps 14 134 = true := by rw [hps]; rfl
              have k135 : slotOf ps 135 = some (15, .bool false) := by rw [hps]; rfl
              have q135 : keysOK ps 15 135 = true := by rw [hps]; rfl
              have k136 : slotOf ps 136 = some (16, .pointer (some ⟨wr.heap.size, 24, none⟩)) := by rw [hps]; rfl
              have q136 : keysOK ps 16 136 = true := by rw [hps]; rfl
              have k137 : slotOf ps 137 = some (17, .agg #[.int .i64 fwas.s, .int .i64 fwas.i, .int .i64 fwas.t]) := by rw [hps]; rfl
              have q137 : keysOK ps 17 137 = true := by rw [hps]; rfl
              have k138 : slotOf ps 138 = some (18, .agg #[.int .i64 0, .int .i64 0, .int .i64 0]) := by rw [hps]; rfl
              have q138 : keysOK ps 18 138 = true := by rw [hps]; rfl
              have k139 : slotOf ps 139 = some (19, .bool false) := by rw [hps]; rfl
              have q139 : keysOK ps 19 139 = true := by rw [hps]; rfl
              have k140 : slotOf ps 140 = some (20, .bool false) := by rw [hps]; rfl
              have q140 : keysOK ps 20 140 = true := by rw [hps]; rfl
              have k141 : slotOf ps 141 = some (21, undef) := by rw [hps]; rfl
              have q141 : keysOK ps 21 141 = true := by rw [hps]; rfl
              have k142 : slotOf ps 142 = some (22, undef) := by rw [hps]; rfl
              have q142 : keysOK ps 22 142 = true := by rw [hps]; rfl
              have k143 : slotOf ps 143 = some (23, undef) := by rw [hps]; rfl
              have q143 : keysOK ps 23 143 = true := by rw [hps]; rfl
              have k144 : slotOf ps 144 = some (24, undef) := by rw [hps]; rfl
              have q144 : keysOK ps 24 144 = true := by rw [hps]; rfl
              have k145 : slotOf ps 145 = some (25, undef) := by rw [hps]; rfl
              have q145 : keysOK ps 25 145 = true := by rw [hps]; rfl
              have k146 : slotOf ps 146 = some (26, undef) := by rw [hps]; rfl
              have q146 : keysOK ps 26 146 = true := by rw [hps]; rfl
              have k147 : slotOf ps 147 = some (27, undef) := by rw [hps]; rfl
              have q147 : keysOK ps 27 147 = true := by rw [hps]; rfl
              have k148 : slotOf ps 148 = some (28, undef) := by rw [hps]; rfl
              have q148 : keysOK ps 28 148 = true := by rw [hps]; rfl
              have k149 : slotOf ps 149 = some (29, undef) := by rw [hps]; rfl
              have q149 : keysOK ps 29 149 = true := by rw [hps]; rfl
              have k150 : slotOf ps 150 = some (30, undef) := by rw [hps]; rfl
              have q150 : keysOK ps 30 150 = true := by rw [hps]; rfl
              have k151 : slotOf ps 151 = some (31, undef) := by rw [hps]; rfl
              have q151 : keysOK ps 31 151 = true := by rw [hps]; rfl
              have k152 : slotOf ps 152 = some (32, undef) := by rw [hps]; rfl
              have q152 : keysOK ps 32 152 = true := by rw [hps]; rfl
              have k153 : slotOf ps 153 = some (33, .bool false) := by rw [hps]; rfl
              have q153 : keysOK ps 33 153 = true := by rw [hps]; rfl
              have k154 : slotOf ps 154 = some (34, .bool false) := by rw [hps]; rfl
              have q154 : keysOK ps 34 154 = true := by rw [hps]; rfl
              clear ha0 hps
              refine ⟨?_, ?_, ?_, ?_, ?_, ?_, ?_, ?_, ?_, ?_, ?_, ?_, ?_, ?_, ?_, ?_, ?_, ?_, ?_, ?_, ?_, ?_, ?_, ?_, ?_, ?_, ?_, ?_, ?_, ?_, ?_, ?_, ?_, ?_, ?_, trivial⟩
              · rintro L _ Wx ⟨rfl, hT⟩ hcl hk hd
                rw [if_pos (by simp [Region.wanted])]
                refine op_value (v := .pointer (some ⟨wr.heap.size, 24, none⟩)) (w' := Wx) (by simp [execOp, go_sem, frame_tout (n6) u6]) ⟨frame_put (k120) (q120), ?_⟩
                simpa [upd] using hT
              · rintro L _ Wx ⟨rfl, hT⟩ hcl hk hd
                have hL0 : L 0 = true := by have h := hd; simp [Region.binds] at h; simp [h]
                rw [if_pos (by simp [Region.wanted])]
                obtain ⟨e0, e1, e2, e3, e4, e5, e6, e7, e8, e9, e10, e11, e12, e13, e14, e15, e16, e17, e18, e19, e20, e21, e22, e23, e24, e25, e26, e27, c0, c1, c2, c3, c4, c5, c6, c7, c8, c9, c10, c11, c12⟩ := HF.out Wx (HB5.out.trans (hT.mono HB5.out.size))
                refine op_value (v := .agg #[.int .i64 fwas.s, .int .i64 fwas.i, .int .i64 fwas.t]) (w' := Wx) (by simp [execOp, go_sem, frame_tmp (k120) hL0 (Nat.lt_of_lt_of_eq (by decide : 120 < 186) hsz.symm), e24, e25, e26]) ⟨frame_put (k121) (q121), ?_⟩
                simpa [upd] using hT
              · rintro L _ Wx ⟨rfl, hT⟩ hcl hk hd
                rw [if_pos (by simp [Region.wanted])]
                refine op_value (v := .agg #[.int .i64 0, .int .i64 0, .int .i64 0]) (w' := Wx) (by simp [execOp, go_sem]) ⟨frame_put (k122) (q122), ?_⟩
                simpa [upd] using hT
              · rintro L _ Wx ⟨rfl, hT⟩ hcl hk hd
                have hL1 : L 1 = true := by have h := hd; simp [Region.binds] at h; simp [h]
                have hL2 : L 2 = true := by have h := hd; simp [Region.binds] at h; simp [h]
                rw [if_pos (by simp [Region.wanted])]
                refine op_value (v := .bool true) (w' := Wx) (by simp [execOp, go_sem, frame_tmp (k121) hL1 (Nat.lt_of_lt_of_eq (by decide : 121 < 186) hsz.symm), frame_tmp (k122) hL2 (Nat.lt_of_lt_of_eq (by decide : 122 < 186) hsz.symm), hez, hdz]) ⟨frame_put (k123) (q123), ?_⟩
                simpa [upd] using hT
              · rintro L _ Wx ⟨rfl, hT⟩ hcl hk hd
                have hL3 : L 3 = true := by have h := hd; simp [Region.binds] at h; simp [h]
                rw [if_pos (by simp [Region.wanted])]
                refine op_value (v := .bool true) (w' := Wx) (by simp [execOp, go_sem, frame_tmp (k123) hL3 (Nat.lt_of_lt_of_eq (by decide : 123 < 186) hsz.symm)]) ⟨frame_put (k124) (q124), ?_⟩
                simpa [upd] using hT
              · rintro L _ Wx ⟨rfl, hT⟩ hcl hk hd
                have hL4 : L 4 = true := by have h := hd; simp [Region.binds] at h; simp [h]
                rw [if_pos (by simp [Region.wanted, yielded, frame_tmp (k124) hL4 (Nat.lt_of_lt_of_eq (by decide : 124 < 186) hsz.symm)])]
                refine op_value (v := .slice (some ⟨lb, loff, none⟩) l.length vc) (w' := Wx) (by simp [execOp, go_sem, frame_tout (n0) u0]) ⟨frame_put (k125) (q125), ?_⟩
                simpa [upd] using hT
              · rintro L _ Wx ⟨rfl, hT⟩ hcl hk hd
                have hL4 : L 4 = true := by have h := hd; simp [Region.binds] at h; simp [h]
                rw [if_pos (by simp [Region.wanted, yielded, frame_tmp (k124) hL4 (Nat.lt_of_lt_of_eq (by decide : 124 < 186) hsz.symm)])]
                refine op_value (v := .pointer (some ⟨wr.heap.size, 0, none⟩)) (w' := Wx) (by simp [execOp, go_sem, frame_tout (n6) u6]) ⟨frame_put (k126) (q126), ?_⟩
                simpa [upd] using hT
              · rintro L _ Wx ⟨rfl, hT⟩ hcl hk hd
                have hL4 : L 4 = true := by have h := hd; simp [Region.binds] at h; simp [h]
                have hL6 : L 6 = true := by have h := hd; simp [Region.binds] at h; simp [h]
                rw [if_pos (by simp [Region.wanted, yielded, frame_tmp (k124) hL4 (Nat.lt_of_lt_of_eq (by decide : 124 < 186) hsz.symm)])]
                obtain ⟨e0, e1, e2, e3, e4, e5, e6, e7, e8, e9, e10, e11, e12, e13, e14, e15, e16, e17, e18, e19, e20, e21, e22, e23, e24, e25, e26, e27, c0, c1, c2, c3, c4, c5, c6, c7, c8, c9, c10, c11, c12⟩ := HF.out Wx (HB5.out.trans (hT.mono HB5.out.size))
                refine op_value (v := .int .i64 (i : Int)) (w' := Wx) (by simp [execOp, go_sem, frame_tmp (k126) hL6 (Nat.lt_of_lt_of_eq (by decide : 126 < 186) hsz.symm), e0]) ⟨frame_put (k127) (q127), ?_⟩
                simpa [upd] using hT
              · rintro L _ Wx ⟨rfl, hT⟩ hcl hk hd
                have hL4 : L 4 = true := by have h := hd; simp [Region.binds] at h; simp [h]
                have hL5 : L 5 = true := by have h := hd; simp [Region.binds] at h; simp [h]
                have hL7 : L 7 = true := by have h := hd; simp [Region.binds] at h; simp [h]
                rw [if_pos (by simp [Region.wanted, yielded, frame_tmp (k124) hL4 (Nat.lt_of_lt_of_eq (by decide : 124 < 186) hsz.symm)])]
                refine op_value (v := .slice (some ⟨lb, loff, none⟩) i vc) (w' := Wx) (by simp [execOp, go_sem, frame_tmp (k125) hL5 (Nat.lt_of_lt_of_eq (by decide : 125 < 186) hsz.symm), frame_tmp (k127) hL7 (Nat.lt_of_lt_of_eq (by decide : 127 < 186) hsz.symm), hi0, hic]) ⟨frame_put (k128) (q128), ?_⟩
                simpa [upd] using hT
              · rintro L _ Wx ⟨rfl, hT⟩ hcl hk hd
                have hL4 : L 4 = true := by have h := hd; simp [Region.binds] at h; simp [h]
                rw [if_pos (by simp [Region.wanted, yielded, frame_tmp (k124) hL4 (Nat.lt_of_lt_of_eq (by decide : 124 < 186) hsz.symm)])]
                refine op_value (v := .pointer (some ⟨wr.heap.size, 4, none⟩)) (w' := Wx) (by simp [execOp, go_sem, frame_tout (n6) u6]) ⟨frame_put (k129) (q129), ?_⟩
                simpa [upd] using hT
              · rintro L _ Wx ⟨rfl, hT⟩ hcl hk hd
                have hL4 : L 4 = true := by have h := hd; simp [Region.binds] at h; simp [h]
                have hL9 : L 9 = true := by have h := hd; simp [Region.binds] at h; simp [h]
                rw [if_pos (by simp [Region.wanted, yielded, frame_tmp (k124) hL4 (Nat.lt_of_lt_of_eq (by decide : 124 < 186) hsz.symm)])]
                obtain ⟨e0, e1, e2, e3, e4, e5, e6, e7, e8, e9, e10, e11, e12, e13, e14, e15, e16, e17, e18, e19, e20, e21, e22, e23, e24, e25, e26, e27, c0, c1, c2, c3, c4, c5, c6, c7, c8, c9, c10, c11, c12⟩ := HF.out Wx (HB5.out.trans (hT.mono HB5.out.size))
                refine op_value (v := .int .i64 x.b) (w' := Wx) (by simp [execOp, go_sem, frame_tmp (k129) hL9 (Nat.lt_of_lt_of_eq (by decide : 129 < 186) hsz.symm), e4]) ⟨frame_put (k130) (q130), ?_⟩
                simpa [upd] using hT
              · rintro L _ Wx ⟨rfl, hT⟩ hcl hk hd
                have hL4 : L 4 = true := by have h := hd; simp [Region.binds] at h; simp [h]
                rw [if_pos (by simp [Region.wanted, yielded, frame_tmp (k124) hL4 (Nat.lt_of_lt_of_eq (by decide : 124 < 186) hsz.symm)])]
                refine op_value (v := .pointer (some ⟨wr.heap.size, 13, none⟩)) (w' := Wx) (by simp [execOp, go_sem, frame_tout (n6) u6]) ⟨frame_put (k131) (q131), ?_⟩
                simpa [upd] using hT
              · rintro L _ Wx ⟨rfl, hT⟩ hcl hk hd
                have hL4 : L 4 = true := by have h := hd; simp [Region.binds] at h; simp [h]
                have hL11 : L 11 = true := by have h := hd; simp [Region.binds] at h; simp [h]
                rw [if_pos (by simp [Region.wanted, yielded, frame_tmp (k124) hL4 (Nat.lt_of_lt_of_eq (by decide : 124 < 186) hsz.symm)])]
                obtain ⟨e0, e1, e2, e3, e4, e5, e6, e7, e8, e9, e10, e11, e12, e13, e14, e15, e16, e17, e18, e19, e20, e21, e22, e23, e24, e25, e26, e27, c0, c1, c2, c3, c4, c5, c6, c7, c8, c9, c10, c11, c12⟩ := HF.out Wx (HB5.out.trans (hT.mono HB5.out.size))
                refine op_value (v := .agg #[.int .u8 x.v.a, .int .u8 x.v.b, .int .u8 x.v.c, .int .u8 x.v.d, .int .u8 x.v.e, .int .u8 x.v.f, .int .u8 x.v.g, .int .u8 x.v.h]) (w' := Wx) (by simp [execOp, go_sem, frame_tmp (k131) hL11 (Nat.lt_of_lt_of_eq (by decide : 131 < 186) hsz.symm), e13, e14, e15, e16, e17, e18, e19, e20]) ⟨frame_put (k132) (q132), ?_⟩
                simpa [upd] using hT
              · rintro L _ Wx ⟨rfl, hT⟩ hcl hk hd
                have hL4 : L 4 = true := by have h := hd; simp [Region.binds] at h; simp [h]
                have hL8 : L 8 = true := by have h := hd; simp [Region.binds] at h; simp [h]
                have hL10 : L 10 = true := by have h := hd; simp [Region.binds] at h; simp [h]
                have hL12 : L 12 = true := by have h := hd; simp [Region.binds] at h; simp [h]
                rw [if_pos (by simp [Region.wanted, yielded, frame_tmp (k124) hL4 (Nat.lt_of_lt_of_eq (by decide : 124 < 186) hsz.symm)])]
                refine op_callP (f := 31) (args := #[.slice (some ⟨lb, loff, none⟩) i vc, .int .i64 x.b, .agg #[.int .u8 x.v.a, .int .u8 x.v.b, .int .u8 x.v.c, .int .u8 x.v.d, .int .u8 x.v.e, .int .u8 x.v.f, .int .u8 x.v.g, .int .u8 x.v.h]]) (by simp [go_sem, frame_tmp (k128) hL8 (Nat.lt_of_lt_of_eq (by decide : 128 < 186) hsz.symm), frame_tmp (k130) hL10 (Nat.lt_of_lt_of_eq (by decide : 130 < 186) hsz.symm), frame_tmp (k132) hL12 (Nat.lt_of_lt_of_eq (by decide : 132 < 186) hsz.symm)]) (hBy Wx hT) ?_
                rintro e w' ⟨rfl, hb'⟩
                refine ⟨_, rfl, frame_put (k133) (q133), ?_⟩
                exact hT.trans (hb'.mono hT.size)
              · rintro L _ Wx ⟨rfl, hT⟩ hcl hk hd
                have hL4 : L 4 = true := by have h := hd; simp [Region.binds] at h; simp [h]
                have hL13 : L 13 = true := by have h := hd; simp [Region.binds] at h; simp [h]
                rw [if_pos (by simp [Region.wanted])]
                refine op_value (v := .bool false) (w' := Wx) (by simp [execOp, go_sem, frame_tmp (k124) hL4 (Nat.lt_of_lt_of_eq (by decide : 124 < 186) hsz.symm), frame_tmp (k133) hL13 (Nat.lt_of_lt_of_eq (by decide : 133 < 186) hsz.symm)]) ⟨frame_put (k134) (q134), ?_⟩
                simpa [upd] using hT
              · rintro L _ Wx ⟨rfl, hT⟩ hcl hk hd
                have hL14 : L 14 = true := by have h := hd; simp [Region.binds] at h; simp [h]
                rw [if_pos (by simp [Region.wanted])]
                refine op_value (v := .bool false) (w' := Wx) (by simp [execOp, go_sem, frame_tmp (k134) hL14 (Nat.lt_of_lt_of_eq (by decide : 134 < 186) hsz.symm)]) ⟨frame_put (k135) (q135), ?_⟩
                simpa [upd] using hT
              · rintro L _ Wx ⟨rfl, hT⟩ hcl hk hd
                have hL15 : L 15 = true := by have h := hd; simp [Region.binds] at h; simp [h]
                rw [if_pos (by simp [Region.wanted, yielded, frame_tmp (k135) hL15 (Nat.lt_of_lt_of_eq (by decide : 135 < 186) hsz.symm)])]
                refine op_value (v := .pointer (some ⟨wr.heap.size, 24, none⟩)) (w' := Wx) (by simp [execOp, go_sem, frame_tout (n6) u6]) ⟨frame_put (k136) (q136), ?_⟩
                simpa [upd] using hT
              · rintro L _ Wx ⟨rfl, hT⟩ hcl hk hd
                have hL15 : L 15 = true := by have h := hd; simp [Region.binds] at h; simp [h]
                have hL16 : L 16 = true := by have h := hd; simp [Region.binds] at h; simp [h]
                rw [if_pos (by simp [Region.wanted, yielded, frame_tmp (k135) hL15 (Nat.lt_of_lt_of_eq (by decide : 135 < 186) hsz.symm)])]
                obtain ⟨e0, e1, e2, e3, e4, e5, e6, e7, e8, e9, e10, e11, e12, e13, e14, e15, e16, e17, e18, e19, e20, e21, e22, e23, e24, e25, e26, e27, c0, c1, c2, c3, c4, c5, c6, c7, c8, c9, c10, c11, c12⟩ := HF.out Wx (HB5.out.trans (hT.mono HB5.out.size))
                refine op_value (v := .agg #[.int .i64 fwas.s, .int .i64 fwas.i, .int .i64 fwas.t]) (w' := Wx) (by simp [execOp, go_sem, frame_tmp (k136) hL16 (Nat.lt_of_lt_of_eq (by decide : 136 < 186) hsz.symm), e24, e25, e26]) ⟨frame_put (k137) (q137), ?_⟩
                simpa [upd] using hT
              · rintro L _ Wx ⟨rfl, hT⟩ hcl hk hd
                have hL15 : L 15 = true := by have h := hd; simp [Region.binds] at h; simp [h]
                rw [if_pos (by simp [Region.wanted, yielded, frame_tmp (k135) hL15 (Nat.lt_of_lt_of_eq (by decide : 135 < 186) hsz.symm)])]
                refine op_value (v := .agg #[.int .i64 0, .int .i64 0, .int .i64 0]) (w' := Wx) (by simp [execOp, go_sem]) ⟨frame_put (k138) (q138), ?_⟩
                simpa [upd] using hT
              · rintro L _ Wx ⟨rfl, hT⟩ hcl hk hd
                have hL15 : L 15 = true := by have h := hd; simp [Region.binds] at h; simp [h]
                have hL17 : L 17 = true := by have h := hd; simp [Region.binds] at h; simp [h]
                have hL18 : L 18 = true := by have h := hd; simp [Region.binds] at h; simp [h]
                rw [if_pos (by simp [Region.wanted, yielded, frame_tmp (k135) hL15 (Nat.lt_of_lt_of_eq (by decide : 135 < 186) hsz.symm)])]
                refine op_value (v := .bool false) (w' := Wx) (by simp [execOp, go_sem, frame_tmp (k137) hL17 (Nat.lt_of_lt_of_eq (by decide : 137 < 186) hsz.symm), frame_tmp (k138) hL18 (Nat.lt_of_lt_of_eq (by decide : 138 < 186) hsz.symm), hnz, hdz]) ⟨frame_put (k139) (q139), ?_⟩
                simpa [upd] using hT
              · rintro L _ Wx ⟨rfl, hT⟩ hcl hk hd
                have hL15 : L 15 = true := by have h := hd; simp [Region.binds] at h; simp [h]
                have hL19 : L 19 = true := by have h := hd; simp [Region.binds] at h; simp [h]
                rw [if_pos (by simp [Region.wanted, yielded, frame_tmp (k135) hL15 (Nat.lt_of_lt_of_eq (by decide : 135 < 186) hsz.symm)])]
                refine op_value (v := .bool false) (w' := Wx) (by simp [execOp, go_sem, frame_tmp (k139) hL19 (Nat.lt_of_lt_of_eq (by decide : 139 < 186) hsz.symm)]) ⟨frame_put (k140) (q140), ?_⟩
                simpa [upd] using hT
              · rintro L _ Wx ⟨rfl, hT⟩ hcl hk hd
                have hL20 : L 20 = true := by have h := hd; simp [Region.binds] at h; simp [h]
                rw [if_neg (by simp [Region.wanted, yielded, frame_tmp (k140) hL20 (Nat.lt_of_lt_of_eq (by decide : 140 < 186) hsz.symm)])]
                refine ⟨frame_put (k141) (q141), ?_⟩
                simpa [upd] using hT
              · rintro L _ Wx ⟨rfl, hT⟩ hcl hk hd
                have hL20 : L 20 = true := by have h := hd; simp [Region.binds] at h; simp [h]
                rw [if_neg (by simp [Region.wanted, yielded, frame_tmp (k140) hL20 (Nat.lt_of_lt_of_eq (by decide : 140 < 186) hsz.symm)])]
                refine ⟨frame_put (k142) (q142), ?_⟩
                simpa [upd] using hT
              · rintro L _ Wx ⟨rfl, hT⟩ hcl hk hd
                have hL20 : L 20 = true := by have h := hd; simp [Region.binds] at h; simp [h]
                rw [if_neg (by simp [Region.wanted, yielded, frame_tmp (k140) hL20 (Nat.lt_of_lt_of_eq (by decide : 140 < 186) hsz.symm)])]
                refine ⟨frame_put (k143) (q143), ?_⟩
                simpa [upd] using hT
              · rintro L _ Wx ⟨rfl, hT⟩ hcl hk hd
                have hL20 : L 20 = true := by have h := hd; simp [Region.binds] at h; simp [h]
                rw [if_neg (by simp [Region.wanted, yielded, frame_tmp (k140) hL20 (Nat.lt_of_lt_of_eq (by decide : 140 < 186) hsz.symm)])]
                refine ⟨frame_put (k144) (q144), ?_⟩
                simpa [upd] using hT
              · rintro L _ Wx ⟨rfl, hT⟩ hcl hk hd
                have hL20 : L 20 = true := by have h := hd; simp [Region.binds] at h; simp [h]
                rw [if_neg (by simp [Region.wanted, yielded, frame_tmp (k140) hL20 (Nat.lt_of_lt_of_eq (by decide : 140 < 186) hsz.symm)])]
                refine ⟨frame_put (k145) (q145), ?_⟩
                simpa [upd] using hT
              · rintro L _ Wx ⟨rfl, hT⟩ hcl hk hd
                have hL20 : L 20 = true := by have h := hd; simp [Region.binds] at h; simp [h]
                rw [if_neg (by simp [Region.wanted, yielded, frame_tmp (k140) hL20 (Nat.lt_of_lt_of_eq (by decide : 140 < 186) hsz.symm)])]
                refine ⟨frame_put (k146) (q146), ?_⟩
                simpa [upd] using hT
              · rintro L _ Wx ⟨rfl, hT⟩ hcl hk hd
                have hL20 : L 20 = true := by have h := hd; simp [Region.binds] at h; simp [h]
                rw [if_neg (by simp [Region.wanted, yielded, frame_tmp (k140) hL20 (Nat.lt_of_lt_of_eq (by decide : 140 < 186) hsz.symm)])]
                refine ⟨frame_put (k147) (q147), ?_⟩
                simpa [upd] using hT
              · rintro L _ Wx ⟨rfl, hT⟩ hcl hk hd
                have hL20 : L 20 = true := by have h := hd; simp [Region.binds] at h; simp [h]
                rw [if_neg (by simp [Region.wanted, yielded, frame_tmp (k140) hL20 (Nat.lt_of_lt_of_eq (by decide : 140 < 186) hsz.symm)])]
                refine ⟨frame_put (k148) (q148), ?_⟩
                simpa [upd] using hT
              · rintro L _ Wx ⟨rfl, hT⟩ hcl hk hd
                have hL20 : L 20 = true := by have h := hd; simp [Region.binds] at h; simp [h]
                rw [if_neg (by simp [Region.wanted, yielded, frame_tmp (k140) hL20 (Nat.lt_of_lt_of_eq (by decide : 140 < 186) hsz.symm)])]
                refine ⟨frame_put (k149) (q149), ?_⟩
                simpa [upd] using hT
              · rintro L _ Wx ⟨rfl, hT⟩ hcl hk hd
                have hL20 : L 20 = true := by have h := hd; simp [Region.binds] at h; simp [h]
                rw [if_neg (by simp [Region.wanted, yielded, frame_tmp (k140) hL20 (Nat.lt_of_lt_of_eq (by decide : 140 < 186) hsz.symm)])]
                refine ⟨frame_put (k150) (q150), ?_⟩
                simpa [upd] using hT
              · rintro L _ Wx ⟨rfl, hT⟩ hcl hk hd
                have hL20 : L 20 = true := by have h := hd; simp [Region.binds] at h; simp [h]
                rw [if_neg (by simp [Region.wanted, yielded, frame_tmp (k140) hL20 (Nat.lt_of_lt_of_eq (by decide : 140 < 186) hsz.symm)])]
                refine ⟨frame_put (k151) (q151), ?_⟩
                simpa [upd] using hT
              · rintro L _ Wx ⟨rfl, hT⟩ hcl hk hd
                have hL20 : L 20 = true := by have h := hd; simp [Region.binds] at h; simp [h]
                rw [if_neg (by simp [Region.wanted, yielded, frame_tmp (k140) hL20 (Nat.lt_of_lt_of_eq (by decide : 140 < 186) hsz.symm)])]
                refine ⟨frame_put (k152) (q152), ?_⟩
                simpa [upd] using hT
              · rintro L _ Wx ⟨rfl, hT⟩ hcl hk hd
                have hL15 : L 15 = true := by have h := hd; simp [Region.binds] at h; simp [h]
                have hL20 : L 20 = true := by have h := hd; simp [Region.binds] at h; simp [h]
                rw [if_pos (by simp [Region.wanted, yielded, frame_tmp (k135) hL15 (Nat.lt_of_lt_of_eq (by decide : 135 < 186) hsz.symm)])]
                refine op_value (v := .bool false) (w' := Wx) (by simp [execOp, go_sem, frame_tmp (k140) hL20 (Nat.lt_of_lt_of_eq (by decide : 140 < 186) hsz.symm)]) ⟨frame_put (k153) (q153), ?_⟩
                simpa [upd] using hT
              · rintro L _ Wx ⟨rfl, hT⟩ hcl hk hd
                have hL15 : L 15 = true := by have h := hd; simp [Region.binds] at h; simp [h]
                have hL33 : L 33 = true := by have h := hd; simp [Region.binds] at h; simp [h]
                rw [if_pos (by simp [Region.wanted])]
                refine op_value (v := .bool false) (w' := Wx) (by simp [execOp, go_sem, frame_tmp (k135) hL15 (Nat.lt_of_lt_of_eq (by decide : 135 < 186) hsz.symm), frame_tmp (k153) hL33 (Nat.lt_of_lt_of_eq (by decide : 153 < 186) hsz.symm)]) ⟨frame_put (k154) (q154), ?_⟩
                simpa [upd] using hT
            · rintro L W' hT hall
              simp only [putAll, Act.put, List.setIfInBounds_toArray, List.set_cons_succ, List.set_cons_zero]
              have HB6 := Lib.hid (HB5.out.trans (hT.mono HB5.out.size))
              clear hT hall
              obtain ⟨e0, e1, e2, e3, e4, e5, e6, e7, e8, e9, e10, e11, e12, e13, e14, e15, e16, e17, e18, e19, e20, e21, e22, e23, e24, e25, e26, e27, c0, c1, c2, c3, c4, c5, c6, c7, c8, c9, c10, c11, c12⟩ := HF.out W' HB6.out
              have hen := fun w => eql_nm fwas x.n w
              obtain ⟨_, _, _, _, _, hk0, hk4, hk3, hkn⟩ := HBL.out
              have hl1 : decide (fk < 0) = false := by simp; omega
              have hl2 : decide (fk > 4) = false := by simp; omega
              have HK3 := Lib.hid hk3
              have HKN := Lib.hid hkn
              have HG := Lib.hid (step_good HM.out HX.out)
              have HWZ := Lib.hid hwz
              clear hk0 hk4 hk3 hkn hwz
              by_cases q4 : fk = 4
              · first
                | exact absurd (HKN.out q4) HWZ.out
                | have b4 : (fk == 4) = true := by simp [q4]
                  have b3 : (fk == 3) = false := by simp [q4]
                  have dN : decide (fwas = x.n) = false := by
                    have h1 := HKN.out q4
                    have h2 := HG.out
                    simp only [decide_eq_false_iff_not]
                    intro h3
                    exact h2 (h3.symm.trans h1)
                  clear q4
                  go_wp2_with fail
                  go_quiet (fail)
                  go_wp2_with fail
                  go_roundw
                  case rel => exact ⟨q + 1, by have := HLT.out; omega, by go_num, (HB3.out.trans (HB6.out.mono HB3.out.size)).trans ⟨rfl, rfl, rfl, Nat.le_refl _, fun _ _ => rfl⟩⟩
                  case measure => have := HLT.out; simp [intOf]; omega
              · have b4 : (fk == 4) = false := by simpa using q4
                by_cases q3 : fk = 3
                · have b3 : (fk == 3) = true := by simp [q3]
                  have dN : decide (fwas = x.n) = true := by simpa using HK3.out.1 q3
                  clear q3 q4
                  go_wp2_with fail
                  go_quiet (fail)
                  go_wp2_with fail
                  go_roundw
                  case rel => exact ⟨q + 1, by have := HLT.out; omega, by go_num, (HB3.out.trans (HB6.out.mono HB3.out.size)).trans ⟨rfl, rfl, rfl, Nat.le_refl _, fun _ _ => rfl⟩⟩
                  case measure => have := HLT.out; simp [intOf]; omega
                · have b3 : (fk == 3) = false := by simpa using q3
                  have dN : decide (fwas = x.n) = false := by
                    simp only [decide_eq_false_iff_not]
                    exact fun h => q3 (HK3.out.2 h)
                  clear q3 q4
                  go_wp2_with fail
                  go_quiet (fail)
                  go_wp2_with fail
                  go_roundw
                  case rel => exact ⟨q + 1, by have := HLT.out; omega, by go_num, (HB3.out.trans (HB6.out.mono HB3.out.size)).trans ⟨rfl, rfl, rfl, Nat.le_refl _, fun _ _ => rfl⟩⟩
                  case measure => have := HLT.out; simp [intOf]; omega
            -- END CBZ
          · have hdz : decide (fwas = ⟨0, 0, 0⟩) = false := by simpa [nz] using hwz
            have hWb : ∀ Wx, Below w5.heap.size w5 Wx → Calls Try.prog 30 #[.slice (some ⟨lb, loff, none⟩) i vc, .agg #[.int .i64 fwas.s, .int .i64 fwas.i, .int .i64 fwas.t], .int .i64 x.b, .agg #[.int .u8 x.v.a, .int .u8 x.v.b, .int .u8 x.v.c, .int .u8 x.v.d, .int .u8 x.v.e, .int .u8 x.v.f, .int .u8 x.v.g, .int .u8 x.v.h]] Wx fun e w' => e = .returned (.bool true) ∧ Below Wx.heap.size Wx w' := fun Wx hT => by
              have h := wrote_any (l.take i) (.slice (some ⟨lb, loff, none⟩) (l.take i).length vc) fwas x.b x.v Wx (by rw [List.length_take]; omega) (sns_take (HS.out Wx (HB5.out.trans (hT.mono HB5.out.size))) i (by omega))
              rw [List.length_take, Nat.min_eq_left (by omega), HBL.out.2.2.2.2.1 hwz] at h
              exact h
            go_wp2_with fail
            -- BEGIN CBN
            refine wp_region_frame mixed (by kernel_rfl) [(0, 120, .pointer (some ⟨wr.heap.size, 24, none⟩)), (1, 121, .agg #[.int .i64 fwas.s, .int .i64 fwas.i, .int .i64 fwas.t]), (2, 122, .agg #[.int .i64 0, .int .i64 0, .int .i64 0]), (3, 123, .bool false), (4, 124, .bool false), (5, 125, undef), (6, 126, undef), (7, 127, undef), (8, 128, undef), (9, 129, undef), (10, 130, undef), (11, 131, undef), (12, 132, undef), (13, 133, undef), (14, 134, .bool false), (15, 135, .bool false), (16, 136, .pointer (some ⟨wr.heap.size, 24, none⟩)), (17, 137, .agg #[.int .i64 fwas.s, .int .i64 fwas.i, .int .i64 fwas.t]), (18, 138, .agg #[.int .i64 0, .int .i64 0, .int .i64 0]), (19, 139, .bool true), (20, 140, .bool true), (21, 141, .slice (some ⟨lb, loff, none⟩) l.length vc), (22, 142, .pointer (some ⟨wr.heap.size, 0, none⟩)), (23, 143, .int .i64 (i : Int)), (24, 144, .slice (some ⟨lb, loff, none⟩) i vc), (25, 145, .pointer (some ⟨wr.heap.size, 24, none⟩)), (26, 146, .agg #[.int .i64 fwas.s, .int .i64 fwas.i, .int .i64 fwas.t]), (27, 147, .pointer (some ⟨wr.heap.size, 4, none⟩)), (28, 148, .int .i64 x.b), (29, 149, .pointer (some ⟨wr.heap.size, 13, none⟩)), (30, 150, .agg #[.int .u8 x.v.a, .int .u8 x.v.b, .int .u8 x.v.c, .int .u8 x.v.d, .int .u8 x.v.e, .int .u8 x.v.f, .int .u8 x.v.g, .int .u8 x.v.h]), (31, 151, .bool true), (32, 152, .bool false), (33, 153, .bool false), (34, 154, .bool false)] (fun L Wx => Below w5.heap.size w5 Wx) ?_ ?_ (by rfl) (by rfl) ?_
            · exact (Below.refl _ _).drew
            · intro a0 ps ha0 hps
              have hsz : a0.tmps.size = 186 := by rw [ha0]; rfl
              have u0 : a0.tmps[0]? = some (.slice (some ⟨lb, loff, none⟩) l.length vc) := by rw [ha0]; rfl
              have u6 : a0.tmps[6]? = some (.pointer (some ⟨wr.heap.size, 0, none⟩)) := by rw [ha0]; rfl
              have n0 : slotOf ps 0 = none := by rw [hps]; rfl
              have n6 : slotOf ps 6 = none := by rw [hps]; rfl
              have k120 : slotOf ps 120 = some (0, .pointer (some ⟨wr.heap.size, 24, none⟩)) := by rw [hps]; rfl
              have q120 : keysOK ps 0 120 = true := by rw [hps]; rfl
              have k121 : slotOf ps 121 = some (1, .agg #[.int .i64 fwas.s, .int .i64 fwas.i, .int .i64 fwas.t]) := by rw [hps]; rfl
              have q121 : keysOK ps 1 121 = true := by rw [hps]; rfl
              have k122 : slotOf ps 122 = some (2, .agg #[.int .i64 0, .int .i64 0, .int .i64 0]) := by rw [hps]; rfl
              have q122 : keysOK ps 2 122 = true := by rw [hps]; rfl
              have k123 : slotOf ps 123 = some (3, .bool false) := by rw [hps]; rfl
              have q123 : keysOK ps 3 123 = true := by rw [hps]; rfl
              have k124 : slotOf ps 124 = some (4, .bool false) := by rw [hps]; rfl
              have q124 : keysOK ps 4 124 = true := by rw [hps]; rfl
              have k125 : slotOf ps 125 = some (5, undef) := by rw [hps]; rfl
              have q125 : keysOK ps 5 125 = true := by rw [hps]; rfl
              have k126 : slotOf ps 126 = some (6, undef) := by rw [hps]; rfl
              have q126 : keysOK ps 6 126 = true := by rw [hps]; rfl
              have k127 : slotOf ps 127 = some (7, undef) := by rw [hps]; rfl
              have q127 : keysOK ps 7 127 = true := by rw [hps]; rfl
              have k128 : slotOf ps 128 = some (8, undef) := by rw [hps]; rfl
              have q128 : keysOK ps 8 128 = true := by rw [hps]; rfl
              have k129 : slotOf ps 129 = some (9, undef) := by rw [hps]; rfl
              have q129 : keysOK ps 9 129 = true := by rw [hps]; rfl
              have k130 : slotOf ps 130 = some (10, undef) := by rw [hps]; rfl
              have q130 : keysOK ps 10 130 = true := by rw [hps]; rfl
              have k131 : slotOf ps 131 = some (11, undef) := by rw [hps]; rfl
              have q131 : keysOK ps 11 131 = true := by rw [hps]; rfl
              have k132 : slotOf ps 132 = some (12, undef) := by rw [hps]; rfl
              have q132 : keysOK ps 12 132 = true := by rw [hps]; rfl
              have k133 : slotOf ps 133 = some (13, undef) := by rw [hps]; rfl
              have q133 : keysOK ps 13 133 = true := by rw [hps]; rfl
              have k134 : slotOf ps 134 = some (14, .bool false) := by rw [hps]; rfl
              have q134 : keysOK ps 14 134 = true := by rw [hps]; rfl
              have k135 : slotOf ps 135 = some (15, .bool false) := by rw [hps]; rfl
              have q135 : keysOK ps 15 135 = true := by rw [hps]; rfl
              have k136 : slotOf ps 136 = some (16, .pointer (some ⟨wr.heap.size, 24, none⟩)) := by rw [hps]; rfl
              have q136 : keysOK ps 16 136 = true := by rw [hps]; rfl
              have k137 : slotOf ps 137 = some (17, .agg #[.int .i64 fwas.s, .int .i64 fwas.i, .int .i64 fwas.t]) := by rw [hps]; rfl
              have q137 : keysOK ps 17 137 = true := by rw [hps]; rfl
              have k138 : slotOf ps 138 = some (18, .agg #[.int .i64 0, .int .i64 0, .int .i64 0]) := by rw [hps]; rfl
              have q138 : keysOK ps 18 138 = true := by rw [hps]; rfl
              have k139 : slotOf ps 139 = some (19, .bool true) := by rw [hps]; rfl
              have q139 : keysOK ps 19 139 = true := by rw [hps]; rfl
              have k140 : slotOf ps 140 = some (20, .bool true) := by rw [hps]; rfl
              have q140 : keysOK ps 20 140 = true := by rw [hps]; rfl
              have k141 : slotOf ps 141 = some (21, .slice (some ⟨lb, loff, none⟩) l.length vc) := by rw [hps]; rfl
              have q141 : keysOK ps 21 141 = true := by rw [hps]; rfl
              have k142 : slotOf ps 142 = some (22, .pointer (some ⟨wr.heap.size, 0, none⟩)) := by rw [hps]; rfl
              have q142 : keysOK ps 22 142 = true := by rw [hps]; rfl
              have k143 : slotOf ps 143 = some (23, .int .i64 (i : Int)) := by rw [hps]; rfl
              have q143 : keysOK ps 23 143 = true := by rw [hps]; rfl
              have k144 : slotOf ps 144 = some (24, .slice (some ⟨lb, loff, none⟩) i vc) := by rw [hps]; rfl
              have q144 : keysOK ps 24 144 = true := by rw [hps]; rfl
              have k145 : slotOf ps 145 = some (25, .pointer (some ⟨wr.heap.size, 24, none⟩)) := by rw [hps]; rfl
              have q145 : keysOK ps 25 145 = true := by rw [hps]; rfl
              have k146 : slotOf ps 146 = some (26, .agg #[.int .i64 fwas.s, .int .i64 fwas.i, .int .i64 fwas.t]) := by rw [hps]; rfl
              have q146 : keysOK ps 26 146 = true := by rw [hps]; rfl
              have k147 : slotOf ps 147 = some (27, .pointer (some ⟨wr.heap.size, 4, none⟩)) := by rw [hps]; rfl
              have q147 : keysOK ps 27 147 = true := by rw [hps]; rfl
              have k148 : slotOf ps 148 = some (28, .int .i64 x.b) := by rw [hps]; rfl
              have q148 : keysOK ps 28 148 = true := by rw [hps]; rfl
              have k149 : slotOf ps 149 = some (29, .pointer (some ⟨wr.heap.size, 13, none⟩)) := by rw [hps]; rfl
              have q149 : keysOK ps 29 149 = true := by rw [hps]; rfl
              have k150 : slotOf ps 150 = some (30, .agg #[.int .u8 x.v.a, .int .u8 x.v.b, .int .u8 x.v.c, .int .u8 x.v.d, .int .u8 x.v.e, .int .u8 x.v.f, .int .u8 x.v.g, .int .u8 x.v.h]) := by rw [hps]; rfl
              have q150 : keysOK ps 30 150 = true := by rw [hps]; rfl
              have k151 : slotOf ps 151 = some (31, .bool true) := by rw [hps]; rfl
              have q151 : keysOK ps 31 151 = true := by rw [hps]; rfl
              have k152 : slotOf ps 152 = some (32, .bool false) := by rw [hps]; rfl
              have q152 : keysOK ps 32 152 = true := by rw [hps]; rfl
              have k153 : slotOf ps 153 = some (33, .bool false) := by rw [hps]; rfl
              have q153 : keysOK ps 33 153 = true := by rw [hps]; rfl
              have k154 : slotOf ps 154 = some (34, .bool false) := by rw [hps]; rfl
              have q154 : keysOK ps 34 154 = true := by rw [hps]; rfl
              clear ha0 hps
              refine ⟨?_, ?_, ?_, ?_, ?_, ?_, ?_, ?_, ?_, ?_, ?_, ?_, ?_, ?_, ?_, ?_, ?_, ?_, ?_, ?_, ?_, ?_, ?_, ?_, ?_, ?_, ?_, ?_, ?_, ?_, ?_, ?_, ?_, ?_, ?_, trivial⟩
              · rintro L _ Wx ⟨rfl, hT⟩ hcl hk hd
                rw [if_pos (by simp [Region.wanted])]
                refine op_value (v := .pointer (some ⟨wr.heap.size, 24, none⟩)) (w' := Wx) (by simp [execOp, go_sem, frame_tout (n6) u6]) ⟨frame_put (k120) (q120), ?_⟩
                simpa [upd] using hT
              · rintro L _ Wx ⟨rfl, hT⟩ hcl hk hd
                have hL0 : L 0 = true := by have h := hd; simp [Region.binds] at h; simp [h]
                rw [if_pos (by simp [Region.wanted])]
                obtain ⟨e0, e1, e2, e3, e4, e5, e6, e7, e8, e9, e10, e11, e12, e13, e14, e15, e16, e17, e18, e19, e20, e21, e22, e23, e24, e25, e26, e27, c0, c1, c2, c3, c4, c5, c6, c7, c8, c9, c10, c11, c12⟩ := HF.out Wx (HB5.out.trans (hT.mono HB5.out.size))
                refine op_value (v := .agg #[.int .i64 fwas.s, .int .i64 fwas.i, .int .i64 fwas.t]) (w' := Wx) (by simp [execOp, go_sem, frame_tmp (k120) hL0 (Nat.lt_of_lt_of_eq (by decide : 120 < 186) hsz.symm), e24, e25, e26]) ⟨frame_put (k121) (q121), ?_⟩
                simpa [upd] using hT
              · rintro L _ Wx ⟨rfl, hT⟩ hcl hk hd
                rw [if_pos (by simp [Region.wanted])]
                refine op_value (v := .agg #[.int .i64 0, .int .i64 0, .int .i64 0]) (w' := Wx) (by simp [execOp, go_sem]) ⟨frame_put (k122) (q122), ?_⟩
                simpa [upd] using hT
              · rintro L _ Wx ⟨rfl, hT⟩ hcl hk hd
                have hL1 : L 1 = true := by have h := hd; simp [Region.binds] at h; simp [h]
                have hL2 : L 2 = true := by have h := hd; simp [Region.binds] at h; simp [h]
                rw [if_pos (by simp [Region.wanted])]
                refine op_value (v := .bool false) (w' := Wx) (by simp [execOp, go_sem, frame_tmp (k121) hL1 (Nat.lt_of_lt_of_eq (by decide : 121 < 186) hsz.symm), frame_tmp (k122) hL2 (Nat.lt_of_lt_of_eq (by decide : 122 < 186) hsz.symm), hez, hdz]) ⟨frame_put (k123) (q123), ?_⟩
                simpa [upd] using hT
              · rintro L _ Wx ⟨rfl, hT⟩ hcl hk hd
                have hL3 : L 3 = true := by have h := hd; simp [Region.binds] at h; simp [h]
                rw [if_pos (by simp [Region.wanted])]
                refine op_value (v := .bool false) (w' := Wx) (by simp [execOp, go_sem, frame_tmp (k123) hL3 (Nat.lt_of_lt_of_eq (by decide : 123 < 186) hsz.symm)]) ⟨frame_put (k124) (q124), ?_⟩
                simpa [upd] using hT
              · rintro L _ Wx ⟨rfl, hT⟩ hcl hk hd
                have hL4 : L 4 = true := by have h := hd; simp [Region.binds] at h; simp [h]
                rw [if_neg (by simp [Region.wanted, yielded, frame_tmp (k124) hL4 (Nat.lt_of_lt_of_eq (by decide : 124 < 186) hsz.symm)])]
                refine ⟨frame_put (k125) (q125), ?_⟩
                simpa [upd] using hT
              · rintro L _ Wx ⟨rfl, hT⟩ hcl hk hd
                have hL4 : L 4 = true := by have h := hd; simp [Region.binds] at h; simp [h]
                rw [if_neg (by simp [Region.wanted, yielded, frame_tmp (k124) hL4 (Nat.lt_of_lt_of_eq (by decide : 124 < 186) hsz.symm)])]
                refine ⟨frame_put (k126) (q126), ?_⟩
                simpa [upd] using hT
              · rintro L _ Wx ⟨rfl, hT⟩ hcl hk hd
                have hL4 : L 4 = true := by have h := hd; simp [Region.binds] at h; simp [h]
                rw [if_neg (by simp [Region.wanted, yielded, frame_tmp (k124) hL4 (Nat.lt_of_lt_of_eq (by decide : 124 < 186) hsz.symm)])]
                refine ⟨frame_put (k127) (q127), ?_⟩
                simpa [upd] using hT
              · rintro L _ Wx ⟨rfl, hT⟩ hcl hk hd
                have hL4 : L 4 = true := by have h := hd; simp [Region.binds] at h; simp [h]
                rw [if_neg (by simp [Region.wanted, yielded, frame_tmp (k124) hL4 (Nat.lt_of_lt_of_eq (by decide : 124 < 186) hsz.symm)])]
                refine ⟨frame_put (k128) (q128), ?_⟩
                simpa [upd] using hT
              · rintro L _ Wx ⟨rfl, hT⟩ hcl hk hd
                have hL4 : L 4 = true := by have h := hd; simp [Region.binds] at h; simp [h]
                rw [if_neg (by simp [Region.wanted, yielded, frame_tmp (k124) hL4 (Nat.lt_of_lt_of_eq (by decide : 124 < 186) hsz.symm)])]
                refine ⟨frame_put (k129) (q129), ?_⟩
                simpa [upd] using hT
              · rintro L _ Wx ⟨rfl, hT⟩ hcl hk hd
                have hL4 : L 4 = true := by have h := hd; simp [Region.binds] at h; simp [h]
                rw [if_neg (by simp [Region.wanted, yielded, frame_tmp (k124) hL4 (Nat.lt_of_lt_of_eq (by decide : 124 < 186) hsz.symm)])]
                refine ⟨frame_put (k130) (q130), ?_⟩
                simpa [upd] using hT
              · rintro L _ Wx ⟨rfl, hT⟩ hcl hk hd
                have hL4 : L 4 = true := by have h := hd; simp [Region.binds] at h; simp [h]
                rw [if_neg (by simp [Region.wanted, yielded, frame_tmp (k124) hL4 (Nat.lt_of_lt_of_eq (by decide : 124 < 186) hsz.symm)])]
                refine ⟨frame_put (k131) (q131), ?_⟩
                simpa [upd] using hT
              · rintro L _ Wx ⟨rfl, hT⟩ hcl hk hd
                have hL4 : L 4 = true := by have h := hd; simp [Region.binds] at h; simp [h]
                rw [if_neg (by simp [Region.wanted, yielded, frame_tmp (k124) hL4 (Nat.lt_of_lt_of_eq (by decide : 124 < 186) hsz.symm)])]
                refine ⟨frame_put (k132) (q132), ?_⟩
                simpa [upd] using hT
              · rintro L _ Wx ⟨rfl, hT⟩ hcl hk hd
                have hL4 : L 4 = true := by have h := hd; simp [Region.binds] at h; simp [h]
                rw [if_neg (by simp [Region.wanted, yielded, frame_tmp (k124) hL4 (Nat.lt_of_lt_of_eq (by decide : 124 < 186) hsz.symm)])]
                refine ⟨frame_put (k133) (q133), ?_⟩
                simpa [upd] using hT
              · rintro L _ Wx ⟨rfl, hT⟩ hcl hk hd
                have hL4 : L 4 = true := by have h := hd; simp [Region.binds] at h; simp [h]
                rw [if_pos (by simp [Region.wanted])]
                refine op_value (v := .bool false) (w' := Wx) (by simp [execOp, go_sem, frame_tmp (k124) hL4 (Nat.lt_of_lt_of_eq (by decide : 124 < 186) hsz.symm), undef]) ⟨frame_put (k134) (q134), ?_⟩
                simpa [upd] using hT
              · rintro L _ Wx ⟨rfl, hT⟩ hcl hk hd
                have hL14 : L 14 = true := by have h := hd; simp [Region.binds] at h; simp [h]
                rw [if_pos (by simp [Region.wanted])]
                refine op_value (v := .bool false) (w' := Wx) (by simp [execOp, go_sem, frame_tmp (k134) hL14 (Nat.lt_of_lt_of_eq (by decide : 134 < 186) hsz.symm)]) ⟨frame_put (k135) (q135), ?_⟩
                simpa [upd] using hT
              · rintro L _ Wx ⟨rfl, hT⟩ hcl hk hd
                have hL15 : L 15 = true := by have h := hd; simp [Region.binds] at h; simp [h]
                rw [if_pos (by simp [Region.wanted, yielded, frame_tmp (k135) hL15 (Nat.lt_of_lt_of_eq (by decide : 135 < 186) hsz.symm)])]
                refine op_value (v := .pointer (some ⟨wr.heap.size, 24, none⟩)) (w' := Wx) (by simp [execOp, go_sem, frame_tout (n6) u6]) ⟨frame_put (k136) (q136), ?_⟩
                simpa [upd] using hT
              · rintro L _ Wx ⟨rfl, hT⟩ hcl hk hd
                have hL15 : L 15 = true := by have h := hd; simp [Region.binds] at h; simp [h]
                have hL16 : L 16 = true := by have h := hd; simp [Region.binds] at h; simp [h]
                rw [if_pos (by simp [Region.wanted, yielded, frame_tmp (k135) hL15 (Nat.lt_of_lt_of_eq (by decide : 135 < 186) hsz.symm)])]
                obtain ⟨e0, e1, e2, e3, e4, e5, e6, e7, e8, e9, e10, e11, e12, e13, e14, e15, e16, e17, e18, e19, e20, e21, e22, e23, e24, e25, e26, e27, c0, c1, c2, c3, c4, c5, c6, c7, c8, c9, c10, c11, c12⟩ := HF.out Wx (HB5.out.trans (hT.mono HB5.out.size))
                refine op_value (v := .agg #[.int .i64 fwas.s, .int .i64 fwas.i, .int .i64 fwas.t]) (w' := Wx) (by simp [execOp, go_sem, frame_tmp (k136) hL16 (Nat.lt_of_lt_of_eq (by decide : 136 < 186) hsz.symm), e24, e25, e26]) ⟨frame_put (k137) (q137), ?_⟩
                simpa [upd] using hT
              · rintro L _ Wx ⟨rfl, hT⟩ hcl hk hd
                have hL15 : L 15 = true := by have h := hd; simp [Region.binds] at h; simp [h]
                rw [if_pos (by simp [Region.wanted, yielded, frame_tmp (k135) hL15 (Nat.lt_of_lt_of_eq (by decide : 135 < 186) hsz.symm)])]
                refine op_value (v := .agg #[.int .i64 0, .int .i64 0, .int .i64 0]) (w' := Wx) (by simp [execOp, go_sem]) ⟨frame_put (k138) (q138), ?_⟩
                simpa [upd] using hT
              · rintro L _ Wx ⟨rfl, hT⟩ hcl hk hd
                have hL15 : L 15 = true := by have h := hd; simp [Region.binds] at h; simp [h]
                have hL17 : L 17 = true := by have h := hd; simp [Region.binds] at h; simp [h]
                have hL18 : L 18 = true := by have h := hd; simp [Region.binds] at h; simp [h]
                rw [if_pos (by simp [Region.wanted, yielded, frame_tmp (k135) hL15 (Nat.lt_of_lt_of_eq (by decide : 135 < 186) hsz.symm)])]
                refine op_value (v := .bool true) (w' := Wx) (by simp [execOp, go_sem, frame_tmp (k137) hL17 (Nat.lt_of_lt_of_eq (by decide : 137 < 186) hsz.symm), frame_tmp (k138) hL18 (Nat.lt_of_lt_of_eq (by decide : 138 < 186) hsz.symm), hnz, hdz]) ⟨frame_put (k139) (q139), ?_⟩
                simpa [upd] using hT
              · rintro L _ Wx ⟨rfl, hT⟩ hcl hk hd
                have hL15 : L 15 = true := by have h := hd; simp [Region.binds] at h; simp [h]
                have hL19 : L 19 = true := by have h := hd; simp [Region.binds] at h; simp [h]
                rw [if_pos (by simp [Region.wanted, yielded, frame_tmp (k135) hL15 (Nat.lt_of_lt_of_eq (by decide : 135 < 186) hsz.symm)])]
                refine op_value (v := .bool true) (w' := Wx) (by simp [execOp, go_sem, frame_tmp (k139) hL19 (Nat.lt_of_lt_of_eq (by decide : 139 < 186) hsz.symm)]) ⟨frame_put (k140) (q140), ?_⟩
                simpa [upd] using hT
              · rintro L _ Wx ⟨rfl, hT⟩ hcl hk hd
                have hL20 : L 20 = true := by have h := hd; simp [Region.binds] at h; simp [h]
                rw [if_pos (by simp [Region.wanted, yielded, frame_tmp (k140) hL20 (Nat.lt_of_lt_of_eq (by decide : 140 < 186) hsz.symm)])]
                refine op_value (v := .slice (some ⟨lb, loff, none⟩) l.length vc) (w' := Wx) (by simp [execOp, go_sem, frame_tout (n0) u0]) ⟨frame_put (k141) (q141), ?_⟩
                simpa [upd] using hT
              · rintro L _ Wx ⟨rfl, hT⟩ hcl hk hd
                have hL20 : L 20 = true := by have h := hd; simp [Region.binds] at h; simp [h]
                rw [if_pos (by simp [Region.wanted, yielded, frame_tmp (k140) hL20 (Nat.lt_of_lt_of_eq (by decide : 140 < 186) hsz.symm)])]
                refine op_value (v := .pointer (some ⟨wr.heap.size, 0, none⟩)) (w' := Wx) (by simp [execOp, go_sem, frame_tout (n6) u6]) ⟨frame_put (k142) (q142), ?_⟩
                simpa [upd] using hT
              · rintro L _ Wx ⟨rfl, hT⟩ hcl hk hd
                have hL20 : L 20 = true := by have h := hd; simp [Region.binds] at h; simp [h]
                have hL22 : L 22 = true := by have h := hd; simp [Region.binds] at h; simp [h]
                rw [if_pos (by simp [Region.wanted, yielded, frame_tmp (k140) hL20 (Nat.lt_of_lt_of_eq (by decide : 140 < 186) hsz.symm)])]
                obtain ⟨e0, e1, e2, e3, e4, e5, e6, e7, e8, e9, e10, e11, e12, e13, e14, e15, e16, e17, e18, e19, e20, e21, e22, e23, e24, e25, e26, e27, c0, c1, c2, c3, c4, c5, c6, c7, c8, c9, c10, c11, c12⟩ := HF.out Wx (HB5.out.trans (hT.mono HB5.out.size))
                refine op_value (v := .int .i64 (i : Int)) (w' := Wx) (by simp [execOp, go_sem, frame_tmp (k142) hL22 (Nat.lt_of_lt_of_eq (by decide : 142 < 186) hsz.symm), e0]) ⟨frame_put (k143) (q143), ?_⟩
                simpa [upd] using hT
              · rintro L _ Wx ⟨rfl, hT⟩ hcl hk hd
                have hL20 : L 20 = true := by have h := hd; simp [Region.binds] at h; simp [h]
                have hL21 : L 21 = true := by have h := hd; simp [Region.binds] at h; simp [h]
                have hL23 : L 23 = true := by have h := hd; simp [Region.binds] at h; simp [h]
                rw [if_pos (by simp [Region.wanted, yielded, frame_tmp (k140) hL20 (Nat.lt_of_lt_of_eq (by decide : 140 < 186) hsz.symm)])]
                refine op_value (v := .slice (some ⟨lb, loff, none⟩) i vc) (w' := Wx) (by simp [execOp, go_sem, frame_tmp (k141) hL21 (Nat.lt_of_lt_of_eq (by decide : 141 < 186) hsz.symm), frame_tmp (k143) hL23 (Nat.lt_of_lt_of_eq (by decide : 143 < 186) hsz.symm), hi0, hic]) ⟨frame_put (k144) (q144), ?_⟩
                simpa [upd] using hT
              · rintro L _ Wx ⟨rfl, hT⟩ hcl hk hd
                have hL20 : L 20 = true := by have h := hd; simp [Region.binds] at h; simp [h]
                rw [if_pos (by simp [Region.wanted, yielded, frame_tmp (k140) hL20 (Nat.lt_of_lt_of_eq (by decide : 140 < 186) hsz.symm)])]
                refine op_value (v := .pointer (some ⟨wr.heap.size, 24, none⟩)) (w' := Wx) (by simp [execOp, go_sem, frame_tout (n6) u6]) ⟨frame_put (k145) (q145), ?_⟩
                simpa [upd] using hT
              · rintro L _ Wx ⟨rfl, hT⟩ hcl hk hd
                have hL20 : L 20 = true := by have h := hd; simp [Region.binds] at h; simp [h]
                have hL25 : L 25 = true := by have h := hd; simp [Region.binds] at h; simp [h]
                rw [if_pos (by simp [Region.wanted, yielded, frame_tmp (k140) hL20 (Nat.lt_of_lt_of_eq (by decide : 140 < 186) hsz.symm)])]
                obtain ⟨e0, e1, e2, e3, e4, e5, e6, e7, e8, e9, e10, e11, e12, e13, e14, e15, e16, e17, e18, e19, e20, e21, e22, e23, e24, e25, e26, e27, c0, c1, c2, c3, c4, c5, c6, c7, c8, c9, c10, c11, c12⟩ := HF.out Wx (HB5.out.trans (hT.mono HB5.out.size))
                refine op_value (v := .agg #[.int .i64 fwas.s, .int .i64 fwas.i, .int .i64 fwas.t]) (w' := Wx) (by simp [execOp, go_sem, frame_tmp (k145) hL25 (Nat.lt_of_lt_of_eq (by decide : 145 < 186) hsz.symm), e24, e25, e26]) ⟨frame_put (k146) (q146), ?_⟩
                simpa [upd] using hT
              · rintro L _ Wx ⟨rfl, hT⟩ hcl hk hd
                have hL20 : L 20 = true := by have h := hd; simp [Region.binds] at h; simp [h]
                rw [if_pos (by simp [Region.wanted, yielded, frame_tmp (k140) hL20 (Nat.lt_of_lt_of_eq (by decide : 140 < 186) hsz.symm)])]
                refine op_value (v := .pointer (some ⟨wr.heap.size, 4, none⟩)) (w' := Wx) (by simp [execOp, go_sem, frame_tout (n6) u6]) ⟨frame_put (k147) (q147), ?_⟩
                simpa [upd] using hT
              · rintro L _ Wx ⟨rfl, hT⟩ hcl hk hd
                have hL20 : L 20 = true := by have h := hd; simp [Region.binds] at h; simp [h]
                have hL27 : L 27 = true := by have h := hd; simp [Region.binds] at h; simp [h]
                rw [if_pos (by simp [Region.wanted, yielded, frame_tmp (k140) hL20 (Nat.lt_of_lt_of_eq (by decide : 140 < 186) hsz.symm)])]
                obtain ⟨e0, e1, e2, e3, e4, e5, e6, e7, e8, e9, e10, e11, e12, e13, e14, e15, e16, e17, e18, e19, e20, e21, e22, e23, e24, e25, e26, e27, c0, c1, c2, c3, c4, c5, c6, c7, c8, c9, c10, c11, c12⟩ := HF.out Wx (HB5.out.trans (hT.mono HB5.out.size))
                refine op_value (v := .int .i64 x.b) (w' := Wx) (by simp [execOp, go_sem, frame_tmp (k147) hL27 (Nat.lt_of_lt_of_eq (by decide : 147 < 186) hsz.symm), e4]) ⟨frame_put (k148) (q148), ?_⟩
                simpa [upd] using hT
              · rintro L _ Wx ⟨rfl, hT⟩ hcl hk hd
                have hL20 : L 20 = true := by have h := hd; simp [Region.binds] at h; simp [h]
                rw [if_pos (by simp [Region.wanted, yielded, frame_tmp (k140) hL20 (Nat.lt_of_lt_of_eq (by decide : 140 < 186) hsz.symm)])]
                refine op_value (v := .pointer (some ⟨wr.heap.size, 13, none⟩)) (w' := Wx) (by simp [execOp, go_sem, frame_tout (n6) u6]) ⟨frame_put (k149) (q149), ?_⟩
                simpa [upd] using hT
              · rintro L _ Wx ⟨rfl, hT⟩ hcl hk hd
                have hL20 : L 20 = true := by have h := hd; simp [Region.binds] at h; simp [h]
                have hL29 : L 29 = true := by have h := hd; simp [Region.binds] at h; simp [h]
                rw [if_pos (by simp [Region.wanted, yielded, frame_tmp (k140) hL20 (Nat.lt_of_lt_of_eq (by decide : 140 < 186) hsz.symm)])]
                obtain ⟨e0, e1, e2, e3, e4, e5, e6, e7, e8, e9, e10, e11, e12, e13, e14, e15, e16, e17, e18, e19, e20, e21, e22, e23, e24, e25, e26, e27, c0, c1, c2, c3, c4, c5, c6, c7, c8, c9, c10, c11, c12⟩ := HF.out Wx (HB5.out.trans (hT.mono HB5.out.size))
                refine op_value (v := .agg #[.int .u8 x.v.a, .int .u8 x.v.b, .int .u8 x.v.c, .int .u8 x.v.d, .int .u8 x.v.e, .int .u8 x.v.f, .int .u8 x.v.g, .int .u8 x.v.h]) (w' := Wx) (by simp [execOp, go_sem, frame_tmp (k149) hL29 (Nat.lt_of_lt_of_eq (by decide : 149 < 186) hsz.symm), e13, e14, e15, e16, e17, e18, e19, e20]) ⟨frame_put (k150) (q150), ?_⟩
                simpa [upd] using hT
              · rintro L _ Wx ⟨rfl, hT⟩ hcl hk hd
                have hL20 : L 20 = true := by have h := hd; simp [Region.binds] at h; simp [h]
                have hL24 : L 24 = true := by have h := hd; simp [Region.binds] at h; simp [h]
                have hL26 : L 26 = true := by have h := hd; simp [Region.binds] at h; simp [h]
                have hL28 : L 28 = true := by have h := hd; simp [Region.binds] at h; simp [h]
                have hL30 : L 30 = true := by have h := hd; simp [Region.binds] at h; simp [h]
                rw [if_pos (by simp [Region.wanted, yielded, frame_tmp (k140) hL20 (Nat.lt_of_lt_of_eq (by decide : 140 < 186) hsz.symm)])]
                refine op_callP (f := 30) (args := #[.slice (some ⟨lb, loff, none⟩) i vc, .agg #[.int .i64 fwas.s, .int .i64 fwas.i, .int .i64 fwas.t], .int .i64 x.b, .agg #[.int .u8 x.v.a, .int .u8 x.v.b, .int .u8 x.v.c, .int .u8 x.v.d, .int .u8 x.v.e, .int .u8 x.v.f, .int .u8 x.v.g, .int .u8 x.v.h]]) (by simp [go_sem, frame_tmp (k144) hL24 (Nat.lt_of_lt_of_eq (by decide : 144 < 186) hsz.symm), frame_tmp (k146) hL26 (Nat.lt_of_lt_of_eq (by decide : 146 < 186) hsz.symm), frame_tmp (k148) hL28 (Nat.lt_of_lt_of_eq (by decide : 148 < 186) hsz.symm), frame_tmp (k150) hL30 (Nat.lt_of_lt_of_eq (by decide : 150 < 186) hsz.symm)]) (hWb Wx hT) ?_
                rintro e w' ⟨rfl, hb'⟩
                refine ⟨_, rfl, frame_put (k151) (q151), ?_⟩
                exact hT.trans (hb'.mono hT.size)
              · rintro L _ Wx ⟨rfl, hT⟩ hcl hk hd
                have hL20 : L 20 = true := by have h := hd; simp [Region.binds] at h; simp [h]
                have hL31 : L 31 = true := by have h := hd; simp [Region.binds] at h; simp [h]
                rw [if_pos (by simp [Region.wanted, yielded, frame_tmp (k140) hL20 (Nat.lt_of_lt_of_eq (by decide : 140 < 186) hsz.symm)])]
                refine op_value (v := .bool false) (w' := Wx) (by simp [execOp, go_sem, frame_tmp (k151) hL31 (Nat.lt_of_lt_of_eq (by decide : 151 < 186) hsz.symm)]) ⟨frame_put (k152) (q152), ?_⟩
                simpa [upd] using hT
              · rintro L _ Wx ⟨rfl, hT⟩ hcl hk hd
                have hL15 : L 15 = true := by have h := hd; simp [Region.binds] at h; simp [h]
                have hL20 : L 20 = true := by have h := hd; simp [Region.binds] at h; simp [h]
                have hL32 : L 32 = true := by have h := hd; simp [Region.binds] at h; simp [h]
                rw [if_pos (by simp [Region.wanted, yielded, frame_tmp (k135) hL15 (Nat.lt_of_lt_of_eq (by decide : 135 < 186) hsz.symm)])]
                refine op_value (v := .bool false) (w' := Wx) (by simp [execOp, go_sem, frame_tmp (k140) hL20 (Nat.lt_of_lt_of_eq (by decide : 140 < 186) hsz.symm), frame_tmp (k152) hL32 (Nat.lt_of_lt_of_eq (by decide : 152 < 186) hsz.symm)]) ⟨frame_put (k153) (q153), ?_⟩
                simpa [upd] using hT
              · rintro L _ Wx ⟨rfl, hT⟩ hcl hk hd
                have hL15 : L 15 = true := by have h := hd; simp [Region.binds] at h; simp [h]
                have hL33 : L 33 = true := by have h := hd; simp [Region.binds] at h; simp [h]
                rw [if_pos (by simp [Region.wanted])]
                refine op_value (v := .bool false) (w' := Wx) (by simp [execOp, go_sem, frame_tmp (k135) hL15 (Nat.lt_of_lt_of_eq (by decide : 135 < 186) hsz.symm), frame_tmp (k153) hL33 (Nat.lt_of_lt_of_eq (by decide : 153 < 186) hsz.symm)]) ⟨frame_put (k154) (q154), ?_⟩
                simpa [upd] using hT
            · rintro L W' hT hall
              simp only [putAll, Act.put, List.setIfInBounds_toArray, List.set_cons_succ, List.set_cons_zero]
              have HB6 := Lib.hid (HB5.out.trans (hT.mono HB5.out.size))
              clear hT hall
              obtain ⟨e0, e1, e2, e3, e4, e5, e6, e7, e8, e9, e10, e11, e12, e13, e14, e15, e16, e17, e18, e19, e20, e21, e22, e23, e24, e25, e26, e27, c0, c1, c2, c3, c4, c5, c6, c7, c8, c9, c10, c11, c12⟩ := HF.out W' HB6.out
              have hen := fun w => eql_nm fwas x.n w
              obtain ⟨_, _, _, _, _, hk0, hk4, hk3, hkn⟩ := HBL.out
              have hl1 : decide (fk < 0) = false := by simp; omega
              have hl2 : decide (fk > 4) = false := by simp; omega
              have HK3 := Lib.hid hk3
              have HKN := Lib.hid hkn
              have HG := Lib.hid (step_good HM.out HX.out)
              have HWZ := Lib.hid hwz
              clear hk0 hk4 hk3 hkn hwz
              by_cases q4 : fk = 4
              · first
                | exact absurd (HKN.out q4) HWZ.out
                | have b4 : (fk == 4) = true := by simp [q4]
                  have b3 : (fk == 3) = false := by simp [q4]
                  have dN : decide (fwas = x.n) = false := by
                    have h1 := HKN.out q4
                    have h2 := HG.out
                    simp only [decide_eq_false_iff_not]
                    intro h3
                    exact h2 (h3.symm.trans h1)
                  clear q4
                  go_wp2_with fail
                  go_quiet (fail)
                  go_wp2_with fail
                  go_roundw
                  case rel => exact ⟨q + 1, by have := HLT.out; omega, by go_num, (HB3.out.trans (HB6.out.mono HB3.out.size)).trans ⟨rfl, rfl, rfl, Nat.le_refl _, fun _ _ => rfl⟩⟩
                  case measure => have := HLT.out; simp [intOf]; omega
              · have b4 : (fk == 4) = false := by simpa using q4
                by_cases q3 : fk = 3
                · have b3 : (fk == 3) = true := by simp [q3]
                  have dN : decide (fwas = x.n) = true := by simpa using HK3.out.1 q3
                  clear q3 q4
                  go_wp2_with fail
                  go_quiet (fail)
                  go_wp2_with fail
                  go_roundw
                  case rel => exact ⟨q + 1, by have := HLT.out; omega, by go_num, (HB3.out.trans (HB6.out.mono HB3.out.size)).trans ⟨rfl, rfl, rfl, Nat.le_refl _, fun _ _ => rfl⟩⟩
                  case measure => have := HLT.out; simp [intOf]; omega
                · have b3 : (fk == 3) = false := by simpa using q3
                  have dN : decide (fwas = x.n) = false := by
                    simp only [decide_eq_false_iff_not]
                    exact fun h => q3 (HK3.out.2 h)
                  clear q3 q4
                  go_wp2_with fail
                  go_quiet (fail)
                  go_wp2_with fail
                  go_roundw
                  case rel => exact ⟨q + 1, by have := HLT.out; omega, by go_num, (HB3.out.trans (HB6.out.mono HB3.out.size)).trans ⟨rfl, rfl, rfl, Nat.le_refl _, fun _ _ => rfl⟩⟩
                  case measure => have := HLT.out; simp [intOf]; omega
            -- END CBN
    · obtain rfl : q = (wrongP l).length := by omega
      go_wp2_with fail
      refine (wakes32_any _).mono ?_
      rintro e w' ⟨rfl, bel⟩
      have BEL2 := Lib.hid ((BEL.out.trans (HB.out.mono BEL.out.size)).trans (bel.mono (by have := BEL.out.size; have := HB.out.size; omega)))
      clear bel
      go_wp2_with fail
      go_ret
      exact ⟨rfl, BEL2.out⟩

theorem blames_any (l : List Sn) (v : Value) (w : World) (hv : Sns w.heap.size w v l) (hcap : ∀ a n c, v = .slice a n c → n ≤ c) : Calls Try.prog 8 #[v] w fun e w' => e = .returned (.bool true) ∧ Below w.heap.size w w' := by
  by_cases hb : 300 < l.length
  · exact blames_bad l v w hv hb
  · cases hm : mayP l with
    | false => exact blames_err l v w hv (by omega) hm
    | true => exact blames_ok l v w hv (by omega) hm hcap

end Go.Proofs.Ytgdmgeihgkbjaaa
