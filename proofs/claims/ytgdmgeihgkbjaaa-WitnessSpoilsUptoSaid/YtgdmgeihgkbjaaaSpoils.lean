/- 'cashboxlaw32.WitnessSpoils' -/
import Derived.Test.YtgdmgeihgkbjaaaWrongRef
import Derived.Test.YtgdmgeihgkbjaaaTells
namespace Go.Proofs.Ytgdmgeihgkbjaaa
open Go.RowKit Go.Shelf

def v8Arr (u : V8) : Array Value := #[.int .u8 u.a, .int .u8 u.b, .int .u8 u.c, .int .u8 u.d, .int .u8 u.e, .int .u8 u.f, .int .u8 u.g, .int .u8 u.h]

set_option maxRecDepth 100000 in
set_option maxHeartbeats 4000000 in
theorem spoils_err (l : List Sn) (v : Value) (at_ : Int) (u : V8) (w : World) (hl : l.length ≤ 100000) (hv : Sns w.heap.size w v l) (hm : mayP l = false) : Calls Try.prog 10 #[v, .int .i64 at_, .agg (v8Arr u)] w fun e w' => e = .returned (.bool true) ∧ Below w.heap.size w w' := by
  obtain ⟨w1, hw1⟩ : ∃ w1, w.alloc (.cells (v8Arr u) 23) = w1 := ⟨_, rfl⟩
  have hb1 : Below w.heap.size w w1 := hw1 ▸ below_alloc1 _
  have HC := Lib.hid (mend34_err l v w1 hl ((hv.below hb1).mono hb1.size) hm)
  have HW1 := Lib.hid hw1
  have HB1 := Lib.hid hb1
  obtain ⟨va, vc, rfl, _, _⟩ := hv
  clear hw1 hb1 hm
  by_cases hb : 300 < l.length
  · go_enter Try.func10, Try.ntmps10
    go_upto_region 1 with (fail)
    rw [HW1.out]
    go_wp2_with fail
    refine HC.out.mono ?_
    rintro e w2 ⟨rfl, b2⟩
    have HB2 := Lib.hid (HB1.out.trans (b2.mono HB1.out.size))
    clear b2
    simp only [slNil]
    go_wp2_with fail
    refine (wakes32_any _).mono ?_
    rintro e w3 ⟨rfl, b3⟩
    have HB3 := Lib.hid (HB2.out.trans (b3.mono HB2.out.size))
    clear b3
    go_wp2_with fail
    go_ret
    exact ⟨rfl, HB3.out⟩
  · go_enter Try.func10, Try.ntmps10
    go_upto_region 1 with (fail)
    rw [HW1.out]
    go_wp2_with fail
    refine HC.out.mono ?_
    rintro e w2 ⟨rfl, b2⟩
    have HB2 := Lib.hid (HB1.out.trans (b2.mono HB1.out.size))
    clear b2
    simp only [slNil]
    go_wp2_with fail
    refine (wakes32_any _).mono ?_
    rintro e w3 ⟨rfl, b3⟩
    have HB3 := Lib.hid (HB2.out.trans (b3.mono HB2.out.size))
    clear b3
    go_wp2_with fail
    go_ret
    exact ⟨rfl, HB3.out⟩

set_option maxRecDepth 100000 in
set_option maxHeartbeats 4000000 in
theorem spoils_edge (l : List Sn) (v : Value) (at_ : Int) (u : V8) (w : World) (hl : l.length ≤ 100000) (hv : Sns w.heap.size w v l) (hm : mayP l = true) (hb : 300 < l.length ∨ l.length = 0) : Calls Try.prog 10 #[v, .int .i64 at_, .agg (v8Arr u)] w fun e w' => e = .returned (.bool true) ∧ Below w.heap.size w w' := by
  obtain ⟨w1, hw1⟩ : ∃ w1, w.alloc (.cells (v8Arr u) 23) = w1 := ⟨_, rfl⟩
  have hb1 : Below w.heap.size w w1 := hw1 ▸ below_alloc1 _
  have HC := Lib.hid (mend34_ok l v w1 hl ((hv.below hb1).mono hb1.size) hm)
  have hml := mendP_length l
  have HW1 := Lib.hid hw1
  have HB1 := Lib.hid hb1
  obtain ⟨va, vc, rfl, _, _⟩ := hv
  clear hw1 hb1 hm
  by_cases h3 : 300 < l.length
  · clear hb
    go_enter Try.func10, Try.ntmps10
    go_upto_region 1 with (fail)
    rw [HW1.out]
    go_wp2_with fail
    refine HC.out.mono ?_
    rintro e w2 ⟨vo, rfl, hown, b2⟩
    obtain ⟨ma, mc, rfl⟩ := ownsRow_slice hown
    have HB2 := Lib.hid (HB1.out.trans (b2.mono HB1.out.size))
    clear b2 hown
    go_wp2_with fail
    refine (wakes32_any _).mono ?_
    rintro e w3 ⟨rfl, b3⟩
    have HB3 := Lib.hid (HB2.out.trans (b3.mono HB2.out.size))
    clear b3
    go_wp2_with fail
    go_ret
    exact ⟨rfl, HB3.out⟩
  · have h0 : l.length = 0 := by omega
    rw [h0] at hml
    clear hb h0
    go_enter Try.func10, Try.ntmps10
    go_upto_region 1 with (fail)
    rw [HW1.out]
    go_wp2_with fail
    refine HC.out.mono ?_
    rintro e w2 ⟨vo, rfl, hown, b2⟩
    obtain ⟨ma, mc, rfl⟩ := ownsRow_slice hown
    have HB2 := Lib.hid (HB1.out.trans (b2.mono HB1.out.size))
    clear b2 hown
    rw [hml]
    clear hml
    go_wp2_with fail
    refine (wakes32_any _).mono ?_
    rintro e w3 ⟨rfl, b3⟩
    have HB3 := Lib.hid (HB2.out.trans (b3.mono HB2.out.size))
    clear b3
    go_wp2_with fail
    go_ret
    exact ⟨rfl, HB3.out⟩

theorem tmod_range (a n : Int) (hn : 0 < n) : -n < a.tmod n ∧ a.tmod n < n := by
  by_cases h : 0 ≤ a
  · rw [Int.tmod_eq_emod_of_nonneg h]
    have h1 := Int.emod_nonneg a (show n ≠ 0 by omega)
    have h2 := Int.emod_lt_of_pos a hn
    omega
  · have h3 : a.tmod n = -((-a).tmod n) := by rw [Int.neg_tmod]; omega
    rw [h3, Int.tmod_eq_emod_of_nonneg (show 0 ≤ -a by omega)]
    have h1 := Int.emod_nonneg (-a) (show n ≠ 0 by omega)
    have h2 := Int.emod_lt_of_pos (-a) hn
    omega

theorem idx_spoil (a : Int) (n : Nat) (h0 : 0 < n) (h3 : n ≤ 300) : ∃ i : Nat, (wrap64 (a.tmod (n : Int) + (n : Int))).tmod (n : Int) = (i : Int) ∧ i < n := by
  obtain ⟨h1, h2⟩ := tmod_range a n (by omega)
  have hw : wrap64 (a.tmod (n : Int) + (n : Int)) = a.tmod (n : Int) + (n : Int) := by unfold wrap64; omega
  rw [hw, Int.tmod_eq_emod_of_nonneg (by omega)]
  have h4 := Int.emod_nonneg (a.tmod (n : Int) + (n : Int)) (show (n : Int) ≠ 0 by omega)
  have h5 := Int.emod_lt_of_pos (a.tmod (n : Int) + (n : Int)) (show (0 : Int) < n by omega)
  exact ⟨((a.tmod (n : Int) + (n : Int)) % (n : Int)).toNat, by omega, by omega⟩

theorem v8_at {w : World} {B : Nat} {u : V8} {t : TypeId} {fr : Nat × Nat} (h : w.heap[B]? = some (.cells (v8Arr u) t fr)) :
    w.cell? ⟨B, 0, none⟩ = some (.int .u8 u.a) ∧ w.cell? ⟨B, 1, none⟩ = some (.int .u8 u.b) ∧ w.cell? ⟨B, 2, none⟩ = some (.int .u8 u.c) ∧ w.cell? ⟨B, 3, none⟩ = some (.int .u8 u.d) ∧ w.cell? ⟨B, 4, none⟩ = some (.int .u8 u.e) ∧ w.cell? ⟨B, 5, none⟩ = some (.int .u8 u.f) ∧ w.cell? ⟨B, 6, none⟩ = some (.int .u8 u.g) ∧ w.cell? ⟨B, 7, none⟩ = some (.int .u8 u.h) := by
  refine ⟨?_, ?_, ?_, ?_, ?_, ?_, ?_, ?_⟩ <;> (rw [cell_of_row w B _ _ t fr h]; rfl)

theorem ft_all {w : World} {B : Nat} {f : Ft} {t : TypeId} {fr : Nat × Nat} (h : w.heap[B]? = some (.cells (ftArr f) t fr)) :
    w.cell? ⟨B, 0, none⟩ = some (.int .i64 f.i) ∧ w.cell? ⟨B, 1, none⟩ = some (.int .i64 f.n.s) ∧ w.cell? ⟨B, 2, none⟩ = some (.int .i64 f.n.i) ∧ w.cell? ⟨B, 3, none⟩ = some (.int .i64 f.n.t) ∧ w.cell? ⟨B, 4, none⟩ = some (.int .i64 f.b) := by
  refine ⟨?_, ?_, ?_, ?_, ?_⟩ <;> (rw [cell_of_row w B _ _ t fr h]; rfl)

theorem nm_any {ns : List Nm} {q : Nat} {n : Nm} (h : ns[q]? = some n) (x : Nm) : (ns.take (q + 1)).any (fun y => decide (y = x)) = ((ns.take q).any (fun y => decide (y = x)) || decide (n = x)) := by
  rw [List.take_add_one, h, Option.toList_some, List.any_append]; simp

set_option maxRecDepth 100000 in
set_option maxHeartbeats 8000000 in
theorem spoils_go (l : List Sn) (v : Value) (at_ : Int) (u : V8) (w : World) (hv : Sns w.heap.size w v l) (hm : mayP l = true) (hb : l.length ≤ 300) (hp : 0 < l.length) : Calls Try.prog 10 #[v, .int .i64 at_, .agg (v8Arr u)] w fun e w' => e = .returned (.bool true) ∧ Below w.heap.size w w' := by
  obtain ⟨w1, hw1⟩ : ∃ w1, w.alloc (.cells (v8Arr u) 23) = w1 := ⟨_, rfl⟩
  have hb1 : Below w.heap.size w w1 := hw1 ▸ below_alloc1 _
  have hu1 : w1.heap[w.heap.size]? = some (.cells (v8Arr u) 23 (0, 0)) := hw1 ▸ heap_alloc_new w _
  have HC := Lib.hid (mend34_ok l v w1 (by omega) ((hv.below hb1).mono hb1.size) hm)
  have hml := mendP_length l
  have hmm : mayP (mendP l) = true := by rw [(sim_mend hm).may]; exact hm
  have HMM := Lib.hid hmm
  have HMR := Lib.hid (mend_right hm)
  have HW1 := Lib.hid hw1
  have HB1 := Lib.hid hb1
  have HU1 := Lib.hid hu1
  obtain ⟨va, vc, rfl, _, _⟩ := hv
  clear hw1 hb1 hm hu1 hmm
  generalize mendP l = m at *
  go_enter Try.func10, Try.ntmps10
  go_upto_region 1 with (fail)
  rw [HW1.out]
  go_wp2_with fail
  refine HC.out.mono ?_
  rintro e w2 ⟨vo, rfl, hown, b2⟩
  obtain ⟨ma, mc, rfl⟩ := ownsRow_slice hown
  have HB2 := Lib.hid (HB1.out.trans (b2.mono HB1.out.size))
  have HU2 := Lib.hid ((b2.block _ (lt_of_heap HU1.out)).trans HU1.out)
  have HOWN := Lib.hid hown
  clear b2 hown HC HU1
  rw [hml]
  obtain ⟨i, hix, hil⟩ := idx_spoil at_ l.length hp hb
  have e_0 : ((l.length : Int) == 0) = false := by rw [beq_eq_false_iff_ne]; omega
  have e_3 : decide (300 < (l.length : Int)) = false := by simp; omega
  go_upto_region 5 with (fail)
  have him : i < m.length := by omega
  obtain ⟨x, hx⟩ : ∃ x, m[i]? = some x := ⟨_, List.getElem?_eq_getElem him⟩
  obtain ⟨g, rfl, hg1, hg2, hr⟩ := owns_rows (enc := Sn.cells) (fun _ => rfl) HOWN.out (by omega) rfl
  obtain ⟨c0, c1, c2, c3, c4, c5, c6, c7, c8, c9, c10, c11, c12, c13⟩ := hr.sn hx
  simp only [Nat.zero_add] at c0 c1 c2 c3 c4 c5 c6 c7 c8 c9 c10 c11 c12 c13
  obtain ⟨w3, hw3⟩ : ∃ w3, w2.alloc (.cells (snArr x) 36) = w3 := ⟨_, rfl⟩
  have hb3 : Below w2.heap.size w2 w3 := hw3 ▸ below_alloc1 _
  have hx3 : w3.heap[w2.heap.size]? = some (.cells (snArr x) 36 (0, 0)) := hw3 ▸ heap_alloc_new w2 _
  have hw3' : w2.alloc (.cells #[.int .i8 x.k, .int .i64 x.n.s, .int .i64 x.n.i, .int .i64 x.n.t, .int .i64 x.b, .int .u8 x.v.a, .int .u8 x.v.b, .int .u8 x.v.c, .int .u8 x.v.d, .int .u8 x.v.e, .int .u8 x.v.f, .int .u8 x.v.g, .int .u8 x.v.h, .int .i64 x.e] 36) = w3 := hw3
  have HW3 := Lib.hid hw3'
  have HB3 := Lib.hid (HB2.out.trans (hb3.mono HB2.out.size))
  have HX3 := Lib.hid hx3
  have HU3 := Lib.hid ((hb3.block _ (lt_of_heap HU2.out)).trans HU2.out)
  have HO3 := Lib.hid (owns_below HOWN.out hb3)
  have HX := Lib.hid hx
  have HG2 : Hid (g < w2.heap.size) := hg2
  have HG1 : Hid (w1.heap.size ≤ g) := hg1
  have hii : (i : Int) < (l.length : Int) := by omega
  have HML := Lib.hid hml
  clear hw3 hw3' hb3 hx3 hr hx hg1 hg2 hix HOWN HU2
  go_upto_region 6 with (fail)
  rw [HW3.out]
  clear c0 c1 c2 c3 c4 c5 c6 c7 c8 c9 c10 c11 c12 c13 HW3
  obtain ⟨d0, d1, d2, d3, d4, d5, d6, d7, d8, d9, d10, d11, d12, d13⟩ := snArr_at HX3.out
  obtain ⟨v0, v1, v2, v3, v4, v5, v6, v7⟩ := v8_at HU3.out
  have hev := fun w => eql_v8 x.v u w
  have HZ1 : Hid (w.heap.size < w1.heap.size) := Lib.hid (by have := lt_of_heap HU3.out; have := HG1.out; have h := HW1.out; rw [← h]; simp)
  by_cases k1 : x.k = 1
  · have e_1 : (x.k != 1) = false := by simp [k1]
    by_cases hvu : x.v = u
    · have e_2 : decide (x.v = u) = true := by simp [hvu]
      clear k1 hvu
      go_wp2_with fail
      refine (wakes32_any _).mono ?_
      rintro e w4 ⟨rfl, b4⟩
      have HB4 := Lib.hid (HB3.out.trans (b4.mono HB3.out.size))
      clear b4
      go_wp2_with fail
      go_ret
      exact ⟨rfl, HB4.out⟩
    · have e_2 : decide (x.v = u) = false := by simp [hvu]
      obtain ⟨hm2, hin0, hin1⟩ := spoil_law HMM.out HMR.out HX.out k1 hvu
      have HSL := Lib.hid (And.intro hm2 (And.intro hin0 hin1))
      have hmv3 : Sns w3.heap.size w3 (.slice (some ⟨g, 0, none⟩) l.length mc) m := by
        have h := rows_of_owns (enc := Sn.cells) (k := 14) (fun _ => rfl) HO3.out
        rwa [HML.out] at h
      have HOR := Lib.hid (order35_any m _ w3 (by omega) hmv3)
      clear k1 hvu hm2 hin0 hin1 hmv3
      go_wp2_with fail
      refine HOR.out.mono ?_
      rintro e w4 ⟨hor, b4⟩
      rcases hor with ⟨h2, _⟩ | ⟨_, vn, rfl, hrow⟩
      · rw [HMM.out] at h2; cases h2
      obtain ⟨na, nc, rfl⟩ := ownsRow_slice hrow
      have HNS : Hid (∀ (q : Nat) n, (ordR m)[q]? = some n → ∃ g, na = some ⟨g, 0, none⟩ ∧ g < w4.heap.size ∧ RowsAt Nm.cells 3 w4 g 0 (ordR m)) := Lib.hid (fun q n hq => by
        obtain ⟨g, h1, _, h3, h4⟩ := owns_rows (enc := Nm.cells) (fun _ => rfl) hrow (by have := (List.getElem?_eq_some_iff.1 hq).1; omega) rfl
        exact ⟨g, h1, h3, h4⟩)
      have hol := ordR_le m
      have hol2 : (ordR m).length ≤ 300 := by omega
      have HB4 := Lib.hid (HB3.out.trans (b4.mono HB3.out.size))
      have HX4 := Lib.hid ((b4.block _ (lt_of_heap HX3.out)).trans HX3.out)
      have HU4 := Lib.hid ((b4.block _ (lt_of_heap HU3.out)).trans HU3.out)
      have HO4 := Lib.hid (owns_below HO3.out b4)
      have HG4 : Hid (g < w4.heap.size) := Lib.hid (by have := HG2.out; have := lt_of_heap HX3.out; have := b4.size; omega)
      clear hrow b4 HOR hol HX3 HU3 HO3 HB3 d0 d1 d2 d3 d4 d5 d6 d7 d8 d9 d10 d11 d12 d13 v0 v1 v2 v3 v4 v5 v6 v7 hev e_1 e_2
      generalize hnames : ordR m = ns at *
      have HNM := Lib.hid hnames
      clear hnames
      go_wp2_with fail
      go_loopw [12, 13] (fun co io wr => ∃ q : Nat, q ≤ ns.length ∧ co = .bool ((ns.take q).any (fun y => decide (y = x.n))) ∧ io = .int .i64 q ∧ (∃ k, wr = w4.drewN k)) (fun _ io _ => ns.length - (intOf io).toNat)
      case atStart => exact ⟨0, Nat.zero_le _, rfl, rfl, 0, rfl⟩
      case round =>
        obtain ⟨q, hq, rfl, rfl, k, rfl⟩ := hrel
        by_cases hlt : q < ns.length
        · obtain ⟨n, hn⟩ : ∃ n, ns[q]? = some n := ⟨_, List.getElem?_eq_getElem hlt⟩
          obtain ⟨gn, rfl, hgn, hgr⟩ := HNS.out q n hn
          have g0 := hgr q n hn 0 _ rfl
          have g1 := hgr q n hn 1 _ rfl
          have g2 := hgr q n hn 2 _ rfl
          simp only [Nat.zero_add, Nat.add_zero] at g0 g1 g2
          obtain ⟨_, d1, d2, d3, _⟩ := snArr_at HX4.out
          have hen := fun w => eql_nm n x.n w
          have HA := Lib.hid (nm_any hn x.n)
          have HLT := Lib.hid hlt
          have hqi : (q : Int) < (ns.length : Int) := by omega
          clear hgr hn hlt
          cases hco : (ns.take q).any (fun y => decide (y = x.n)) with
          | true =>
            have HN : Hid ((ns.take (q + 1)).any (fun y => decide (y = x.n)) = true) := Lib.hid (by rw [HA.out, hco]; rfl)
            clear hco
            go_wp2_with fail
            go_quiet (fail)
            go_wp2_with fail
            go_roundw
            case rel => exact ⟨q + 1, by have := HLT.out; omega, by rw [HN.out], by go_num, _, rfl⟩
            case measure => have := HLT.out; simp [intOf]; omega
          | false =>
            have HN : Hid ((ns.take (q + 1)).any (fun y => decide (y = x.n)) = decide (n = x.n)) := Lib.hid (by rw [HA.out, hco]; rfl)
            clear hco
            cases hd : decide (n = x.n) with
            | true =>
              rw [hd] at HN
              go_wp2_with fail
              go_quiet (fail)
              go_wp2_with fail
              go_roundw
              case rel => exact ⟨q + 1, by have := HLT.out; omega, by rw [HN.out], by go_num, _, rfl⟩
              case measure => have := HLT.out; simp [intOf]; omega
            | false =>
              rw [hd] at HN
              go_wp2_with fail
              go_quiet (fail)
              go_wp2_with fail
              go_roundw
              case rel => exact ⟨q + 1, by have := HLT.out; omega, by rw [HN.out], by go_num, _, rfl⟩
              case measure => have := HLT.out; simp [intOf]; omega
        · obtain rfl : q = ns.length := by omega
          rw [List.take_length]
          obtain ⟨w5, hw5⟩ : ∃ w5, w4.drewN k = w5 := ⟨_, rfl⟩
          have hb5 : Below w4.heap.size w4 w5 := hw5 ▸ Below.drewN' (Below.refl _ _) k
          have HB5 := Lib.hid (HB4.out.trans (hb5.mono HB4.out.size))
          have HX5 := Lib.hid ((hb5.block _ (lt_of_heap HX4.out)).trans HX4.out)
          have hu5 := (hb5.block _ (lt_of_heap HU4.out)).trans HU4.out
          obtain ⟨v0, v1, v2, v3, v4, v5, v6, v7⟩ := v8_at hu5
          obtain ⟨g', c', hg8, hgb, w6, hst, hgr, hown6⟩ := owns_set (owns_below HO4.out hb5) HX.out u
          injection hg8 with e1 e2 e3
          injection e1 with e1
          injection e1 with e1 e4 e5
          subst e1 e3
          clear e2 e4 e5
          have HU6 := Lib.hid (cells_turn hu5 hgr (by have := HZ1.out; have := HG1.out; omega))
          have HX6 := Lib.hid (cells_turn HX5.out hgr (by have := HG2.out; omega))
          have hb6 : Below w.heap.size w w6 := HB5.out.grown hgr HB5.out.size (fun k e => by cases e; have := HZ1.out; have := HG1.out; omega)
          have hset : (m.set i { x with v := u }).length = l.length := by simp [HML.out]
          have hmv6 : Sns w6.heap.size w6 (.slice (some ⟨g, 0, none⟩) l.length mc) (m.set i { x with v := u }) := by
            have h := hown6
            rw [HML.out] at h
            have h2 : w6.ownsRow w1.heap.size 36 14 (.slice (some ⟨g, 0, none⟩) l.length mc) (m.set i { x with v := u }).length ((m.set i { x with v := u }).flatMap Sn.cells) := by rw [hset]; exact h
            have h3 := rows_of_owns (enc := Sn.cells) (k := 14) (fun _ => rfl) h2
            exact h3
          have HST := Lib.hid hst
          have HB6 := Lib.hid hb6
          have HMV6 := Lib.hid hmv6
          have HC6 := Lib.hid (wrong_ok (m.set i { x with v := u }) _ w6 (by rw [hset]; omega) hmv6 HSL.out.1)
          have HF6 := Lib.hid (fun W (hW : Sns W.heap.size W (.slice (some ⟨g, 0, none⟩) l.length mc) (m.set i { x with v := u })) => firstF_any (m.set i { x with v := u }) _ W (by rw [hset]; omega) hW)
          have hfp : firstP (m.set i { x with v := u }) = (match wrongP (m.set i { x with v := u }) with | [] => (ftz, false) | f :: r => (minF r f, true)) := by
            unfold firstP
            rw [if_pos HSL.out.1]
            generalize wrongP (m.set i { x with v := u }) = z
            cases z <;> rfl
          have HFP := Lib.hid hfp
          have HW5 := Lib.hid hw5
          have hin : ns.any (fun y => decide (y = x.n)) = true ↔ x.n ∈ ns := by simp
          have HIN := Lib.hid hin
          clear hw5 hb5 hu5 hst hgr hown6 hb6 hset hmv6 hgb hfp hin HO4 HX4 HU4 HB4 HX5
          cases hco : ns.any (fun y => decide (y = x.n)) with
          | false =>
            have hnot : x.n ∉ ns := by
              intro h
              have := HIN.out.2 h
              rw [hco] at this; cases this
            have hw0 := HSL.out.2.1 hnot
            have hf0 : firstP (m.set i { x with v := u }) = (ftz, false) := by rw [HFP.out, hw0]
            rw [hw0] at HC6
            rw [hf0] at HF6
            clear hco hnot hw0 hf0
            go_upto_region 14 with (fail)
            rw [HW5.out]
            go_wp2_with (refine wpList_store rfl 23 (.tmp 85) (.tmp 83) rfl ⟨g, i * 14 + 5, none⟩ rfl (v8Val u) rfl HST.out ?_)
            clear v0 v1 v2 v3 v4 v5 v6 v7
            refine HC6.out.mono ?_
            rintro e w7 ⟨fa, fc, rfl, _, b7⟩
            have HB7 := Lib.hid (HB6.out.trans (b7.mono HB6.out.size))
            have HMV7 := Lib.hid ((HMV6.out.below b7).mono b7.size)
            clear b7
            simp only [List.length_nil]
            go_wp2_with fail
            refine (HF6.out w7 HMV7.out).mono ?_
            rintro e w8 ⟨rfl, b8⟩
            have hst8 := fun (w : World) => st_ft w ftz
            go_wp2_with (refine wpList_store rfl 59 (.tmp 16) (.tmp 94) rfl ⟨w8.heap.size, 0, none⟩ rfl (.agg (ftArr ftz)) rfl (st_ft w8 ftz) ?_)
            refine (wakes32_any _).mono ?_
            rintro e w9 ⟨rfl, b9⟩
            have HB9 : Hid (Below w.heap.size w w9) := Lib.hid (((HB7.out.trans (b8.mono HB7.out.size)).alloc (Nat.le_trans HB7.out.size b8.size) _).trans (b9.mono (by have := HB7.out.size; have := b8.size; simp; omega)))
            clear b8 b9 hst8
            go_wp2_with fail
            go_ret
            exact ⟨rfl, HB9.out⟩
          | true =>
            have hyes : x.n ∈ ns := HIN.out.1 hco
            obtain ⟨f, hw1, hfi, hfn, hfb, hfw, hfg⟩ := HSL.out.2.2 hyes
            have hf1 : firstP (m.set i { x with v := u }) = (f, true) := by rw [HFP.out, hw1]; rfl
            rw [hw1] at HC6
            rw [hf1] at HF6
            obtain ⟨fi, fn, fb, fw, fg, fs, fwas, fk⟩ := f
            simp only at hfi hfn hfb hfw hfg
            subst hfi hfn hfb hfw
            have hfg2 := hfg.symm
            subst hfg2
            clear hco hyes hw1 hf1 HSL HFP
            generalize hf : (⟨(i : Int), x.n, x.b, x.v, u, fs, fwas, fk⟩ : Ft) = f at *
            go_upto_region 14 with (fail)
            rw [HW5.out]
            go_wp2_with (refine wpList_store rfl 23 (.tmp 85) (.tmp 83) rfl ⟨g, i * 14 + 5, none⟩ rfl (v8Val u) rfl HST.out ?_)
            clear v0 v1 v2 v3 v4 v5 v6 v7
            refine HC6.out.mono ?_
            rintro e w7 ⟨fa, fc, rfl, hfr, b7⟩
            obtain ⟨gf, rfl, hgf, hfr0⟩ := hfr 0 f rfl
            have HB7 := Lib.hid (HB6.out.trans (b7.mono HB6.out.size))
            have HMV7 := Lib.hid ((HMV6.out.below b7).mono b7.size)
            have HX7 := Lib.hid ((b7.block _ (lt_of_heap HX6.out)).trans HX6.out)
            have HU7 := Lib.hid ((b7.block _ (lt_of_heap HU6.out)).trans HU6.out)
            clear b7 hfr HX6 HU6
            simp only [List.length_singleton]
            go_wp2_with fail
            refine (HF6.out w7 HMV7.out).mono ?_
            rintro e w8 ⟨rfl, b8⟩
            obtain ⟨w9, hw9⟩ : ∃ w9, w8.alloc (.cells (ftArr f) 59) = w9 := ⟨_, rfl⟩
            have hb9 : Below w7.heap.size w7 w9 := hw9 ▸ b8.alloc b8.size _
            have hf9 : w9.heap[w8.heap.size]? = some (.cells (ftArr f) 59 (0, 0)) := hw9 ▸ heap_alloc_new w8 _
            have HB9 := Lib.hid (HB7.out.trans (hb9.mono HB7.out.size))
            have hx9 := (hb9.block _ (lt_of_heap HX7.out)).trans HX7.out
            have hu9 := (hb9.block _ (lt_of_heap HU7.out)).trans HU7.out
            have hL1 : ∀ W, Below w9.heap.size w9 W → (loadVar 59 ⟨gf, 0, none⟩).run Try.prog W = .ok (.agg (ftArr f)) W := fun W hW => by
              have h := ld_ft_row ((hfr0.below hgf hb9).below (Nat.lt_of_lt_of_le hgf hb9.size) hW) (q := 0) (f := f) rfl
              rwa [Nat.zero_mul, Nat.zero_add] at h
            have hL2 : ∀ W, Below w9.heap.size w9 W → (loadVar 59 ⟨w8.heap.size, 0, none⟩).run Try.prog W = .ok (.agg (ftArr f)) W := fun W hW => ld_ft ((hW.block _ (lt_of_heap hf9)).trans hf9)
            have hA := fun W (hW : Below w9.heap.size w9 W) => ft_all ((hW.block _ (lt_of_heap hf9)).trans hf9)
            have hP := fun W (hW : Below w9.heap.size w9 W) => ft_at ((hW.block _ (lt_of_heap hf9)).trans hf9)
            have hX : ∀ W, Below w9.heap.size w9 W → W.cell? ⟨w2.heap.size, 1, none⟩ = some (.int .i64 x.n.s) ∧ W.cell? ⟨w2.heap.size, 2, none⟩ = some (.int .i64 x.n.i) ∧ W.cell? ⟨w2.heap.size, 3, none⟩ = some (.int .i64 x.n.t) ∧ W.cell? ⟨w2.heap.size, 4, none⟩ = some (.int .i64 x.b) ∧ W.cell? ⟨w2.heap.size, 5, none⟩ = some (.int .u8 x.v.a) ∧ W.cell? ⟨w2.heap.size, 6, none⟩ = some (.int .u8 x.v.b) ∧ W.cell? ⟨w2.heap.size, 7, none⟩ = some (.int .u8 x.v.c) ∧ W.cell? ⟨w2.heap.size, 8, none⟩ = some (.int .u8 x.v.d) ∧ W.cell? ⟨w2.heap.size, 9, none⟩ = some (.int .u8 x.v.e) ∧ W.cell? ⟨w2.heap.size, 10, none⟩ = some (.int .u8 x.v.f) ∧ W.cell? ⟨w2.heap.size, 11, none⟩ = some (.int .u8 x.v.g) ∧ W.cell? ⟨w2.heap.size, 12, none⟩ = some (.int .u8 x.v.h) := fun W hW => by
              obtain ⟨_, d1, d2, d3, d4, d5, d6, d7, d8, d9, d10, d11, d12, _⟩ := snArr_at ((hW.block _ (lt_of_heap hx9)).trans hx9)
              exact ⟨d1, d2, d3, d4, d5, d6, d7, d8, d9, d10, d11, d12⟩
            have hU := fun W (hW : Below w9.heap.size w9 W) => v8_at ((hW.block _ (lt_of_heap hu9)).trans hu9)
            rw [← hf] at hA hP
            simp only at hA hP
            have HW9 := Lib.hid hw9
            have HA := Lib.hid hA
            have HP := Lib.hid hP
            have HXX := Lib.hid hX
            have HUU := Lib.hid hU
            have HL1 := Lib.hid hL1
            have HL2 := Lib.hid hL2
            clear b8 hw9 hb9 hf9 hx9 hu9 hfr0 hgf hf hA hP hX hU hL1 hL2
            go_upto_region 19 with (refine wpList_store rfl 59 (.tmp 16) (.tmp 94) rfl ⟨w8.heap.size, 0, none⟩ rfl (.agg (ftArr f)) rfl (st_ft w8 f) ?_; rw [HW9.out])
            have hA := HA.out
            have hP := HP.out
            have hX := HXX.out
            have hU := HUU.out
            have hL1 := HL1.out
            have hL2 := HL2.out
            -- BEGIN S19
            refine wp_region_frame mixed (by kernel_rfl) [(0, 112, .int .i64 0), (1, 113, .bool true), (2, 114, .bool true), (3, 115, .bool true), (4, 116, .bool true), (5, 117, .bool true), (6, 118, .slice (some ⟨gf, 0, none⟩) 1 fc), (7, 119, .int .i64 1), (8, 120, .bool true), (9, 121, .bool true), (10, 122, .bool true), (11, 123, .slice (some ⟨gf, 0, none⟩) 1 fc), (12, 124, .pointer (some ⟨gf, 0, none⟩)), (13, 125, .agg (ftArr f)), (14, 126, .agg (ftArr f)), (15, 127, .bool true), (16, 128, .bool true), (17, 129, .bool true), (18, 130, .pointer (some ⟨w8.heap.size, 0, none⟩)), (19, 131, .int .i64 (i : Int)), (20, 132, .int .i64 (i : Int)), (21, 133, .bool true), (22, 134, .bool true), (23, 135, .bool true), (24, 136, .pointer (some ⟨w8.heap.size, 1, none⟩)), (25, 137, .agg #[.int .i64 x.n.s, .int .i64 x.n.i, .int .i64 x.n.t]), (26, 138, .pointer (some ⟨w2.heap.size, 1, none⟩)), (27, 139, .agg #[.int .i64 x.n.s, .int .i64 x.n.i, .int .i64 x.n.t]), (28, 140, .bool true), (29, 141, .bool true), (30, 142, .bool true), (31, 143, .pointer (some ⟨w8.heap.size, 4, none⟩)), (32, 144, .int .i64 x.b), (33, 145, .pointer (some ⟨w2.heap.size, 4, none⟩)), (34, 146, .int .i64 x.b), (35, 147, .bool true), (36, 148, .bool true), (37, 149, .bool true), (38, 150, .pointer (some ⟨w8.heap.size, 5, none⟩)), (39, 151, .agg #[.int .u8 x.v.a, .int .u8 x.v.b, .int .u8 x.v.c, .int .u8 x.v.d, .int .u8 x.v.e, .int .u8 x.v.f, .int .u8 x.v.g, .int .u8 x.v.h]), (40, 152, .pointer (some ⟨w2.heap.size, 5, none⟩)), (41, 153, .agg #[.int .u8 x.v.a, .int .u8 x.v.b, .int .u8 x.v.c, .int .u8 x.v.d, .int .u8 x.v.e, .int .u8 x.v.f, .int .u8 x.v.g, .int .u8 x.v.h]), (42, 154, .bool true), (43, 155, .bool true), (44, 156, .bool true), (45, 157, .pointer (some ⟨w8.heap.size, 13, none⟩)), (46, 158, .agg #[.int .u8 u.a, .int .u8 u.b, .int .u8 u.c, .int .u8 u.d, .int .u8 u.e, .int .u8 u.f, .int .u8 u.g, .int .u8 u.h]), (47, 159, .agg #[.int .u8 u.a, .int .u8 u.b, .int .u8 u.c, .int .u8 u.d, .int .u8 u.e, .int .u8 u.f, .int .u8 u.g, .int .u8 u.h]), (48, 160, .bool true), (49, 161, .bool true), (50, 162, .bool true), (51, 163, .bool true), (52, 164, .bool true), (53, 6, .bool true)] (fun L Wx => Below w9.heap.size w9 Wx) ?_ ?_ (by rfl) (by rfl) ?_
            · exact (Below.refl _ _).drew
            · intro a0 ps ha0 hps
              have hsz : a0.tmps.size = 165 := by rw [ha0]; rfl
              have u1 : a0.tmps[1]? = some (.int .i64 (i : Int)) := by rw [ha0]; rfl
              have u5 : a0.tmps[5]? = some (.pointer (some ⟨w.heap.size, 0, none⟩)) := by rw [ha0]; rfl
              have u9 : a0.tmps[9]? = some (.pointer (some ⟨w2.heap.size, 0, none⟩)) := by rw [ha0]; rfl
              have u14 : a0.tmps[14]? = some (.slice (some ⟨gf, 0, none⟩) 1 fc) := by rw [ha0]; rfl
              have u15 : a0.tmps[15]? = some (.int .i64 0) := by rw [ha0]; rfl
              have u16 : a0.tmps[16]? = some (.pointer (some ⟨w8.heap.size, 0, none⟩)) := by rw [ha0]; rfl
              have u17 : a0.tmps[17]? = some (.bool true) := by rw [ha0]; rfl
              have n1 : slotOf ps 1 = none := by rw [hps]; rfl
              have n5 : slotOf ps 5 = none := by rw [hps]; rfl
              have n9 : slotOf ps 9 = none := by rw [hps]; rfl
              have n14 : slotOf ps 14 = none := by rw [hps]; rfl
              have n15 : slotOf ps 15 = none := by rw [hps]; rfl
              have n16 : slotOf ps 16 = none := by rw [hps]; rfl
              have n17 : slotOf ps 17 = none := by rw [hps]; rfl
              have k112 : slotOf ps 112 = some (0, .int .i64 0) := by rw [hps]; rfl
              have q112 : keysOK ps 0 112 = true := by rw [hps]; rfl
              have k113 : slotOf ps 113 = some (1, .bool true) := by rw [hps]; rfl
              have q113 : keysOK ps 1 113 = true := by rw [hps]; rfl
              have k114 : slotOf ps 114 = some (2, .bool true) := by rw [hps]; rfl
              have q114 : keysOK ps 2 114 = true := by rw [hps]; rfl
              have k115 : slotOf ps 115 = some (3, .bool true) := by rw [hps]; rfl
              have q115 : keysOK ps 3 115 = true := by rw [hps]; rfl
              have k116 : slotOf ps 116 = some (4, .bool true) := by rw [hps]; rfl
              have q116 : keysOK ps 4 116 = true := by rw [hps]; rfl
              have k117 : slotOf ps 117 = some (5, .bool true) := by rw [hps]; rfl
              have q117 : keysOK ps 5 117 = true := by rw [hps]; rfl
              have k118 : slotOf ps 118 = some (6, .slice (some ⟨gf, 0, none⟩) 1 fc) := by rw [hps]; rfl
              have q118 : keysOK ps 6 118 = true := by rw [hps]; rfl
              have k119 : slotOf ps 119 = some (7, .int .i64 1) := by rw [hps]; rfl
              have q119 : keysOK ps 7 119 = true := by rw [hps]; rfl
              have k120 : slotOf ps 120 = some (8, .bool true) := by rw [hps]; rfl
              have q120 : keysOK ps 8 120 = true := by rw [hps]; rfl
              have k121 : slotOf ps 121 = some (9, .bool true) := by rw [hps]; rfl
              have q121 : keysOK ps 9 121 = true := by rw [hps]; rfl
              have k122 : slotOf ps 122 = some (10, .bool true) := by rw [hps]; rfl
              have q122 : keysOK ps 10 122 = true := by rw [hps]; rfl
              have k123 : slotOf ps 123 = some (11, .slice (some ⟨gf, 0, none⟩) 1 fc) := by rw [hps]; rfl
              have q123 : keysOK ps 11 123 = true := by rw [hps]; rfl
              have k124 : slotOf ps 124 = some (12, .pointer (some ⟨gf, 0, none⟩)) := by rw [hps]; rfl
              have q124 : keysOK ps 12 124 = true := by rw [hps]; rfl
              have k125 : slotOf ps 125 = some (13, .agg (ftArr f)) := by rw [hps]; rfl
              have q125 : keysOK ps 13 125 = true := by rw [hps]; rfl
              have k126 : slotOf ps 126 = some (14, .agg (ftArr f)) := by rw [hps]; rfl
              have q126 : keysOK ps 14 126 = true := by rw [hps]; rfl
              have k127 : slotOf ps 127 = some (15, .bool true) := by rw [hps]; rfl
              have q127 : keysOK ps 15 127 = true := by rw [hps]; rfl
              have k128 : slotOf ps 128 = some (16, .bool true) := by rw [hps]; rfl
              have q128 : keysOK ps 16 128 = true := by rw [hps]; rfl
              have k129 : slotOf ps 129 = some (17, .bool true) := by rw [hps]; rfl
              have q129 : keysOK ps 17 129 = true := by rw [hps]; rfl
              have k130 : slotOf ps 130 = some (18, .pointer (some ⟨w8.heap.size, 0, none⟩)) := by rw [hps]; rfl
              have q130 : keysOK ps 18 130 = true := by rw [hps]; rfl
              have k131 : slotOf ps 131 = some (19, .int .i64 (i : Int)) := by rw [hps]; rfl
              have q131 : keysOK ps 19 131 = true := by rw [hps]; rfl
              have k132 : slotOf ps 132 = some (20, .int .i64 (i : Int)) := by rw [hps]; rfl
              have q132 : keysOK ps 20 132 = true := by rw [hps]; rfl
              have k133 : slotOf ps 133 = some (21, .bool true) := by rw [hps]; rfl
              have q133 : keysOK ps 21 133 = true := by rw [hps]; rfl
              have k134 : slotOf ps 134 = some (22, .bool true) := by rw [hps]; rfl
              have q134 : keysOK ps 22 134 = true := by rw [hps]; rfl
              have k135 : slotOf ps 135 = some (23, .bool true) := by rw [hps]; rfl
              have q135 : keysOK ps 23 135 = true := by rw [hps]; rfl
              have k136 : slotOf ps 136 = some (24, .pointer (some ⟨w8.heap.size, 1, none⟩)) := by rw [hps]; rfl
              have q136 : keysOK ps 24 136 = true := by rw [hps]; rfl
              have k137 : slotOf ps 137 = some (25, .agg #[.int .i64 x.n.s, .int .i64 x.n.i, .int .i64 x.n.t]) := by rw [hps]; rfl
              have q137 : keysOK ps 25 137 = true := by rw [hps]; rfl
              have k138 : slotOf ps 138 = some (26, .pointer (some ⟨w2.heap.size, 1, none⟩)) := by rw [hps]; rfl
              have q138 : keysOK ps 26 138 = true := by rw [hps]; rfl
              have k139 : slotOf ps 139 = some (27, .agg #[.int .i64 x.n.s, .int .i64 x.n.i, .int .i64 x.n.t]) := by rw [hps]; rfl
              have q139 : keysOK ps 27 139 = true := by rw [hps]; rfl
              have k140 : slotOf ps 140 = some (28, .bool true) := by rw [hps]; rfl
              have q140 : keysOK ps 28 140 = true := by rw [hps]; rfl
              have k141 : slotOf ps 141 = some (29, .bool true) := by rw [hps]; rfl
              have q141 : keysOK ps 29 141 = true := by rw [hps]; rfl
              have k142 : slotOf ps 142 = some (30, .bool true) := by rw [hps]; rfl
              have q142 : keysOK ps 30 142 = true := by rw [hps]; rfl
              have k143 : slotOf ps 143 = some (31, .pointer (some ⟨w8.heap.size, 4, none⟩)) := by rw [hps]; rfl
              have q143 : keysOK ps 31 143 = true := by rw [hps]; rfl
              have k144 : slotOf ps 144 = some (32, .int .i64 x.b) := by rw [hps]; rfl
              have q144 : keysOK ps 32 144 = true := by rw [hps]; rfl
              have k145 : slotOf ps 145 = some (33, .pointer (some ⟨w2.heap.size, 4, none⟩)) := by rw [hps]; rfl
              have q145 : keysOK ps 33 145 = true := by rw [hps]; rfl
              have k146 : slotOf ps 146 = some (34, .int .i64 x.b) := by rw [hps]; rfl
              have q146 : keysOK ps 34 146 = true := by rw [hps]; rfl
              have k147 : slotOf ps 147 = some (35, .bool true) := by rw [hps]; rfl
              have q147 : keysOK ps 35 147 = true := by rw [hps]; rfl
              have k148 : slotOf ps 148 = some (36, .bool true) := by rw [hps]; rfl
              have q148 : keysOK ps 36 148 = true := by rw [hps]; rfl
              have k149 : slotOf ps 149 = some (37, .bool true) := by rw [hps]; rfl
              have q149 : keysOK ps 37 149 = true := by rw [hps]; rfl
              have k150 : slotOf ps 150 = some (38, .pointer (some ⟨w8.heap.size, 5, none⟩)) := by rw [hps]; rfl
              have q150 : keysOK ps 38 150 = true := by rw [hps]; rfl
              have k151 : slotOf ps 151 = some (39, .agg #[.int .u8 x.v.a, .int .u8 x.v.b, .int .u8 x.v.c, .int .u8 x.v.d, .int .u8 x.v.e, .int .u8 x.v.f, .int .u8 x.v.g, .int .u8 x.v.h]) := by rw [hps]; rfl
              have q151 : keysOK ps 39 151 = true := by rw [hps]; rfl
              have k152 : slotOf ps 152 = some (40, .pointer (some ⟨w2.heap.size, 5, none⟩)) := by rw [hps]; rfl
              have q152 : keysOK ps 40 152 = true := by rw [hps]; rfl
              have k153 : slotOf ps 153 = some (41, .agg #[.int .u8 x.v.a, .int .u8 x.v.b, .int .u8 x.v.c, .int .u8 x.v.d, .int .u8 x.v.e, .int .u8 x.v.f, .int .u8 x.v.g, .int .u8 x.v.h]) := by rw [hps]; rfl
              have q153 : keysOK ps 41 153 = true := by rw [hps]; rfl
              have k154 : slotOf ps 154 = some (42, .bool true) := by rw [hps]; rfl
              have q154 : keysOK ps 42 154 = true := by rw [hps]; rfl
              have k155 : slotOf ps 155 = some (43, .bool true) := by rw [hps]; rfl
              have q155 : keysOK ps 43 155 = true := by rw [hps]; rfl
              have k156 : slotOf ps 156 = some (44, .bool true) := by rw [hps]; rfl
              have q156 : keysOK ps 44 156 = true := by rw [hps]; rfl
              have k157 : slotOf ps 157 = some (45, .pointer (some ⟨w8.heap.size, 13, none⟩)) := by rw [hps]; rfl
              have q157 : keysOK ps 45 157 = true := by rw [hps]; rfl
              have k158 : slotOf ps 158 = some (46, .agg #[.int .u8 u.a, .int .u8 u.b, .int .u8 u.c, .int .u8 u.d, .int .u8 u.e, .int .u8 u.f, .int .u8 u.g, .int .u8 u.h]) := by rw [hps]; rfl
              have q158 : keysOK ps 46 158 = true := by rw [hps]; rfl
              have k159 : slotOf ps 159 = some (47, .agg #[.int .u8 u.a, .int .u8 u.b, .int .u8 u.c, .int .u8 u.d, .int .u8 u.e, .int .u8 u.f, .int .u8 u.g, .int .u8 u.h]) := by rw [hps]; rfl
              have q159 : keysOK ps 47 159 = true := by rw [hps]; rfl
              have k160 : slotOf ps 160 = some (48, .bool true) := by rw [hps]; rfl
              have q160 : keysOK ps 48 160 = true := by rw [hps]; rfl
              have k161 : slotOf ps 161 = some (49, .bool true) := by rw [hps]; rfl
              have q161 : keysOK ps 49 161 = true := by rw [hps]; rfl
              have k162 : slotOf ps 162 = some (50, .bool true) := by rw [hps]; rfl
              have q162 : keysOK ps 50 162 = true := by rw [hps]; rfl
              have k163 : slotOf ps 163 = some (51, .bool true) := by rw [hps]; rfl
              have q163 : keysOK ps 51 163 = true := by rw [hps]; rfl
              have k164 : slotOf ps 164 = some (52, .bool true) := by rw [hps]; rfl
              have q164 : keysOK ps 52 164 = true := by rw [hps]; rfl
              have k6 : slotOf ps 6 = some (53, .bool true) := by rw [hps]; rfl
              have q6 : keysOK ps 53 6 = true := by rw [hps]; rfl
              clear ha0 hps
              refine ⟨?_, ?_, ?_, ?_, ?_, ?_, ?_, ?_, ?_, ?_, ?_, ?_, ?_, ?_, ?_, ?_, ?_, ?_, ?_, ?_, ?_, ?_, ?_, ?_, ?_, ?_, ?_, ?_, ?_, ?_, ?_, ?_, ?_, ?_, ?_, ?_, ?_, ?_, ?_, ?_, ?_, ?_, ?_, ?_, ?_, ?_, ?_, ?_, ?_, ?_, ?_, ?_, ?_, ?_, trivial⟩
              · rintro L _ Wx ⟨rfl, hT⟩ hcl hk hd
                rw [if_pos (by simp [Region.wanted])]
                refine op_value (v := .int .i64 0) (w' := Wx) (by simp [execOp, go_sem, frame_tout (n15) u15]) ⟨frame_put (k112) (q112), ?_⟩
                simpa [upd] using hT
              · rintro L _ Wx ⟨rfl, hT⟩ hcl hk hd
                have hL0 : L 0 = true := by have h := hd; simp [Region.binds] at h; simp [h]
                rw [if_pos (by simp [Region.wanted])]
                refine op_value (v := .bool true) (w' := Wx) (by simp [execOp, go_sem, frame_tmp (k112) hL0 (Nat.lt_of_lt_of_eq (by decide : 112 < 165) hsz.symm)]) ⟨frame_put (k113) (q113), ?_⟩
                simpa [upd] using hT
              · rintro L _ Wx ⟨rfl, hT⟩ hcl hk hd
                have hL1 : L 1 = true := by have h := hd; simp [Region.binds] at h; simp [h]
                rw [if_pos (by simp [Region.wanted])]
                refine op_value (v := .bool true) (w' := Wx) (by simp [execOp, go_sem, frame_tmp (k113) hL1 (Nat.lt_of_lt_of_eq (by decide : 113 < 165) hsz.symm)]) ⟨frame_put (k114) (q114), ?_⟩
                simpa [upd] using hT
              · rintro L _ Wx ⟨rfl, hT⟩ hcl hk hd
                have hL2 : L 2 = true := by have h := hd; simp [Region.binds] at h; simp [h]
                rw [if_pos (by simp [Region.wanted, yielded, frame_tmp (k114) hL2 (Nat.lt_of_lt_of_eq (by decide : 114 < 165) hsz.symm)])]
                refine op_value (v := .bool true) (w' := Wx) (by simp [execOp, go_sem, frame_tout (n17) u17]) ⟨frame_put (k115) (q115), ?_⟩
                simpa [upd] using hT
              · rintro L _ Wx ⟨rfl, hT⟩ hcl hk hd
                have hL2 : L 2 = true := by have h := hd; simp [Region.binds] at h; simp [h]
                have hL3 : L 3 = true := by have h := hd; simp [Region.binds] at h; simp [h]
                rw [if_pos (by simp [Region.wanted])]
                refine op_value (v := .bool true) (w' := Wx) (by simp [execOp, go_sem, frame_tmp (k114) hL2 (Nat.lt_of_lt_of_eq (by decide : 114 < 165) hsz.symm), frame_tmp (k115) hL3 (Nat.lt_of_lt_of_eq (by decide : 115 < 165) hsz.symm)]) ⟨frame_put (k116) (q116), ?_⟩
                simpa [upd] using hT
              · rintro L _ Wx ⟨rfl, hT⟩ hcl hk hd
                have hL4 : L 4 = true := by have h := hd; simp [Region.binds] at h; simp [h]
                rw [if_pos (by simp [Region.wanted])]
                refine op_value (v := .bool true) (w' := Wx) (by simp [execOp, go_sem, frame_tmp (k116) hL4 (Nat.lt_of_lt_of_eq (by decide : 116 < 165) hsz.symm)]) ⟨frame_put (k117) (q117), ?_⟩
                simpa [upd] using hT
              · rintro L _ Wx ⟨rfl, hT⟩ hcl hk hd
                have hL5 : L 5 = true := by have h := hd; simp [Region.binds] at h; simp [h]
                rw [if_pos (by simp [Region.wanted, yielded, frame_tmp (k117) hL5 (Nat.lt_of_lt_of_eq (by decide : 117 < 165) hsz.symm)])]
                refine op_value (v := .slice (some ⟨gf, 0, none⟩) 1 fc) (w' := Wx) (by simp [execOp, go_sem, frame_tout (n14) u14]) ⟨frame_put (k118) (q118), ?_⟩
                simpa [upd] using hT
              · rintro L _ Wx ⟨rfl, hT⟩ hcl hk hd
                have hL5 : L 5 = true := by have h := hd; simp [Region.binds] at h; simp [h]
                have hL6 : L 6 = true := by have h := hd; simp [Region.binds] at h; simp [h]
                rw [if_pos (by simp [Region.wanted, yielded, frame_tmp (k117) hL5 (Nat.lt_of_lt_of_eq (by decide : 117 < 165) hsz.symm)])]
                refine op_value (v := .int .i64 1) (w' := Wx) (by simp [go_sem, frame_tmp (k118) hL6 (Nat.lt_of_lt_of_eq (by decide : 118 < 165) hsz.symm)]) ⟨frame_put (k119) (q119), ?_⟩
                simpa [upd] using hT
              · rintro L _ Wx ⟨rfl, hT⟩ hcl hk hd
                have hL5 : L 5 = true := by have h := hd; simp [Region.binds] at h; simp [h]
                have hL7 : L 7 = true := by have h := hd; simp [Region.binds] at h; simp [h]
                rw [if_pos (by simp [Region.wanted, yielded, frame_tmp (k117) hL5 (Nat.lt_of_lt_of_eq (by decide : 117 < 165) hsz.symm)])]
                refine op_value (v := .bool true) (w' := Wx) (by simp [execOp, go_sem, frame_tmp (k119) hL7 (Nat.lt_of_lt_of_eq (by decide : 119 < 165) hsz.symm)]) ⟨frame_put (k120) (q120), ?_⟩
                simpa [upd] using hT
              · rintro L _ Wx ⟨rfl, hT⟩ hcl hk hd
                have hL5 : L 5 = true := by have h := hd; simp [Region.binds] at h; simp [h]
                have hL8 : L 8 = true := by have h := hd; simp [Region.binds] at h; simp [h]
                rw [if_pos (by simp [Region.wanted])]
                refine op_value (v := .bool true) (w' := Wx) (by simp [execOp, go_sem, frame_tmp (k117) hL5 (Nat.lt_of_lt_of_eq (by decide : 117 < 165) hsz.symm), frame_tmp (k120) hL8 (Nat.lt_of_lt_of_eq (by decide : 120 < 165) hsz.symm)]) ⟨frame_put (k121) (q121), ?_⟩
                simpa [upd] using hT
              · rintro L _ Wx ⟨rfl, hT⟩ hcl hk hd
                have hL9 : L 9 = true := by have h := hd; simp [Region.binds] at h; simp [h]
                rw [if_pos (by simp [Region.wanted])]
                refine op_value (v := .bool true) (w' := Wx) (by simp [execOp, go_sem, frame_tmp (k121) hL9 (Nat.lt_of_lt_of_eq (by decide : 121 < 165) hsz.symm)]) ⟨frame_put (k122) (q122), ?_⟩
                simpa [upd] using hT
              · rintro L _ Wx ⟨rfl, hT⟩ hcl hk hd
                have hL10 : L 10 = true := by have h := hd; simp [Region.binds] at h; simp [h]
                rw [if_pos (by simp [Region.wanted, yielded, frame_tmp (k122) hL10 (Nat.lt_of_lt_of_eq (by decide : 122 < 165) hsz.symm)])]
                refine op_value (v := .slice (some ⟨gf, 0, none⟩) 1 fc) (w' := Wx) (by simp [execOp, go_sem, frame_tout (n14) u14]) ⟨frame_put (k123) (q123), ?_⟩
                simpa [upd] using hT
              · rintro L _ Wx ⟨rfl, hT⟩ hcl hk hd
                have hL10 : L 10 = true := by have h := hd; simp [Region.binds] at h; simp [h]
                have hL11 : L 11 = true := by have h := hd; simp [Region.binds] at h; simp [h]
                rw [if_pos (by simp [Region.wanted, yielded, frame_tmp (k122) hL10 (Nat.lt_of_lt_of_eq (by decide : 122 < 165) hsz.symm)])]
                refine op_value (v := .pointer (some ⟨gf, 0, none⟩)) (w' := Wx) (by simp [execOp, go_sem, frame_tmp (k123) hL11 (Nat.lt_of_lt_of_eq (by decide : 123 < 165) hsz.symm)]) ⟨frame_put (k124) (q124), ?_⟩
                simpa [upd] using hT
              · rintro L _ Wx ⟨rfl, hT⟩ hcl hk hd
                have hL10 : L 10 = true := by have h := hd; simp [Region.binds] at h; simp [h]
                have hL12 : L 12 = true := by have h := hd; simp [Region.binds] at h; simp [h]
                rw [if_pos (by simp [Region.wanted, yielded, frame_tmp (k122) hL10 (Nat.lt_of_lt_of_eq (by decide : 122 < 165) hsz.symm)])]
                refine op_loadF 59 (.tmp 124) rfl ⟨gf, 0, none⟩ (by rw [frame_in (k124) hL12 (Nat.lt_of_lt_of_eq (by decide : 124 < 165) hsz.symm)]) (.agg (ftArr f)) (hL1 Wx hT) ⟨frame_put (k125) (q125), ?_⟩
                simpa [upd] using hT
              · rintro L _ Wx ⟨rfl, hT⟩ hcl hk hd
                have hL10 : L 10 = true := by have h := hd; simp [Region.binds] at h; simp [h]
                rw [if_pos (by simp [Region.wanted, yielded, frame_tmp (k122) hL10 (Nat.lt_of_lt_of_eq (by decide : 122 < 165) hsz.symm)])]
                refine op_loadF 59 (.tmp 16) rfl ⟨w8.heap.size, 0, none⟩ (by rw [frame_oute (n16) u16]) (.agg (ftArr f)) (hL2 Wx hT) ⟨frame_put (k126) (q126), ?_⟩
                simpa [upd] using hT
              · rintro L _ Wx ⟨rfl, hT⟩ hcl hk hd
                have hL10 : L 10 = true := by have h := hd; simp [Region.binds] at h; simp [h]
                have hL13 : L 13 = true := by have h := hd; simp [Region.binds] at h; simp [h]
                have hL14 : L 14 = true := by have h := hd; simp [Region.binds] at h; simp [h]
                rw [if_pos (by simp [Region.wanted, yielded, frame_tmp (k122) hL10 (Nat.lt_of_lt_of_eq (by decide : 122 < 165) hsz.symm)])]
                refine op_value (v := .bool true) (w' := Wx) (by simp [execOp, go_sem, frame_tmp (k125) hL13 (Nat.lt_of_lt_of_eq (by decide : 125 < 165) hsz.symm), frame_tmp (k126) hL14 (Nat.lt_of_lt_of_eq (by decide : 126 < 165) hsz.symm), eql_ft]) ⟨frame_put (k127) (q127), ?_⟩
                simpa [upd] using hT
              · rintro L _ Wx ⟨rfl, hT⟩ hcl hk hd
                have hL10 : L 10 = true := by have h := hd; simp [Region.binds] at h; simp [h]
                have hL15 : L 15 = true := by have h := hd; simp [Region.binds] at h; simp [h]
                rw [if_pos (by simp [Region.wanted])]
                refine op_value (v := .bool true) (w' := Wx) (by simp [execOp, go_sem, frame_tmp (k122) hL10 (Nat.lt_of_lt_of_eq (by decide : 122 < 165) hsz.symm), frame_tmp (k127) hL15 (Nat.lt_of_lt_of_eq (by decide : 127 < 165) hsz.symm)]) ⟨frame_put (k128) (q128), ?_⟩
                simpa [upd] using hT
              · rintro L _ Wx ⟨rfl, hT⟩ hcl hk hd
                have hL16 : L 16 = true := by have h := hd; simp [Region.binds] at h; simp [h]
                rw [if_pos (by simp [Region.wanted])]
                refine op_value (v := .bool true) (w' := Wx) (by simp [execOp, go_sem, frame_tmp (k128) hL16 (Nat.lt_of_lt_of_eq (by decide : 128 < 165) hsz.symm)]) ⟨frame_put (k129) (q129), ?_⟩
                simpa [upd] using hT
              · rintro L _ Wx ⟨rfl, hT⟩ hcl hk hd
                have hL17 : L 17 = true := by have h := hd; simp [Region.binds] at h; simp [h]
                rw [if_pos (by simp [Region.wanted, yielded, frame_tmp (k129) hL17 (Nat.lt_of_lt_of_eq (by decide : 129 < 165) hsz.symm)])]
                refine op_value (v := .pointer (some ⟨w8.heap.size, 0, none⟩)) (w' := Wx) (by simp [execOp, go_sem, frame_tout (n16) u16]) ⟨frame_put (k130) (q130), ?_⟩
                simpa [upd] using hT
              · rintro L _ Wx ⟨rfl, hT⟩ hcl hk hd
                have hL17 : L 17 = true := by have h := hd; simp [Region.binds] at h; simp [h]
                have hL18 : L 18 = true := by have h := hd; simp [Region.binds] at h; simp [h]
                rw [if_pos (by simp [Region.wanted, yielded, frame_tmp (k129) hL17 (Nat.lt_of_lt_of_eq (by decide : 129 < 165) hsz.symm)])]
                refine op_value (v := .int .i64 (i : Int)) (w' := Wx) (by simp [execOp, go_sem, frame_tmp (k130) hL18 (Nat.lt_of_lt_of_eq (by decide : 130 < 165) hsz.symm), (hA Wx hT).1]) ⟨frame_put (k131) (q131), ?_⟩
                simpa [upd] using hT
              · rintro L _ Wx ⟨rfl, hT⟩ hcl hk hd
                have hL17 : L 17 = true := by have h := hd; simp [Region.binds] at h; simp [h]
                rw [if_pos (by simp [Region.wanted, yielded, frame_tmp (k129) hL17 (Nat.lt_of_lt_of_eq (by decide : 129 < 165) hsz.symm)])]
                refine op_value (v := .int .i64 (i : Int)) (w' := Wx) (by simp [execOp, go_sem, frame_tout (n1) u1]) ⟨frame_put (k132) (q132), ?_⟩
                simpa [upd] using hT
              · rintro L _ Wx ⟨rfl, hT⟩ hcl hk hd
                have hL17 : L 17 = true := by have h := hd; simp [Region.binds] at h; simp [h]
                have hL19 : L 19 = true := by have h := hd; simp [Region.binds] at h; simp [h]
                have hL20 : L 20 = true := by have h := hd; simp [Region.binds] at h; simp [h]
                rw [if_pos (by simp [Region.wanted, yielded, frame_tmp (k129) hL17 (Nat.lt_of_lt_of_eq (by decide : 129 < 165) hsz.symm)])]
                refine op_value (v := .bool true) (w' := Wx) (by simp [execOp, go_sem, frame_tmp (k131) hL19 (Nat.lt_of_lt_of_eq (by decide : 131 < 165) hsz.symm), frame_tmp (k132) hL20 (Nat.lt_of_lt_of_eq (by decide : 132 < 165) hsz.symm)]) ⟨frame_put (k133) (q133), ?_⟩
                simpa [upd] using hT
              · rintro L _ Wx ⟨rfl, hT⟩ hcl hk hd
                have hL17 : L 17 = true := by have h := hd; simp [Region.binds] at h; simp [h]
                have hL21 : L 21 = true := by have h := hd; simp [Region.binds] at h; simp [h]
                rw [if_pos (by simp [Region.wanted])]
                refine op_value (v := .bool true) (w' := Wx) (by simp [execOp, go_sem, frame_tmp (k129) hL17 (Nat.lt_of_lt_of_eq (by decide : 129 < 165) hsz.symm), frame_tmp (k133) hL21 (Nat.lt_of_lt_of_eq (by decide : 133 < 165) hsz.symm)]) ⟨frame_put (k134) (q134), ?_⟩
                simpa [upd] using hT
              · rintro L _ Wx ⟨rfl, hT⟩ hcl hk hd
                have hL22 : L 22 = true := by have h := hd; simp [Region.binds] at h; simp [h]
                rw [if_pos (by simp [Region.wanted])]
                refine op_value (v := .bool true) (w' := Wx) (by simp [execOp, go_sem, frame_tmp (k134) hL22 (Nat.lt_of_lt_of_eq (by decide : 134 < 165) hsz.symm)]) ⟨frame_put (k135) (q135), ?_⟩
                simpa [upd] using hT
              · rintro L _ Wx ⟨rfl, hT⟩ hcl hk hd
                have hL23 : L 23 = true := by have h := hd; simp [Region.binds] at h; simp [h]
                rw [if_pos (by simp [Region.wanted, yielded, frame_tmp (k135) hL23 (Nat.lt_of_lt_of_eq (by decide : 135 < 165) hsz.symm)])]
                refine op_value (v := .pointer (some ⟨w8.heap.size, 1, none⟩)) (w' := Wx) (by simp [execOp, go_sem, frame_tout (n16) u16]) ⟨frame_put (k136) (q136), ?_⟩
                simpa [upd] using hT
              · rintro L _ Wx ⟨rfl, hT⟩ hcl hk hd
                have hL23 : L 23 = true := by have h := hd; simp [Region.binds] at h; simp [h]
                have hL24 : L 24 = true := by have h := hd; simp [Region.binds] at h; simp [h]
                rw [if_pos (by simp [Region.wanted, yielded, frame_tmp (k135) hL23 (Nat.lt_of_lt_of_eq (by decide : 135 < 165) hsz.symm)])]
                refine op_value (v := .agg #[.int .i64 x.n.s, .int .i64 x.n.i, .int .i64 x.n.t]) (w' := Wx) (by simp [execOp, go_sem, frame_tmp (k136) hL24 (Nat.lt_of_lt_of_eq (by decide : 136 < 165) hsz.symm), (hA Wx hT).2.1, (hA Wx hT).2.2.1, (hA Wx hT).2.2.2.1]) ⟨frame_put (k137) (q137), ?_⟩
                simpa [upd] using hT
              · rintro L _ Wx ⟨rfl, hT⟩ hcl hk hd
                have hL23 : L 23 = true := by have h := hd; simp [Region.binds] at h; simp [h]
                rw [if_pos (by simp [Region.wanted, yielded, frame_tmp (k135) hL23 (Nat.lt_of_lt_of_eq (by decide : 135 < 165) hsz.symm)])]
                refine op_value (v := .pointer (some ⟨w2.heap.size, 1, none⟩)) (w' := Wx) (by simp [execOp, go_sem, frame_tout (n9) u9]) ⟨frame_put (k138) (q138), ?_⟩
                simpa [upd] using hT
              · rintro L _ Wx ⟨rfl, hT⟩ hcl hk hd
                have hL23 : L 23 = true := by have h := hd; simp [Region.binds] at h; simp [h]
                have hL26 : L 26 = true := by have h := hd; simp [Region.binds] at h; simp [h]
                rw [if_pos (by simp [Region.wanted, yielded, frame_tmp (k135) hL23 (Nat.lt_of_lt_of_eq (by decide : 135 < 165) hsz.symm)])]
                refine op_value (v := .agg #[.int .i64 x.n.s, .int .i64 x.n.i, .int .i64 x.n.t]) (w' := Wx) (by simp [execOp, go_sem, frame_tmp (k138) hL26 (Nat.lt_of_lt_of_eq (by decide : 138 < 165) hsz.symm), (hX Wx hT).1, (hX Wx hT).2.1, (hX Wx hT).2.2.1]) ⟨frame_put (k139) (q139), ?_⟩
                simpa [upd] using hT
              · rintro L _ Wx ⟨rfl, hT⟩ hcl hk hd
                have hL23 : L 23 = true := by have h := hd; simp [Region.binds] at h; simp [h]
                have hL25 : L 25 = true := by have h := hd; simp [Region.binds] at h; simp [h]
                have hL27 : L 27 = true := by have h := hd; simp [Region.binds] at h; simp [h]
                rw [if_pos (by simp [Region.wanted, yielded, frame_tmp (k135) hL23 (Nat.lt_of_lt_of_eq (by decide : 135 < 165) hsz.symm)])]
                refine op_value (v := .bool true) (w' := Wx) (by simp [execOp, go_sem, frame_tmp (k137) hL25 (Nat.lt_of_lt_of_eq (by decide : 137 < 165) hsz.symm), frame_tmp (k139) hL27 (Nat.lt_of_lt_of_eq (by decide : 139 < 165) hsz.symm), eql_nm]) ⟨frame_put (k140) (q140), ?_⟩
                simpa [upd] using hT
              · rintro L _ Wx ⟨rfl, hT⟩ hcl hk hd
                have hL23 : L 23 = true := by have h := hd; simp [Region.binds] at h; simp [h]
                have hL28 : L 28 = true := by have h := hd; simp [Region.binds] at h; simp [h]
                rw [if_pos (by simp [Region.wanted])]
                refine op_value (v := .bool true) (w' := Wx) (by simp [execOp, go_sem, frame_tmp (k135) hL23 (Nat.lt_of_lt_of_eq (by decide : 135 < 165) hsz.symm), frame_tmp (k140) hL28 (Nat.lt_of_lt_of_eq (by decide : 140 < 165) hsz.symm)]) ⟨frame_put (k141) (q141), ?_⟩
                simpa [upd] using hT
              · rintro L _ Wx ⟨rfl, hT⟩ hcl hk hd
                have hL29 : L 29 = true := by have h := hd; simp [Region.binds] at h; simp [h]
                rw [if_pos (by simp [Region.wanted])]
                refine op_value (v := .bool true) (w' := Wx) (by simp [execOp, go_sem, frame_tmp (k141) hL29 (Nat.lt_of_lt_of_eq (by decide : 141 < 165) hsz.symm)]) ⟨frame_put (k142) (q142), ?_⟩
                simpa [upd] using hT
              · rintro L _ Wx ⟨rfl, hT⟩ hcl hk hd
                have hL30 : L 30 = true := by have h := hd; simp [Region.binds] at h; simp [h]
                rw [if_pos (by simp [Region.wanted, yielded, frame_tmp (k142) hL30 (Nat.lt_of_lt_of_eq (by decide : 142 < 165) hsz.symm)])]
                refine op_value (v := .pointer (some ⟨w8.heap.size, 4, none⟩)) (w' := Wx) (by simp [execOp, go_sem, frame_tout (n16) u16]) ⟨frame_put (k143) (q143), ?_⟩
                simpa [upd] using hT
              · rintro L _ Wx ⟨rfl, hT⟩ hcl hk hd
                have hL30 : L 30 = true := by have h := hd; simp [Region.binds] at h; simp [h]
                have hL31 : L 31 = true := by have h := hd; simp [Region.binds] at h; simp [h]
                rw [if_pos (by simp [Region.wanted, yielded, frame_tmp (k142) hL30 (Nat.lt_of_lt_of_eq (by decide : 142 < 165) hsz.symm)])]
                refine op_value (v := .int .i64 x.b) (w' := Wx) (by simp [execOp, go_sem, frame_tmp (k143) hL31 (Nat.lt_of_lt_of_eq (by decide : 143 < 165) hsz.symm), (hA Wx hT).2.2.2.2]) ⟨frame_put (k144) (q144), ?_⟩
                simpa [upd] using hT
              · rintro L _ Wx ⟨rfl, hT⟩ hcl hk hd
                have hL30 : L 30 = true := by have h := hd; simp [Region.binds] at h; simp [h]
                rw [if_pos (by simp [Region.wanted, yielded, frame_tmp (k142) hL30 (Nat.lt_of_lt_of_eq (by decide : 142 < 165) hsz.symm)])]
                refine op_value (v := .pointer (some ⟨w2.heap.size, 4, none⟩)) (w' := Wx) (by simp [execOp, go_sem, frame_tout (n9) u9]) ⟨frame_put (k145) (q145), ?_⟩
                simpa [upd] using hT
              · rintro L _ Wx ⟨rfl, hT⟩ hcl hk hd
                have hL30 : L 30 = true := by have h := hd; simp [Region.binds] at h; simp [h]
                have hL33 : L 33 = true := by have h := hd; simp [Region.binds] at h; simp [h]
                rw [if_pos (by simp [Region.wanted, yielded, frame_tmp (k142) hL30 (Nat.lt_of_lt_of_eq (by decide : 142 < 165) hsz.symm)])]
                refine op_value (v := .int .i64 x.b) (w' := Wx) (by simp [execOp, go_sem, frame_tmp (k145) hL33 (Nat.lt_of_lt_of_eq (by decide : 145 < 165) hsz.symm), (hX Wx hT).2.2.2.1]) ⟨frame_put (k146) (q146), ?_⟩
                simpa [upd] using hT
              · rintro L _ Wx ⟨rfl, hT⟩ hcl hk hd
                have hL30 : L 30 = true := by have h := hd; simp [Region.binds] at h; simp [h]
                have hL32 : L 32 = true := by have h := hd; simp [Region.binds] at h; simp [h]
                have hL34 : L 34 = true := by have h := hd; simp [Region.binds] at h; simp [h]
                rw [if_pos (by simp [Region.wanted, yielded, frame_tmp (k142) hL30 (Nat.lt_of_lt_of_eq (by decide : 142 < 165) hsz.symm)])]
                refine op_value (v := .bool true) (w' := Wx) (by simp [execOp, go_sem, frame_tmp (k144) hL32 (Nat.lt_of_lt_of_eq (by decide : 144 < 165) hsz.symm), frame_tmp (k146) hL34 (Nat.lt_of_lt_of_eq (by decide : 146 < 165) hsz.symm)]) ⟨frame_put (k147) (q147), ?_⟩
                simpa [upd] using hT
              · rintro L _ Wx ⟨rfl, hT⟩ hcl hk hd
                have hL30 : L 30 = true := by have h := hd; simp [Region.binds] at h; simp [h]
                have hL35 : L 35 = true := by have h := hd; simp [Region.binds] at h; simp [h]
                rw [if_pos (by simp [Region.wanted])]
                refine op_value (v := .bool true) (w' := Wx) (by simp [execOp, go_sem, frame_tmp (k142) hL30 (Nat.lt_of_lt_of_eq (by decide : 142 < 165) hsz.symm), frame_tmp (k147) hL35 (Nat.lt_of_lt_of_eq (by decide : 147 < 165) hsz.symm)]) ⟨frame_put (k148) (q148), ?_⟩
                simpa [upd] using hT
              · rintro L _ Wx ⟨rfl, hT⟩ hcl hk hd
                have hL36 : L 36 = true := by have h := hd; simp [Region.binds] at h; simp [h]
                rw [if_pos (by simp [Region.wanted])]
                refine op_value (v := .bool true) (w' := Wx) (by simp [execOp, go_sem, frame_tmp (k148) hL36 (Nat.lt_of_lt_of_eq (by decide : 148 < 165) hsz.symm)]) ⟨frame_put (k149) (q149), ?_⟩
                simpa [upd] using hT
              · rintro L _ Wx ⟨rfl, hT⟩ hcl hk hd
                have hL37 : L 37 = true := by have h := hd; simp [Region.binds] at h; simp [h]
                rw [if_pos (by simp [Region.wanted, yielded, frame_tmp (k149) hL37 (Nat.lt_of_lt_of_eq (by decide : 149 < 165) hsz.symm)])]
                refine op_value (v := .pointer (some ⟨w8.heap.size, 5, none⟩)) (w' := Wx) (by simp [execOp, go_sem, frame_tout (n16) u16]) ⟨frame_put (k150) (q150), ?_⟩
                simpa [upd] using hT
              · rintro L _ Wx ⟨rfl, hT⟩ hcl hk hd
                have hL37 : L 37 = true := by have h := hd; simp [Region.binds] at h; simp [h]
                have hL38 : L 38 = true := by have h := hd; simp [Region.binds] at h; simp [h]
                rw [if_pos (by simp [Region.wanted, yielded, frame_tmp (k149) hL37 (Nat.lt_of_lt_of_eq (by decide : 149 < 165) hsz.symm)])]
                refine op_value (v := .agg #[.int .u8 x.v.a, .int .u8 x.v.b, .int .u8 x.v.c, .int .u8 x.v.d, .int .u8 x.v.e, .int .u8 x.v.f, .int .u8 x.v.g, .int .u8 x.v.h]) (w' := Wx) (by simp [execOp, go_sem, frame_tmp (k150) hL38 (Nat.lt_of_lt_of_eq (by decide : 150 < 165) hsz.symm), (hP Wx hT).1, (hP Wx hT).2.1, (hP Wx hT).2.2.1, (hP Wx hT).2.2.2.1, (hP Wx hT).2.2.2.2.1, (hP Wx hT).2.2.2.2.2.1, (hP Wx hT).2.2.2.2.2.2.1, (hP Wx hT).2.2.2.2.2.2.2.1]) ⟨frame_put (k151) (q151), ?_⟩
                simpa [upd] using hT
              · rintro L _ Wx ⟨rfl, hT⟩ hcl hk hd
                have hL37 : L 37 = true := by have h := hd; simp [Region.binds] at h; simp [h]
                rw [if_pos (by simp [Region.wanted, yielded, frame_tmp (k149) hL37 (Nat.lt_of_lt_of_eq (by decide : 149 < 165) hsz.symm)])]
                refine op_value (v := .pointer (some ⟨w2.heap.size, 5, none⟩)) (w' := Wx) (by simp [execOp, go_sem, frame_tout (n9) u9]) ⟨frame_put (k152) (q152), ?_⟩
                simpa [upd] using hT
              · rintro L _ Wx ⟨rfl, hT⟩ hcl hk hd
                have hL37 : L 37 = true := by have h := hd; simp [Region.binds] at h; simp [h]
                have hL40 : L 40 = true := by have h := hd; simp [Region.binds] at h; simp [h]
                rw [if_pos (by simp [Region.wanted, yielded, frame_tmp (k149) hL37 (Nat.lt_of_lt_of_eq (by decide : 149 < 165) hsz.symm)])]
                refine op_value (v := .agg #[.int .u8 x.v.a, .int .u8 x.v.b, .int .u8 x.v.c, .int .u8 x.v.d, .int .u8 x.v.e, .int .u8 x.v.f, .int .u8 x.v.g, .int .u8 x.v.h]) (w' := Wx) (by simp [execOp, go_sem, frame_tmp (k152) hL40 (Nat.lt_of_lt_of_eq (by decide : 152 < 165) hsz.symm), (hX Wx hT).2.2.2.2.1, (hX Wx hT).2.2.2.2.2.1, (hX Wx hT).2.2.2.2.2.2.1, (hX Wx hT).2.2.2.2.2.2.2.1, (hX Wx hT).2.2.2.2.2.2.2.2.1, (hX Wx hT).2.2.2.2.2.2.2.2.2.1, (hX Wx hT).2.2.2.2.2.2.2.2.2.2.1, (hX Wx hT).2.2.2.2.2.2.2.2.2.2.2]) ⟨frame_put (k153) (q153), ?_⟩
                simpa [upd] using hT
              · rintro L _ Wx ⟨rfl, hT⟩ hcl hk hd
                have hL37 : L 37 = true := by have h := hd; simp [Region.binds] at h; simp [h]
                have hL39 : L 39 = true := by have h := hd; simp [Region.binds] at h; simp [h]
                have hL41 : L 41 = true := by have h := hd; simp [Region.binds] at h; simp [h]
                rw [if_pos (by simp [Region.wanted, yielded, frame_tmp (k149) hL37 (Nat.lt_of_lt_of_eq (by decide : 149 < 165) hsz.symm)])]
                refine op_value (v := .bool true) (w' := Wx) (by simp [execOp, go_sem, frame_tmp (k151) hL39 (Nat.lt_of_lt_of_eq (by decide : 151 < 165) hsz.symm), frame_tmp (k153) hL41 (Nat.lt_of_lt_of_eq (by decide : 153 < 165) hsz.symm), eql_v8]) ⟨frame_put (k154) (q154), ?_⟩
                simpa [upd] using hT
              · rintro L _ Wx ⟨rfl, hT⟩ hcl hk hd
                have hL37 : L 37 = true := by have h := hd; simp [Region.binds] at h; simp [h]
                have hL42 : L 42 = true := by have h := hd; simp [Region.binds] at h; simp [h]
                rw [if_pos (by simp [Region.wanted])]
                refine op_value (v := .bool true) (w' := Wx) (by simp [execOp, go_sem, frame_tmp (k149) hL37 (Nat.lt_of_lt_of_eq (by decide : 149 < 165) hsz.symm), frame_tmp (k154) hL42 (Nat.lt_of_lt_of_eq (by decide : 154 < 165) hsz.symm)]) ⟨frame_put (k155) (q155), ?_⟩
                simpa [upd] using hT
              · rintro L _ Wx ⟨rfl, hT⟩ hcl hk hd
                have hL43 : L 43 = true := by have h := hd; simp [Region.binds] at h; simp [h]
                rw [if_pos (by simp [Region.wanted])]
                refine op_value (v := .bool true) (w' := Wx) (by simp [execOp, go_sem, frame_tmp (k155) hL43 (Nat.lt_of_lt_of_eq (by decide : 155 < 165) hsz.symm)]) ⟨frame_put (k156) (q156), ?_⟩
                simpa [upd] using hT
              · rintro L _ Wx ⟨rfl, hT⟩ hcl hk hd
                have hL44 : L 44 = true := by have h := hd; simp [Region.binds] at h; simp [h]
                rw [if_pos (by simp [Region.wanted, yielded, frame_tmp (k156) hL44 (Nat.lt_of_lt_of_eq (by decide : 156 < 165) hsz.symm)])]
                refine op_value (v := .pointer (some ⟨w8.heap.size, 13, none⟩)) (w' := Wx) (by simp [execOp, go_sem, frame_tout (n16) u16]) ⟨frame_put (k157) (q157), ?_⟩
                simpa [upd] using hT
              · rintro L _ Wx ⟨rfl, hT⟩ hcl hk hd
                have hL44 : L 44 = true := by have h := hd; simp [Region.binds] at h; simp [h]
                have hL45 : L 45 = true := by have h := hd; simp [Region.binds] at h; simp [h]
                rw [if_pos (by simp [Region.wanted, yielded, frame_tmp (k156) hL44 (Nat.lt_of_lt_of_eq (by decide : 156 < 165) hsz.symm)])]
                refine op_value (v := .agg #[.int .u8 u.a, .int .u8 u.b, .int .u8 u.c, .int .u8 u.d, .int .u8 u.e, .int .u8 u.f, .int .u8 u.g, .int .u8 u.h]) (w' := Wx) (by simp [execOp, go_sem, frame_tmp (k157) hL45 (Nat.lt_of_lt_of_eq (by decide : 157 < 165) hsz.symm), (hP Wx hT).2.2.2.2.2.2.2.2.1, (hP Wx hT).2.2.2.2.2.2.2.2.2.1, (hP Wx hT).2.2.2.2.2.2.2.2.2.2.1, (hP Wx hT).2.2.2.2.2.2.2.2.2.2.2.1, (hP Wx hT).2.2.2.2.2.2.2.2.2.2.2.2.1, (hP Wx hT).2.2.2.2.2.2.2.2.2.2.2.2.2.1, (hP Wx hT).2.2.2.2.2.2.2.2.2.2.2.2.2.2.1, (hP Wx hT).2.2.2.2.2.2.2.2.2.2.2.2.2.2.2]) ⟨frame_put (k158) (q158), ?_⟩
                simpa [upd] using hT
              · rintro L _ Wx ⟨rfl, hT⟩ hcl hk hd
                have hL44 : L 44 = true := by have h := hd; simp [Region.binds] at h; simp [h]
                rw [if_pos (by simp [Region.wanted, yielded, frame_tmp (k156) hL44 (Nat.lt_of_lt_of_eq (by decide : 156 < 165) hsz.symm)])]
                refine op_value (v := .agg #[.int .u8 u.a, .int .u8 u.b, .int .u8 u.c, .int .u8 u.d, .int .u8 u.e, .int .u8 u.f, .int .u8 u.g, .int .u8 u.h]) (w' := Wx) (by simp [execOp, go_sem, frame_tout (n5) u5, (hU Wx hT).1, (hU Wx hT).2.1, (hU Wx hT).2.2.1, (hU Wx hT).2.2.2.1, (hU Wx hT).2.2.2.2.1, (hU Wx hT).2.2.2.2.2.1, (hU Wx hT).2.2.2.2.2.2.1, (hU Wx hT).2.2.2.2.2.2.2]) ⟨frame_put (k159) (q159), ?_⟩
                simpa [upd] using hT
              · rintro L _ Wx ⟨rfl, hT⟩ hcl hk hd
                have hL44 : L 44 = true := by have h := hd; simp [Region.binds] at h; simp [h]
                have hL46 : L 46 = true := by have h := hd; simp [Region.binds] at h; simp [h]
                have hL47 : L 47 = true := by have h := hd; simp [Region.binds] at h; simp [h]
                rw [if_pos (by simp [Region.wanted, yielded, frame_tmp (k156) hL44 (Nat.lt_of_lt_of_eq (by decide : 156 < 165) hsz.symm)])]
                refine op_value (v := .bool true) (w' := Wx) (by simp [execOp, go_sem, frame_tmp (k158) hL46 (Nat.lt_of_lt_of_eq (by decide : 158 < 165) hsz.symm), frame_tmp (k159) hL47 (Nat.lt_of_lt_of_eq (by decide : 159 < 165) hsz.symm), eql_v8]) ⟨frame_put (k160) (q160), ?_⟩
                simpa [upd] using hT
              · rintro L _ Wx ⟨rfl, hT⟩ hcl hk hd
                have hL44 : L 44 = true := by have h := hd; simp [Region.binds] at h; simp [h]
                have hL48 : L 48 = true := by have h := hd; simp [Region.binds] at h; simp [h]
                rw [if_pos (by simp [Region.wanted])]
                refine op_value (v := .bool true) (w' := Wx) (by simp [execOp, go_sem, frame_tmp (k156) hL44 (Nat.lt_of_lt_of_eq (by decide : 156 < 165) hsz.symm), frame_tmp (k160) hL48 (Nat.lt_of_lt_of_eq (by decide : 160 < 165) hsz.symm)]) ⟨frame_put (k161) (q161), ?_⟩
                simpa [upd] using hT
              · rintro L _ Wx ⟨rfl, hT⟩ hcl hk hd
                have hL49 : L 49 = true := by have h := hd; simp [Region.binds] at h; simp [h]
                rw [if_pos (by simp [Region.wanted])]
                refine op_value (v := .bool true) (w' := Wx) (by simp [execOp, go_sem, frame_tmp (k161) hL49 (Nat.lt_of_lt_of_eq (by decide : 161 < 165) hsz.symm)]) ⟨frame_put (k162) (q162), ?_⟩
                simpa [upd] using hT
              · rintro L _ Wx ⟨rfl, hT⟩ hcl hk hd
                have hL50 : L 50 = true := by have h := hd; simp [Region.binds] at h; simp [h]
                rw [if_pos (by simp [Region.wanted, yielded, frame_tmp (k162) hL50 (Nat.lt_of_lt_of_eq (by decide : 162 < 165) hsz.symm)])]
                refine op_callP (f := 28) (args := #[]) (by simp [go_sem]) (wakes32_any Wx) ?_
                rintro e w' ⟨rfl, hb'⟩
                refine ⟨_, rfl, frame_put (k163) (q163), ?_⟩
                exact hT.trans (hb'.mono hT.size)
              · rintro L _ Wx ⟨rfl, hT⟩ hcl hk hd
                have hL50 : L 50 = true := by have h := hd; simp [Region.binds] at h; simp [h]
                have hL51 : L 51 = true := by have h := hd; simp [Region.binds] at h; simp [h]
                rw [if_pos (by simp [Region.wanted])]
                refine op_value (v := .bool true) (w' := Wx) (by simp [execOp, go_sem, frame_tmp (k162) hL50 (Nat.lt_of_lt_of_eq (by decide : 162 < 165) hsz.symm), frame_tmp (k163) hL51 (Nat.lt_of_lt_of_eq (by decide : 163 < 165) hsz.symm)]) ⟨frame_put (k164) (q164), ?_⟩
                simpa [upd] using hT
              · rintro L _ Wx ⟨rfl, hT⟩ hcl hk hd
                have hL52 : L 52 = true := by have h := hd; simp [Region.binds] at h; simp [h]
                rw [if_pos (by simp [Region.wanted])]
                refine op_value (v := .bool true) (w' := Wx) (by simp [execOp, go_sem, frame_tmp (k164) hL52 (Nat.lt_of_lt_of_eq (by decide : 164 < 165) hsz.symm)]) ⟨frame_put (k6) (q6), ?_⟩
                simpa [upd] using hT
            · rintro L W' hT hall
              simp only [putAll, Act.put, List.setIfInBounds_toArray, List.set_cons_succ, List.set_cons_zero]
              have HB10 : Hid (Below w.heap.size w W') := Lib.hid (HB9.out.trans (hT.mono HB9.out.size))
              clear hT hall hA hX hP hU hL1 hL2
              go_wp2_with fail
              go_ret
              exact ⟨rfl, HB10.out⟩
            -- END S19
  · have e_1 : (x.k != 1) = true := by simp [k1]
    clear k1
    go_wp2_with fail
    refine (wakes32_any _).mono ?_
    rintro e w4 ⟨rfl, b4⟩
    have HB4 := Lib.hid (HB3.out.trans (b4.mono HB3.out.size))
    clear b4
    go_wp2_with fail
    go_ret
    exact ⟨rfl, HB4.out⟩

theorem spoils_any (l : List Sn) (v : Value) (at_ : Int) (u : V8) (w : World) (hl : l.length ≤ 100000) (hv : Sns w.heap.size w v l) : Calls Try.prog 10 #[v, .int .i64 at_, .agg (v8Arr u)] w fun e w' => e = .returned (.bool true) ∧ Below w.heap.size w w' := by
  cases hm : mayP l with
  | false => exact spoils_err l v at_ u w hl hv hm
  | true =>
    by_cases hb : 300 < l.length ∨ l.length = 0
    · exact spoils_edge l v at_ u w hl hv hm hb
    · exact spoils_go l v at_ u w hv hm (by omega) (by omega)

end Go.Proofs.Ytgdmgeihgkbjaaa
