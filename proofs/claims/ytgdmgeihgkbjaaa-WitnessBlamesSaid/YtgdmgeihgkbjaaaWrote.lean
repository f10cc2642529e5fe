/- 'wrote' and 'wroteBy' of chapter 32 -/
import Derived.Test.YtgdmgeihgkbjaaaWake32
namespace Go.Proofs.Ytgdmgeihgkbjaaa
open Go.RowKit Go.Shelf

def wroteP (n : Nm) (b : Int) (u : V8) (x : Sn) : Bool := (x.k == 2) && decide (x.n = n) && (x.b == b) && decide (x.v = u)
def wroteByP (b : Int) (u : V8) (x : Sn) : Bool := (x.k == 2) && (x.b == b) && decide (x.v = u)

theorem any_drop {p : Sn → Bool} {l : List Sn} {q : Nat} {x : Sn} (hx : l[q]? = some x) : (l.drop q).any p = (p x || (l.drop (q + 1)).any p) := by
  rw [drop_cons hx]; rfl

set_option maxRecDepth 100000 in
set_option maxHeartbeats 4000000 in
theorem wrote_any (l : List Sn) (v : Value) (n : Nm) (b : Int) (u : V8) (w : World) (hl : l.length ≤ 100000) (hv : Sns w.heap.size w v l) :
    Calls Try.prog 30 #[v, .agg #[.int .i64 n.s, .int .i64 n.i, .int .i64 n.t], .int .i64 b, .agg #[.int .u8 u.a, .int .u8 u.b, .int .u8 u.c, .int .u8 u.d, .int .u8 u.e, .int .u8 u.f, .int .u8 u.g, .int .u8 u.h]] w fun e w' => e = .returned (.bool (l.any (wroteP n b u))) ∧ Below w.heap.size w w' := by
  obtain ⟨a, cap, rfl, hn, ha⟩ := hv
  obtain ⟨w2, hw2⟩ : ∃ w2, (w.alloc (.cells #[.int .i64 n.s, .int .i64 n.i, .int .i64 n.t] 34)).alloc (.cells #[.int .u8 u.a, .int .u8 u.b, .int .u8 u.c, .int .u8 u.d, .int .u8 u.e, .int .u8 u.f, .int .u8 u.g, .int .u8 u.h] 23) = w2 := ⟨_, rfl⟩
  have hb2 : Below w.heap.size w w2 := by rw [← hw2]; exact ((Below.refl _ _).alloc (Nat.le_refl _) _).alloc (by simp) _
  have hbn : w2.heap[w.heap.size]? = some (.cells #[.int .i64 n.s, .int .i64 n.i, .int .i64 n.t] 34 (0, 0)) := by rw [← hw2]; exact heap_alloc2_old w _ _
  have hbu : w2.heap[w.heap.size + 1]? = some (.cells #[.int .u8 u.a, .int .u8 u.b, .int .u8 u.c, .int .u8 u.d, .int .u8 u.e, .int .u8 u.f, .int .u8 u.g, .int .u8 u.h] 23 (0, 0)) := by rw [← hw2]; exact heap_alloc2_new w _ _
  have HBN := Lib.hid hbn
  have HBU := Lib.hid hbu
  have HW2 := Lib.hid hw2
  have HB2 := Lib.hid hb2
  have HN := Lib.hid hn
  have HA := Lib.hid ha
  clear hw2 hb2 hn ha hbn hbu
  go_enter Try.func30, Try.ntmps30
  go_wp2_with fail
  rw [HW2.out]
  go_loopw [9] (fun io wr => ∃ q : Nat, q ≤ l.length ∧ io = .int .i64 q ∧ Below w2.heap.size w2 wr ∧ l.any (wroteP n b u) = (l.drop q).any (wroteP n b u)) (fun io _ => l.length - (intOf io).toNat)
  case atStart => exact ⟨0, Nat.zero_le _, rfl, Below.refl _ _, rfl⟩
  case round =>
    obtain ⟨q, hq, rfl, hB, hA⟩ := hrel
    have HB := Lib.hid hB
    have HAN := Lib.hid hA
    clear hB hA
    by_cases hlt : q < l.length
    · obtain ⟨x, hx⟩ : ∃ x, l[q]? = some x := ⟨_, List.getElem?_eq_getElem hlt⟩
      obtain ⟨lb, off, rfl, hb, hr⟩ := rows_some HN.out HA.out hlt
      have hwb : Below w.heap.size w wr := HB2.out.trans (HB.out.mono HB2.out.size)
      obtain ⟨c0, c1, c2, c3, c4, c5, c6, c7, c8, c9, c10, c11, c12, c13⟩ := (hr.below hb hwb).sn hx
      have hst := any_drop (p := wroteP n b u) hx
      have e0 : wr.cell? ⟨w.heap.size, 0, none⟩ = some (.int .i64 n.s) := by rw [cell_of_row wr _ _ _ 34 (0, 0) ((HB.out.block _ (lt_of_heap HBN.out)).trans HBN.out)]; rfl
      have e1 : wr.cell? ⟨w.heap.size, 1, none⟩ = some (.int .i64 n.i) := by rw [cell_of_row wr _ _ _ 34 (0, 0) ((HB.out.block _ (lt_of_heap HBN.out)).trans HBN.out)]; rfl
      have e2 : wr.cell? ⟨w.heap.size, 2, none⟩ = some (.int .i64 n.t) := by rw [cell_of_row wr _ _ _ 34 (0, 0) ((HB.out.block _ (lt_of_heap HBN.out)).trans HBN.out)]; rfl
      have e3 : wr.cell? ⟨w.heap.size + 1, 0, none⟩ = some (.int .u8 u.a) := by rw [cell_of_row wr _ _ _ 23 (0, 0) ((HB.out.block _ (lt_of_heap HBU.out)).trans HBU.out)]; rfl
      have e4 : wr.cell? ⟨w.heap.size + 1, 1, none⟩ = some (.int .u8 u.b) := by rw [cell_of_row wr _ _ _ 23 (0, 0) ((HB.out.block _ (lt_of_heap HBU.out)).trans HBU.out)]; rfl
      have e5 : wr.cell? ⟨w.heap.size + 1, 2, none⟩ = some (.int .u8 u.c) := by rw [cell_of_row wr _ _ _ 23 (0, 0) ((HB.out.block _ (lt_of_heap HBU.out)).trans HBU.out)]; rfl
      have e6 : wr.cell? ⟨w.heap.size + 1, 3, none⟩ = some (.int .u8 u.d) := by rw [cell_of_row wr _ _ _ 23 (0, 0) ((HB.out.block _ (lt_of_heap HBU.out)).trans HBU.out)]; rfl
      have e7 : wr.cell? ⟨w.heap.size + 1, 4, none⟩ = some (.int .u8 u.e) := by rw [cell_of_row wr _ _ _ 23 (0, 0) ((HB.out.block _ (lt_of_heap HBU.out)).trans HBU.out)]; rfl
      have e8 : wr.cell? ⟨w.heap.size + 1, 5, none⟩ = some (.int .u8 u.f) := by rw [cell_of_row wr _ _ _ 23 (0, 0) ((HB.out.block _ (lt_of_heap HBU.out)).trans HBU.out)]; rfl
      have e9 : wr.cell? ⟨w.heap.size + 1, 6, none⟩ = some (.int .u8 u.g) := by rw [cell_of_row wr _ _ _ 23 (0, 0) ((HB.out.block _ (lt_of_heap HBU.out)).trans HBU.out)]; rfl
      have e10 : wr.cell? ⟨w.heap.size + 1, 7, none⟩ = some (.int .u8 u.h) := by rw [cell_of_row wr _ _ _ 23 (0, 0) ((HB.out.block _ (lt_of_heap HBU.out)).trans HBU.out)]; rfl
      have hen := fun w => eql_nm x.n n w
      have hev := fun w => eql_v8 x.v u w
      have HLT := Lib.hid hlt
      have HST := Lib.hid hst
      have HDR : Hid (∀ m, Below w2.heap.size w2 (wr.drewN m)) := fun m => HB.out.trans ⟨rfl, rfl, rfl, Nat.le_refl _, fun _ _ => rfl⟩
      clear hr hx hwb hst
      by_cases h0 : x.k = 2
      · have e_0 : (x.k == 2) = true := by simp [h0]
        by_cases h1 : x.n = n
        · have e_1 : decide (x.n = n) = true := by simp [h1]
          by_cases h2 : x.b = b
          · have e_2 : (x.b == b) = true := by simp [h2]
            by_cases h3 : x.v = u
            · have e_3 : decide (x.v = u) = true := by simp [h3]
              have HNX : Hid (l.any (wroteP n b u) = true) := Lib.hid (by rw [HAN.out, HST.out]; simp [wroteP, h0, h1, h2, h3])
              clear h0  h1  h2  h3
              go_wp2_with fail
              go_quiet (fail)
              go_wp2_with fail
              go_ret
              exact ⟨by rw [HNX.out]; rfl, HB2.out.trans ((HDR.out _).mono HB2.out.size)⟩
            · have e_3 : decide (x.v = u) = false := by simp [h3]
              have HNX : Hid (l.any (wroteP n b u) = (l.drop (q + 1)).any (wroteP n b u)) := Lib.hid (by rw [HAN.out, HST.out]; simp [wroteP, h0, h1, h2, h3])
              clear h0  h1  h2  h3
              go_wp2_with fail
              go_quiet (fail)
              go_wp2_with fail
              go_roundw
              case rel => exact ⟨q + 1, by have := HLT.out; omega, by go_num, HDR.out _, HNX.out⟩
              case measure => have := HLT.out; simp [intOf]; omega
          · have e_2 : (x.b == b) = false := by simp [h2]
            have HNX : Hid (l.any (wroteP n b u) = (l.drop (q + 1)).any (wroteP n b u)) := Lib.hid (by rw [HAN.out, HST.out]; simp [wroteP, h0, h1, h2])
            clear h0  h1  h2
            go_wp2_with fail
            go_quiet (fail)
            go_wp2_with fail
            go_roundw
            case rel => exact ⟨q + 1, by have := HLT.out; omega, by go_num, HDR.out _, HNX.out⟩
            case measure => have := HLT.out; simp [intOf]; omega
        · have e_1 : decide (x.n = n) = false := by simp [h1]
          have HNX : Hid (l.any (wroteP n b u) = (l.drop (q + 1)).any (wroteP n b u)) := Lib.hid (by rw [HAN.out, HST.out]; simp [wroteP, h0, h1])
          clear h0  h1
          go_wp2_with fail
          go_quiet (fail)
          go_wp2_with fail
          go_roundw
          case rel => exact ⟨q + 1, by have := HLT.out; omega, by go_num, HDR.out _, HNX.out⟩
          case measure => have := HLT.out; simp [intOf]; omega
      · have e_0 : (x.k == 2) = false := by simp [h0]
        have HNX : Hid (l.any (wroteP n b u) = (l.drop (q + 1)).any (wroteP n b u)) := Lib.hid (by rw [HAN.out, HST.out]; simp [wroteP, h0])
        clear h0
        go_wp2_with fail
        go_quiet (fail)
        go_wp2_with fail
        go_roundw
        case rel => exact ⟨q + 1, by have := HLT.out; omega, by go_num, HDR.out _, HNX.out⟩
        case measure => have := HLT.out; simp [intOf]; omega
    · obtain rfl : q = l.length := by omega
      have HF : Hid (l.any (wroteP n b u) = false) := Lib.hid (by rw [HAN.out, List.drop_length]; rfl)
      go_wp2_with fail
      go_ret
      exact ⟨by rw [HF.out]; rfl, HB2.out.trans (HB.out.mono HB2.out.size)⟩

set_option maxRecDepth 100000 in
set_option maxHeartbeats 4000000 in
theorem wroteBy_any (l : List Sn) (v : Value) (b : Int) (u : V8) (w : World) (hl : l.length ≤ 100000) (hv : Sns w.heap.size w v l) :
    Calls Try.prog 31 #[v, .int .i64 b, .agg #[.int .u8 u.a, .int .u8 u.b, .int .u8 u.c, .int .u8 u.d, .int .u8 u.e, .int .u8 u.f, .int .u8 u.g, .int .u8 u.h]] w fun e w' => e = .returned (.bool (l.any (wroteByP b u))) ∧ Below w.heap.size w w' := by
  obtain ⟨a, cap, rfl, hn, ha⟩ := hv
  obtain ⟨w2, hw2⟩ : ∃ w2, w.alloc (.cells #[.int .u8 u.a, .int .u8 u.b, .int .u8 u.c, .int .u8 u.d, .int .u8 u.e, .int .u8 u.f, .int .u8 u.g, .int .u8 u.h] 23) = w2 := ⟨_, rfl⟩
  have hb2 : Below w.heap.size w w2 := by rw [← hw2]; exact below_alloc1 _
  have hbu : w2.heap[w.heap.size]? = some (.cells #[.int .u8 u.a, .int .u8 u.b, .int .u8 u.c, .int .u8 u.d, .int .u8 u.e, .int .u8 u.f, .int .u8 u.g, .int .u8 u.h] 23 (0, 0)) := by rw [← hw2]; exact heap_alloc_new w _
  have HBU := Lib.hid hbu
  have HW2 := Lib.hid hw2
  have HB2 := Lib.hid hb2
  have HN := Lib.hid hn
  have HA := Lib.hid ha
  clear hw2 hb2 hn ha hbu
  go_enter Try.func31, Try.ntmps31
  go_wp2_with fail
  rw [HW2.out]
  go_loopw [7] (fun io wr => ∃ q : Nat, q ≤ l.length ∧ io = .int .i64 q ∧ Below w2.heap.size w2 wr ∧ l.any (wroteByP b u) = (l.drop q).any (wroteByP b u)) (fun io _ => l.length - (intOf io).toNat)
  case atStart => exact ⟨0, Nat.zero_le _, rfl, Below.refl _ _, rfl⟩
  case round =>
    obtain ⟨q, hq, rfl, hB, hA⟩ := hrel
    have HB := Lib.hid hB
    have HAN := Lib.hid hA
    clear hB hA
    by_cases hlt : q < l.length
    · obtain ⟨x, hx⟩ : ∃ x, l[q]? = some x := ⟨_, List.getElem?_eq_getElem hlt⟩
      obtain ⟨lb, off, rfl, hb, hr⟩ := rows_some HN.out HA.out hlt
      have hwb : Below w.heap.size w wr := HB2.out.trans (HB.out.mono HB2.out.size)
      obtain ⟨c0, c1, c2, c3, c4, c5, c6, c7, c8, c9, c10, c11, c12, c13⟩ := (hr.below hb hwb).sn hx
      have hst := any_drop (p := wroteByP b u) hx
      have e0 : wr.cell? ⟨w.heap.size, 0, none⟩ = some (.int .u8 u.a) := by rw [cell_of_row wr _ _ _ 23 (0, 0) ((HB.out.block _ (lt_of_heap HBU.out)).trans HBU.out)]; rfl
      have e1 : wr.cell? ⟨w.heap.size, 1, none⟩ = some (.int .u8 u.b) := by rw [cell_of_row wr _ _ _ 23 (0, 0) ((HB.out.block _ (lt_of_heap HBU.out)).trans HBU.out)]; rfl
      have e2 : wr.cell? ⟨w.heap.size, 2, none⟩ = some (.int .u8 u.c) := by rw [cell_of_row wr _ _ _ 23 (0, 0) ((HB.out.block _ (lt_of_heap HBU.out)).trans HBU.out)]; rfl
      have e3 : wr.cell? ⟨w.heap.size, 3, none⟩ = some (.int .u8 u.d) := by rw [cell_of_row wr _ _ _ 23 (0, 0) ((HB.out.block _ (lt_of_heap HBU.out)).trans HBU.out)]; rfl
      have e4 : wr.cell? ⟨w.heap.size, 4, none⟩ = some (.int .u8 u.e) := by rw [cell_of_row wr _ _ _ 23 (0, 0) ((HB.out.block _ (lt_of_heap HBU.out)).trans HBU.out)]; rfl
      have e5 : wr.cell? ⟨w.heap.size, 5, none⟩ = some (.int .u8 u.f) := by rw [cell_of_row wr _ _ _ 23 (0, 0) ((HB.out.block _ (lt_of_heap HBU.out)).trans HBU.out)]; rfl
      have e6 : wr.cell? ⟨w.heap.size, 6, none⟩ = some (.int .u8 u.g) := by rw [cell_of_row wr _ _ _ 23 (0, 0) ((HB.out.block _ (lt_of_heap HBU.out)).trans HBU.out)]; rfl
      have e7 : wr.cell? ⟨w.heap.size, 7, none⟩ = some (.int .u8 u.h) := by rw [cell_of_row wr _ _ _ 23 (0, 0) ((HB.out.block _ (lt_of_heap HBU.out)).trans HBU.out)]; rfl
      have hev := fun w => eql_v8 x.v u w
      have HLT := Lib.hid hlt
      have HST := Lib.hid hst
      have HDR : Hid (∀ m, Below w2.heap.size w2 (wr.drewN m)) := fun m => HB.out.trans ⟨rfl, rfl, rfl, Nat.le_refl _, fun _ _ => rfl⟩
      clear hr hx hwb hst
      by_cases h0 : x.k = 2
      · have e_0 : (x.k == 2) = true := by simp [h0]
        by_cases h1 : x.b = b
        · have e_1 : (x.b == b) = true := by simp [h1]
          by_cases h2 : x.v = u
          · have e_2 : decide (x.v = u) = true := by simp [h2]
            have HNX : Hid (l.any (wroteByP b u) = true) := Lib.hid (by rw [HAN.out, HST.out]; simp [wroteByP, h0, h1, h2])
            clear h0  h1  h2
            go_wp2_with fail
            go_quiet (fail)
            go_wp2_with fail
            go_ret
            exact ⟨by rw [HNX.out]; rfl, HB2.out.trans ((HDR.out _).mono HB2.out.size)⟩
          · have e_2 : decide (x.v = u) = false := by simp [h2]
            have HNX : Hid (l.any (wroteByP b u) = (l.drop (q + 1)).any (wroteByP b u)) := Lib.hid (by rw [HAN.out, HST.out]; simp [wroteByP, h0, h1, h2])
            clear h0  h1  h2
            go_wp2_with fail
            go_quiet (fail)
            go_wp2_with fail
            go_roundw
            case rel => exact ⟨q + 1, by have := HLT.out; omega, by go_num, HDR.out _, HNX.out⟩
            case measure => have := HLT.out; simp [intOf]; omega
        · have e_1 : (x.b == b) = false := by simp [h1]
          have HNX : Hid (l.any (wroteByP b u) = (l.drop (q + 1)).any (wroteByP b u)) := Lib.hid (by rw [HAN.out, HST.out]; simp [wroteByP, h0, h1])
          clear h0  h1
          go_wp2_with fail
          go_quiet (fail)
          go_wp2_with fail
          go_roundw
          case rel => exact ⟨q + 1, by have := HLT.out; omega, by go_num, HDR.out _, HNX.out⟩
          case measure => have := HLT.out; simp [intOf]; omega
      · have e_0 : (x.k == 2) = false := by simp [h0]
        have HNX : Hid (l.any (wroteByP b u) = (l.drop (q + 1)).any (wroteByP b u)) := Lib.hid (by rw [HAN.out, HST.out]; simp [wroteByP, h0])
        clear h0
        go_wp2_with fail
        go_quiet (fail)
        go_wp2_with fail
        go_roundw
        case rel => exact ⟨q + 1, by have := HLT.out; omega, by go_num, HDR.out _, HNX.out⟩
        case measure => have := HLT.out; simp [intOf]; omega
    · obtain rfl : q = l.length := by omega
      have HF : Hid (l.any (wroteByP b u) = false) := Lib.hid (by rw [HAN.out, List.drop_length]; rfl)
      go_wp2_with fail
      go_ret
      exact ⟨by rw [HF.out]; rfl, HB2.out.trans (HB.out.mono HB2.out.size)⟩

end Go.Proofs.Ytgdmgeihgkbjaaa
