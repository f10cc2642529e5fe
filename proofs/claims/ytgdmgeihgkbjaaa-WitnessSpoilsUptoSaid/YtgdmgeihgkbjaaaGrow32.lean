/- 'cashboxlaw32.WitnessGrows' -/
import Derived.Test.YtgdmgeihgkbjaaaWasRef
import Derived.Test.YtgdmgeihgkbjaaaPd
namespace Go.Proofs.Ytgdmgeihgkbjaaa
open Go.RowKit Go.Shelf

/-- Wrong's answer, faults and error. -/
def erP (l : List Sn) : Int := if mayP l then 0 else 2
def fsP (l : List Sn) : List Ft := if mayP l then wrongP l else []

theorem fsP_length {l : List Sn} (hl : l.length ≤ 100000) : (fsP l).length ≤ 10000000000 := by
  unfold fsP
  split
  · exact Nat.le_trans (List.length_filter_le _ _) (reads_length hl)
  · simp

theorem wrong_gen (l : List Sn) (v : Value) (w : World) (hl : l.length ≤ 100000) (hv : Sns w.heap.size w v l) :
    Calls Try.prog 29 #[v] w fun e w' => (∃ a c, e = .returned (.tuple #[.slice a (fsP l).length c, .int .i64 (erP l)]) ∧ FtRow w' (.slice a (fsP l).length c) (fsP l)) ∧ Below w.heap.size w w' := by
  cases hm : mayP l with
  | false =>
    refine (wrong_err l v w hl hv hm).mono ?_
    rintro e w' ⟨rfl, hb⟩
    have e1 : fsP l = [] := by simp [fsP, hm]
    have e2 : erP l = 2 := by simp [erP, hm]
    rw [e1, e2]
    exact ⟨⟨none, 0, rfl, FtRow.nil _⟩, hb⟩
  | true =>
    refine (wrong_ok l v w hl hv hm).mono ?_
    rintro e w' ⟨a, c, rfl, hr, hb⟩
    have e1 : fsP l = wrongP l := by simp [fsP, hm]
    have e2 : erP l = 0 := by simp [erP, hm]
    rw [e1, e2]
    exact ⟨⟨a, c, rfl, a, c, rfl, hr⟩, hb⟩

/-! ### the appends -/

theorem run_build0 (w : World) : (Instr.buildSlice 25 0 #[]).run Try.prog w = .ok (.slice (some ⟨w.heap.size, 0, none⟩) 0 0) (w.alloc (.cells #[] 36)) := by
  simp [go_sem]
theorem run_build1 (x : Sn) (w : World) : (Instr.buildSlice 25 1 #[(0, .agg (snArr x))]).run Try.prog w = .ok (.slice (some ⟨w.heap.size, 0, none⟩) 1 1) (w.alloc (.cells (snArr x) 36)) := by
  simp [go_sem, snArr]
theorem run_build2s (x y : Sn) (w : World) : (Instr.buildSlice 25 2 #[(0, .agg (snArr x)), (1, .agg (snArr y))]).run Try.prog w = .ok (.slice (some ⟨w.heap.size, 0, none⟩) 2 2) (w.alloc (.cells (snArr x ++ snArr y) 36)) := by
  simp [go_sem, snArr]
theorem run_appendNil (g : Nat) (w : World) : (Builtin.append_ #[25, 25] 25 #[.slice (some ⟨g, 0, none⟩) 0 0, .slice none 0 0]).run Try.prog w = .ok (.slice (some ⟨g, 0, none⟩) 0 0) w := by
  simp [go_sem, Builtin.append_]

theorem addr_add (g j : Nat) : (⟨g, 0, none⟩ : Addr).add j = ⟨g, j, none⟩ := by unfold Addr.add; split <;> simp_all
theorem snArr_get (x : Sn) (j : Nat) : (snArr x)[j]? = x.cells[j]? := by rw [← Array.getElem?_toList]; rfl
theorem snArr_get2 (x y : Sn) (j : Nat) : (snArr x ++ snArr y)[j]? = (x.cells ++ y.cells)[j]? := by rw [← Array.getElem?_toList, Array.toList_append]; rfl
def bgn (n : Nm) : Sn := ⟨0, n, 0, z0, 0⟩
def cmt (n : Nm) : Sn := ⟨3, n, 0, z0, 0⟩

theorem info36p : (Try.prog.info? 36).map (fun i => (i.zero, i.size, i.bytes)) = some (some (.agg (snArr sz)), 14, 56) := by kernel_rfl

theorem wp_append_hist {o : Oper} {a : Act} {w : World} {K : Act → World → Prop} {Q : Exit → Act → World → Prop} (s x : Operand) (ho : o.op = .call { callee := .builtin .append, args := #[s, x], argTypes := #[25, 25] }) (hty : o.type = 25) (base g : Nat)
    (hs : a.eval s = .slice (some ⟨g, 0, none⟩) 0 0) (hown : w.ownsRow base 36 14 (.slice (some ⟨g, 0, none⟩) 0 0) 0 []) (l : List Sn) (v : Value) (hx : a.eval x = v) (hv : Sns w.heap.size w v l) (hl : l.length ≤ 100000) (hbase : base ≤ w.heap.size)
    (h : ∀ v' w', w'.ownsRow base 36 14 v' l.length (l.flatMap Sn.cells) → w.grownBy w' (some g) → K (a.put o.dst v') w') : o.wp Try.prog a w K Q := by
  obtain ⟨i0, hi, hz0, hz1, hz2⟩ := info_parts info36p
  obtain ⟨ad, c, rfl, hn, ha⟩ := hv
  cases ad with
  | none =>
    obtain ⟨rfl, rfl⟩ := hn rfl
    unfold Oper.wp execOp
    simp only [ho, resolve, invoke, builtin, Sem.run_bind, Sem.run_pure, Result.andThen_ok, List.map_toArray, List.map_cons, List.map_nil, hs, hx, hty, List.length_nil, run_appendNil]
    exact h _ _ hown (grownBy_of_below (Below.refl _ _))
  | some ad =>
    have hcells : ∀ j u, (l.flatMap Sn.cells)[j]? = some u → w.cell? (ad.add j) = some u := by
      cases l with
      | nil => intro j u h; simp at h
      | cons y r =>
        obtain ⟨b, off, s⟩ := ad
        obtain ⟨rfl, hb, hr⟩ := ha b off s rfl (by simp)
        exact rows_cells (fun x => Sn.cells_length x) hr
    refine wp_append_own _ s x 25 ho base 36 i0 (.agg (snArr sz)) 14 56 Try.underlying25 hi hz0 hz1 hz2 rfl (by decide) _ 0 [] hs hown ad l.length c (l.flatMap Sn.cells) hx (flat_length (fun x => Sn.cells_length x) l) hcells (flat_one l) (by unfold maxLen; omega) (by omega) hbase ?_
    intro v' w' h1 h2 _
    exact h v' w' (by simpa using h1) h2

/-- What lies over the region that lays the history's copy and the Begin behind it. -/
structure T9 (w1 : World) (l : List Sn) (b : Sn) (e : Nat × Nat × Value × Value) (L0 L2 L5 L6 : Bool) (W : World) : Prop where
  below : Below w1.heap.size w1 W
  a0 : L0 = true → L2 = false → W.ownsRow w1.heap.size 36 14 (.slice (some ⟨e.1, 0, none⟩) 0 0) 0 []
  a2 : L2 = true → L6 = false → W.ownsRow w1.heap.size 36 14 e.2.2.1 l.length (l.flatMap Sn.cells)
  b5 : L5 = true → L6 = false → W.heap[e.2.1]? = some (.cells (snArr b) 36 (0, 0))
  ne : L0 = true → L2 = false → L5 = true → e.1 ≠ e.2.1
  c6 : L6 = true → W.ownsRow w1.heap.size 36 14 e.2.2.2 (l.length + 1) (l.flatMap Sn.cells ++ b.cells)

theorem T9.start {w1 W : World} {l : List Sn} {b : Sn} {e : Nat × Nat × Value × Value} (h : Below w1.heap.size w1 W) : T9 w1 l b e false false false false W :=
  ⟨h, (fun h => by cases h), (fun h => by cases h), (fun h => by cases h), (fun h => by cases h), (fun h => by cases h)⟩

theorem T9.op0 {w1 : World} {l : List Sn} {b : Sn} {e : Nat × Nat × Value × Value} {L5 : Bool} {W : World} (h : T9 w1 l b e false false L5 false W) : T9 w1 l b (W.heap.size, e.2) true false L5 false (W.alloc (.cells #[] 36)) :=
  ⟨h.below.alloc h.below.size _, fun _ _ => World.ownsRow_made W #[] 0 h.below.size (by unfold maxLen; omega) rfl, (fun h => by cases h), fun h5 h6 => (Below.heap_alloc W _ _ (lt_of_heap (h.b5 h5 h6))).trans (h.b5 h5 h6), fun _ _ h5 e => by have := lt_of_heap (h.b5 h5 rfl); simp only at e; omega, (fun h => by cases h)⟩

theorem T9.op5 {w1 : World} {l : List Sn} {b : Sn} {e : Nat × Nat × Value × Value} {L0 L2 : Bool} {W : World} (h : T9 w1 l b e L0 L2 false false W) : T9 w1 l b (e.1, W.heap.size, e.2.2) L0 L2 true false (W.alloc (.cells (snArr b) 36)) :=
  ⟨h.below.alloc h.below.size _, fun h0 h2 => (h.a0 h0 h2).alloc _, fun h2 h6 => (h.a2 h2 h6).alloc _, fun _ _ => heap_alloc_new W _, fun h0 h2 _ e => by have h3 : _ < W.heap.size := ((h.a0 h0 h2).lt _ rfl).2; simp only at e h3; omega, (fun h => by cases h)⟩

theorem T9.op2 {w1 : World} {l : List Sn} {b : Sn} {e : Nat × Nat × Value × Value} {L5 : Bool} {W W' : World} {v' : Value} (h : T9 w1 l b e true false L5 false W) (hv : W'.ownsRow w1.heap.size 36 14 v' l.length (l.flatMap Sn.cells)) (hg : W.grownBy W' (some e.1)) : T9 w1 l b (e.1, e.2.1, v', e.2.2.2) true true L5 false W' :=
  ⟨h.below.grown hg h.below.size (fun k ek => by cases ek; exact ((h.a0 rfl rfl).lt _ rfl).1), (fun _ h => by cases h), fun _ _ => hv, fun h5 h6 => (hg.block _ (lt_of_heap (h.b5 h5 h6)) (fun ek => h.ne rfl rfl h5 (Option.some.inj ek).symm)).trans (h.b5 h5 h6), (fun _ h => by cases h), (fun h => by cases h)⟩

theorem T9.op6 {w1 : World} {l : List Sn} {b : Sn} {e : Nat × Nat × Value × Value} {L0 : Bool} {W W' : World} {v' : Value} (h : T9 w1 l b e L0 true true false W) (hv : W'.ownsRow w1.heap.size 36 14 v' (l.length + 1) (l.flatMap Sn.cells ++ b.cells)) (hg : W.grownBy W' e.2.2.1.ownBlock) : T9 w1 l b (e.1, e.2.1, e.2.2.1, v') L0 true true true W' :=
  ⟨h.below.grown hg h.below.size (fun k ek => ((h.a2 rfl rfl).lt _ ek).1), (fun _ h => by cases h), (fun _ h => by cases h), (fun _ h => by cases h), (fun _ h => by cases h), fun _ => hv⟩

/-- Over the region that lays two steps behind the history. -/
def ApT (w0 w1 : World) (P : Value → World → Prop) (d1 d2 : Bool) (e : Value) (W : World) : Prop := (d1 = false → W = w0) ∧ (d1 = true → d2 = false → W = w1) ∧ (d2 = true → P e W)
theorem ApT.start {w0 w1 : World} {P : Value → World → Prop} {e : Value} : ApT w0 w1 P false false e w0 := ⟨fun _ => rfl, (fun h => by cases h), (fun h => by cases h)⟩
theorem ApT.laid {w0 w1 : World} {P : Value → World → Prop} {e : Value} : ApT w0 w1 P true false e w1 := ⟨(fun h => by cases h), fun _ _ => rfl, (fun h => by cases h)⟩
theorem ApT.done {w0 w1 W : World} {P : Value → World → Prop} {e : Value} (h : P e W) : ApT w0 w1 P true true e W := ⟨(fun h => by cases h), (fun _ h => by cases h), fun _ => h⟩

/-! ### the steps behind -/

def twoP (n : Nm) (b : Int) (i : Nat) : List Sn := [⟨2, n, b, ⟨(1 + i : Nat), 0, 0, 0, 0, 0, 0, 0⟩, 0⟩, ⟨1, n, b, z0, 0⟩]
def extQ (n : Nm) : List Int → Nat → List Sn
  | [], _ => []
  | b :: bs, i => twoP n b i ++ extQ n bs (i + 1)
theorem extP_split (n : Nm) : ∀ (bs : List Int) (i : Nat), extP n bs i = extQ n bs i ++ [⟨3, n, 0, z0, 0⟩]
  | [], _ => rfl
  | b :: bs, i => by simp only [extP, extQ, twoP, extP_split n bs (i + 1), List.cons_append, List.nil_append]
theorem extQ_snoc (n : Nm) : ∀ (bs : List Int) (b : Int) (i : Nat), extQ n (bs ++ [b]) i = extQ n bs i ++ twoP n b (i + bs.length)
  | [], b, i => by simp [extQ]
  | c :: bs, b, i => by
    simp only [List.cons_append, extQ, extQ_snoc n bs b (i + 1), List.length_cons, List.append_assoc]
    rw [show i + 1 + bs.length = i + (bs.length + 1) by omega]
theorem extQ_take {n : Nm} {bs : List Int} {k : Nat} {b : Int} (hb : bs[k]? = some b) : extQ n (bs.take (k + 1)) 0 = extQ n (bs.take k) 0 ++ twoP n b k := by
  have hk := (List.getElem?_eq_some_iff.1 hb).1
  rw [List.take_add_one, hb, Option.toList_some, extQ_snoc, List.length_take, Nat.zero_add, Nat.min_eq_left (by omega)]
theorem extQ_length (n : Nm) : ∀ (bs : List Int) (i : Nat), (extQ n bs i).length = 2 * bs.length
  | [], _ => rfl
  | b :: bs, i => by simp only [extQ, twoP, List.length_append, extQ_length n bs (i + 1), List.length_cons, List.length_nil]; omega

set_option maxRecDepth 100000 in
set_option maxHeartbeats 4000000 in
theorem grow_bad (l : List Sn) (v : Value) (n : Nm) (bs : List Int) (bv : Value) (w : World) (hv : Sns w.heap.size w v l) (hbv : Rows (fun i : Int => [intV i]) 1 w.heap.size w bv bs) (hb : 250 < l.length ∨ 20 < bs.length) : Calls Try.prog 9 #[v, .agg #[.int .i64 n.s, .int .i64 n.i, .int .i64 n.t], bv] w fun e w' => e = .returned (.bool true) ∧ Below w.heap.size w w' := by
  obtain ⟨a, cap, rfl, _, _⟩ := hv
  obtain ⟨ba, bcap, rfl, _, _⟩ := hbv
  by_cases h1 : 250 < l.length
  · clear hb
    go_enter Try.func9, Try.ntmps9
    go_wp2_with fail
    refine (wakes32_any _).mono ?_
    rintro e w' ⟨rfl, bel⟩
    go_wp2_with fail
    go_ret
    exact ⟨rfl, (below_alloc1 _).trans (bel.mono (by simp))⟩
  · have h2 : 20 < bs.length := by omega
    clear hb
    go_enter Try.func9, Try.ntmps9
    go_wp2_with fail
    refine (wakes32_any _).mono ?_
    rintro e w' ⟨rfl, bel⟩
    go_wp2_with fail
    go_ret
    exact ⟨rfl, (below_alloc1 _).trans (bel.mono (by simp))⟩

set_option maxRecDepth 100000 in
set_option maxHeartbeats 8000000 in
theorem grow_go (l : List Sn) (v : Value) (n : Nm) (bs : List Int) (bv : Value) (w : World) (hv : Sns w.heap.size w v l) (hbv : Rows (fun i : Int => [intV i]) 1 w.heap.size w bv bs) (hl : l.length ≤ 250) (hbl : bs.length ≤ 20) : Calls Try.prog 9 #[v, .agg #[.int .i64 n.s, .int .i64 n.i, .int .i64 n.t], bv] w fun e w' => e = .returned (.bool true) ∧ Below w.heap.size w w' := by
  obtain ⟨i0, hi, hz0, hz1, hz2⟩ := info_parts info36p
  obtain ⟨w1, hw1⟩ : ∃ w1, w.alloc (.cells #[.int .i64 n.s, .int .i64 n.i, .int .i64 n.t] 34) = w1 := ⟨_, rfl⟩
  have hb1 : Below w.heap.size w w1 := hw1 ▸ below_alloc1 _
  have hx1 : w1.heap[w.heap.size]? = some (.cells (nmArr n) 34 (0, 0)) := hw1 ▸ heap_alloc_new w _
  have HV := Lib.hid hv
  have HBV := Lib.hid hbv
  obtain ⟨va, vc, rfl, hvn, hva⟩ := hv
  obtain ⟨ba, bc, rfl, hbn, hba⟩ := hbv
  have HVN := Lib.hid hvn
  have HVA := Lib.hid hva
  have HBN := Lib.hid hbn
  have HBA := Lib.hid hba
  have HW1 := Lib.hid hw1
  have HB1 := Lib.hid hb1
  have HX1 := Lib.hid hx1
  have HC := Lib.hid (wrong_gen l _ w1 (by omega) ((HV.out.below hb1).mono hb1.size))
  clear hw1 hb1 hx1 hvn hva hbn hba
  go_enter Try.func9, Try.ntmps9
  go_upto_region 3 with (fail)
  rw [HW1.out]
  go_wp2_with fail
  refine HC.out.mono ?_
  rintro e w2 ⟨⟨fa, fc, rfl, hfr⟩, b2⟩
  have HFR := Lib.hid hfr
  have HX2 := Lib.hid ((b2.block _ (lt_of_heap HX1.out)).trans HX1.out)
  have HB2 := Lib.hid (HB1.out.trans (b2.mono HB1.out.size))
  clear hfr b2 HC HX1
  go_wp2_with fail
  go_loopw [9] (fun io wr => ∃ q : Nat, q ≤ l.length ∧ io = .int .i64 q ∧ (∃ m, wr = w2.drewN m) ∧ ∀ i x, i < q → l[i]? = some x → x.n ≠ n) (fun io _ => l.length - (intOf io).toNat)
  case atStart => exact ⟨0, Nat.zero_le _, rfl, ⟨0, rfl⟩, fun i x h => by omega⟩
  case round =>
    obtain ⟨q, hq, rfl, ⟨m, rfl⟩, hno⟩ := hrel
    have HNO := Lib.hid hno
    clear hno
    by_cases hlt : q < l.length
    · obtain ⟨x, hx⟩ : ∃ x, l[q]? = some x := ⟨_, List.getElem?_eq_getElem hlt⟩
      obtain ⟨lb, lo, rfl, hlb, hlr⟩ := rows_some HVN.out HVA.out hlt
      obtain ⟨c0, c1, c2, c3, _⟩ := (hlr.below hlb HB2.out).sn hx
      have m0 : w2.cell? ⟨w.heap.size, 0, none⟩ = some (.int .i64 n.s) := by rw [cell_of_row w2 _ _ _ 34 (0, 0) HX2.out]; rfl
      have m1 : w2.cell? ⟨w.heap.size, 1, none⟩ = some (.int .i64 n.i) := by rw [cell_of_row w2 _ _ _ 34 (0, 0) HX2.out]; rfl
      have m2 : w2.cell? ⟨w.heap.size, 2, none⟩ = some (.int .i64 n.t) := by rw [cell_of_row w2 _ _ _ 34 (0, 0) HX2.out]; rfl
      have hen := fun w => eql_nm x.n n w
      have HX := Lib.hid hx
      have HLT := Lib.hid hlt
      clear hlr hx
      by_cases hn : x.n = n
      · have hn' : decide (x.n = n) = true := by simpa using hn
        clear hn
        go_wp2_with fail
        go_quiet (fail)
        go_wp2_with fail
        refine (wakes32_any _).mono ?_
        rintro e w' ⟨rfl, bel⟩
        go_wp2_with fail
        go_ret
        exact ⟨rfl, (Below.drewN' HB2.out _).trans (bel.mono HB2.out.size)⟩
      · have hn' : decide (x.n = n) = false := by simpa using hn
        have HNN := Lib.hid hn
        clear hn
        go_wp2_with fail
        go_quiet (fail)
        go_wp2_with fail
        go_roundw
        case rel => exact ⟨q + 1, by have := HLT.out; omega, by go_num, ⟨_, rfl⟩, fun i y h hy => by
          rcases Nat.lt_or_ge i q with h' | h'
          · exact HNO.out i y h' hy
          · obtain rfl : i = q := by omega
            rw [HX.out] at hy
            cases hy
            exact HNN.out⟩
        case measure => have := HLT.out; simp [intOf]; omega
    · have hnone : ∀ x ∈ l, x.n ≠ n := fun x hx => by
        obtain ⟨i, hi⟩ := List.getElem?_of_mem hx
        exact HNO.out i x (by have := (List.getElem?_eq_some_iff.1 hi).1; omega) hi
      have HNONE := Lib.hid hnone
      clear hnone HNO
      obtain ⟨w3, hw3⟩ : ∃ w3, w2.drewN m = w3 := ⟨_, rfl⟩
      have hb3 : Below w2.heap.size w2 w3 := hw3 ▸ Below.drewN' (Below.refl _ _) m
      have HB3 := Lib.hid (HB2.out.trans (hb3.mono HB2.out.size))
      have HX3 := Lib.hid ((hb3.block _ (lt_of_heap HX2.out)).trans HX2.out)
      have HFR3 := Lib.hid (HFR.out.below hb3)
      have HW3 := Lib.hid hw3
      clear hw3 hb3 HX2 HFR HB2
      go_upto_region 9 with (fail)
      rw [HW3.out]
      have hsv : Sns w3.heap.size w3 (.slice va l.length vc) l := (HV.out.below HB3.out).mono HB3.out.size
      have hl1 : l.length ≤ 100000 := by omega
      have hmc : ∀ W, Below w3.heap.size w3 W → W.cell? ⟨w.heap.size, 0, none⟩ = some (.int .i64 n.s) ∧ W.cell? ⟨w.heap.size, 1, none⟩ = some (.int .i64 n.i) ∧ W.cell? ⟨w.heap.size, 2, none⟩ = some (.int .i64 n.t) := fun W hW => by
        have hx := (hW.block _ (lt_of_heap HX3.out)).trans HX3.out
        refine ⟨?_, ?_, ?_⟩ <;> (rw [cell_of_row W _ _ _ 34 (0, 0) hx]; rfl)
      refine wp_region_frameE (E := Nat × Nat × Value × Value) mixed (by kernel_rfl) (fun e => [(0, 42, .slice (some ⟨e.1, 0, none⟩) 0 0), (1, 43, .slice va l.length vc), (2, 44, e.2.2.1), (3, 45, .agg #[.int .i64 n.s, .int .i64 n.i, .int .i64 n.t]), (4, 46, .agg (snArr (⟨0, n, 0, z0, 0⟩ : Sn))), (5, 47, .slice (some ⟨e.2.1, 0, none⟩) 1 1), (6, 48, e.2.2.2), (7, 10, e.2.2.2)]) (fun e L Wx => T9 w3 l (⟨0, n, 0, z0, 0⟩ : Sn) e (L 0) (L 2) (L 5) (L 6) Wx) (0, 0, undef, undef) ?_ ?_ (fun _ => by rfl) (fun _ => by rfl) ?_
      · exact T9.start (Below.refl _ _).drew
      · intro a0 ps ha0 hps
        have hsz : a0.tmps.size = 121 := by rw [ha0]; rfl
        have u0 : a0.tmps[0]? = some (.slice va l.length vc) := by rw [ha0]; rfl
        have u4 : a0.tmps[4]? = some (.pointer (some ⟨w.heap.size, 0, none⟩)) := by rw [ha0]; rfl
        have n0 : ∀ e, slotOf (ps e) 0 = none := by rw [hps]; intro e; rfl
        have n4 : ∀ e, slotOf (ps e) 4 = none := by rw [hps]; intro e; rfl
        have k42 : ∀ e, slotOf (ps e) 42 = some (0, .slice (some ⟨e.1, 0, none⟩) 0 0) := by rw [hps]; intro e; rfl
        have q42 : ∀ e, keysOK (ps e) 0 42 = true := by rw [hps]; intro e; rfl
        have k43 : ∀ e, slotOf (ps e) 43 = some (1, .slice va l.length vc) := by rw [hps]; intro e; rfl
        have q43 : ∀ e, keysOK (ps e) 1 43 = true := by rw [hps]; intro e; rfl
        have k44 : ∀ e, slotOf (ps e) 44 = some (2, e.2.2.1) := by rw [hps]; intro e; rfl
        have q44 : ∀ e, keysOK (ps e) 2 44 = true := by rw [hps]; intro e; rfl
        have k45 : ∀ e, slotOf (ps e) 45 = some (3, .agg #[.int .i64 n.s, .int .i64 n.i, .int .i64 n.t]) := by rw [hps]; intro e; rfl
        have q45 : ∀ e, keysOK (ps e) 3 45 = true := by rw [hps]; intro e; rfl
        have k46 : ∀ e, slotOf (ps e) 46 = some (4, .agg (snArr (⟨0, n, 0, z0, 0⟩ : Sn))) := by rw [hps]; intro e; rfl
        have q46 : ∀ e, keysOK (ps e) 4 46 = true := by rw [hps]; intro e; rfl
        have k47 : ∀ e, slotOf (ps e) 47 = some (5, .slice (some ⟨e.2.1, 0, none⟩) 1 1) := by rw [hps]; intro e; rfl
        have q47 : ∀ e, keysOK (ps e) 5 47 = true := by rw [hps]; intro e; rfl
        have k48 : ∀ e, slotOf (ps e) 48 = some (6, e.2.2.2) := by rw [hps]; intro e; rfl
        have q48 : ∀ e, keysOK (ps e) 6 48 = true := by rw [hps]; intro e; rfl
        have k10 : ∀ e, slotOf (ps e) 10 = some (7, e.2.2.2) := by rw [hps]; intro e; rfl
        have q10 : ∀ e, keysOK (ps e) 7 10 = true := by rw [hps]; intro e; rfl
        clear ha0
        refine ⟨?_, ?_, ?_, ?_, ?_, ?_, ?_, ?_, trivial⟩
        · rintro L _ Wx ⟨e, rfl, hT⟩ hcl hk hd
          rw [if_pos (by simp [Region.wanted])]
          have hN2 : L 2 = false := by
            cases hh : L 2 with
            | false => rfl
            | true =>
              have hx := hcl 2 _ rfl (by simp [hh])
              simp [Region.binds] at hx
              simp [hk] at hx
          have hN6 : L 6 = false := by
            cases hh : L 6 with
            | false => rfl
            | true =>
              have hx := hcl 6 _ rfl (by simp [hh])
              simp [Region.binds] at hx
              simp [hN2] at hx
          rw [hN2, hN6, hk] at hT
          refine op_value (v := .slice (some ⟨Wx.heap.size, 0, none⟩) 0 0) (w' := Wx.alloc (.cells #[] 36)) (by simp [execOp, run_build0]) ⟨(Wx.heap.size, e.2), ?_, ?_⟩
          · rw [← frame_put (k42 (Wx.heap.size, e.2)) (q42 (Wx.heap.size, e.2))]
            congr 1
            rw [hps]
            exact frame_swap (.cons (fun h => by simp [hk] at h) (.cons (fun _ => rfl) (.cons (fun _ => rfl) (.cons (fun _ => rfl) (.cons (fun _ => rfl) (.cons (fun _ => rfl) (.cons (fun _ => rfl) (.cons (fun _ => rfl) .nil))))))))
          · simpa [upd, hN2, hN6] using hT.op0
        · rintro L _ Wx ⟨e, rfl, hT⟩ hcl hk hd
          rw [if_pos (by simp [Region.wanted])]
          refine op_value (v := .slice va l.length vc) (w' := Wx) (by simp [execOp, go_sem, frame_tout (n0 _) u0]) ⟨e, frame_put (k43 _) (q43 _), ?_⟩
          simpa [upd] using hT
        · rintro L _ Wx ⟨e, rfl, hT⟩ hcl hk hd
          have hL0 : L 0 = true := by have h := hd; simp [Region.binds] at h; simp [h]
          have hL1 : L 1 = true := by have h := hd; simp [Region.binds] at h; simp [h]
          rw [if_pos (by simp [Region.wanted])]
          have hN6 : L 6 = false := by
            cases hh : L 6 with
            | false => rfl
            | true =>
              have hx := hcl 6 _ rfl (by simp [hh])
              simp [Region.binds] at hx
              simp [hk] at hx
          rw [hL0, hk, hN6] at hT
          refine wp_append_hist (.tmp 42) (.tmp 43) rfl rfl w3.heap.size e.1 (by rw [frame_in (k42 e) hL0 (Nat.lt_of_lt_of_eq (by decide : 42 < 121) hsz.symm)]) (hT.a0 rfl rfl) l (.slice va l.length vc) (by rw [frame_in (k43 e) hL1 (Nat.lt_of_lt_of_eq (by decide : 43 < 121) hsz.symm)]) ((hsv.below hT.below).mono hT.below.size) hl1 hT.below.size ?_
          intro v' w' hown hg
          refine ⟨(e.1, e.2.1, v', e.2.2.2), ?_, ?_⟩
          · rw [← frame_put (k44 (e.1, e.2.1, v', e.2.2.2)) (q44 (e.1, e.2.1, v', e.2.2.2))]
            congr 1
            rw [hps]
            exact frame_swap (.cons (fun _ => rfl) (.cons (fun _ => rfl) (.cons (fun h => by simp [hk] at h) (.cons (fun _ => rfl) (.cons (fun _ => rfl) (.cons (fun _ => rfl) (.cons (fun _ => rfl) (.cons (fun _ => rfl) .nil))))))))
          · simpa [upd, hL0, hN6] using hT.op2 hown hg
        · rintro L _ Wx ⟨e, rfl, hT⟩ hcl hk hd
          rw [if_pos (by simp [Region.wanted])]
          refine op_value (v := .agg #[.int .i64 n.s, .int .i64 n.i, .int .i64 n.t]) (w' := Wx) (by simp [execOp, go_sem, frame_tout (n4 _) u4, (hmc Wx hT.below).1, (hmc Wx hT.below).2.1, (hmc Wx hT.below).2.2]) ⟨e, frame_put (k45 _) (q45 _), ?_⟩
          simpa [upd] using hT
        · rintro L _ Wx ⟨e, rfl, hT⟩ hcl hk hd
          have hL3 : L 3 = true := by have h := hd; simp [Region.binds] at h; simp [h]
          rw [if_pos (by simp [Region.wanted])]
          refine op_value (v := .agg (snArr (⟨0, n, 0, z0, 0⟩ : Sn))) (w' := Wx) (by simp [execOp, go_sem, frame_tmp (k45 _) hL3 (Nat.lt_of_lt_of_eq (by decide : 45 < 121) hsz.symm), snArr, z0]) ⟨e, frame_put (k46 _) (q46 _), ?_⟩
          simpa [upd] using hT
        · rintro L _ Wx ⟨e, rfl, hT⟩ hcl hk hd
          have hL4 : L 4 = true := by have h := hd; simp [Region.binds] at h; simp [h]
          rw [if_pos (by simp [Region.wanted])]
          have hN6 : L 6 = false := by
            cases hh : L 6 with
            | false => rfl
            | true =>
              have hx := hcl 6 _ rfl (by simp [hh])
              simp [Region.binds] at hx
              simp [hk] at hx
          rw [hN6, hk] at hT
          refine op_value (v := .slice (some ⟨Wx.heap.size, 0, none⟩) 1 1) (w' := Wx.alloc (.cells (snArr (⟨0, n, 0, z0, 0⟩ : Sn)) 36)) (by simp [execOp, frame_in (k46 _) hL4 (Nat.lt_of_lt_of_eq (by decide : 46 < 121) hsz.symm), run_build1]) ⟨(e.1, Wx.heap.size, e.2.2), ?_, ?_⟩
          · rw [← frame_put (k47 (e.1, Wx.heap.size, e.2.2)) (q47 (e.1, Wx.heap.size, e.2.2))]
            congr 1
            rw [hps]
            exact frame_swap (.cons (fun _ => rfl) (.cons (fun _ => rfl) (.cons (fun _ => rfl) (.cons (fun _ => rfl) (.cons (fun _ => rfl) (.cons (fun h => by simp [hk] at h) (.cons (fun _ => rfl) (.cons (fun _ => rfl) .nil))))))))
          · simpa [upd, hN6] using hT.op5
        · rintro L _ Wx ⟨e, rfl, hT⟩ hcl hk hd
          have hL2 : L 2 = true := by have h := hd; simp [Region.binds] at h; simp [h]
          have hL5 : L 5 = true := by have h := hd; simp [Region.binds] at h; simp [h]
          rw [if_pos (by simp [Region.wanted])]
          have hN7 : L 7 = false := by
            cases hh : L 7 with
            | false => rfl
            | true =>
              have hx := hcl 7 _ rfl (by simp [hh])
              simp [Region.binds] at hx
              simp [hk] at hx
          rw [hL2, hL5, hk] at hT
          have hb5 := hT.b5 rfl rfl
          refine wp_append_own _ (.tmp 44) (.tmp 47) 25 rfl w3.heap.size 36 i0 (.agg (snArr sz)) 14 56 Try.underlying25 hi hz0 hz1 hz2 rfl (by decide) e.2.2.1 l.length (l.flatMap Sn.cells) (by rw [frame_in (k44 e) hL2 (Nat.lt_of_lt_of_eq (by decide : 44 < 121) hsz.symm)]) (hT.a2 rfl rfl) ⟨e.2.1, 0, none⟩ 1 1 (Sn.cells (⟨0, n, 0, z0, 0⟩ : Sn)) (by rw [frame_in (k47 e) hL5 (Nat.lt_of_lt_of_eq (by decide : 47 < 121) hsz.symm)]) rfl (fun j u hu => by rw [addr_add, cell_of_row Wx _ _ _ 36 (0, 0) hb5, snArr_get]; exact hu) (Sn.cells_one _) (by unfold maxLen; omega) (by omega) hT.below.size ?_
          intro v' w' hown hg _
          refine ⟨(e.1, e.2.1, e.2.2.1, v'), ?_, ?_⟩
          · rw [← frame_put (k48 (e.1, e.2.1, e.2.2.1, v')) (q48 (e.1, e.2.1, e.2.2.1, v'))]
            congr 1
            rw [hps]
            exact frame_swap (.cons (fun _ => rfl) (.cons (fun _ => rfl) (.cons (fun _ => rfl) (.cons (fun _ => rfl) (.cons (fun _ => rfl) (.cons (fun _ => rfl) (.cons (fun h => by simp [hk] at h) (.cons (fun h => by simp [hN7] at h) .nil))))))))
          · simpa [upd, hL2, hL5] using hT.op6 hown hg
        · rintro L _ Wx ⟨e, rfl, hT⟩ hcl hk hd
          have hL6 : L 6 = true := by have h := hd; simp [Region.binds] at h; simp [h]
          rw [if_pos (by simp [Region.wanted])]
          refine op_value (v := e.2.2.2) (w' := Wx) (by simp [execOp, go_sem, frame_tmp (k48 _) hL6 (Nat.lt_of_lt_of_eq (by decide : 48 < 121) hsz.symm)]) ⟨e, frame_put (k10 _) (q10 _), ?_⟩
          simpa [upd] using hT
      · rintro e L W' hT hall
        have hA6 : L 6 = true := hall 6 (by simp)
        simp only [putAll, Act.put, List.setIfInBounds_toArray, List.set_cons_succ, List.set_cons_zero]
        rw [hA6] at hT
        have hown := hT.c6 rfl
        have hbw := hT.below
        have hown4 : W'.ownsRow w3.heap.size 36 14 e.2.2.2 (l ++ [bgn n] ++ extQ n (bs.take 0) 0).length ((l ++ [bgn n] ++ extQ n (bs.take 0) 0).flatMap Sn.cells) := by
          simpa [extQ, bgn] using hown
        have HO := Lib.hid hown4
        have HBW := Lib.hid hbw
        clear hT hall hown hown4 hbw hmc hsv
        generalize e.2.2.2 = vo at *
        go_wp2_with fail
        go_loopw [10, 11] (fun vo io wr => ∃ k : Nat, k ≤ bs.length ∧ io = .int .i64 k ∧ Below w3.heap.size w3 wr ∧ wr.ownsRow w3.heap.size 36 14 vo (l ++ [bgn n] ++ extQ n (bs.take k) 0).length ((l ++ [bgn n] ++ extQ n (bs.take k) 0).flatMap Sn.cells) ∧ ∀ i b, i < k → bs[i]? = some b → 0 ≤ b ∧ b < 32) (fun _ io _ => bs.length - (intOf io).toNat)
        case atStart => exact ⟨0, Nat.zero_le _, rfl, HBW.out, HO.out, fun i b h => by omega⟩
        case round =>
          clear HO HBW
          obtain ⟨k, hk, rfl, hB, hown, hbr⟩ := hrel
          have HB := Lib.hid hB
          have HO := Lib.hid hown
          have HBR := Lib.hid hbr
          clear hB hown hbr
          have hml : (l ++ [bgn n] ++ extQ n (bs.take k) 0).length ≤ 300 := by
            rw [List.length_append, List.length_append, extQ_length, List.length_take, List.length_singleton]
            omega
          have HML := Lib.hid hml
          clear hml
          by_cases hlt : k < bs.length
          · obtain ⟨b, hb⟩ : ∃ b, bs[k]? = some b := ⟨_, List.getElem?_eq_getElem hlt⟩
            obtain ⟨bb, bo, rfl, hbb, hbr⟩ := rows_some HBN.out HBA.out hlt
            have hbc : ∀ W, Below w3.heap.size w3 W → W.cell? ⟨bb, bo + k, none⟩ = some (.int .i64 b) := fun W hW => by
              have := (hbr.below hbb (HB3.out.trans (hW.mono HB3.out.size))) k b hb 0 _ rfl
              simpa [Nat.mul_one, intV] using this
            have c0 := hbc wr HB.out
            have HBC := Lib.hid hbc
            have HBB := Lib.hid hb
            have HLT := Lib.hid hlt
            clear hbr hbc hb
            by_cases hb0 : b < 0
            · have e_0 : decide (b < 0) = true := by simp; omega
              clear hb0
              go_wp2_with fail
              refine (wakes32_any _).mono ?_
              rintro e w' ⟨rfl, bel⟩
              go_wp2_with fail
              go_ret
              exact ⟨rfl, HB3.out.trans ((HB.out.trans (bel.mono HB.out.size)).mono HB3.out.size)⟩
            have e_0 : decide (b < 0) = false := by simp; omega
            by_cases hb1 : 32 ≤ b
            · have e_1 : decide (32 ≤ b) = true := by simp; omega
              clear hb0 hb1
              go_wp2_with fail
              refine (wakes32_any _).mono ?_
              rintro e w' ⟨rfl, bel⟩
              go_wp2_with fail
              go_ret
              exact ⟨rfl, HB3.out.trans ((HB.out.trans (bel.mono HB.out.size)).mono HB3.out.size)⟩
            have e_1 : decide (32 ≤ b) = false := by simp; omega
            have HBRG : Hid (0 ≤ b ∧ b < 32) := Lib.hid ⟨by omega, by omega⟩
            clear hb0 hb1
            go_upto_region 15 with (fail)
            clear c0 e_0 e_1
            obtain ⟨w0, hw0⟩ : ∃ w0, wr.drew = w0 := ⟨_, rfl⟩
            have hbw0 : Below w3.heap.size w3 w0 := hw0 ▸ HB.out.drew
            have hown0 : w0.ownsRow w3.heap.size 36 14 u10 (l ++ [bgn n] ++ extQ n (bs.take k) 0).length ((l ++ [bgn n] ++ extQ n (bs.take k) 0).flatMap Sn.cells) := hw0 ▸ HO.out
            have HW0 := Lib.hid hw0
            clear hw0 HO
            have hx0 := (hbw0.block _ (lt_of_heap HX3.out)).trans HX3.out
            have m0 : w0.cell? ⟨w.heap.size, 0, none⟩ = some (.int .i64 n.s) := by rw [cell_of_row w0 _ _ _ 34 (0, 0) hx0]; rfl
            have m1 : w0.cell? ⟨w.heap.size, 1, none⟩ = some (.int .i64 n.i) := by rw [cell_of_row w0 _ _ _ 34 (0, 0) hx0]; rfl
            have m2 : w0.cell? ⟨w.heap.size, 2, none⟩ = some (.int .i64 n.t) := by rw [cell_of_row w0 _ _ _ 34 (0, 0) hx0]; rfl
            have hb0 := HBC.out w0 hbw0
            have hkb : (k : Int) < (bs.length : Int) := by omega
            obtain ⟨c, hc⟩ : ∃ c : Int, c = ((1 + k : Nat) : Int) := ⟨_, rfl⟩
            have hw1 : IntKind.i64.wrap (1 + (k : Int)) = c := by rw [hc]; simp [IntKind.wrap, IntKind.bits, IntKind.signed]; omega
            have hw2 : IntKind.u8.wrap c = c := by rw [hc]; simp [IntKind.wrap, IntKind.bits, IntKind.signed]; omega
            have HC := Lib.hid hc
            have hmlen := HML.out
            clear hc hx0
            generalize hml2 : (l ++ [bgn n] ++ extQ n (bs.take k) 0).length = ml at hown0 hmlen
            have HML2 := Lib.hid hml2
            clear hml2
            generalize hfl : (l ++ [bgn n] ++ extQ n (bs.take k) 0).flatMap Sn.cells = fl at hown0
            have HFL := Lib.hid hfl
            clear hfl
            refine wp_region_frameE (E := Value) mixed (by kernel_rfl) (fun e => [(0, 68, u10), (1, 69, .agg #[.int .i64 n.s, .int .i64 n.i, .int .i64 n.t]), (2, 70, .slice (some ⟨bb, bo, none⟩) bs.length bc), (3, 71, .int .i64 (k : Int)), (4, 72, .pointer (some ⟨bb, bo + k, none⟩)), (5, 73, .int .i64 b), (6, 74, .int .i64 (k : Int)), (7, 75, .int .i64 c), (8, 76, .int .u8 c), (9, 77, .agg #[.int .u8 c, .int .u8 0, .int .u8 0, .int .u8 0, .int .u8 0, .int .u8 0, .int .u8 0, .int .u8 0]), (10, 78, .agg (snArr ⟨2, n, b, ⟨c, 0, 0, 0, 0, 0, 0, 0⟩, 0⟩)), (11, 79, .agg #[.int .i64 n.s, .int .i64 n.i, .int .i64 n.t]), (12, 80, .slice (some ⟨bb, bo, none⟩) bs.length bc), (13, 81, .int .i64 (k : Int)), (14, 82, .pointer (some ⟨bb, bo + k, none⟩)), (15, 83, .int .i64 b), (16, 84, .agg (snArr ⟨1, n, b, z0, 0⟩)), (17, 85, .slice (some ⟨w0.heap.size, 0, none⟩) 2 2), (18, 86, e), (19, 10, e)]) (fun e L Wx => ApT w0 (w0.alloc (.cells (snArr ⟨2, n, b, ⟨c, 0, 0, 0, 0, 0, 0, 0⟩, 0⟩ ++ snArr ⟨1, n, b, z0, 0⟩) 36)) (fun e W => W.ownsRow w3.heap.size 36 14 e (ml + 2) (fl ++ (Sn.cells ⟨2, n, b, ⟨c, 0, 0, 0, 0, 0, 0, 0⟩, 0⟩ ++ Sn.cells ⟨1, n, b, z0, 0⟩)) ∧ Below w3.heap.size w3 W) (L 17) (L 18) e Wx) undef ?_ ?_ (fun _ => by rfl) (fun _ => by rfl) ?_
            · exact HW0.out ▸ ApT.start
            · intro a0 ps ha0 hps
              have hsz : a0.tmps.size = 121 := by rw [ha0]; rfl
              have u2 : a0.tmps[2]? = some (.slice (some ⟨bb, bo, none⟩) bs.length bc) := by rw [ha0]; rfl
              have u4 : a0.tmps[4]? = some (.pointer (some ⟨w.heap.size, 0, none⟩)) := by rw [ha0]; rfl
              have u11 : a0.tmps[11]? = some (.int .i64 (k : Int)) := by rw [ha0]; rfl
              have n2 : ∀ e, slotOf (ps e) 2 = none := by rw [hps]; intro e; rfl
              have n4 : ∀ e, slotOf (ps e) 4 = none := by rw [hps]; intro e; rfl
              have n11 : ∀ e, slotOf (ps e) 11 = none := by rw [hps]; intro e; rfl
              have k68 : ∀ e, slotOf (ps e) 68 = some (0, u10) := by rw [hps]; intro e; rfl
              have q68 : ∀ e, keysOK (ps e) 0 68 = true := by rw [hps]; intro e; rfl
              have k69 : ∀ e, slotOf (ps e) 69 = some (1, .agg #[.int .i64 n.s, .int .i64 n.i, .int .i64 n.t]) := by rw [hps]; intro e; rfl
              have q69 : ∀ e, keysOK (ps e) 1 69 = true := by rw [hps]; intro e; rfl
              have k70 : ∀ e, slotOf (ps e) 70 = some (2, .slice (some ⟨bb, bo, none⟩) bs.length bc) := by rw [hps]; intro e; rfl
              have q70 : ∀ e, keysOK (ps e) 2 70 = true := by rw [hps]; intro e; rfl
              have k71 : ∀ e, slotOf (ps e) 71 = some (3, .int .i64 (k : Int)) := by rw [hps]; intro e; rfl
              have q71 : ∀ e, keysOK (ps e) 3 71 = true := by rw [hps]; intro e; rfl
              have k72 : ∀ e, slotOf (ps e) 72 = some (4, .pointer (some ⟨bb, bo + k, none⟩)) := by rw [hps]; intro e; rfl
              have q72 : ∀ e, keysOK (ps e) 4 72 = true := by rw [hps]; intro e; rfl
              have k73 : ∀ e, slotOf (ps e) 73 = some (5, .int .i64 b) := by rw [hps]; intro e; rfl
              have q73 : ∀ e, keysOK (ps e) 5 73 = true := by rw [hps]; intro e; rfl
              have k74 : ∀ e, slotOf (ps e) 74 = some (6, .int .i64 (k : Int)) := by rw [hps]; intro e; rfl
              have q74 : ∀ e, keysOK (ps e) 6 74 = true := by rw [hps]; intro e; rfl
              have k75 : ∀ e, slotOf (ps e) 75 = some (7, .int .i64 c) := by rw [hps]; intro e; rfl
              have q75 : ∀ e, keysOK (ps e) 7 75 = true := by rw [hps]; intro e; rfl
              have k76 : ∀ e, slotOf (ps e) 76 = some (8, .int .u8 c) := by rw [hps]; intro e; rfl
              have q76 : ∀ e, keysOK (ps e) 8 76 = true := by rw [hps]; intro e; rfl
              have k77 : ∀ e, slotOf (ps e) 77 = some (9, .agg #[.int .u8 c, .int .u8 0, .int .u8 0, .int .u8 0, .int .u8 0, .int .u8 0, .int .u8 0, .int .u8 0]) := by rw [hps]; intro e; rfl
              have q77 : ∀ e, keysOK (ps e) 9 77 = true := by rw [hps]; intro e; rfl
              have k78 : ∀ e, slotOf (ps e) 78 = some (10, .agg (snArr ⟨2, n, b, ⟨c, 0, 0, 0, 0, 0, 0, 0⟩, 0⟩)) := by rw [hps]; intro e; rfl
              have q78 : ∀ e, keysOK (ps e) 10 78 = true := by rw [hps]; intro e; rfl
              have k79 : ∀ e, slotOf (ps e) 79 = some (11, .agg #[.int .i64 n.s, .int .i64 n.i, .int .i64 n.t]) := by rw [hps]; intro e; rfl
              have q79 : ∀ e, keysOK (ps e) 11 79 = true := by rw [hps]; intro e; rfl
              have k80 : ∀ e, slotOf (ps e) 80 = some (12, .slice (some ⟨bb, bo, none⟩) bs.length bc) := by rw [hps]; intro e; rfl
              have q80 : ∀ e, keysOK (ps e) 12 80 = true := by rw [hps]; intro e; rfl
              have k81 : ∀ e, slotOf (ps e) 81 = some (13, .int .i64 (k : Int)) := by rw [hps]; intro e; rfl
              have q81 : ∀ e, keysOK (ps e) 13 81 = true := by rw [hps]; intro e; rfl
              have k82 : ∀ e, slotOf (ps e) 82 = some (14, .pointer (some ⟨bb, bo + k, none⟩)) := by rw [hps]; intro e; rfl
              have q82 : ∀ e, keysOK (ps e) 14 82 = true := by rw [hps]; intro e; rfl
              have k83 : ∀ e, slotOf (ps e) 83 = some (15, .int .i64 b) := by rw [hps]; intro e; rfl
              have q83 : ∀ e, keysOK (ps e) 15 83 = true := by rw [hps]; intro e; rfl
              have k84 : ∀ e, slotOf (ps e) 84 = some (16, .agg (snArr ⟨1, n, b, z0, 0⟩)) := by rw [hps]; intro e; rfl
              have q84 : ∀ e, keysOK (ps e) 16 84 = true := by rw [hps]; intro e; rfl
              have k85 : ∀ e, slotOf (ps e) 85 = some (17, .slice (some ⟨w0.heap.size, 0, none⟩) 2 2) := by rw [hps]; intro e; rfl
              have q85 : ∀ e, keysOK (ps e) 17 85 = true := by rw [hps]; intro e; rfl
              have k86 : ∀ e, slotOf (ps e) 86 = some (18, e) := by rw [hps]; intro e; rfl
              have q86 : ∀ e, keysOK (ps e) 18 86 = true := by rw [hps]; intro e; rfl
              have k10 : ∀ e, slotOf (ps e) 10 = some (19, e) := by rw [hps]; intro e; rfl
              have q10 : ∀ e, keysOK (ps e) 19 10 = true := by rw [hps]; intro e; rfl
              have h10u : a0.tmps[10]? = some u10 := by rw [ha0]; rfl
              clear ha0
              refine ⟨?_, ?_, ?_, ?_, ?_, ?_, ?_, ?_, ?_, ?_, ?_, ?_, ?_, ?_, ?_, ?_, ?_, ?_, ?_, ?_, trivial⟩
              · rintro L _ Wx ⟨e, rfl, hT⟩ hcl hk hd
                have hN : L 19 = false := by
                  cases hh : L 19 with
                  | false => rfl
                  | true =>
                    have h0 := hcl 19 _ rfl (by simp [hh])
                    simp [Region.binds] at h0
                    simp [hk] at h0
                rw [if_pos (by simp [Region.wanted])]
                refine op_value (v := u10) (w' := Wx) (by simp [execOp, go_sem, frame_late (k10 e) hN h10u]) ⟨e, frame_put (k68 _) (q68 _), ?_⟩
                simpa [upd] using hT
              · rintro L _ Wx ⟨e, rfl, hT⟩ hcl hk hd
                have hN : L 17 = false := by
                  cases hh : L 17 with
                  | false => rfl
                  | true =>
                    have h10 := hcl 17 _ rfl (by simp [hh])
                    simp [Region.binds] at h10
                    have h1 := hcl 10 _ rfl (by simp [h10])
                    simp [Region.binds] at h1
                    simp [hk] at h1
                rw [if_pos (by simp [Region.wanted])]
                refine op_value (v := .agg #[.int .i64 n.s, .int .i64 n.i, .int .i64 n.t]) (w' := Wx) (by simp [execOp, go_sem, frame_tout (n4 _) u4, hT.1 hN, m0, m1, m2]) ⟨e, frame_put (k69 _) (q69 _), ?_⟩
                simpa [upd] using hT
              · rintro L _ Wx ⟨e, rfl, hT⟩ hcl hk hd
                rw [if_pos (by simp [Region.wanted])]
                refine op_value (v := .slice (some ⟨bb, bo, none⟩) bs.length bc) (w' := Wx) (by simp [execOp, go_sem, frame_tout (n2 _) u2]) ⟨e, frame_put (k70 _) (q70 _), ?_⟩
                simpa [upd] using hT
              · rintro L _ Wx ⟨e, rfl, hT⟩ hcl hk hd
                rw [if_pos (by simp [Region.wanted])]
                refine op_value (v := .int .i64 (k : Int)) (w' := Wx) (by simp [execOp, go_sem, frame_tout (n11 _) u11]) ⟨e, frame_put (k71 _) (q71 _), ?_⟩
                simpa [upd] using hT
              · rintro L _ Wx ⟨e, rfl, hT⟩ hcl hk hd
                have hL2 : L 2 = true := by have h := hd; simp [Region.binds] at h; simp [h]
                have hL3 : L 3 = true := by have h := hd; simp [Region.binds] at h; simp [h]
                rw [if_pos (by simp [Region.wanted])]
                refine op_value (v := .pointer (some ⟨bb, bo + k, none⟩)) (w' := Wx) (by simp [execOp, go_sem, frame_tmp (k70 _) hL2 (Nat.lt_of_lt_of_eq (by decide : 70 < 121) hsz.symm), frame_tmp (k71 _) hL3 (Nat.lt_of_lt_of_eq (by decide : 71 < 121) hsz.symm), hkb]) ⟨e, frame_put (k72 _) (q72 _), ?_⟩
                simpa [upd] using hT
              · rintro L _ Wx ⟨e, rfl, hT⟩ hcl hk hd
                have hL4 : L 4 = true := by have h := hd; simp [Region.binds] at h; simp [h]
                have hN : L 17 = false := by
                  cases hh : L 17 with
                  | false => rfl
                  | true =>
                    have h10 := hcl 17 _ rfl (by simp [hh])
                    simp [Region.binds] at h10
                    have h5 := hcl 10 _ rfl (by simp [h10])
                    simp [Region.binds] at h5
                    simp [hk] at h5
                rw [if_pos (by simp [Region.wanted])]
                refine op_value (v := .int .i64 b) (w' := Wx) (by simp [execOp, go_sem, frame_tmp (k72 _) hL4 (Nat.lt_of_lt_of_eq (by decide : 72 < 121) hsz.symm), hT.1 hN, hb0]) ⟨e, frame_put (k73 _) (q73 _), ?_⟩
                simpa [upd] using hT
              · rintro L _ Wx ⟨e, rfl, hT⟩ hcl hk hd
                rw [if_pos (by simp [Region.wanted])]
                refine op_value (v := .int .i64 (k : Int)) (w' := Wx) (by simp [execOp, go_sem, frame_tout (n11 _) u11]) ⟨e, frame_put (k74 _) (q74 _), ?_⟩
                simpa [upd] using hT
              · rintro L _ Wx ⟨e, rfl, hT⟩ hcl hk hd
                have hL6 : L 6 = true := by have h := hd; simp [Region.binds] at h; simp [h]
                rw [if_pos (by simp [Region.wanted])]
                refine op_value (v := .int .i64 c) (w' := Wx) (by simp [execOp, go_sem, frame_tmp (k74 _) hL6 (Nat.lt_of_lt_of_eq (by decide : 74 < 121) hsz.symm), hw1]) ⟨e, frame_put (k75 _) (q75 _), ?_⟩
                simpa [upd] using hT
              · rintro L _ Wx ⟨e, rfl, hT⟩ hcl hk hd
                have hL7 : L 7 = true := by have h := hd; simp [Region.binds] at h; simp [h]
                rw [if_pos (by simp [Region.wanted])]
                refine op_value (v := .int .u8 c) (w' := Wx) (by simp [execOp, go_sem, frame_tmp (k75 _) hL7 (Nat.lt_of_lt_of_eq (by decide : 75 < 121) hsz.symm), hw2]) ⟨e, frame_put (k76 _) (q76 _), ?_⟩
                simpa [upd] using hT
              · rintro L _ Wx ⟨e, rfl, hT⟩ hcl hk hd
                have hL8 : L 8 = true := by have h := hd; simp [Region.binds] at h; simp [h]
                rw [if_pos (by simp [Region.wanted])]
                refine op_value (v := .agg #[.int .u8 c, .int .u8 0, .int .u8 0, .int .u8 0, .int .u8 0, .int .u8 0, .int .u8 0, .int .u8 0]) (w' := Wx) (by simp [execOp, go_sem, frame_tmp (k76 _) hL8 (Nat.lt_of_lt_of_eq (by decide : 76 < 121) hsz.symm)]) ⟨e, frame_put (k77 _) (q77 _), ?_⟩
                simpa [upd] using hT
              · rintro L _ Wx ⟨e, rfl, hT⟩ hcl hk hd
                have hL1 : L 1 = true := by have h := hd; simp [Region.binds] at h; simp [h]
                have hL5 : L 5 = true := by have h := hd; simp [Region.binds] at h; simp [h]
                have hL9 : L 9 = true := by have h := hd; simp [Region.binds] at h; simp [h]
                rw [if_pos (by simp [Region.wanted])]
                refine op_value (v := .agg (snArr ⟨2, n, b, ⟨c, 0, 0, 0, 0, 0, 0, 0⟩, 0⟩)) (w' := Wx) (by simp [execOp, go_sem, frame_tmp (k69 _) hL1 (Nat.lt_of_lt_of_eq (by decide : 69 < 121) hsz.symm), frame_tmp (k73 _) hL5 (Nat.lt_of_lt_of_eq (by decide : 73 < 121) hsz.symm), frame_tmp (k77 _) hL9 (Nat.lt_of_lt_of_eq (by decide : 77 < 121) hsz.symm), snArr]) ⟨e, frame_put (k78 _) (q78 _), ?_⟩
                simpa [upd] using hT
              · rintro L _ Wx ⟨e, rfl, hT⟩ hcl hk hd
                have hN : L 17 = false := by
                  cases hh : L 17 with
                  | false => rfl
                  | true =>
                    have h16 := hcl 17 _ rfl (by simp [hh])
                    simp [Region.binds] at h16
                    have h11 := hcl 16 _ rfl (by simp [h16])
                    simp [Region.binds] at h11
                    simp [hk] at h11
                rw [if_pos (by simp [Region.wanted])]
                refine op_value (v := .agg #[.int .i64 n.s, .int .i64 n.i, .int .i64 n.t]) (w' := Wx) (by simp [execOp, go_sem, frame_tout (n4 _) u4, hT.1 hN, m0, m1, m2]) ⟨e, frame_put (k79 _) (q79 _), ?_⟩
                simpa [upd] using hT
              · rintro L _ Wx ⟨e, rfl, hT⟩ hcl hk hd
                rw [if_pos (by simp [Region.wanted])]
                refine op_value (v := .slice (some ⟨bb, bo, none⟩) bs.length bc) (w' := Wx) (by simp [execOp, go_sem, frame_tout (n2 _) u2]) ⟨e, frame_put (k80 _) (q80 _), ?_⟩
                simpa [upd] using hT
              · rintro L _ Wx ⟨e, rfl, hT⟩ hcl hk hd
                rw [if_pos (by simp [Region.wanted])]
                refine op_value (v := .int .i64 (k : Int)) (w' := Wx) (by simp [execOp, go_sem, frame_tout (n11 _) u11]) ⟨e, frame_put (k81 _) (q81 _), ?_⟩
                simpa [upd] using hT
              · rintro L _ Wx ⟨e, rfl, hT⟩ hcl hk hd
                have hL12 : L 12 = true := by have h := hd; simp [Region.binds] at h; simp [h]
                have hL13 : L 13 = true := by have h := hd; simp [Region.binds] at h; simp [h]
                rw [if_pos (by simp [Region.wanted])]
                refine op_value (v := .pointer (some ⟨bb, bo + k, none⟩)) (w' := Wx) (by simp [execOp, go_sem, frame_tmp (k80 _) hL12 (Nat.lt_of_lt_of_eq (by decide : 80 < 121) hsz.symm), frame_tmp (k81 _) hL13 (Nat.lt_of_lt_of_eq (by decide : 81 < 121) hsz.symm), hkb]) ⟨e, frame_put (k82 _) (q82 _), ?_⟩
                simpa [upd] using hT
              · rintro L _ Wx ⟨e, rfl, hT⟩ hcl hk hd
                have hL14 : L 14 = true := by have h := hd; simp [Region.binds] at h; simp [h]
                have hN : L 17 = false := by
                  cases hh : L 17 with
                  | false => rfl
                  | true =>
                    have h16 := hcl 17 _ rfl (by simp [hh])
                    simp [Region.binds] at h16
                    have h15 := hcl 16 _ rfl (by simp [h16])
                    simp [Region.binds] at h15
                    simp [hk] at h15
                rw [if_pos (by simp [Region.wanted])]
                refine op_value (v := .int .i64 b) (w' := Wx) (by simp [execOp, go_sem, frame_tmp (k82 _) hL14 (Nat.lt_of_lt_of_eq (by decide : 82 < 121) hsz.symm), hT.1 hN, hb0]) ⟨e, frame_put (k83 _) (q83 _), ?_⟩
                simpa [upd] using hT
              · rintro L _ Wx ⟨e, rfl, hT⟩ hcl hk hd
                have hL11 : L 11 = true := by have h := hd; simp [Region.binds] at h; simp [h]
                have hL15 : L 15 = true := by have h := hd; simp [Region.binds] at h; simp [h]
                rw [if_pos (by simp [Region.wanted])]
                refine op_value (v := .agg (snArr ⟨1, n, b, z0, 0⟩)) (w' := Wx) (by simp [execOp, go_sem, frame_tmp (k79 _) hL11 (Nat.lt_of_lt_of_eq (by decide : 79 < 121) hsz.symm), frame_tmp (k83 _) hL15 (Nat.lt_of_lt_of_eq (by decide : 83 < 121) hsz.symm), snArr, z0]) ⟨e, frame_put (k84 _) (q84 _), ?_⟩
                simpa [upd] using hT
              · rintro L _ Wx ⟨e, rfl, hT⟩ hcl hk hd
                have hL10 : L 10 = true := by have h := hd; simp [Region.binds] at h; simp [h]
                have hL16 : L 16 = true := by have h := hd; simp [Region.binds] at h; simp [h]
                rw [if_pos (by simp [Region.wanted])]
                have hN18 : L 18 = false := by
                  cases hh : L 18 with
                  | false => rfl
                  | true =>
                    have hx := hcl 18 _ rfl (by simp [hh])
                    simp [Region.binds] at hx
                    simp [hk] at hx
                rw [hT.1 hk]
                refine op_value (v := .slice (some ⟨w0.heap.size, 0, none⟩) 2 2) (w' := w0.alloc (.cells (snArr ⟨2, n, b, ⟨c, 0, 0, 0, 0, 0, 0, 0⟩, 0⟩ ++ snArr ⟨1, n, b, z0, 0⟩) 36)) (by simp [execOp, frame_in (k78 _) hL10 (Nat.lt_of_lt_of_eq (by decide : 78 < 121) hsz.symm), frame_in (k84 _) hL16 (Nat.lt_of_lt_of_eq (by decide : 84 < 121) hsz.symm), run_build2s]) ⟨e, frame_put (k85 _) (q85 _), ?_⟩
                simpa [upd, hN18] using ApT.laid
              · rintro L _ Wx ⟨e, rfl, hT⟩ hcl hk hd
                have hL0 : L 0 = true := by have h := hd; simp [Region.binds] at h; simp [h]
                have hL17 : L 17 = true := by have h := hd; simp [Region.binds] at h; simp [h]
                rw [if_pos (by simp [Region.wanted])]
                have hN19 : L 19 = false := by
                  cases hh : L 19 with
                  | false => rfl
                  | true =>
                    have hx := hcl 19 _ rfl (by simp [hh])
                    simp [Region.binds] at hx
                    simp [hk] at hx
                have hW := hT.2.1 hL17 hk
                have hown1 : Wx.ownsRow w3.heap.size 36 14 u10 ml fl := by rw [hW]; exact hown0.alloc _
                have hnew : Wx.heap[w0.heap.size]? = some (.cells (snArr ⟨2, n, b, ⟨c, 0, 0, 0, 0, 0, 0, 0⟩, 0⟩ ++ snArr ⟨1, n, b, z0, 0⟩) 36 (0, 0)) := by rw [hW]; exact heap_alloc_new w0 _
                have hbx : Below w3.heap.size w3 Wx := by rw [hW]; exact hbw0.alloc hbw0.size _
                refine wp_append_own _ (.tmp 68) (.tmp 85) 25 rfl w3.heap.size 36 i0 (.agg (snArr sz)) 14 56 Try.underlying25 hi hz0 hz1 hz2 rfl (by decide) u10 ml fl (by rw [frame_in (k68 e) hL0 (Nat.lt_of_lt_of_eq (by decide : 68 < 121) hsz.symm)]) hown1 ⟨w0.heap.size, 0, none⟩ 2 2 (Sn.cells ⟨2, n, b, ⟨c, 0, 0, 0, 0, 0, 0, 0⟩, 0⟩ ++ Sn.cells ⟨1, n, b, z0, 0⟩) (by rw [frame_in (k85 e) hL17 (Nat.lt_of_lt_of_eq (by decide : 85 < 121) hsz.symm)]) rfl (fun j u hu => by rw [addr_add, cell_of_row Wx _ _ _ 36 (0, 0) hnew, snArr_get2]; exact hu) (by intro u hu; rcases List.mem_append.1 hu with h | h; exact Sn.cells_one _ u h; exact Sn.cells_one _ u h) (by unfold maxLen; omega) (by omega) hbx.size ?_
                intro v' w' hown hg _
                refine ⟨v', ?_, ?_⟩
                · rw [← frame_put (k86 v') (q86 v')]
                  congr 1
                  rw [hps]
                  exact frame_swap (.cons (fun _ => rfl) (.cons (fun _ => rfl) (.cons (fun _ => rfl) (.cons (fun _ => rfl) (.cons (fun _ => rfl) (.cons (fun _ => rfl) (.cons (fun _ => rfl) (.cons (fun _ => rfl) (.cons (fun _ => rfl) (.cons (fun _ => rfl) (.cons (fun _ => rfl) (.cons (fun _ => rfl) (.cons (fun _ => rfl) (.cons (fun _ => rfl) (.cons (fun _ => rfl) (.cons (fun _ => rfl) (.cons (fun _ => rfl) (.cons (fun _ => rfl) (.cons (fun h => by simp [hk] at h) (.cons (fun h => by simp [hN19] at h) .nil))))))))))))))))))))
                · simpa [upd, hL17] using ApT.done (w0 := w0) ⟨hown, hbx.grown hg hbx.size (fun k ek => (hown1.lt k ek).1)⟩
              · rintro L _ Wx ⟨e, rfl, hT⟩ hcl hk hd
                have hL18 : L 18 = true := by have h := hd; simp [Region.binds] at h; simp [h]
                rw [if_pos (by simp [Region.wanted])]
                refine op_value (v := e) (w' := Wx) (by simp [execOp, go_sem, frame_tmp (k86 _) hL18 (Nat.lt_of_lt_of_eq (by decide : 86 < 121) hsz.symm)]) ⟨e, frame_put (k10 _) (q10 _), ?_⟩
                simpa [upd] using hT
            · rintro e L W' hT hall
              have hA18 : L 18 = true := hall 18 (by simp)
              simp only [putAll, Act.put, List.setIfInBounds_toArray, List.set_cons_succ, List.set_cons_zero]
              obtain ⟨hown, hbw⟩ := hT.2.2 hA18
              have HO := Lib.hid hown
              have HBW := Lib.hid hbw
              clear hT hall hown hbw hown0 hbw0 m0 m1 m2 hb0 hkb hw1 hw2
              go_wp2_with fail
              go_roundw
              case rel =>
                refine ⟨k + 1, by have := HLT.out; omega, by go_num, HBW.out, ?_, fun i y h hy => ?_⟩
                · rw [extQ_take HBB.out, ← List.append_assoc]
                  have h1 := HO.out
                  rw [← HML2.out, ← HFL.out, HC.out] at h1
                  rw [List.length_append, List.flatMap_append]
                  simpa [twoP] using h1
                · rcases Nat.lt_or_ge i k with h' | h'
                  · exact HBR.out i y h' hy
                  · obtain rfl : i = k := by omega
                    rw [HBB.out] at hy
                    cases hy
                    exact HBRG.out
              case measure => have := HLT.out; simp [intOf]; omega
          · obtain rfl : k = bs.length := by omega
            have hmv : Sns wr.heap.size wr u10 (l ++ [bgn n] ++ extQ n bs 0) := by
              have h1 := HO.out
              rw [List.take_length] at h1
              exact rows_of_owns (enc := Sn.cells) (k := 14) (fun _ => rfl) h1
            have hown : wr.ownsRow w3.heap.size 36 14 u10 (l ++ [bgn n] ++ extQ n bs 0).length ((l ++ [bgn n] ++ extQ n bs 0).flatMap Sn.cells) := by
              have h1 := HO.out
              rwa [List.take_length] at h1
            have hml := HML.out
            rw [List.take_length] at hml
            have hbr : ∀ b ∈ bs, 0 ≤ b ∧ b < 32 := fun b hb => by
              obtain ⟨i, hi⟩ := List.getElem?_of_mem hb
              exact HBR.out i b (List.getElem?_eq_some_iff.1 hi).1 hi
            obtain ⟨g1, g2, g3⟩ := grow_law HNONE.out hbr
            have hm : l ++ (⟨0, n, 0, z0, 0⟩ : Sn) :: extP n bs 0 = (l ++ [bgn n] ++ extQ n bs 0) ++ [cmt n] := by
              rw [extP_split]; simp [bgn, cmt]
            rw [hm] at g1 g2 g3
            generalize l ++ [bgn n] ++ extQ n bs 0 = mm at *
            have hx9 := (HB.out.block _ (lt_of_heap HX3.out)).trans HX3.out
            have m0 : wr.cell? ⟨w.heap.size, 0, none⟩ = some (.int .i64 n.s) := by rw [cell_of_row wr _ _ _ 34 (0, 0) hx9]; rfl
            have m1 : wr.cell? ⟨w.heap.size, 1, none⟩ = some (.int .i64 n.i) := by rw [cell_of_row wr _ _ _ 34 (0, 0) hx9]; rfl
            have m2 : wr.cell? ⟨w.heap.size, 2, none⟩ = some (.int .i64 n.t) := by rw [cell_of_row wr _ _ _ 34 (0, 0) hx9]; rfl
            have HMM := Lib.hid (And.intro g1 (And.intro g2 g3))
            have HOW := Lib.hid hown
            have HX9 := Lib.hid hx9
            have HMLL := Lib.hid hml
            clear hmv hown hbr g1 g2 g3 hm HO HBR HML hx9
            go_upto_region 16 with (fail)
            go_wp2_with (at_builtin; refine wpList_append_own _ rfl (.tmp 87) (.tmp 90) 25 rfl w3.heap.size 36 i0 (.agg (snArr sz)) 14 56 Try.underlying25 hi hz0 hz1 hz2 rfl (by decide) u10 mm.length (mm.flatMap Sn.cells) rfl (HOW.out.alloc _) ⟨wr.heap.size, 0, none⟩ 1 1 (Sn.cells (cmt n)) rfl rfl (cells_new wr (Sn.cells (cmt n)) 36) (Sn.cells_one _) (by unfold maxLen; omega) (by omega) (by have := HB.out.size; simp; omega) ?_; intro v5 w5 hown5 hg5 _)
            have hb5 : Below w3.heap.size w3 w5 := (HB.out.alloc HB.out.size _).grown hg5 (by have := HB.out.size; simp; omega) (fun k e => (HOW.out.lt k e).1)
            have hown6 : w5.ownsRow w3.heap.size 36 14 v5 (mm ++ [cmt n]).length ((mm ++ [cmt n]).flatMap Sn.cells) := by simpa using hown5
            obtain ⟨a5, c5, rfl⟩ := ownsRow_slice hown5
            have hmv5 : Sns w5.heap.size w5 (.slice a5 (mm.length + 1) c5) (mm ++ [cmt n]) := rows_of_owns (enc := Sn.cells) (k := 14) (fun _ => rfl) hown6
            have HC5 := Lib.hid (wrong_gen (mm ++ [cmt n]) _ w5 (by rw [List.length_append, List.length_singleton]; omega) hmv5)
            have HB5 := Lib.hid hb5
            have hln : (fsP (mm ++ [cmt n])).length ≤ 10000000000 := fsP_length (by rw [List.length_append, List.length_singleton]; omega)
            have hln2 : (fsP l).length ≤ 10000000000 := fsP_length (by omega)
            have HLN := Lib.hid (And.intro hln hln2)
            clear hb5 hown5 hown6 hg5 hmv5 hln hln2
            generalize hfin : mm ++ [cmt n] = fin at *
            clear hfin
            go_wp2_with fail
            refine HC5.out.mono ?_
            rintro e w6 ⟨⟨ga, gc, rfl, hfr6⟩, b6⟩
            have HB6 := Lib.hid (HB5.out.trans (b6.mono HB5.out.size))
            have HFR6 := Lib.hid hfr6
            have hx6 := (HB6.out.block _ (lt_of_heap HX3.out)).trans HX3.out
            clear m0 m1 m2 hfr6 b6
            have m0 : w6.cell? ⟨w.heap.size, 0, none⟩ = some (.int .i64 n.s) := by rw [cell_of_row w6 _ _ _ 34 (0, 0) hx6]; rfl
            have m1 : w6.cell? ⟨w.heap.size, 1, none⟩ = some (.int .i64 n.i) := by rw [cell_of_row w6 _ _ _ 34 (0, 0) hx6]; rfl
            have m2 : w6.cell? ⟨w.heap.size, 2, none⟩ = some (.int .i64 n.t) := by rw [cell_of_row w6 _ _ _ 34 (0, 0) hx6]; rfl
            clear hx6
            go_wp2_with fail
            refine (named32_any n w6).mono ?_
            rintro e w7 ⟨rfl, b7⟩
            have HB7 := Lib.hid (HB6.out.trans (b7.mono HB6.out.size))
            have HFR7 := Lib.hid (HFR6.out.below b7)
            clear b7 HFR6 m0 m1 m2
            cases hg : n.good with
            | false =>
              have e1 : erP fin = 2 := by simp [erP, HMM.out.1 hg]
              have e2 : fsP fin = [] := by simp [fsP, HMM.out.1 hg]
              have HE := Lib.hid (And.intro e1 e2)
              clear hg e1 e2
              have e3 : (fsP fin).length = 0 := by rw [HE.out.2]; rfl
              rw [HE.out.1, e3]
              clear e3
              go_wp2_with fail
              refine (wakes32_any _).mono ?_
              rintro e w8 ⟨rfl, b8⟩
              have HB8 := Lib.hid (HB7.out.trans (b8.mono HB7.out.size))
              clear b8
              go_wp2_with fail
              go_ret
              exact ⟨rfl, HB3.out.trans (HB8.out.mono HB3.out.size)⟩
            | true =>
              have hmay := HMM.out.2.1 hg
              have e1 : erP fin = erP l := by simp [erP, hmay]
              have e2 : fsP fin = fsP l := by simp [fsP, hmay, HMM.out.2.2]
              have HE := Lib.hid (And.intro e1 e2)
              clear hg e1 e2 hmay
              have e_er : (erP l == erP l) = true := by simp
              have hfr7 := HFR7.out
              rw [HE.out.2] at hfr7
              have HS := Lib.hid (same33_any (fsP l) (fsP l) _ _ w7 HLN.out.2 (HFR3.out.below HB7.out) hfr7)
              clear hfr7
              rw [HE.out.1, HE.out.2]
              generalize erP l = er at *
              go_wp2_with fail
              refine HS.out.mono ?_
              rintro e w8 ⟨rfl, b8⟩
              have HB8 := Lib.hid (HB7.out.trans (b8.mono HB7.out.size))
              clear b8 HS
              go_wp2_with fail
              refine (wakes32_any _).mono ?_
              rintro e w9 ⟨rfl, b9⟩
              have HB9 := Lib.hid (HB8.out.trans (b9.mono HB8.out.size))
              clear b9
              go_wp2_with fail
              go_ret
              exact ⟨rfl, HB3.out.trans (HB9.out.mono HB3.out.size)⟩

theorem grow_any (l : List Sn) (v : Value) (n : Nm) (bs : List Int) (bv : Value) (w : World) (hv : Sns w.heap.size w v l) (hbv : Rows (fun i : Int => [intV i]) 1 w.heap.size w bv bs) : Calls Try.prog 9 #[v, .agg #[.int .i64 n.s, .int .i64 n.i, .int .i64 n.t], bv] w fun e w' => e = .returned (.bool true) ∧ Below w.heap.size w w' := by
  by_cases h : 250 < l.length ∨ 20 < bs.length
  · exact grow_bad l v n bs bv w hv hbv h
  · exact grow_go l v n bs bv w hv hbv (by omega) (by omega)

end Go.Proofs.Ytgdmgeihgkbjaaa
