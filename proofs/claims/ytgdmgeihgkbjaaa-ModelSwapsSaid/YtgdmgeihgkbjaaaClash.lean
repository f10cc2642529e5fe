/- 'model.Clash' -/
import Derived.Test.YtgdmgeihgkbjaaaMarks
namespace Go.Proofs.Ytgdmgeihgkbjaaa
open Go.RowKit Go.Shelf

def andL (x y : List Bool) : List Bool := List.zipWith (fun a b => a && b) x y
def meetL (x y : List Int) : Bool := !decide (andL (mkL x) (mkL y) = noB)
theorem andL_length {x y : List Bool} (hx : x.length = 32) (hy : y.length = 32) : (andL x y).length = 32 := by simp [andL, hx, hy]

theorem owns_below {w W : World} {base : Nat} {e : TypeId} {size n : Nat} {v : Value} {xs : List Value} (h : w.ownsRow base e size v n xs) (hb : Below w.heap.size w W) : W.ownsRow base e size v n xs :=
  h.kept (grownBy_of_below (row := some w.heap.size) hb) (.inr (fun e => by have := (h.lt _ e).2; omega))

set_option maxRecDepth 100000 in
set_option maxHeartbeats 2000000 in
theorem meet_any (x y : List Int) (vx vy : Value) (base B0 : Nat) (w : World) (hx : x.length ≤ 32) (hy : y.length ≤ 32) (ox : w.ownsRow base 3 1 vx x.length (intsC x)) (oy : w.ownsRow base 3 1 vy y.length (intsC y))
    (rx : ∀ k ∈ x, 0 ≤ k ∧ k < 32) (ry : ∀ k ∈ y, 0 ≤ k ∧ k < 32) (h0 : w.heap[B0]? = some (.cells (bArr noB) 77 (0, 0))) :
    Calls Try.prog 47 #[vx, vy, .pointer (some ⟨B0, 0, none⟩)] w fun e w' => e = .returned (.bool (meetL x y)) ∧ Below w.heap.size w w' := by
  have hm1 := marks_any x vx base w hx ox rx
  have hlx := mkL_length x
  have hly := mkL_length y
  have HM : Hid (meetL x y = !decide (andL (mkL x) (mkL y) = noB)) := rfl
  have OY := Lib.hid oy
  have RY := Lib.hid ry
  have H0 := Lib.hid h0
  generalize hmx : mkL x = mx at hm1 hlx HM
  clear ox oy rx ry h0 hmx
  go_enter Try.func47, Try.ntmps47
  go_wp2_with fail
  refine hm1.mono ?_
  rintro e w1 ⟨rfl, hb1⟩
  clear hm1
  go_wp2_with fail
  refine (marks_any y vy base w1 hy (owns_below OY.out hb1) RY.out).mono ?_
  rintro e w2 ⟨rfl, hb2⟩
  generalize mkL y = my at hly HM
  have hb2' := hb1.trans (hb2.mono hb1.size)
  clear hb1 hb2
  go_wp2_with (first | (refine wpList_store rfl 77 (.tmp 6) (.tmp 10) rfl ⟨w2.heap.size, 0, none⟩ rfl (.agg (bArr mx)) rfl (st_ball (m := noB) mx (heap_alloc2_old w2 _ _) (by rfl) hlx) ?_) | (refine wpList_store rfl 77 (.tmp 7) (.tmp 12) rfl ⟨w2.heap.size + 1, 0, none⟩ rfl (.agg (bArr my)) rfl (st_ball (m := noB) my (cells_turn (heap_alloc2_new w2 _ _) (grownBy_setRow _ _ _) (by omega)) (by rfl) hly) ?_))
  show Code.wp _ _ _ _ ((((w2.alloc (.cells (bArr noB) 77)).alloc (.cells (bArr noB) 77)).setRow w2.heap.size (bArr mx)).setRow (w2.heap.size + 1) (bArr my))
  have hg6 := grownBy_setRow ((w2.alloc (.cells (bArr noB) 77)).alloc (.cells (bArr noB) 77)) w2.heap.size (bArr mx)
  have hg7 := grownBy_setRow (((w2.alloc (.cells (bArr noB) 77)).alloc (.cells (bArr noB) 77)).setRow w2.heap.size (bArr mx)) (w2.heap.size + 1) (bArr my)
  have g0 : w2.heap[B0]? = some (.cells (bArr noB) 77 (0, 0)) := (hb2'.block _ (lt_of_heap H0.out)).trans H0.out
  have hlt0 : B0 < w2.heap.size := lt_of_heap g0
  have hA : Below w.heap.size w ((w2.alloc (.cells (bArr noB) 77)).alloc (.cells (bArr noB) 77)) := (hb2'.alloc hb2'.size _).alloc (by have := hb2'.size; simp; omega) _
  have hB4 := (hA.grown hg6 hA.size (fun k e => by cases e; exact hb2'.size)).grown hg7 (by have := hA.size; simp at this ⊢; omega) (fun k e => by cases e; have := hb2'.size; omega)
  have g6 := cells_turn (setRow_heap _ w2.heap.size _ (bArr mx) 77 _ (heap_alloc2_old w2 (.cells (bArr noB) 77) (.cells (bArr noB) 77))) hg7 (by omega)
  have g7 := setRow_heap (((w2.alloc (.cells (bArr noB) 77)).alloc (.cells (bArr noB) 77)).setRow w2.heap.size (bArr mx)) (w2.heap.size + 1) _ (bArr my) 77 _ (cells_turn (heap_alloc2_new w2 (.cells (bArr noB) 77) (.cells (bArr noB) 77)) hg6 (by omega))
  have g0' := cells_turn (cells_turn ((Below.heap_alloc _ _ _ (by simp; omega)).trans ((Below.heap_alloc w2 (.cells (bArr noB) 77) _ hlt0).trans g0)) hg6 (by omega)) hg7 (by omega)
  generalize (((w2.alloc (.cells (bArr noB) 77)).alloc (.cells (bArr noB) 77)).setRow w2.heap.size (bArr mx)).setRow (w2.heap.size + 1) (bArr my) = w4 at hB4 g6 g7 g0'
  have hlt6 : w.heap.size ≤ w2.heap.size := hb2'.size
  clear hA hg6 hg7 g0 hb2'
  generalize w2.heap.size = B6 at g6 g7 hlt0 hlt6
  go_loopw [13] (fun i wr => ∃ (q : Nat) (cur : List Bool), q ≤ 32 ∧ i = .int .i64 q ∧ cur.length = 32 ∧ (∀ k, cur[k]? = if k < q then (andL mx my)[k]? else mx[k]?) ∧ wr.heap[B6]? = some (.cells (bArr cur) 77 (0, 0)) ∧ wr.heap[B6 + 1]? = some (.cells (bArr my) 77 (0, 0)) ∧ wr.heap[B0]? = some (.cells (bArr noB) 77 (0, 0)) ∧ Below w.heap.size w wr) (fun i _ => 32 - (intOf i).toNat)
  case atStart => exact ⟨0, mx, Nat.zero_le _, rfl, hlx, fun k => by simp, g6, g7, g0', hB4⟩
  case round =>
    obtain ⟨q, cur, hq, rfl, hcl, hF, k6, k7, k0, hB⟩ := hrel
    have HF := Lib.hid hF
    have K6 := Lib.hid k6
    have K7 := Lib.hid k7
    have K0 := Lib.hid k0
    have HB := Lib.hid hB
    clear hF k6 k7 k0 hB g6 g7 g0' hB4
    by_cases hlt : q < 32
    · have hcx : cur[q]? = mx[q]? := by have := HF.out q; simpa using this
      obtain ⟨bx, hbx⟩ : ∃ b, mx[q]? = some b := ⟨_, List.getElem?_eq_getElem (by omega)⟩
      obtain ⟨by', hby⟩ : ∃ b, my[q]? = some b := ⟨_, List.getElem?_eq_getElem (by omega)⟩
      have hand : (andL mx my)[q]? = some (bx && by') := by rw [andL, List.getElem?_zipWith, hbx, hby]
      have HN : Hid (∀ k, (cur.set q (bx && by'))[k]? = if k < q + 1 then (andL mx my)[k]? else mx[k]?) := by
        intro k
        by_cases hk : k = q
        · subst hk
          rw [List.getElem?_set_self (by omega), if_pos (by omega), hand]
        · rw [List.getElem?_set_ne (fun e => hk e.symm), HF.out k]
          by_cases h1 : k < q
          · rw [if_pos h1, if_pos (by omega)]
          · rw [if_neg h1, if_neg (by omega)]
      have c1 := ld_b K6.out (hcx.trans hbx)
      have c2 := ld_b K7.out hby
      have hj : q < cur.length := by omega
      have hg := grownBy_setRow wr B6 (bArr (cur.set q (bx && by')))
      have HG := Lib.hid hg
      have HLT := Lib.hid hlt0
      clear hcx hbx hby hand hg hlt0
      cases bx
      · go_wp2_with (refine wpList_store rfl 4 (.tmp 25) (.tmp 24) rfl ⟨B6, q, none⟩ rfl (.bool false) rfl (st_b false K6.out hj) ?_)
        go_roundw
        case rel => exact ⟨q + 1, cur.set q false, by omega, by go_num, by simpa using hcl, HN.out, setRow_heap wr _ _ _ 77 _ K6.out, cells_turn K7.out HG.out (by omega), cells_turn K0.out HG.out (by have := HLT.out; omega), HB.out.grown HG.out HB.out.size (fun k e => by cases e; exact hlt6)⟩
        case measure => simp [intOf]; omega
      · go_wp2_with (refine wpList_store rfl 4 (.tmp 25) (.tmp 24) rfl ⟨B6, q, none⟩ rfl (.bool by') rfl (st_b by' K6.out hj) ?_)
        go_roundw
        case rel => exact ⟨q + 1, cur.set q by', by omega, by go_num, by simpa using hcl, by simpa using HN.out, setRow_heap wr _ _ _ 77 _ K6.out, cells_turn K7.out HG.out (by omega), cells_turn K0.out HG.out (by have := HLT.out; omega), HB.out.grown HG.out HB.out.size (fun k e => by cases e; exact hlt6)⟩
        case measure => simp [intOf]; omega
    · have hfin : cur = andL mx my := by
        apply List.ext_getElem?
        intro k
        rw [HF.out k]
        by_cases hk : k < q
        · rw [if_pos hk]
        · rw [if_neg hk, List.getElem?_eq_none (by omega), List.getElem?_eq_none (by rw [andL_length hlx hly]; omega)]
      have HFI := Lib.hid hfin
      have hneq := neq_b (s := cur) (t := noB) hcl (by rfl)
      clear hfin
      go_wp2_with (first | (refine wpList_load rfl 77 (.tmp 6) rfl ⟨B6, 0, none⟩ rfl (.agg (bArr cur)) (ld_ball K6.out hcl) ?_) | (refine wpList_load rfl 77 (.tmp 2) rfl ⟨B0, 0, none⟩ rfl (.agg (bArr noB)) (ld_ball K0.out (by rfl)) ?_))
      go_ret
      exact ⟨by rw [HM.out, HFI.out]; rfl, HB.out⟩

theorem upTo_range {f : Int → Bool} {q : Nat} {k : Int} (h : k ∈ upTo f q) : 0 ≤ k ∧ k < q := by
  unfold upTo at h
  simp only [List.mem_filter, List.mem_map, List.mem_range] at h
  obtain ⟨⟨i, hi, rfl⟩, _⟩ := h
  omega

theorem writesL_range {l : List Sn} : ∀ k ∈ writesL l, 0 ≤ k ∧ k < 32 := fun _ h => upTo_range h
theorem readsL_range {l : List Sn} : ∀ k ∈ readsL l, 0 ≤ k ∧ k < 32 := fun _ h => upTo_range h

def clashL (x y : List Sn) : Bool := meetL (writesL x) (writesL y) || meetL (writesL x) (readsL y) || meetL (readsL x) (writesL y)

/-- Two rows are told, then whether they meet. -/
theorem pair_any {f : FuncId} {fx : List Sn → List Int} (hf : ∀ (l : List Sn) (v : Value) (w : World), l.length ≤ 100000 → Sns w.heap.size w v l → Calls Try.prog f #[v] w fun e w' => ∃ vw, e = .returned vw ∧ w'.ownsRow w.heap.size 3 1 vw (fx l).length (intsC (fx l)) ∧ Below w.heap.size w w')
    (l : List Sn) (v : Value) (w0 w : World) (hl : l.length ≤ 100000) (hv : Sns w0.heap.size w0 v l) (hb : Below w0.heap.size w0 w) :
    Calls Try.prog f #[v] w fun e w' => ∃ vw, e = .returned vw ∧ w'.ownsRow w0.heap.size 3 1 vw (fx l).length (intsC (fx l)) ∧ Below w0.heap.size w0 w' ∧ Below w.heap.size w w' :=
  (hf l v w hl ((hv.below hb).mono hb.size)).mono fun _ _ ⟨vw, he, ho, hb'⟩ => ⟨vw, he, ho.mono hb.size, hb.trans (hb'.mono hb.size), hb'⟩

set_option maxRecDepth 100000 in
set_option maxHeartbeats 2000000 in
theorem clash_any (x y : List Sn) (vx vy : Value) (w : World) (hx : x.length ≤ 100000) (hy : y.length ≤ 100000) (sx : Sns w.heap.size w vx x) (sy : Sns w.heap.size w vy y) :
    Calls Try.prog 18 #[vx, vy] w fun e w' => e = .returned (.bool (clashL x y)) ∧ Below w.heap.size w w' := by
  have hb0 := below_alloc1 (w := w) (.cells (bArr noB) 77)
  have h0 := heap_alloc_new w (.cells (bArr noB) 77)
  have SX := Lib.hid ((sx.below hb0).mono hb0.size)
  have SY := Lib.hid ((sy.below hb0).mono hb0.size)
  have HC : Hid (clashL x y = (meetL (writesL x) (writesL y) || meetL (writesL x) (readsL y) || meetL (readsL x) (writesL y))) := rfl
  have H0 := Lib.hid h0
  have HB0 := Lib.hid hb0
  clear sx sy h0 hb0
  go_enter Try.func18, Try.ntmps18
  go_wp2_with fail
  show Calls _ _ _ (w.alloc (.cells (bArr noB) 77)) _
  have hlt : w.heap.size < (w.alloc (.cells (bArr noB) 77)).heap.size := by simp
  have HLT := Lib.hid hlt
  clear hlt
  generalize w.alloc (.cells (bArr noB) 77) = w0 at SX SY H0 HB0 HLT
  refine (pair_any writes_any x vx w0 w0 hx SX.out (Below.refl _ _)).mono ?_
  rintro e w1 ⟨v1, rfl, o1, b1, _⟩
  go_wp2_with fail
  refine (pair_any writes_any y vy w0 w1 hy SY.out b1).mono ?_
  rintro e w2 ⟨v2, rfl, o2, b2, c2⟩
  have o12 := owns_below o1 c2
  clear o1 b1 c2
  go_wp2_with fail
  refine (meet_any (writesL x) (writesL y) v1 v2 w0.heap.size w.heap.size w2 (upTo_length _ _) (upTo_length _ _) o12 o2 writesL_range writesL_range ((b2.block _ HLT.out).trans H0.out)).mono ?_
  rintro e w3 ⟨rfl, b3⟩
  have b03 := b2.trans (b3.mono b2.size)
  clear o12 o2 b2 b3
  generalize meetL (writesL x) (writesL y) = m1 at HC ⊢
  cases m1
  · go_wp2_with fail
    refine (pair_any writes_any x vx w0 w3 hx SX.out b03).mono ?_
    rintro e w4 ⟨v4, rfl, o4, b4, _⟩
    clear b03
    go_wp2_with fail
    refine (pair_any reads_any y vy w0 w4 hy SY.out b4).mono ?_
    rintro e w5 ⟨v5, rfl, o5, b5, c5⟩
    have o45 := owns_below o4 c5
    clear o4 b4 c5
    go_wp2_with fail
    refine (meet_any (writesL x) (readsL y) v4 v5 w0.heap.size w.heap.size w5 (upTo_length _ _) (upTo_length _ _) o45 o5 writesL_range readsL_range ((b5.block _ HLT.out).trans H0.out)).mono ?_
    rintro e w6 ⟨rfl, b6⟩
    have b06 := b5.trans (b6.mono b5.size)
    clear o45 o5 b5 b6
    generalize meetL (writesL x) (readsL y) = m2 at HC ⊢
    cases m2
    · go_wp2_with fail
      refine (pair_any reads_any x vx w0 w6 hx SX.out b06).mono ?_
      rintro e w7 ⟨v7, rfl, o7, b7, _⟩
      clear b06
      go_wp2_with fail
      refine (pair_any writes_any y vy w0 w7 hy SY.out b7).mono ?_
      rintro e w8 ⟨v8, rfl, o8, b8, c8⟩
      have o78 := owns_below o7 c8
      clear o7 b7 c8
      go_wp2_with fail
      refine (meet_any (readsL x) (writesL y) v7 v8 w0.heap.size w.heap.size w8 (upTo_length _ _) (upTo_length _ _) o78 o8 readsL_range writesL_range ((b8.block _ HLT.out).trans H0.out)).mono ?_
      rintro e w9 ⟨rfl, b9⟩
      have b09 := HB0.out.trans ((b8.trans (b9.mono b8.size)).mono (Nat.le_of_lt HLT.out))
      clear o78 o8 b8 b9
      generalize meetL (readsL x) (writesL y) = m3 at HC ⊢
      go_wp2_with fail
      go_ret
      exact ⟨by rw [HC.out]; rfl, b09⟩
    · go_wp2_with fail
      go_ret
      exact ⟨by rw [HC.out]; rfl, HB0.out.trans (b06.mono (Nat.le_of_lt HLT.out))⟩
  · go_wp2_with fail
    go_ret
    exact ⟨by rw [HC.out]; rfl, HB0.out.trans (b03.mono (Nat.le_of_lt HLT.out))⟩

end Go.Proofs.Ytgdmgeihgkbjaaa
