/- 'model.Fill' -/
import Derived.Test.YtgdmgeihgkbjaaaState
import Derived.Test.YtgdmgeihgkbjaaaSteps
namespace Go.Proofs.Ytgdmgeihgkbjaaa
open Go.RowKit Go.Shelf
attribute [local go_sem] Oper.semAt_some

def snZ : Value := .agg (snArr ⟨0, ⟨0, 0, 0⟩, 0, ⟨0, 0, 0, 0, 0, 0, 0, 0⟩, 0⟩)
theorem Try.info36z : (Try.prog.info? 36).map (fun i => (i.zero, i.size, i.bytes)) = some (some snZ, 14, 56) := by kernel_rfl

set_option maxHeartbeats 400000 in
/-- 'model.steps': the row is boxed; the function value captures the box. -/
theorem steps_any (v : Value) (w : World) (hv : ∃ a n c, v = .slice a n c) :
    Calls Try.prog 44 #[v] w fun e w' => e = .returned (.func (.func 66) #[] #[.pointer (some ⟨w.heap.size, 0, none⟩)]) ∧ w.alloc (.cells #[v] 25) = w' := by
  obtain ⟨a, n, c, rfl⟩ := hv
  go_enter Try.func44, Try.ntmps44
  go_wp2
  go_ret
  exact ⟨rfl, rfl⟩

def stepSt (s : List V8) (x : Sn) : List V8 := if x.k = 2 then s.set x.b.toNat x.v else s
def foldSt (s : List V8) (l : List Sn) : List V8 := l.foldl stepSt s
def fillX (s : List V8) (x : Sn) : Sn := if x.k = 2 then x else { x with v := s[x.b.toNat]?.getD ⟨0, 0, 0, 0, 0, 0, 0, 0⟩ }
def fillL : List V8 → List Sn → List Sn
  | _, [] => []
  | s, x :: r => fillX s x :: fillL (stepSt s x) r

theorem fillL_snoc : ∀ (l : List Sn) (s : List V8) (x : Sn), fillL s (l ++ [x]) = fillL s l ++ [fillX (foldSt s l) x]
  | [], _, _ => rfl
  | y :: l, s, x => by simp [fillL, foldSt, fillL_snoc l]

theorem foldSt_snoc (l : List Sn) (s : List V8) (x : Sn) : foldSt s (l ++ [x]) = stepSt (foldSt s l) x := by simp [foldSt]
theorem stepSt_length (s : List V8) (x : Sn) : (stepSt s x).length = s.length := by unfold stepSt; split <;> simp
theorem foldSt_length (l : List Sn) : ∀ (s : List V8), (foldSt s l).length = s.length := by
  induction l with
  | nil => intro s; rfl
  | cons x l ih => intro s; rw [foldSt, List.foldl_cons, ← foldSt, ih, stepSt_length]

theorem stepsOf_ok : ∀ (l : List Sn) (i : Nat) (p : Nat × Sn), p ∈ stepsOf l i → p.2.ok = true
  | [], _, _, h => by simp [stepsOf] at h
  | x :: l, i, p, h => by
    simp only [stepsOf] at h
    split at h
    · rcases List.mem_cons.1 h with rfl | h
      · assumption
      · exact stepsOf_ok l _ p h
    · exact stepsOf_ok l _ p h

/-- Behind the steps ys: 'out' holds them filled, the state's block what they have written. -/
def FillI (w : World) (s : List V8) (ys : List Sn) (W : World) : Prop :=
  (∃ v, Boxed W (w.heap.size + 1) 25 v ∧ W.ownsRow w.heap.size 36 14 v (fillL s ys).length ((fillL s ys).flatMap Sn.cells)) ∧
  W.heap[w.heap.size]? = some (.cells (stArr (foldSt s ys)) 24 (0, 0)) ∧ Below w.heap.size w W

theorem FillI.own {β : Type} {B : Nat} {w : World} {s : List V8} (f : β → List Sn) (hB : w.heap.size ≤ B) : OwnFrom B (fun b W => FillI w s (f b) W) := by
  rintro b W W' row ⟨⟨v, hv, hrow⟩, hst, hb⟩ hg hr
  exact ⟨⟨v, kept_cells hg hr hv, kept_owns hg hr hrow⟩, kept_cells hg hr hst, kept_below hb (Nat.le_refl _) hB hg hr⟩

theorem fillL_length : ∀ (l : List Sn) (s : List V8), (fillL s l).length = l.length
  | [], _ => rfl
  | x :: l, s => by simp [fillL, fillL_length l]

theorem stepsOf_length : ∀ (l : List Sn) (i : Nat), (stepsOf l i).length ≤ l.length
  | [], _ => Nat.le_refl _
  | x :: l, i => by
    have := stepsOf_length l (i + 1)
    simp only [stepsOf]
    split <;> simp <;> omega

set_option maxRecDepth 100000 in
set_option maxHeartbeats 2000000 in
theorem fill_ok (l : List Sn) (v : Value) (s : List V8) (hs : s.length = 32) (w : World) (hl : l.length ≤ 100000) (hv : Sns w.heap.size w v l) (hm : mayE l 0 = 0) :
    Calls Try.prog 17 #[.agg (stArr s), v] w fun e w' => ∃ vo, e = .returned (.tuple #[vo, .int .i64 0]) ∧ w'.ownsRow w.heap.size 36 14 vo (fillL s ((stepsOf l 0).map (·.2))).length ((fillL s ((stepsOf l 0).map (·.2))).flatMap Sn.cells) ∧ Below w.heap.size w w' := by
  refine (callsIn_wide (n := 8)).1 ?_
  refine callsIn_of_wp_marks Try.func17 rfl trivial ?_ rfl
  simp only [Try.ntmps17, List.size_toArray, List.length_cons, List.length_nil, Nat.reduceAdd, Nat.reduceSub, Array.replicate_succ, Array.replicate_zero, List.push_toArray, List.append_toArray, List.nil_append, List.cons_append]
  gi_wp2_with fail
  refine ⟨trivial, ?_⟩
  have hw2 : Below w.heap.size w ((w.alloc (.cells (stArr s) 24)).alloc (.cells #[.slice none 0 0] 25)) := ((Below.refl _ _).alloc (Nat.le_refl _) _).alloc (by simp) _
  have hbS : ((w.alloc (.cells (stArr s) 24)).alloc (.cells #[.slice none 0 0] 25)).heap[w.heap.size]? = some (.cells (stArr s) 24 (0, 0)) := heap_alloc2_old w _ _
  have hbO : ((w.alloc (.cells (stArr s) 24)).alloc (.cells #[.slice none 0 0] 25)).heap[w.heap.size + 1]? = some (.cells #[.slice none 0 0] 25 (0, 0)) := heap_alloc2_new w _ _
  refine (callsIn_wide.2 (may_any l v _ hl ((hv.below hw2).mono hw2.size))).mono ?_
  rintro e w1 ⟨rfl, hb1⟩
  rw [hm]
  have hw1 : Below w.heap.size w w1 := hw2.trans (hb1.mono hw2.size)
  have hbS1 : w1.heap[w.heap.size]? = some (.cells (stArr s) 24 (0, 0)) := (hb1.block _ (lt_of_heap hbS)).trans hbS
  have hbO1 : w1.heap[w.heap.size + 1]? = some (.cells #[.slice none 0 0] 25 (0, 0)) := (hb1.block _ (lt_of_heap hbO)).trans hbO
  have hsz1 : w.heap.size + 2 ≤ w1.heap.size := by have := lt_of_heap hbO1; omega
  clear hb1 hbS hbO hw2
  gi_wp2_with fail
  refine ⟨trivial, ?_⟩
  obtain ⟨a, cap, rfl, hnil, ha⟩ := hv
  refine (callsIn_wide.2 (steps_any _ _ ⟨_, _, _, rfl⟩)).mono ?_
  rintro e w2 ⟨rfl, rfl⟩
  gi_wp2_with fail
  obtain ⟨W0, hW0⟩ : ∃ W0, w1.alloc (.cells #[.slice a l.length cap] 25) = W0 := ⟨_, rfl⟩
  have hk0 : Below w1.heap.size w1 W0 := hW0 ▸ below_alloc1 _
  have hsz0 : W0.heap.size = w1.heap.size + 1 := by rw [← hW0]; simp
  have hBs0 : W0.cell? ⟨w1.heap.size, 0, none⟩ = some (.slice a l.length cap) := by rw [← hW0]; exact (Boxed.new w1 25 _).cell
  have hw0 : Below w.heap.size w W0 := hw1.trans (hk0.mono hw1.size)
  have hI0 : FillI w s [] W0 := ⟨⟨_, (hk0.block _ (lt_of_heap hbO1)).trans hbO1, World.ownsRow_nil _ _ _ _⟩, (hk0.block _ (lt_of_heap hbS1)).trans hbS1, hw0⟩
  rw [hW0]
  clear hbO1 hbS1 hw1
  have hseq := steps1_in 7 (by omega) w1.heap.size w.heap.size a cap l hl W0 hnil (fun b off s' e h => ⟨(ha b off s' e h).1, (ha b off s' e h).2.1, (ha b off s' e h).2.2.below (ha b off s' e h).2.1 hw0⟩) hw0.size hBs0
  unfold SeqC at hseq
  refine wpIn_rangeFunc_ownH (F := Fence.wide) (n := 8) rfl (by omega) (gf := 66) (lb := #[.pointer (some ⟨w1.heap.size, 0, none⟩)]) rfl trivial (enters_of Try.func66 (by kernel_rfl) rfl) hseq
    belowK_t (belowK_b hw0.size) (Below.refl _ _) (fun _ => rfl)
    (fun pre W => FillI w s (pre.map (·.1.2)) W) (fun _ _ _ => False) (FillI.own _ (by omega)) (fun _ _ _ _ _ hs _ _ => hs) hI0
    (fun x a' W => ∃ Bx, (∃ v, Boxed W (w.heap.size + 1) 25 v ∧ v.ownBlock ≠ some Bx) ∧ w.heap.size + 2 ≤ Bx ∧ W.heap[Bx]? = some (.cells (snArr x.1.2) 36 (0, 0)) ∧ a' = { tmps := #[.agg (stArr s), .slice a l.length cap, .pointer (some ⟨w.heap.size, 0, none⟩), undef, .pointer (some ⟨w.heap.size + 1, 0, none⟩), .int .i64 0, .int .i64 0, undef, .pointer (some ⟨Bx, 0, none⟩), .slice a l.length cap, .int .i64 0, .int .i64 0, .bool false, undef, .slice a l.length cap, .func (.func 66) #[] #[.pointer (some ⟨w1.heap.size, 0, none⟩)], .int .i64 (x.1.1 : Int), snVal x.1.2, undef, undef, undef, undef, undef, undef, undef, undef, undef, undef, undef, undef, undef, undef, undef, undef, undef, undef], defers := [] })
    (fun x a' _ W W' row ⟨Bx, ⟨v, h0, h4⟩, h1, h2, h3⟩ hg hr => ⟨Bx, ⟨v, kept_cells hg hr h0, h4⟩, h1, kept_cells hg hr h2, h3⟩) ?assign ?body ?done ?stop
  case assign =>
    rintro lp pre ⟨⟨i, x⟩, hx⟩ W K hi hK
    simp only [encIS, snVal]
    gi_wp2
    refine hK _ _ ?_ ?_ ?_ ?_
    · exact (KeepsOthers.alloc _ _).from _
    · exact (Below.refl _ _).alloc hi.2.2.size _
    · exact FillI.own (B := w.heap.size) (fun _ : Unit => pre.map (·.1.2)) (Nat.le_refl _) () W _ none hi (World.grownBy_alloc _ _ _) (fun _ e => by cases e)
    · obtain ⟨⟨v, hv, hrow⟩, _⟩ := hi
      exact ⟨W.heap.size, ⟨v, hv.alloc _, fun e => by have := (hrow.lt _ e).2; omega⟩, by have := lt_of_heap hv; omega, heap_alloc_new _ _, rfl⟩
  case body =>
    rintro lp pre ⟨⟨i, x⟩, hx⟩ a' W hlp hrec ⟨⟨v, hv, hrow⟩, hst, hB⟩ ⟨Bx, ⟨v', hv', hne⟩, hBx, bX, rfl⟩ hlen
    obtain rfl : v' = v := by
      have := hv'.cell.symm.trans hv.cell
      cases this; rfl
    clear hv'
    obtain ⟨hok1, hok2⟩ : x.rw = true ∧ x.inB = true := by simpa [Sn.ok] using stepsOf_ok _ _ _ hx
    have hb0 : 0 ≤ x.b := by simp [Sn.inB] at hok2; exact hok2.1
    have hb1 : x.b < 32 := by simp [Sn.inB] at hok2; exact hok2.2
    generalize hcur : foldSt s (pre.map (·.1.2)) = cur at hst
    generalize hys : fillL s (pre.map (·.1.2)) = ys at hrow
    have hj : x.b.toNat < cur.length := by rw [← hcur, foldSt_length, hs]; omega
    have hyl : ys.length ≤ 100000 := by
      have h1 := stepsOf_length l 0
      have h2 : ys.length = pre.length := by rw [← hys, fillL_length]; simp
      omega
    have hstep : stepSt cur x = foldSt s ((pre ++ [(⟨(i, x), hx⟩ : { b // b ∈ stepsOf l 0 })]).map (·.1.2)) := by simp [foldSt_snoc, hcur]
    have hfill : ys ++ [fillX cur x] = fillL s ((pre ++ [(⟨(i, x), hx⟩ : { b // b ∈ stepsOf l 0 })]).map (·.1.2)) := by simp [fillL_snoc, hcur, hys]
    obtain ⟨c0, c1, c2, c3, c4, c5, c6, c7, c8, c9, c10, c11, c12, c13⟩ := snArr_at bX
    have HREC := Lib.hid hrec
    have HST := Lib.hid hst
    have HBX := Lib.hid bX
    have HV := Lib.hid hv
    have HNE := Lib.hid hne
    have HSTEP := Lib.hid hstep
    have HFILL := Lib.hid hfill
    have HROW := Lib.hid hrow
    have hz := lt_of_heap hst
    clear hrec hok2 hst bX hv hne hstep hfill hcur hys hrow
    obtain ⟨i0, hi, hz0, hz1, hz2⟩ := info_parts Try.info36z
    by_cases hk : x.k = 2
    · have e1 : (x.k == 2) = true := by simp [hk]
      have HSC : Hid (stepSt cur x = cur.set x.b.toNat x.v ∧ fillX cur x = x) := by simp [Hid, stepSt, fillX, hk]
      have hget : (cur.set x.b.toNat x.v)[x.b.toNat]? = some x.v := by simp [hj]
      have HG := Lib.hid hget
      clear hget hk
      gi_wp2_with (first | (refine wpListIn_store_st rfl _ _ rfl w.heap.size x.b.toNat rfl x.v rfl HST.out hj ?_; intro W2 hg2 hst2; have HST2 := Lib.hid hst2; have bX2 := cells_turn HBX.out hg2 (by omega); obtain ⟨d0, d1, d2, d3, d4, d5, d6, d7, d8, d9, d10, d11, d12, d13⟩ := snArr_at bX2; have HBX2 := Lib.hid bX2; have HV2 : Hid (Boxed W2 (w.heap.size + 1) 25 v') := cells_turn HV.out hg2 (by omega); have HROW2 : Hid (W2.ownsRow w.heap.size 36 14 v' ys.length (ys.flatMap Sn.cells)) := owns_turn HROW.out hg2 (not_row HST.out (by decide) HROW.out); have HF2 := Lib.hid (from_turn (B := W0.heap.size) hg2 (.inl (by omega))); have HK2 := Lib.hid ((Below.refl w.heap.size W).grown hg2 hB.size (fun k e => by cases e; omega)); clear bX2 hst2) | (refine wpListIn_load rfl 23 _ rfl ⟨w.heap.size, x.b.toNat * 8, none⟩ rfl (v8Val x.v) (ld_st HST2.out HG.out) ?_) | (refine wpListIn_store_sn rfl _ _ rfl Bx rfl x.v rfl HBX2.out ?_; intro W3 hg3 bX3; have HBX3 := Lib.hid bX3; have HV3 : Hid (Boxed W3 (w.heap.size + 1) 25 v') := cells_turn HV2.out hg3 (by omega); have HROW3 : Hid (W3.ownsRow w.heap.size 36 14 v' ys.length (ys.flatMap Sn.cells)) := owns_turn HROW2.out hg3 HNE.out; have HST3 := Lib.hid (cells_turn HST2.out hg3 (by omega)); have h3c := HV3.out.cell; have HF3 := Lib.hid (HF2.out.trans (from_turn (B := W0.heap.size) hg3 (.inr ⟨_, _, _, HBX2.out⟩))); have HK3 := Lib.hid (HK2.out.grown hg3 (Nat.le_trans hB.size HK2.out.size) (fun k e => by cases e; omega)); have hz3 := HK3.out.size; clear bX3) | (refine wpListIn_load rfl 36 _ rfl ⟨Bx, 0, none⟩ rfl (.agg #[.int .i8 x.k, .int .i64 x.n.s, .int .i64 x.n.i, .int .i64 x.n.t, .int .i64 x.b, .int .u8 x.v.a, .int .u8 x.v.b, .int .u8 x.v.c, .int .u8 x.v.d, .int .u8 x.v.e, .int .u8 x.v.f, .int .u8 x.v.g, .int .u8 x.v.h, .int .i64 x.e]) (ld_sn HBX3.out) ?_) | (gi_at_builtin; refine wpListIn_append_own_at _ rfl _ _ 25 rfl w.heap.size 36 i0 snZ 14 56 Try.underlying25 hi hz0 hz1 hz2 rfl (by decide) v' ys.length (ys.flatMap Sn.cells) rfl (HROW3.out.alloc _) ⟨W3.heap.size, 0, none⟩ 1 1 [.int .i8 x.k, .int .i64 x.n.s, .int .i64 x.n.i, .int .i64 x.n.t, .int .i64 x.b, .int .u8 x.v.a, .int .u8 x.v.b, .int .u8 x.v.c, .int .u8 x.v.d, .int .u8 x.v.e, .int .u8 x.v.f, .int .u8 x.v.g, .int .u8 x.v.h, .int .i64 x.e] rfl rfl (cells_new W3 _ 36) (Sn.cells_one ⟨x.k, x.n, x.b, x.v, x.e⟩) (by unfold maxLen; omega) (by omega) (by simp; omega) ?_; intro v4 w4 hown4 hgrow4 hnil4 hloc4; obtain ⟨g4, cap4, rfl⟩ := ownsRow_succ hown4; obtain ⟨hR4, hv4, hv5, hrow5, hoth⟩ := Rnd.append (n₁ := w.heap.size + 2) HV3.out (by decide) (by omega) (by omega) HROW3.out hown4 hgrow4 hloc4; have hc1 := hv4.cell; have hf1 := hv4.frozen; have HV5 := Lib.hid hv5; have HROW5 := Lib.hid hrow5; have HR4 := Lib.hid hR4; have HV4 := Lib.hid hv4; have HST5 := Lib.hid (hoth _ _ (by omega) (not_row HST3.out (by decide) HROW3.out) HST3.out); clear hoth hnil4 hloc4 hgrow4 hown4 hv5 hrow5 hR4 hv4))
      refine ⟨?_, HR4.out.below HK3.out hB.size, ⟨_, HV5.out, ?_⟩, ?_, HR4.out.below (hB.trans HK3.out) (Nat.le_refl _)⟩
      · have := HF3.out.trans (HR4.out.from (B := W0.heap.size) (by omega))
        rwa [hsz0] at this
      · rw [← HFILL.out, HSC.out.2]
        simpa [Sn.cells] using HROW5.out
      · rw [← HSTEP.out, HSC.out.1]
        exact HST5.out
    · have e1 : (x.k == 2) = false := by simp [hk]
      obtain ⟨u, hu⟩ : ∃ u, cur[x.b.toNat]? = some u := ⟨_, List.getElem?_eq_getElem hj⟩
      have HSC : Hid (stepSt cur x = cur ∧ fillX cur x = { x with v := u }) := by simp [Hid, stepSt, fillX, hk, hu]
      have HG := Lib.hid hu
      have HST2 := HST
      have HBX2 := HBX
      have HV2 := HV
      have HROW2 := HROW
      have HF2 : Hid (KeepsFrom W0.heap.size W W) := KeepsFrom.refl _ _
      have HK2 : Hid (Below w.heap.size W W) := Below.refl _ _
      clear hk hu
      gi_wp2_with (first | (refine wpListIn_load rfl 23 _ rfl ⟨w.heap.size, x.b.toNat * 8, none⟩ rfl (v8Val u) (ld_st HST2.out HG.out) ?_) | (refine wpListIn_store_sn rfl _ _ rfl Bx rfl u rfl HBX2.out ?_; intro W3 hg3 bX3; have HBX3 := Lib.hid bX3; have HV3 : Hid (Boxed W3 (w.heap.size + 1) 25 v') := cells_turn HV2.out hg3 (by omega); have HROW3 : Hid (W3.ownsRow w.heap.size 36 14 v' ys.length (ys.flatMap Sn.cells)) := owns_turn HROW2.out hg3 HNE.out; have HST3 := Lib.hid (cells_turn HST2.out hg3 (by omega)); have h3c := HV3.out.cell; have HF3 := Lib.hid (HF2.out.trans (from_turn (B := W0.heap.size) hg3 (.inr ⟨_, _, _, HBX2.out⟩))); have HK3 := Lib.hid (HK2.out.grown hg3 (Nat.le_trans hB.size HK2.out.size) (fun k e => by cases e; omega)); have hz3 := HK3.out.size; clear bX3) | (refine wpListIn_load rfl 36 _ rfl ⟨Bx, 0, none⟩ rfl (.agg #[.int .i8 x.k, .int .i64 x.n.s, .int .i64 x.n.i, .int .i64 x.n.t, .int .i64 x.b, .int .u8 u.a, .int .u8 u.b, .int .u8 u.c, .int .u8 u.d, .int .u8 u.e, .int .u8 u.f, .int .u8 u.g, .int .u8 u.h, .int .i64 x.e]) (ld_sn HBX3.out) ?_) | (gi_at_builtin; refine wpListIn_append_own_at _ rfl _ _ 25 rfl w.heap.size 36 i0 snZ 14 56 Try.underlying25 hi hz0 hz1 hz2 rfl (by decide) v' ys.length (ys.flatMap Sn.cells) rfl (HROW3.out.alloc _) ⟨W3.heap.size, 0, none⟩ 1 1 [.int .i8 x.k, .int .i64 x.n.s, .int .i64 x.n.i, .int .i64 x.n.t, .int .i64 x.b, .int .u8 u.a, .int .u8 u.b, .int .u8 u.c, .int .u8 u.d, .int .u8 u.e, .int .u8 u.f, .int .u8 u.g, .int .u8 u.h, .int .i64 x.e] rfl rfl (cells_new W3 _ 36) (Sn.cells_one ⟨x.k, x.n, x.b, u, x.e⟩) (by unfold maxLen; omega) (by omega) (by simp; omega) ?_; intro v4 w4 hown4 hgrow4 hnil4 hloc4; obtain ⟨g4, cap4, rfl⟩ := ownsRow_succ hown4; obtain ⟨hR4, hv4, hv5, hrow5, hoth⟩ := Rnd.append (n₁ := w.heap.size + 2) HV3.out (by decide) (by omega) (by omega) HROW3.out hown4 hgrow4 hloc4; have hc1 := hv4.cell; have hf1 := hv4.frozen; have HV5 := Lib.hid hv5; have HROW5 := Lib.hid hrow5; have HR4 := Lib.hid hR4; have HV4 := Lib.hid hv4; have HST5 := Lib.hid (hoth _ _ (by omega) (not_row HST3.out (by decide) HROW3.out) HST3.out); clear hoth hnil4 hloc4 hgrow4 hown4 hv5 hrow5 hR4 hv4))
      refine ⟨?_, HR4.out.below HK3.out hB.size, ⟨_, HV5.out, ?_⟩, ?_, HR4.out.below (hB.trans HK3.out) (Nat.le_refl _)⟩
      · have := HF3.out.trans (HR4.out.from (B := W0.heap.size) (by omega))
        rwa [hsz0] at this
      · rw [← HFILL.out, HSC.out.2]
        simpa [Sn.cells] using HROW5.out
      · rw [← HSTEP.out, HSC.out.1]
        exact HST5.out
  case done =>
    rintro D xs W hD hS ⟨⟨v, hv, hrow⟩, hst, hB⟩ hK
    obtain ⟨a', c', rfl⟩ := ownsRow_slice hrow
    have hc := hv.cell
    have hf := hv.frozen
    have hxs : xs.map (·.1.2) = (stepsOf l 0).map (·.2) := by have h := congrArg (List.map (·.2)) hS; rw [List.map_map] at h; exact h
    rw [hxs] at hrow hc hv
    clear hseq hI0 hst
    gi_wp2
    have hv2 := hv.set (.slice a' (fillL s ((stepsOf l 0).map (·.2))).length c')
    have hK2 := (KeepsOthers.setCell W ⟨w.heap.size + 1, 0, none⟩ (.slice a' (fillL s ((stepsOf l 0).map (·.2))).length c')).same D _ hK rfl
    have hD' : w.heap.size + 1 ≠ D := by omega
    have hv3 : Boxed ((W.setCell ⟨w.heap.size + 1, 0, none⟩ (.slice a' (fillL s ((stepsOf l 0).map (·.2))).length c')).putObj D (.deferred none)) (w.heap.size + 1) 25 _ := (World.putObj_heap_other hD').trans hv2
    have hrow2 := owns_turn hrow (grownBy_setCell' W (w.heap.size + 1) (.slice a' (fillL s ((stepsOf l 0).map (·.2))).length c')) (not_row hv (by decide) hrow)
    refine ⟨by simp, .inl ⟨_, _, rfl, run_takeDeferred hK2, ?_⟩⟩
    refine ⟨.tuple #[.slice a' (fillL s ((stepsOf l 0).map (·.2))).length c', .int .i64 0], by simp [results, Try.results17, go_sem, hv3.cell], _, rfl, ?_, ?_⟩
    · exact ownsRow_putObj hrow2 _ hK2 rfl
    · exact ((hB.setCell (p := ⟨w.heap.size + 1, 0, none⟩) (by simp) _)).trans (belowK_b hw0.size _ D _ _ hD hK2 rfl rfl)
  case stop =>
    rintro D c pre W _ _ h _
    exact h.elim

end Go.Proofs.Ytgdmgeihgkbjaaa
