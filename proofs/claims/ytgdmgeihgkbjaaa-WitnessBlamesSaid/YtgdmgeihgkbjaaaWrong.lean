/- 'witness.Wrong' -/
import Derived.Test.YtgdmgeihgkbjaaaReads
namespace Go.Proofs.Ytgdmgeihgkbjaaa
open Go.RowKit Go.Shelf
attribute [local go_sem] Oper.semAt_some

theorem emit_length (l : List Sn) (ns : List Nm) : ∀ (ps : List (Nm × Nat)) (h : List Sn), (emit l ns ps h).length ≤ ps.length
  | [], _ => Nat.le_refl _
  | (n, i) :: r, h => by
    unfold emit
    cases hx : l[i]? with
    | none => have := emit_length l ns r h; simp; omega
    | some x =>
      simp only
      split
      · have := emit_length l ns r (h.set x.b.toNat x); simp; omega
      · split
        · have := emit_length l ns r h; simp; omega
        · have := emit_length l ns r h; simp; omega

theorem pairs_length (l : List Sn) : ∀ ns : List Nm, (pairsP l ns).length ≤ ns.length * l.length
  | [] => by simp [pairsP]
  | n :: ns => by
    have h1 := pairs_length l ns
    have h2 := idxN_length n l 0
    have : pairsP l (n :: ns) = (idxN n l 0).map (fun i => (n, i)) ++ pairsP l ns := by simp [pairsP]
    rw [this, List.length_append, List.length_map, List.length_cons, Nat.succ_mul]
    omega

theorem reads_length {l : List Sn} (hl : l.length ≤ 100000) : (readsP l).length ≤ 10000000000 := by
  have h1 := emit_length l (ordR l) (pairsP l (ordR l)) h0
  have h2 := pairs_length l (ordR l)
  have h3 := ordR_le l
  have h4 : (ordR l).length * l.length ≤ 100000 * 100000 := Nat.mul_le_mul (by omega) hl
  unfold readsP
  omega

/-- 'reads': the view is boxed; the function value captures the box. -/
theorem reads59_any (Bv : Nat) (w : World) :
    Calls Try.prog 59 #[.pointer (some ⟨Bv, 0, none⟩)] w fun e w' => e = .returned (.func (.func 74) #[] #[.pointer (some ⟨w.heap.size, 0, none⟩)]) ∧ w.alloc (.cells #[.pointer (some ⟨Bv, 0, none⟩)] 98) = w' := by
  go_enter Try.func59, Try.ntmps59
  go_wp2
  go_ret
  exact ⟨rfl, rfl⟩

theorem KeepR.trans {n₀ n₁ : Nat} {bo : Option Nat} {A B C : World} (h : KeepR n₀ n₁ bo A B) (k : KeepR n₀ n₁ bo B C) : KeepR n₀ n₁ bo A C := ⟨h.1.trans k.1, fun r => k.2 (h.2 r)⟩
theorem KeepR.book {n₀ n₁ : Nat} {bo : Option Nat} {w : World} (hbo : ∀ b, bo = some b → b < w.heap.size) (W : World) (l : Nat) (o o' : Obj) (hl : w.heap.size ≤ l) (h : W.heap[l]? = some o) (h1 : o.isCells = false) (h2 : o.isWalk = false) :
    KeepR n₀ n₁ bo W (W.putObj l o') := by
  have hk := Keep.book (n₀ := n₀) (n₁ := n₁) hbo W l o o' hl h h1 h2
  refine ⟨hk, fun hr k hrk => ?_⟩
  have : rowOf bo W k := rowOf_of_block (fun b hb => World.putObj_heap_other (by have := hbo b hb; omega)) hrk
  have := hr k this
  simpa using this
theorem KeepR.below {n₀ n₁ : Nat} {bo : Option Nat} {W W' : World} (h : Below W.heap.size W W') (hbo : ∀ b, bo = some b → b < W.heap.size) : KeepR n₀ n₁ bo W W' :=
  ⟨(Rnd.of_below h hbo).keep, fun hr k hrk => by
    have := hr k (rowOf_of_block (fun b hb => h.block b (hbo b hb)) hrk)
    have := h.size
    omega⟩

/-- A row lies higher than its base says. -/
theorem owns_up {W : World} {b b' : Nat} {e : TypeId} {size n : Nat} {v : Value} {xs : List Value} (h : W.ownsRow b e size v n xs) (hb : ∀ g, v.ownBlock = some g → b' ≤ g) : W.ownsRow b' e size v n xs := by
  refine ⟨h.1, ?_⟩
  rcases h.2 with h | ⟨g, cap, cur, e1, _, e3⟩
  · exact .inl h
  · exact .inr ⟨g, cap, cur, e1, hb g (by rw [e1]; rfl), e3⟩

/-- The box B holds the faults handed out so far that are wrong. -/
structure WrI (w wS : World) (ys : List Ft) (b k : Nat) (A : World) (vo : Value) : Prop where
  box : Boxed A w.heap.size 55 vo
  row : A.ownsRow b 59 28 vo ((ys.take k).filter fun f => decide (f.want ≠ f.got)).length (((ys.take k).filter fun f => decide (f.want ≠ f.got)).flatMap Ft.cells)
  below : Below w.heap.size w A
  hb : wS.heap.size + 2 ≤ b
  hsz : b ≤ A.heap.size

theorem WrI.own {w wS : World} {ys : List Ft} {b k : Nat} {A A' : World} {vo : Value} (h : WrI w wS ys b k A vo) (hs : w.heap.size < wS.heap.size) (ht : OwnTurn wS.heap.size b A A') : WrI w wS ys b k A' vo := by
  obtain ⟨row, hg, hr⟩ := ht
  have hbx : A.heap[w.heap.size]? = some (.cells #[vo] 55 (0, 0)) := h.box
  refine ⟨?_, ?_, h.below.grown hg h.below.size (fun r e => by have := (hr r e).1; omega), h.hb, Nat.le_trans h.hsz hg.size⟩
  · exact (hg.block _ (lt_of_heap hbx) (fun e => by have := (hr _ e.symm).1; omega)).trans hbx
  · refine ⟨h.row.1, ?_⟩
    rcases h.row.2 with h1 | ⟨g, cap, cur, e1, e2, e3, e4⟩
    · exact .inl h1
    · exact .inr ⟨g, cap, cur, e1, e2, (hg.block g (lt_of_heap e3) (fun e => by have := (hr g e.symm).2; omega)).trans e3, e4⟩

theorem wr_step {ys : List Ft} {k : Nat} {x : Ft} (hx : ys[k]? = some x) : (ys.take (k + 1)).filter (fun f => decide (f.want ≠ f.got)) = (ys.take k).filter (fun f => decide (f.want ≠ f.got)) ++ (if x.want = x.got then [] else [x]) := by
  rw [List.take_add_one, hx, List.filter_append]
  congr 1
  by_cases h : x.want = x.got <;> simp [h]

theorem Ft.cells_one (f : Ft) : ∀ c ∈ f.cells, c.oneCell' = true := by
  intro c hc
  have h := (Array.all_eq_true_iff_forall_mem.1 (ftArr_one f)) c
  exact h (by rw [← Array.mem_toList_iff, ftArr_cells]; exact hc)

theorem Try.info59z : (Try.prog.info? 59).map (fun i => (i.zero, i.size, i.bytes)) = some (some (.agg (ftArr ftz)), 28, 112) := by kernel_rfl

theorem ft_at {w : World} {B : Nat} {f : Ft} {t : TypeId} {fr : Nat × Nat} (h : w.heap[B]? = some (.cells (ftArr f) t fr)) :
    w.cell? ⟨B, 5, none⟩ = some (.int .u8 f.want.a) ∧ w.cell? ⟨B, 6, none⟩ = some (.int .u8 f.want.b) ∧ w.cell? ⟨B, 7, none⟩ = some (.int .u8 f.want.c) ∧ w.cell? ⟨B, 8, none⟩ = some (.int .u8 f.want.d) ∧
    w.cell? ⟨B, 9, none⟩ = some (.int .u8 f.want.e) ∧ w.cell? ⟨B, 10, none⟩ = some (.int .u8 f.want.f) ∧ w.cell? ⟨B, 11, none⟩ = some (.int .u8 f.want.g) ∧ w.cell? ⟨B, 12, none⟩ = some (.int .u8 f.want.h) ∧
    w.cell? ⟨B, 13, none⟩ = some (.int .u8 f.got.a) ∧ w.cell? ⟨B, 14, none⟩ = some (.int .u8 f.got.b) ∧ w.cell? ⟨B, 15, none⟩ = some (.int .u8 f.got.c) ∧ w.cell? ⟨B, 16, none⟩ = some (.int .u8 f.got.d) ∧
    w.cell? ⟨B, 17, none⟩ = some (.int .u8 f.got.e) ∧ w.cell? ⟨B, 18, none⟩ = some (.int .u8 f.got.f) ∧ w.cell? ⟨B, 19, none⟩ = some (.int .u8 f.got.g) ∧ w.cell? ⟨B, 20, none⟩ = some (.int .u8 f.got.h) := by
  refine ⟨?_, ?_, ?_, ?_, ?_, ?_, ?_, ?_, ?_, ?_, ?_, ?_, ?_, ?_, ?_, ?_⟩ <;> (rw [cell_of_row w B _ _ t fr h]; rfl)

theorem ViewAt.below {base Bv : Nat} {W W' : World} {lv : Value} {ns : List Nm} (h : ViewAt base W Bv lv ns) (hb : Below W.heap.size W W') {base' : Nat} (hbase : base' ≤ base) : ViewAt base' W' Bv lv ns := by
  obtain ⟨na, nc, Mp, h1, h2, h3, h4, h5, h6⟩ := h
  refine ⟨na, nc, Mp, by omega, by omega, (hb.block _ (lt_of_heap h3)).trans h3, h4.kept (hb.block _ h4.lt), h5, fun b off s e => ?_⟩
  obtain ⟨h7, h8⟩ := h6 b off s e
  refine ⟨by omega, fun hl => ?_⟩
  obtain ⟨h9, h10, h11⟩ := h8 hl
  exact ⟨h9, Nat.lt_of_lt_of_le h10 hb.size, h11.below h10 hb⟩

set_option maxRecDepth 100000 in
set_option maxHeartbeats 4000000 in
theorem wrong_any (l : List Sn) (v : Value) (w : World) (hl : l.length ≤ 100000) (hv : Sns w.heap.size w v l) :
    Calls Try.prog 29 #[v] w fun e w' => ((mayP l = false ∧ e = .returned (.tuple #[slNil, .int .i64 2])) ∨ (mayP l = true ∧ ∃ vo, e = .returned (.tuple #[vo, .int .i64 0]) ∧ w'.ownsRow w.heap.size 59 28 vo (wrongP l).length ((wrongP l).flatMap Ft.cells))) ∧ Below w.heap.size w w' := by
  obtain ⟨w1, hw1⟩ : ∃ w1, w.alloc (.cells #[slNil] 55) = w1 := ⟨_, rfl⟩
  have hb1 : Below w.heap.size w w1 := hw1 ▸ below_alloc1 _
  have hx1 : Boxed w1 w.heap.size 55 slNil := hw1 ▸ heap_alloc_new w _
  have hs1 : w1.heap.size = w.heap.size + 1 := by rw [← hw1]; simp
  have HC := Lib.hid (look_any l v w1 hl ((hv.below hb1).mono hb1.size))
  have hva : ∃ a c, v = .slice a l.length c := by obtain ⟨a, c, h, _⟩ := hv; exact ⟨a, c, h⟩
  obtain ⟨va, vc, rfl⟩ := hva
  have HV := Lib.hid hv
  have HW1 := Lib.hid hw1
  have HB1 := Lib.hid hb1
  have HX1 := Lib.hid hx1
  have HS1 := Lib.hid hs1
  clear hw1 hb1 hx1 hs1 hv
  refine (callsIn_wide (n := 10)).1 ?_
  refine callsIn_of_wp_marks Try.func29 rfl trivial ?_ rfl
  simp only [Try.ntmps29, List.size_toArray, List.length_cons, List.length_nil, Nat.reduceAdd, Nat.reduceSub, Array.replicate_succ, Array.replicate_zero, List.push_toArray, List.append_toArray, List.nil_append, List.cons_append]
  gi_wp2_with fail
  refine ⟨trivial, ?_⟩
  rw [show (w.alloc (.cells #[.slice none 0 0] 55)) = w1 from HW1.out]
  refine (callsIn_wide.2 HC.out).mono ?_
  rintro e w2 ⟨h, b2⟩
  rcases h with ⟨hm, rfl⟩ | ⟨hm, Bv, rfl, hvw⟩
  · have HM := Lib.hid hm
    have hx2 : Boxed w2 w.heap.size 55 slNil := (b2.block _ (lt_of_heap HX1.out)).trans HX1.out
    have hc2 := hx2.cell
    have hf2 := hx2.frozen
    have HX2 := Lib.hid hx2
    have HB2 := Lib.hid (HB1.out.trans (b2.mono HB1.out.size))
    clear hm b2 hx2
    gi_wp2_with fail
    have hc3 : (w2.setCell ⟨w.heap.size, 0, none⟩ (.slice none 0 0)).cell? ⟨w.heap.size, 0, none⟩ = some (.slice none 0 0) := (HX2.out.set slNil).cell
    refine ⟨.tuple #[slNil, .int .i64 2], by simp [results, Try.results29, go_sem, hc3, slNil], .inl ⟨HM.out, rfl⟩, ?_⟩
    exact HB2.out.setCell (p := ⟨w.heap.size, 0, none⟩) (by simp) _
  · obtain ⟨na, nc, Mp, hBv, hMp, hbv, hmp, hnn, hnr⟩ := id hvw
    have HVW := Lib.hid hvw
    have HM := Lib.hid hm
    have hx2 : Boxed w2 w.heap.size 55 slNil := (b2.block _ (lt_of_heap HX1.out)).trans HX1.out
    have HX2 := Lib.hid hx2
    have HB2 := Lib.hid (HB1.out.trans (b2.mono HB1.out.size))
    have HBV := Lib.hid hBv
    have hz2 : w.heap.size + 1 ≤ w2.heap.size := by have := HS1.out; have := b2.size; omega
    have HZ2 := Lib.hid hz2
    clear hm b2 hx2 hMp hbv hmp hnn hnr hvw hBv hz2
    gi_wp2_with fail
    refine ⟨trivial, ?_⟩
    refine (callsIn_wide.2 (reads59_any Bv w2)).mono ?_
    rintro e w3 ⟨rfl, hw3⟩
    have hb3 : Below w2.heap.size w2 w3 := hw3 ▸ below_alloc1 _
    have hz3 : w3.heap.size = w2.heap.size + 1 := by rw [← hw3]; simp
    have hbox3 : w3.heap[w2.heap.size]? = some (.cells #[.pointer (some ⟨Bv, 0, none⟩)] 98 (0, 0)) := hw3 ▸ heap_alloc_new w2 _
    have hx3 : Boxed w3 w.heap.size 55 slNil := (hb3.block _ (lt_of_heap HX2.out)).trans HX2.out
    have hB3 : Below w.heap.size w w3 := HB2.out.trans (hb3.mono HB2.out.size)
    have hz := HZ2.out
    have hbo : ∀ b, some w.heap.size = some b → b < w3.heap.size := fun b hb => by cases hb; omega
    have hseq := reads74_in 0 w2.heap.size Bv w.heap.size (w.heap.size + 1) (some w.heap.size) (.slice va l.length vc) l hl HM.out w3 (HV.out.below hB3) (by omega) (by omega) hbo
      (fun k hk => by
        obtain ⟨b, o, s, n, c, e, hc⟩ := hk
        cases e
        rw [hx3.cell] at hc
        cases hc) (by omega) hbox3 (HVW.out.below hb3 (by rw [HS1.out]; exact Nat.le_refl _))
    have HX3 := Lib.hid hx3
    have HB3 := Lib.hid hB3
    clear hw3 hb3 hbox3 hx3 hB3
    gi_wp2_with fail
    refine wpIn_rangeX (n := 10) (by omega) (gf := 74) (lb := #[.pointer (some ⟨w2.heap.size, 0, none⟩)]) rfl (enters_of Try.func74 (by kernel_rfl) rfl) (encs := fun f => #[.agg (ftArr f)]) (Kp := KeepR w.heap.size (w.heap.size + 1) (some w.heap.size)) (ys := readsP l) (w0 := w3) hseq (Below.refl _ _) (fun _ => rfl)
      (fun h1 h2 => h1.trans h2) (fun A r r' h => KeepR.book (w := w3) hbo A (w3.heap.size + 1) _ _ (by omega) h rfl rfl)
      (fun b k A => ∃ vo, WrI w w3 (readsP l) b k A vo)
      (fun W1 h1 h2 => ⟨slNil, (h1.block _ (by omega)).trans HX3.out, World.ownsRow_nil _ _ _ _, HB3.out.trans (h1.mono HB3.out.size), h2, Nat.le_refl _⟩)
      (fun b k A A' ⟨vo, h⟩ ht => ⟨vo, h.own (by omega) ht⟩)
      (fun x a' A => ∃ Bx, w3.heap.size + 2 ≤ Bx ∧ A.heap[Bx]? = some (.cells (ftArr x) 59 (0, 0)) ∧ a' = { tmps := #[.slice va l.length vc, undef, .pointer (some ⟨w.heap.size, 0, none⟩), .int .i64 0, .pointer (some ⟨Bv, 0, none⟩), .pointer (some ⟨Bx, 0, none⟩), .tuple #[.pointer (some ⟨Bv, 0, none⟩), .int .i64 0], .slice va l.length vc, .tuple #[.pointer (some ⟨Bv, 0, none⟩), .int .i64 0], .pointer (some ⟨Bv, 0, none⟩), .int .i64 0, .int .i64 0, .bool false, undef, .pointer (some ⟨Bv, 0, none⟩), .func (.func 74) #[] #[.pointer (some ⟨w2.heap.size, 0, none⟩)], .agg (ftArr x), undef, undef, undef, undef, undef, undef, undef, undef, undef, undef], defers := [] })
      (fun x a' A r ⟨Bx, h1, h2, h3⟩ => ⟨Bx, h1, (World.putObj_heap_other (by omega)).trans h2, h3⟩) ?assign ?body ?done
    case assign =>
      rintro lp b k x A K hx ⟨vo, hI⟩ hK hlt
      gi_wp2_with (refine wpListIn_store rfl 59 (.tmp 5) (.tmp 16) rfl ⟨A.heap.size, 0, none⟩ rfl (.agg (ftArr x)) rfl (st_ft A x) ?_)
      refine hK _ _ ?_ ?_ ?_ ?_
      · exact fun j hj => Below.heap_alloc A _ j (by rcases hj with rfl | rfl <;> omega)
      · exact KeepR.below (below_alloc1 _) (fun b hb => by cases hb; exact lt_of_heap hI.box)
      · exact ⟨vo, hI.own (by omega) ⟨none, World.grownBy_alloc A _ none, fun r e => by cases e⟩⟩
      · exact ⟨A.heap.size, by omega, heap_alloc_new A _, rfl⟩
    case body =>
      rintro lp b k x a' A hx ⟨vo, hI⟩ ⟨Bx, hBx, hbx, rfl⟩ hlt hlb
      obtain ⟨d0, d1, d2, d3, d4, d5, d6, d7, d8, d9, d10, d11, d12, d13, d14, d15⟩ := ft_at hbx
      have hst := wr_step hx
      have hkl : k < (readsP l).length := (List.getElem?_eq_some_iff.1 hx).1
      have hyl : ((readsP l).take k).length ≤ 10000000000 := by have := reads_length hl; rw [List.length_take]; omega
      have hfl : (((readsP l).take k).filter fun f => decide (f.want ≠ f.got)).length ≤ 10000000000 := Nat.le_trans (List.length_filter_le _ _) hyl
      have hq := fun w => neq_v8 x.want x.got w
      have HI := Lib.hid hI
      have HBX := Lib.hid hbx
      clear hI hbx hyl hx hkl hseq
      by_cases hne : x.want = x.got
      · have hd : decide (x.want = x.got) = true := by simpa using hne
        rw [if_pos hne, List.append_nil] at hst
        have HST := Lib.hid hst
        clear hne hst
        gi_wp2_with fail
        refine ⟨fun _ _ => rfl, ⟨Keep.refl _ _ _ _, id⟩, vo, HI.out.box, ?_, HI.out.below, HI.out.hb, HI.out.hsz⟩
        rw [HST.out]
        exact HI.out.row
      · have hd : decide (x.want = x.got) = false := by simpa using hne
        rw [if_neg hne] at hst
        have HST := Lib.hid hst
        clear hne hst
        generalize hxs : ((readsP l).take k).filter (fun f => decide (f.want ≠ f.got)) = xs at *
        obtain ⟨va2, vc2, rfl⟩ := ownsRow_slice (hxs ▸ HI.out.row)
        have hrow : A.ownsRow b 59 28 (.slice va2 xs.length vc2) xs.length (xs.flatMap Ft.cells) := by
          have := HI.out.row
          rwa [hxs] at this
        have HROW := Lib.hid hrow
        have hvb := HI.out.box
        have hc0 := hvb.cell
        have HV := Lib.hid hvb
        have hsz := HI.out.hsz
        have hwb : w.heap.size ≤ b := by have := HI.out.hb; omega
        have HBE := Lib.hid HI.out.below
        obtain ⟨i0, hi, hz0, hz1, hz2⟩ := info_parts Try.info59z
        clear hrow hvb hxs
        gi_wp2_with (first | (refine wpListIn_load rfl 59 (.tmp 5) rfl ⟨Bx, 0, none⟩ rfl (.agg #[.int .i64 x.i, .int .i64 x.n.s, .int .i64 x.n.i, .int .i64 x.n.t, .int .i64 x.b, .int .u8 x.want.a, .int .u8 x.want.b, .int .u8 x.want.c, .int .u8 x.want.d, .int .u8 x.want.e, .int .u8 x.want.f, .int .u8 x.want.g, .int .u8 x.want.h, .int .u8 x.got.a, .int .u8 x.got.b, .int .u8 x.got.c, .int .u8 x.got.d, .int .u8 x.got.e, .int .u8 x.got.f, .int .u8 x.got.g, .int .u8 x.got.h, .int .i64 x.should.s, .int .i64 x.should.i, .int .i64 x.should.t, .int .i64 x.was.s, .int .i64 x.was.i, .int .i64 x.was.t, .int .i8 x.k]) (ld_ft HBX.out) ?_) | (gi_at_builtin; refine wpListIn_append_own_at _ rfl _ _ 55 rfl b 59 i0 (.agg (ftArr ftz)) 28 112 Try.underlying55 hi hz0 hz1 hz2 rfl (by decide) (.slice va2 xs.length vc2) xs.length (xs.flatMap Ft.cells) rfl (HROW.out.alloc _) ⟨A.heap.size, 0, none⟩ 1 1 [.int .i64 x.i, .int .i64 x.n.s, .int .i64 x.n.i, .int .i64 x.n.t, .int .i64 x.b, .int .u8 x.want.a, .int .u8 x.want.b, .int .u8 x.want.c, .int .u8 x.want.d, .int .u8 x.want.e, .int .u8 x.want.f, .int .u8 x.want.g, .int .u8 x.want.h, .int .u8 x.got.a, .int .u8 x.got.b, .int .u8 x.got.c, .int .u8 x.got.d, .int .u8 x.got.e, .int .u8 x.got.f, .int .u8 x.got.g, .int .u8 x.got.h, .int .i64 x.should.s, .int .i64 x.should.i, .int .i64 x.should.t, .int .i64 x.was.s, .int .i64 x.was.i, .int .i64 x.was.t, .int .i8 x.k] rfl rfl (cells_new A [.int .i64 x.i, .int .i64 x.n.s, .int .i64 x.n.i, .int .i64 x.n.t, .int .i64 x.b, .int .u8 x.want.a, .int .u8 x.want.b, .int .u8 x.want.c, .int .u8 x.want.d, .int .u8 x.want.e, .int .u8 x.want.f, .int .u8 x.want.g, .int .u8 x.want.h, .int .u8 x.got.a, .int .u8 x.got.b, .int .u8 x.got.c, .int .u8 x.got.d, .int .u8 x.got.e, .int .u8 x.got.f, .int .u8 x.got.g, .int .u8 x.got.h, .int .i64 x.should.s, .int .i64 x.should.i, .int .i64 x.should.t, .int .i64 x.was.s, .int .i64 x.was.i, .int .i64 x.was.t, .int .i8 x.k] 59) (Ft.cells_one x) (by unfold maxLen; omega) (by omega) (by simp; omega) ?_; intro v4 w4 hown4 hgrow4 hnil4 hloc4; obtain ⟨g4, cap4, rfl⟩ := ownsRow_succ hown4; obtain ⟨hR4, hv4, hv5, hrow5, hoth⟩ := Rnd.append (n₀ := w.heap.size) (n₁ := w.heap.size + 1) HV.out (by decide) (Nat.le_refl _) (by omega) (owns_base HROW.out hwb) (owns_base hown4 hwb) hgrow4 hloc4; have hc1 := hv4.cell; have hf1 := hv4.frozen; have HOTH := Lib.hid hoth; have HLOC := Lib.hid hloc4; have HV5 := Lib.hid hv5; have HROW5 := Lib.hid hrow5; have HR4 := Lib.hid hR4; have HV4 := Lib.hid hv4; clear hoth hnil4 hloc4 hgrow4 hown4 hv5 hrow5 hR4 hv4))
        refine ⟨fun j hj => ?_, ⟨HR4.out.keep, fun _ k' hk' => ?_⟩, .slice (some ⟨g4, 0, none⟩) (xs.length + 1) cap4, HV5.out, ?_, HR4.out.below HBE.out (Nat.le_refl _), HI.out.hb, Nat.le_trans hsz HR4.out.size⟩
        · have hjl : j < A.heap.size := by rcases hj with rfl | rfl <;> omega
          rw [Array.getElem?_eq_getElem hjl]
          exact HOTH.out j _ (by rcases hj with rfl | rfl <;> omega) (fun e => by
            have := (HROW.out.lt j e).1
            rcases hj with rfl | rfl <;> omega) (Array.getElem?_eq_getElem hjl)
        · obtain ⟨b0, o, s, n, c, e, hc⟩ := hk'
          cases e
          rw [HV5.out.cell] at hc
          cases hc
          exact (HROW5.out.lt _ rfl).2
        · have hr6 : (w4.setCell ⟨w.heap.size, 0, none⟩ (.slice (some ⟨g4, 0, none⟩) (xs.length + 1) cap4)).ownsRow b 59 28 (.slice (some ⟨g4, 0, none⟩) (xs.length + 1) cap4) (xs.length + 1) (xs.flatMap Ft.cells ++ [.int .i64 x.i, .int .i64 x.n.s, .int .i64 x.n.i, .int .i64 x.n.t, .int .i64 x.b, .int .u8 x.want.a, .int .u8 x.want.b, .int .u8 x.want.c, .int .u8 x.want.d, .int .u8 x.want.e, .int .u8 x.want.f, .int .u8 x.want.g, .int .u8 x.want.h, .int .u8 x.got.a, .int .u8 x.got.b, .int .u8 x.got.c, .int .u8 x.got.d, .int .u8 x.got.e, .int .u8 x.got.f, .int .u8 x.got.g, .int .u8 x.got.h, .int .i64 x.should.s, .int .i64 x.should.i, .int .i64 x.should.t, .int .i64 x.was.s, .int .i64 x.was.i, .int .i64 x.was.t, .int .i8 x.k]) := by
            refine owns_up HROW5.out (fun g hg => ?_)
            rcases HLOC.out with h1 | h1
            · exact (HROW.out.lt g (by rw [← h1]; exact hg)).1
            · rw [h1] at hg
              cases hg
              simp
              omega
          have hfin : ((readsP l).take (k + 1)).filter (fun f => decide (f.want ≠ f.got)) = xs ++ [x] := HST.out
          rw [hfin]
          simpa [Ft.cells, Nm.cells, V8.cells] using hr6
    case done =>
      rintro b W ⟨vo, hI⟩ hD
      have hrow : W.ownsRow b 59 28 vo (wrongP l).length ((wrongP l).flatMap Ft.cells) := by
        have := hI.row
        rwa [List.take_length] at this
      obtain ⟨a', c', rfl⟩ := ownsRow_slice hrow
      have hc := hI.box.cell
      have hf := hI.box.frozen
      have HI := Lib.hid hI
      have HROW := Lib.hid hrow
      clear hseq hI hrow
      gi_wp2_with fail
      have hv2 := HI.out.box.set (.slice a' (wrongP l).length c')
      have hK2 : (W.setCell ⟨w.heap.size, 0, none⟩ (.slice a' (wrongP l).length c')).heap[w3.heap.size]? = some (.deferred (some [])) := (Below.heap_setCell _ _ _ _ (by show w3.heap.size ≠ w.heap.size; omega)).trans hD
      have hv3 : Boxed ((W.setCell ⟨w.heap.size, 0, none⟩ (.slice a' (wrongP l).length c')).putObj w3.heap.size (.deferred none)) w.heap.size 55 _ := (World.putObj_heap_other (by omega)).trans hv2
      have hrow2 := owns_turn HROW.out (grownBy_setCell' W w.heap.size (.slice a' (wrongP l).length c')) (not_row HI.out.box (by decide) HROW.out)
      refine ⟨by simp, .inl ⟨_, _, rfl, run_takeDeferred hK2, ?_⟩⟩
      refine ⟨.tuple #[.slice a' (wrongP l).length c', .int .i64 0], by simp [results, Try.results29, go_sem, hv3.cell], .inr ⟨HM.out, _, rfl, ?_⟩, ?_⟩
      · exact owns_base (ownsRow_putObj hrow2 _ hK2 rfl) (by have := HI.out.hb; omega)
      · exact (HI.out.below.setCell (p := ⟨w.heap.size, 0, none⟩) (by simp) _).trans (belowK_b (w := w) (Nat.le_refl _) _ w3.heap.size _ _ (by omega) hK2 rfl rfl)

end Go.Proofs.Ytgdmgeihgkbjaaa
