/- 'cashboxref32.Reads' -/
import Derived.Test.YtgdmgeihgkbjaaaKindRef
namespace Go.Proofs.Ytgdmgeihgkbjaaa
open Go.RowKit Go.Shelf

/-- A row of names, as cells. -/
def wsArr (ns : List Nm) : Array Value := (ns.flatMap Nm.cells).toArray
def ws0 : List Nm := List.replicate 32 nz
theorem zero127s : Try.zeroCells127 = wsArr ws0 := by kernel_rfl

theorem Nm.cells_length (n : Nm) : n.cells.length = 3 := rfl

theorem st_ws {w : World} {B i : Nat} {s : List Nm} (n : Nm) {t : TypeId} (hB : w.heap[B]? = some (.cells (wsArr s) t (0, 0))) (hi : i < s.length) :
    (storeVar 34 ⟨B, i * 3, none⟩ (.agg (nmArr n))).run Try.prog w = .ok () (w.setRow B (wsArr (s.set i n))) := by
  have h := run_storeCells_row (P := Try.prog) w B (i * 3) (s.flatMap Nm.cells) t n.cells hB (by rw [flat_length Nm.cells_length, Nm.cells_length]; omega) (Nm.cells_one n)
  rw [flat_set Nm.cells_length s i n hi] at h
  have hs : ((Value.agg (nmArr n)).cells.size ≠ 3) = False := by simp [Value.cells, nmArr]
  simp only [storeVar, Sem.run_bind, Try.sizeOf34, Result.andThen_ok, hs, if_false]
  exact h

theorem wsCells_at {W : World} {B i : Nat} {s : List Nm} {n : Nm} {t : TypeId} {fr : Nat × Nat} (hB : W.heap[B]? = some (.cells (wsArr s) t fr)) (hi : s[i]? = some n) :
    W.cell? ⟨B, i * 3, none⟩ = some (.int .i64 n.s) ∧ W.cell? ⟨B, i * 3 + 1, none⟩ = some (.int .i64 n.i) ∧ W.cell? ⟨B, i * 3 + 2, none⟩ = some (.int .i64 n.t) := by
  have hc : ∀ j c, n.cells[j]? = some c → W.cell? ⟨B, i * 3 + j, none⟩ = some c := by
    intro j c hj
    have hj3 : j < 3 := by
      have := (List.getElem?_eq_some_iff.1 hj).1
      simpa [Nm.cells] using this
    rw [cell_of_row W B _ _ t fr hB]
    simp only [wsArr, List.getElem?_toArray]
    rw [flat_get Nm.cells_length s i n hi j hj3]
    exact hj
  exact ⟨hc 0 _ rfl, hc 1 _ rfl, hc 2 _ rfl⟩

theorem st_kindB {w : World} {B : Nat} {f : Ft} {t : TypeId} (k : Int) (h : w.heap[B]? = some (.cells (ftArr f) t (0, 0))) : (storeVar 32 ⟨B, 27, none⟩ (.int .i8 k)).run Try.prog w = .ok () (w.setRow B (ftArr { f with k := k })) := by
  have h' := run_storeCells_row (P := Try.prog) w B 27 (ftArr f).toList t [.int .i8 k] (by simpa using h) (by simp [ftArr]) (by intro c hc; simp at hc; subst hc; rfl)
  have hs : ((Value.int .i8 k).cells.size ≠ 1) = False := by simp [Value.cells]
  have e : (splice (ftArr f).toList 27 [Value.int .i8 k]).toArray = ftArr { f with k := k } := rfl
  rw [e] at h'
  simp only [storeVar, Sem.run_bind, Try.sizeOf32, Result.andThen_ok, hs, if_false]
  exact h'

theorem run_buildF (f : Ft) (w : World) : (Instr.buildSlice 55 1 #[(0, .agg (ftArr f))]).run Try.prog w = .ok (.slice (some ⟨w.heap.size, 0, none⟩) 1 1) (w.alloc (.cells (ftArr f) 59)) := by
  simp [go_sem, ftArr]

theorem wpList_buildF {ops : Array Oper} {rest : List Oper} {o : Oper} {a : Act} {w : World} {Q : Exit → Act → World → Prop} (hgd : o.guard = none) (p : Operand) (ho : o.op = .buildSlice 55 1 #[(0, p)]) (f : Ft) (hp : a.eval p = .agg (ftArr f))
    (h : wpList Try.prog ops Q rest (a.put o.dst (.slice (some ⟨w.heap.size, 0, none⟩) 1 1)) (w.alloc (.cells (ftArr f) 59))) : wpList Try.prog ops Q (o :: rest) a w :=
  wpList_plain hgd fun K hK => by
    unfold Oper.wp execOp
    simp only [ho, List.map_toArray, List.map_cons, List.map_nil, hp, Sem.run_bind, run_buildF, Result.andThen_ok, Sem.run_pure]
    exact hK _ _ h

theorem ft_news {w : World} {B : Nat} {f : Ft} {t : TypeId} {fr : Nat × Nat} (h : w.heap[B]? = some (.cells (ftArr f) t fr)) : ∀ j u, f.cells[j]? = some u → w.cell? ((⟨B, 0, none⟩ : Addr).add j) = some u := fun j u hu => by
  have e : (⟨B, 0, none⟩ : Addr).add j = ⟨B, j, none⟩ := by unfold Addr.add; split <;> simp_all
  rw [e, cell_of_row w B _ _ t fr h, ← Array.getElem?_toList]
  exact hu

/-- What lies in the loops of Reads. -/
structure RdI (w1 : World) (h : List Sn) (os : List Ft) (vo : Value) (W : World) : Prop where
  st : W.heap[w1.heap.size]? = some (.cells (stArr (h.map (·.v))) 24 (0, 0))
  ws : W.heap[w1.heap.size + 1]? = some (.cells (wsArr (h.map (·.n))) 127 (0, 0))
  below : Below w1.heap.size w1 W
  row : W.ownsRow (w1.heap.size + 2) 59 28 vo os.length (os.flatMap Ft.cells)
  sz : w1.heap.size + 2 ≤ W.heap.size

theorem RdI.grown {w1 : World} {h : List Sn} {os : List Ft} {vo : Value} {W W' : World} (hI : RdI w1 h os vo W) (hb : Below W.heap.size W W') : RdI w1 h os vo W' :=
  ⟨(hb.block _ (lt_of_heap hI.st)).trans hI.st, (hb.block _ (lt_of_heap hI.ws)).trans hI.ws, hI.below.trans (hb.mono hI.below.size), owns_below hI.row hb, Nat.le_trans hI.sz hb.size⟩

theorem RdI.write {w1 : World} {h : List Sn} {os : List Ft} {vo : Value} {W : World} (hI : RdI w1 h os vo W) (i : Nat) (x : Sn) :
    RdI w1 (h.set i x) os vo ((W.setRow w1.heap.size (stArr ((h.map (·.v)).set i x.v))).setRow (w1.heap.size + 1) (wsArr ((h.map (·.n)).set i x.n))) := by
  obtain ⟨W1, hW1⟩ : ∃ W1, W.setRow w1.heap.size (stArr ((h.map (·.v)).set i x.v)) = W1 := ⟨_, rfl⟩
  have g1 : W.grownBy W1 (some w1.heap.size) := hW1 ▸ grownBy_setRow _ _ _
  have s1 : W1.heap[w1.heap.size]? = some (.cells (stArr ((h.map (·.v)).set i x.v)) 24 (0, 0)) := hW1 ▸ setRow_heap _ _ _ _ _ _ hI.st
  have t1 : W1.heap[w1.heap.size + 1]? = some (.cells (wsArr (h.map (·.n))) 127 (0, 0)) := cells_turn hI.ws g1 (by omega)
  have r1 : W1.ownsRow (w1.heap.size + 2) 59 28 vo os.length (os.flatMap Ft.cells) := owns_turn hI.row g1 (fun e => by have := (hI.row.lt _ e).1; omega)
  rw [hW1]
  refine ⟨?_, ?_, ?_, owns_turn r1 (grownBy_setRow _ _ _) (fun e => by have := (hI.row.lt _ e).1; omega), by have := g1.size; have := hI.sz; simp; omega⟩
  · rw [List.map_set]
    exact cells_turn s1 (grownBy_setRow _ _ _) (by omega)
  · rw [List.map_set]
    exact setRow_heap _ _ _ _ _ _ t1
  · exact (hI.below.grown g1 hI.below.size (fun k e => by cases e; exact Nat.le_refl _)).grown (grownBy_setRow _ _ _) (Nat.le_trans hI.below.size g1.size) (fun k e => by cases e; omega)

theorem RdI.push {w1 : World} {h : List Sn} {os : List Ft} {vo vo' : Value} {W W' : World} {f : Ft} (hI : RdI w1 h os vo W) (hg : W.grownBy W' vo.ownBlock) (hr : W'.ownsRow (w1.heap.size + 2) 59 28 vo' (os.length + 1) (os.flatMap Ft.cells ++ f.cells)) : RdI w1 h (os ++ [f]) vo' W' := by
  have hlt : ∀ k, vo.ownBlock = some k → w1.heap.size + 2 ≤ k := fun k e => (hI.row.lt k e).1
  refine ⟨(hg.block _ (lt_of_heap hI.st) (fun e => by have := hlt _ e.symm; omega)).trans hI.st, (hg.block _ (lt_of_heap hI.ws) (fun e => by have := hlt _ e.symm; omega)).trans hI.ws, hI.below.grown hg hI.below.size (fun k e => by have := hlt k e; omega), ?_, Nat.le_trans hI.sz hg.size⟩
  simpa using hr

theorem RdI.turn {w1 : World} {h : List Sn} {os : List Ft} {vo : Value} {W W' : World} {e : Nat} (hI : RdI w1 h os vo W) (hg : W.grownBy W' (some e)) (he : w1.heap.size + 2 ≤ e) (hv : vo.ownBlock ≠ some e) : RdI w1 h os vo W' :=
  ⟨cells_turn hI.st hg (by omega), cells_turn hI.ws hg (by omega), hI.below.grown hg hI.below.size (fun k ek => by cases ek; omega), owns_turn hI.row hg hv, Nat.le_trans hI.sz hg.size⟩

theorem idx_skip {n : Nm} {x : Sn} {r : List Sn} {k : Nat} (h : x.n ≠ n) : idxN n (x :: r) k = idxN n r (k + 1) := by
  conv => lhs; unfold idxN
  rw [if_neg h]
theorem idx_take {n : Nm} {x : Sn} {r : List Sn} {k : Nat} (h : x.n = n) : idxN n (x :: r) k = k :: idxN n r (k + 1) := by
  conv => lhs; unfold idxN
  rw [if_pos h]
theorem pairs_cons {l : List Sn} {ns : List Nm} {q : Nat} {n : Nm} (h : ns[q]? = some n) : pairsP l (ns.drop q) = (idxN n l 0).map (fun i => (n, i)) ++ pairsP l (ns.drop (q + 1)) := by
  obtain ⟨h1, h2⟩ := List.getElem?_eq_some_iff.1 h
  rw [List.drop_eq_getElem_cons h1, h2]
  simp [pairsP]

/-- Over the region that lays a fault: where it lies. -/
def RfT (W0 : World) (f : Ft) (e : Nat) (d1 d2 : Bool) (W : World) : Prop := Below W0.heap.size W0 W ∧ (d1 = true → W0.heap.size ≤ e) ∧ (d1 = true → d2 = false → W.heap[e]? = some (.cells (ftArr ftz) 59 (0, 0))) ∧ (d2 = true → W.heap[e]? = some (.cells (ftArr f) 59 (0, 0)))

theorem ord_names {l : List Sn} (hm : mayP l = true) {n : Nm} (hn : n ∈ ordR l) : n ≠ nz := by
  unfold ordR at hn
  obtain ⟨x, hx, rfl⟩ := List.mem_map.1 hn
  obtain ⟨i, hi⟩ := List.getElem?_of_mem (List.mem_filter.1 hx).1
  exact step_good hm hi

set_option maxRecDepth 100000 in
set_option maxHeartbeats 4000000 in
theorem reads65_err (l : List Sn) (v : Value) (w : World) (hl : l.length ≤ 100000) (hv : Sns w.heap.size w v l) (hm : mayP l = false) :
    Calls Try.prog 65 #[v] w fun e w' => e = .returned (.tuple #[slNil, .int .i64 2]) ∧ Below w.heap.size w w' := by
  have HC := Lib.hid (order35_any l v w hl hv)
  have HM := Lib.hid hm
  obtain ⟨a, cap, rfl, _, _⟩ := hv
  clear hm
  go_enter Try.func65, Try.ntmps65
  go_wp2_with fail
  refine HC.out.mono ?_
  rintro e w2 ⟨h, b2⟩
  rcases h with ⟨_, rfl⟩ | ⟨h2, _⟩
  · have HB := Lib.hid b2
    clear b2
    go_wp2_with fail
    go_ret2
    exact ⟨rfl, HB.out⟩
  · rw [HM.out] at h2; cases h2

set_option maxRecDepth 100000 in
set_option maxHeartbeats 8000000 in
theorem reads65_ok (l : List Sn) (v : Value) (w : World) (hl : l.length ≤ 100000) (hv : Sns w.heap.size w v l) (hm : mayP l = true) :
    Calls Try.prog 65 #[v] w fun e w' => ∃ vo, e = .returned (.tuple #[vo, .int .i64 0]) ∧ w'.ownsRow w.heap.size 59 28 vo (readsP l).length ((readsP l).flatMap Ft.cells) ∧ Below w.heap.size w w' := by
  obtain ⟨i0, hi, hz0, hz1, hz2⟩ := info_parts Try.info59z
  have HC := Lib.hid (order35_any l v w hl hv)
  have HM := Lib.hid hm
  have HV := Lib.hid hv
  have HRL := Lib.hid (reads_length hl)
  obtain ⟨a, cap, rfl, hn, ha⟩ := hv
  have HN := Lib.hid hn
  have HA := Lib.hid ha
  clear hm hn ha
  go_enter Try.func65, Try.ntmps65
  go_wp2_with fail
  refine HC.out.mono ?_
  rintro e w1 ⟨h, b1⟩
  rcases h with ⟨h2, _⟩ | ⟨_, vn, rfl, hrow⟩
  · rw [HM.out] at h2; cases h2
  obtain ⟨na, nc, rfl⟩ := ownsRow_slice hrow
  have HNS : Hid (∀ (q : Nat) n, (ordR l)[q]? = some n → ∃ g, na = some ⟨g, 0, none⟩ ∧ g < w1.heap.size ∧ RowsAt Nm.cells 3 w1 g 0 (ordR l)) := Lib.hid (fun q n hq => by
    obtain ⟨g, h1, _, h3, h4⟩ := owns_rows (enc := Nm.cells) (fun _ => rfl) hrow (by have := (List.getElem?_eq_some_iff.1 hq).1; omega) rfl
    exact ⟨g, h1, h3, h4⟩)
  have HNR : Hid (NmRow w1 (.slice na (ordR l).length nc) (ordR l)) := Lib.hid ⟨na, nc, rfl, HNS.out⟩
  have hol := ordR_le l
  have HOL : Hid ((ordR l).length ≤ 100000) := Lib.hid (by omega)
  have HB1 := Lib.hid b1
  have HV1 : Hid (Sns w1.heap.size w1 (.slice a l.length cap) l) := (HV.out.below b1).mono b1.size
  obtain ⟨w2, hw2⟩ : ∃ w2, (w1.alloc (.cells (stArr st0) 24)).alloc (.cells (wsArr ws0) 127) = w2 := ⟨_, rfl⟩
  have hI0 : RdI w1 h0 [] (.slice none 0 0) w2 := by
    rw [← hw2]
    refine ⟨heap_alloc2_old w1 _ _, heap_alloc2_new w1 _ _, ((Below.refl _ _).alloc (Nat.le_refl _) _).alloc (by simp) _, World.ownsRow_nil _ _ _ _, by simp⟩
  have HI0 := Lib.hid hI0
  have HW2 := Lib.hid hw2
  clear hrow b1 hol HC hw2 hI0
  go_upto_region 7 with (first | (rw [zero24s]) | (rw [zero127s]))
  rw [HW2.out]
  clear HW2
  go_wp2_with fail
  go_loopw [6, 9] (fun vo io wr => ∃ (q : Nat) (h : List Sn) (os : List Ft), q ≤ (ordR l).length ∧ io = .int .i64 q ∧ h.length = 32 ∧ RdI w1 h os vo wr ∧ os ++ emit l (ordR l) (pairsP l ((ordR l).drop q)) h = readsP l) (fun _ io _ => (ordR l).length - (intOf io).toNat)
  case atStart => exact ⟨0, h0, [], Nat.zero_le _, rfl, (by decide), HI0.out, rfl⟩
  case round =>
    obtain ⟨q, h, os, hq, rfl, hh, hI, hE⟩ := hrel
    have HI := Lib.hid hI
    have HE := Lib.hid hE
    clear hI hE
    have hol := HOL.out
    by_cases hlt : q < (ordR l).length
    · obtain ⟨n, hn⟩ : ∃ n, (ordR l)[q]? = some n := ⟨_, List.getElem?_eq_getElem hlt⟩
      obtain ⟨g, rfl, hg2, hgr⟩ := HNS.out q n hn
      have hE2 : os ++ emit l (ordR l) ((idxN n (l.drop 0) 0).map (fun i => (n, i)) ++ pairsP l ((ordR l).drop (q + 1))) h = readsP l := by
        rw [← HE.out, pairs_cons hn]; rfl
      have HE2 := Lib.hid hE2
      have HGR := Lib.hid hgr
      have HNQ := Lib.hid hn
      have HNZ := Lib.hid (And.intro (ord_names HM.out (List.mem_of_getElem? hn)) (fun hz : nz ∈ ordR l => ord_names HM.out hz rfl))
      have HLT := Lib.hid hlt
      have hqi : (q : Int) < ((ordR l).length : Int) := by omega
      clear hgr hn hE2 hlt HE
      go_wp2_with fail
      go_loopw [6, 10] (fun vo jo wi => ∃ (k : Nat) (h : List Sn) (os : List Ft), k ≤ l.length ∧ jo = .int .i64 k ∧ h.length = 32 ∧ RdI w1 h os vo wi ∧ os ++ emit l (ordR l) ((idxN n (l.drop k) k).map (fun i => (n, i)) ++ pairsP l ((ordR l).drop (q + 1))) h = readsP l) (fun _ jo _ => l.length - (intOf jo).toNat)
      case atStart => exact ⟨0, h, os, Nat.zero_le _, rfl, hh, HI.out, HE2.out⟩
      case round =>
        clear HI HE2 hh
        obtain ⟨k, h, os, hk, rfl, hh, hI, hE⟩ := hrel
        have HI := Lib.hid hI
        have HE := Lib.hid hE
        clear hI hE
        by_cases hklt : k < l.length
        · obtain ⟨x, hx⟩ : ∃ x, l[k]? = some x := ⟨_, List.getElem?_eq_getElem hklt⟩
          obtain ⟨_, _, e1, hvn, hva⟩ := HV1.out
          cases e1
          obtain ⟨b, off, rfl, hb, hr⟩ := rows_some hvn hva hklt
          obtain ⟨c0, c1, c2, c3, c4, c5, c6, c7, c8, c9, c10, c11, c12, c13⟩ := (hr.below hb HI.out.below).sn hx
          have hdr := drop_cons hx
          have HX := Lib.hid hx
          have HKL := Lib.hid hklt
          have HDR := Lib.hid hdr
          have HR := Lib.hid hr
          obtain ⟨W1, hW1⟩ : ∃ W1, wr.alloc (.cells (snArr x) 36) = W1 := ⟨_, rfl⟩
          have bW1 : Below wr.heap.size wr W1 := hW1 ▸ below_alloc1 _
          have xW1 : W1.heap[wr.heap.size]? = some (.cells (snArr x) 36 (0, 0)) := hW1 ▸ heap_alloc_new _ _
          have hW1' : wr.alloc (.cells #[.int .i8 x.k, .int .i64 x.n.s, .int .i64 x.n.i, .int .i64 x.n.t, .int .i64 x.b, .int .u8 x.v.a, .int .u8 x.v.b, .int .u8 x.v.c, .int .u8 x.v.d, .int .u8 x.v.e, .int .u8 x.v.f, .int .u8 x.v.g, .int .u8 x.v.h, .int .i64 x.e] 36) = W1 := hW1
          have HI1 := Lib.hid (HI.out.grown bW1)
          have HW1 := Lib.hid hW1'
          have HX1 := Lib.hid xW1
          have HZ1 : Hid (w1.heap.size + 2 ≤ wr.heap.size) := HI.out.sz
          clear hvn hva hr hx hdr hklt hW1 hW1' bW1 xW1 HI
          go_upto_region 14 with (fail)
          rw [HW1.out]
          clear c0 c1 c2 c3 c4 c5 c6 c7 c8 c9 c10 c11 c12 c13 HW1
          generalize wr.heap.size = Bx at HX1 HZ1 ⊢
          obtain ⟨d0, d1, d2, d3, d4, d5, d6, d7, d8, d9, d10, d11, d12, d13⟩ := snArr_at HX1.out
          have hgr2 := HGR.out.below hg2 HI1.out.below
          have g0 := hgr2 q n HNQ.out 0 _ rfl
          have g1 := hgr2 q n HNQ.out 1 _ rfl
          have g2 := hgr2 q n HNQ.out 2 _ rfl
          simp only [Nat.zero_add, Nat.add_zero] at g0 g1 g2
          have hen := fun w => neq_nm x.n n w
          clear hgr2
          by_cases hnn : x.n = n
          · have e_n : decide (x.n = n) = true := by simp [hnn]
            have HNN := Lib.hid hnn
            clear hnn
            go_wp2_with fail
            go_quiet (fail)
            go_upto_region 15 with (fail)
            obtain ⟨W2, hW2⟩ : ∃ W2, W1.drewN nq = W2 := ⟨_, rfl⟩
            have bW2 : Below W1.heap.size W1 W2 := hW2 ▸ Below.drewN' (Below.refl _ _) nq
            have HI2 := Lib.hid (HI1.out.grown bW2)
            have HX2 := Lib.hid ((bW2.block _ (lt_of_heap HX1.out)).trans HX1.out)
            rw [hW2]
            clear hW2 bW2 d0 d1 d2 d3 d4 d5 d6 d7 d8 d9 d10 d11 d12 d13 g0 g1 g2 hen e_n HI1 HX1
            obtain ⟨d0, d1, d2, d3, d4, d5, d6, d7, d8, d9, d10, d11, d12, d13⟩ := snArr_at HX2.out
            by_cases k2 : x.k = 2
            · have e_2 : (x.k == 2) = true := by simp [k2]
              have e_1 : (x.k == 1) = false := by simp [k2]
              obtain ⟨hx0, hx1⟩ := step_range HM.out HX.out (.inr k2)
              have hE' : os ++ emit l (ordR l) ((idxN n (l.drop (k + 1)) (k + 1)).map (fun i => (n, i)) ++ pairsP l ((ordR l).drop (q + 1))) (h.set x.b.toNat x) = readsP l := by
                rw [← HE.out, HDR.out, idx_take HNN.out, List.map_cons, List.cons_append, emit_write HX.out k2]
              have HE' := Lib.hid hE'
              have hj : x.b.toNat < (h.map (·.v)).length := by rw [List.length_map]; omega
              have hj2 : x.b.toNat < (h.map (·.n)).length := by rw [List.length_map]; omega
              have hI3 := HI2.out.write x.b.toNat x
              obtain ⟨W3, hW3⟩ : ∃ W3, W2.setRow w1.heap.size (stArr ((h.map (·.v)).set x.b.toNat x.v)) = W3 := ⟨_, rfl⟩
              rw [hW3] at hI3
              have gW3 : W2.grownBy W3 (some w1.heap.size) := hW3 ▸ grownBy_setRow _ _ _
              have tW3 : W3.heap[w1.heap.size + 1]? = some (.cells (wsArr (h.map (·.n))) 127 (0, 0)) := cells_turn HI2.out.ws gW3 (by omega)
              have xW3 : W3.heap[Bx]? = some (.cells (snArr x) 36 (0, 0)) := cells_turn HX2.out gW3 (by have := HZ1.out; omega)
              obtain ⟨W4, hW4⟩ : ∃ W4, W3.setRow (w1.heap.size + 1) (wsArr ((h.map (·.n)).set x.b.toNat x.n)) = W4 := ⟨_, rfl⟩
              rw [hW4] at hI3
              have gW4 : W3.grownBy W4 (some (w1.heap.size + 1)) := hW4 ▸ grownBy_setRow _ _ _
              have xW4 : W4.heap[Bx]? = some (.cells (snArr x) 36 (0, 0)) := cells_turn xW3 gW4 (by have := HZ1.out; omega)
              have HI3 := Lib.hid hI3
              have HS3 := Lib.hid (st_st x.v HI2.out.st hj)
              have HW3 := Lib.hid hW3
              have HS4 := Lib.hid (st_ws x.n tW3 hj2)
              have HW4 := Lib.hid hW4
              have HX3 := Lib.hid xW3
              have HX4 := Lib.hid xW4
              clear k2 hE' hI3 hW3 gW3 tW3 xW3 hW4 gW4 xW4
              go_upto_region 17 with (refine wpList_store rfl 23 (.tmp 51) (.tmp 50) rfl ⟨w1.heap.size, x.b.toNat * 8, none⟩ rfl (v8Val x.v) rfl HS3.out ?_; rw [HW3.out])
              clear d0 d1 d2 d3 d4 d5 d6 d7 d8 d9 d10 d11 d12 d13
              obtain ⟨d0, d1, d2, d3, d4, d5, d6, d7, d8, d9, d10, d11, d12, d13⟩ := snArr_at HX3.out
              go_upto_region 18 with (refine wpList_store rfl 34 (.tmp 56) (.tmp 55) rfl ⟨w1.heap.size + 1, x.b.toNat * 3, none⟩ rfl (.agg (nmArr x.n)) rfl HS4.out ?_; rw [HW4.out])
              clear d0 d1 d2 d3 d4 d5 d6 d7 d8 d9 d10 d11 d12 d13
              obtain ⟨d0, d1, d2, d3, d4, d5, d6, d7, d8, d9, d10, d11, d12, d13⟩ := snArr_at HX4.out
              go_wp2_with fail
              go_roundw
              case rel => exact ⟨k + 1, h.set x.b.toNat x, os, by have := HKL.out; omega, by go_num, by simpa using hh, HI3.out, HE'.out⟩
              case measure => have := HKL.out; simp [intOf]; omega
            · have e_2 : (x.k == 2) = false := by simp [k2]
              by_cases k1 : x.k = 1
              · have e_1 : (x.k == 1) = true := by simp [k1]
                obtain ⟨hx0, hx1⟩ := step_range HM.out HX.out (.inl k1)
                obtain ⟨y, hy⟩ : ∃ y, h[x.b.toNat]? = some y := ⟨_, List.getElem?_eq_getElem (by omega)⟩
                have hfo : ftOf l (ordR l) h n k x = ⟨(k : Int), n, x.b, y.v, x.v, y.n, lastW (l.take k) x.b x.v, kindP (ordR l) n (lastW (l.take k) x.b x.v) x.v⟩ := by simp [ftOf, hy]
                have hE' : (os ++ [ftOf l (ordR l) h n k x]) ++ emit l (ordR l) ((idxN n (l.drop (k + 1)) (k + 1)).map (fun i => (n, i)) ++ pairsP l ((ordR l).drop (q + 1))) h = readsP l := by
                  rw [← HE.out, HDR.out, idx_take HNN.out, List.map_cons, List.cons_append, emit_read HX.out k1]; simp
                rw [hfo] at hE'
                have hol2 : os.length + 1 ≤ 10000000000 := by
                  have h1 := HRL.out
                  rw [← hE'] at h1
                  simp at h1
                  omega
                have HE' := Lib.hid hE'
                have HOL2 := Lib.hid hol2
                have hyv : (h.map (·.v))[x.b.toNat]? = some y.v := by rw [List.getElem?_map, hy]; rfl
                have hyn : (h.map (·.n))[x.b.toNat]? = some y.n := by rw [List.getElem?_map, hy]; rfl
                have HYV := Lib.hid hyv
                have HYN := Lib.hid hyn
                clear k2 k1 hfo hE' hy hol2 hyv hyn HE
                go_upto_region 19 with (fail)
                clear d0 d1 d2 d3 d4 d5 d6 d7 d8 d9 d10 d11 d12 d13 e_1 e_2
                have hxc : ∀ Wx, Below W2.heap.size W2 Wx → Wx.cell? ⟨Bx, 1, none⟩ = some (.int .i64 n.s) ∧ Wx.cell? ⟨Bx, 2, none⟩ = some (.int .i64 n.i) ∧ Wx.cell? ⟨Bx, 3, none⟩ = some (.int .i64 n.t) ∧ Wx.cell? ⟨Bx, 4, none⟩ = some (.int .i64 x.b) := fun Wx hW => by
                  obtain ⟨_, d1, d2, d3, d4, _⟩ := snArr_at ((hW.block _ (lt_of_heap HX2.out)).trans HX2.out)
                  rw [HNN.out] at d1 d2 d3
                  exact ⟨d1, d2, d3, d4⟩
                have hxv : ∀ Wx, Below W2.heap.size W2 Wx → Wx.cell? ⟨Bx, 5, none⟩ = some (.int .u8 x.v.a) ∧ Wx.cell? ⟨Bx, 6, none⟩ = some (.int .u8 x.v.b) ∧ Wx.cell? ⟨Bx, 7, none⟩ = some (.int .u8 x.v.c) ∧ Wx.cell? ⟨Bx, 8, none⟩ = some (.int .u8 x.v.d) ∧ Wx.cell? ⟨Bx, 9, none⟩ = some (.int .u8 x.v.e) ∧ Wx.cell? ⟨Bx, 10, none⟩ = some (.int .u8 x.v.f) ∧ Wx.cell? ⟨Bx, 11, none⟩ = some (.int .u8 x.v.g) ∧ Wx.cell? ⟨Bx, 12, none⟩ = some (.int .u8 x.v.h) := fun Wx hW => by
                  obtain ⟨_, _, _, _, _, d5, d6, d7, d8, d9, d10, d11, d12, _⟩ := snArr_at ((hW.block _ (lt_of_heap HX2.out)).trans HX2.out)
                  exact ⟨d5, d6, d7, d8, d9, d10, d11, d12⟩
                have hsc := fun Wx (hW : Below W2.heap.size W2 Wx) => stCells_at ((hW.block _ (lt_of_heap HI2.out.st)).trans HI2.out.st) HYV.out
                have hwc := fun Wx (hW : Below W2.heap.size W2 Wx) => wsCells_at ((hW.block _ (lt_of_heap HI2.out.ws)).trans HI2.out.ws) HYN.out
                have hsv : ∀ Wx, Below W2.heap.size W2 Wx → Sns Wx.heap.size Wx (.slice (some ⟨b, off, none⟩) l.length cap) l := fun Wx hW => (HV1.out.below (HI2.out.below.trans (hW.mono HI2.out.below.size))).mono (HI2.out.below.trans (hW.mono HI2.out.below.size)).size
                have hxk := HX.out
                have hll := hl
                have hki : (k : Int) < (l.length : Int) := by have := HKL.out; omega
                generalize hwas : lastW (l.take k) x.b x.v = was at HE'
                refine wp_region_frameE (E := Nat) mixed (by kernel_rfl) (fun e => [(0, 60, .int .i64 (k : Int)), (1, 61, .pointer (some ⟨Bx, 1, none⟩)), (2, 62, .agg #[.int .i64 n.s, .int .i64 n.i, .int .i64 n.t]), (3, 63, .pointer (some ⟨Bx, 4, none⟩)), (4, 64, .int .i64 x.b), (5, 65, .pointer (some ⟨Bx, 4, none⟩)), (6, 66, .int .i64 x.b), (7, 67, .pointer (some ⟨w1.heap.size, x.b.toNat * 8, none⟩)), (8, 68, .agg #[.int .u8 y.v.a, .int .u8 y.v.b, .int .u8 y.v.c, .int .u8 y.v.d, .int .u8 y.v.e, .int .u8 y.v.f, .int .u8 y.v.g, .int .u8 y.v.h]), (9, 69, .pointer (some ⟨Bx, 5, none⟩)), (10, 70, .agg #[.int .u8 x.v.a, .int .u8 x.v.b, .int .u8 x.v.c, .int .u8 x.v.d, .int .u8 x.v.e, .int .u8 x.v.f, .int .u8 x.v.g, .int .u8 x.v.h]), (11, 71, .pointer (some ⟨Bx, 4, none⟩)), (12, 72, .int .i64 x.b), (13, 73, .pointer (some ⟨w1.heap.size + 1, x.b.toNat * 3, none⟩)), (14, 74, .agg #[.int .i64 y.n.s, .int .i64 y.n.i, .int .i64 y.n.t]), (15, 75, .slice (some ⟨b, off, none⟩) l.length cap), (16, 76, .int .i64 (k : Int)), (17, 77, .agg (nmArr was)), (18, 78, .agg (ftArr ⟨(k : Int), n, x.b, y.v, x.v, y.n, was, 0⟩)), (19, 12, .pointer (some ⟨e, 0, none⟩))]) (fun e L Wx => RfT W2 ⟨(k : Int), n, x.b, y.v, x.v, y.n, was, 0⟩ e (L 19) (L 20) Wx) 0 ?_ ?_ (fun _ => by rfl) (fun _ => by rfl) ?_
                · exact ⟨(Below.refl _ _).drew, (fun h => by cases h), (fun h => by cases h), (fun h => by cases h)⟩
                · intro a0 ps ha0 hps
                  have hsz : a0.tmps.size = 88 := by rw [ha0]; rfl
                  have u0 : a0.tmps[0]? = some (.slice (some ⟨b, off, none⟩) l.length cap) := by rw [ha0]; rfl
                  have u7 : a0.tmps[7]? = some (.pointer (some ⟨w1.heap.size, 0, none⟩)) := by rw [ha0]; rfl
                  have u8 : a0.tmps[8]? = some (.pointer (some ⟨w1.heap.size + 1, 0, none⟩)) := by rw [ha0]; rfl
                  have u10 : a0.tmps[10]? = some (.int .i64 (k : Int)) := by rw [ha0]; rfl
                  have u11 : a0.tmps[11]? = some (.pointer (some ⟨Bx, 0, none⟩)) := by rw [ha0]; rfl
                  have n0 : ∀ e, slotOf (ps e) 0 = none := by rw [hps]; intro e; rfl
                  have n7 : ∀ e, slotOf (ps e) 7 = none := by rw [hps]; intro e; rfl
                  have n8 : ∀ e, slotOf (ps e) 8 = none := by rw [hps]; intro e; rfl
                  have n10 : ∀ e, slotOf (ps e) 10 = none := by rw [hps]; intro e; rfl
                  have n11 : ∀ e, slotOf (ps e) 11 = none := by rw [hps]; intro e; rfl
                  have k60 : ∀ e, slotOf (ps e) 60 = some (0, .int .i64 (k : Int)) := by rw [hps]; intro e; rfl
                  have q60 : ∀ e, keysOK (ps e) 0 60 = true := by rw [hps]; intro e; rfl
                  have k61 : ∀ e, slotOf (ps e) 61 = some (1, .pointer (some ⟨Bx, 1, none⟩)) := by rw [hps]; intro e; rfl
                  have q61 : ∀ e, keysOK (ps e) 1 61 = true := by rw [hps]; intro e; rfl
                  have k62 : ∀ e, slotOf (ps e) 62 = some (2, .agg #[.int .i64 n.s, .int .i64 n.i, .int .i64 n.t]) := by rw [hps]; intro e; rfl
                  have q62 : ∀ e, keysOK (ps e) 2 62 = true := by rw [hps]; intro e; rfl
                  have k63 : ∀ e, slotOf (ps e) 63 = some (3, .pointer (some ⟨Bx, 4, none⟩)) := by rw [hps]; intro e; rfl
                  have q63 : ∀ e, keysOK (ps e) 3 63 = true := by rw [hps]; intro e; rfl
                  have k64 : ∀ e, slotOf (ps e) 64 = some (4, .int .i64 x.b) := by rw [hps]; intro e; rfl
                  have q64 : ∀ e, keysOK (ps e) 4 64 = true := by rw [hps]; intro e; rfl
                  have k65 : ∀ e, slotOf (ps e) 65 = some (5, .pointer (some ⟨Bx, 4, none⟩)) := by rw [hps]; intro e; rfl
                  have q65 : ∀ e, keysOK (ps e) 5 65 = true := by rw [hps]; intro e; rfl
                  have k66 : ∀ e, slotOf (ps e) 66 = some (6, .int .i64 x.b) := by rw [hps]; intro e; rfl
                  have q66 : ∀ e, keysOK (ps e) 6 66 = true := by rw [hps]; intro e; rfl
                  have k67 : ∀ e, slotOf (ps e) 67 = some (7, .pointer (some ⟨w1.heap.size, x.b.toNat * 8, none⟩)) := by rw [hps]; intro e; rfl
                  have q67 : ∀ e, keysOK (ps e) 7 67 = true := by rw [hps]; intro e; rfl
                  have k68 : ∀ e, slotOf (ps e) 68 = some (8, .agg #[.int .u8 y.v.a, .int .u8 y.v.b, .int .u8 y.v.c, .int .u8 y.v.d, .int .u8 y.v.e, .int .u8 y.v.f, .int .u8 y.v.g, .int .u8 y.v.h]) := by rw [hps]; intro e; rfl
                  have q68 : ∀ e, keysOK (ps e) 8 68 = true := by rw [hps]; intro e; rfl
                  have k69 : ∀ e, slotOf (ps e) 69 = some (9, .pointer (some ⟨Bx, 5, none⟩)) := by rw [hps]; intro e; rfl
                  have q69 : ∀ e, keysOK (ps e) 9 69 = true := by rw [hps]; intro e; rfl
                  have k70 : ∀ e, slotOf (ps e) 70 = some (10, .agg #[.int .u8 x.v.a, .int .u8 x.v.b, .int .u8 x.v.c, .int .u8 x.v.d, .int .u8 x.v.e, .int .u8 x.v.f, .int .u8 x.v.g, .int .u8 x.v.h]) := by rw [hps]; intro e; rfl
                  have q70 : ∀ e, keysOK (ps e) 10 70 = true := by rw [hps]; intro e; rfl
                  have k71 : ∀ e, slotOf (ps e) 71 = some (11, .pointer (some ⟨Bx, 4, none⟩)) := by rw [hps]; intro e; rfl
                  have q71 : ∀ e, keysOK (ps e) 11 71 = true := by rw [hps]; intro e; rfl
                  have k72 : ∀ e, slotOf (ps e) 72 = some (12, .int .i64 x.b) := by rw [hps]; intro e; rfl
                  have q72 : ∀ e, keysOK (ps e) 12 72 = true := by rw [hps]; intro e; rfl
                  have k73 : ∀ e, slotOf (ps e) 73 = some (13, .pointer (some ⟨w1.heap.size + 1, x.b.toNat * 3, none⟩)) := by rw [hps]; intro e; rfl
                  have q73 : ∀ e, keysOK (ps e) 13 73 = true := by rw [hps]; intro e; rfl
                  have k74 : ∀ e, slotOf (ps e) 74 = some (14, .agg #[.int .i64 y.n.s, .int .i64 y.n.i, .int .i64 y.n.t]) := by rw [hps]; intro e; rfl
                  have q74 : ∀ e, keysOK (ps e) 14 74 = true := by rw [hps]; intro e; rfl
                  have k75 : ∀ e, slotOf (ps e) 75 = some (15, .slice (some ⟨b, off, none⟩) l.length cap) := by rw [hps]; intro e; rfl
                  have q75 : ∀ e, keysOK (ps e) 15 75 = true := by rw [hps]; intro e; rfl
                  have k76 : ∀ e, slotOf (ps e) 76 = some (16, .int .i64 (k : Int)) := by rw [hps]; intro e; rfl
                  have q76 : ∀ e, keysOK (ps e) 16 76 = true := by rw [hps]; intro e; rfl
                  have k77 : ∀ e, slotOf (ps e) 77 = some (17, .agg (nmArr was)) := by rw [hps]; intro e; rfl
                  have q77 : ∀ e, keysOK (ps e) 17 77 = true := by rw [hps]; intro e; rfl
                  have k78 : ∀ e, slotOf (ps e) 78 = some (18, .agg (ftArr ⟨(k : Int), n, x.b, y.v, x.v, y.n, was, 0⟩)) := by rw [hps]; intro e; rfl
                  have q78 : ∀ e, keysOK (ps e) 18 78 = true := by rw [hps]; intro e; rfl
                  have k12 : ∀ e, slotOf (ps e) 12 = some (19, .pointer (some ⟨e, 0, none⟩)) := by rw [hps]; intro e; rfl
                  have q12 : ∀ e, keysOK (ps e) 19 12 = true := by rw [hps]; intro e; rfl
                  have z20 : ∀ e, ((ps e).all fun p => !(p.1 == 20)) = true := by rw [hps]; intro e; rfl
                  clear ha0
                  refine ⟨?_, ?_, ?_, ?_, ?_, ?_, ?_, ?_, ?_, ?_, ?_, ?_, ?_, ?_, ?_, ?_, ?_, ?_, ?_, ?_, ?_, trivial⟩
                  · rintro L _ Wx ⟨e, rfl, hT⟩ hcl hk' hd
                    rw [if_pos (by simp [Region.wanted])]
                    refine op_value (v := .int .i64 (k : Int)) (w' := Wx) (by simp [execOp, go_sem, frame_tout (n10 _) u10]) ⟨e, frame_put (k60 _) (q60 _), ?_⟩
                    simpa [upd] using hT
                  · rintro L _ Wx ⟨e, rfl, hT⟩ hcl hk' hd
                    rw [if_pos (by simp [Region.wanted])]
                    refine op_value (v := .pointer (some ⟨Bx, 1, none⟩)) (w' := Wx) (by simp [execOp, go_sem, frame_tout (n11 _) u11]) ⟨e, frame_put (k61 _) (q61 _), ?_⟩
                    simpa [upd] using hT
                  · rintro L _ Wx ⟨e, rfl, hT⟩ hcl hk' hd
                    have hL1 : L 1 = true := by have h := hd; simp [Region.binds] at h; simp [h]
                    rw [if_pos (by simp [Region.wanted])]
                    refine op_value (v := .agg #[.int .i64 n.s, .int .i64 n.i, .int .i64 n.t]) (w' := Wx) (by simp [execOp, go_sem, frame_tmp (k61 _) hL1 (Nat.lt_of_lt_of_eq (by decide : 61 < 88) hsz.symm), (hxc Wx hT.1).1, (hxc Wx hT.1).2.1, (hxc Wx hT.1).2.2.1]) ⟨e, frame_put (k62 _) (q62 _), ?_⟩
                    simpa [upd] using hT
                  · rintro L _ Wx ⟨e, rfl, hT⟩ hcl hk' hd
                    rw [if_pos (by simp [Region.wanted])]
                    refine op_value (v := .pointer (some ⟨Bx, 4, none⟩)) (w' := Wx) (by simp [execOp, go_sem, frame_tout (n11 _) u11]) ⟨e, frame_put (k63 _) (q63 _), ?_⟩
                    simpa [upd] using hT
                  · rintro L _ Wx ⟨e, rfl, hT⟩ hcl hk' hd
                    have hL3 : L 3 = true := by have h := hd; simp [Region.binds] at h; simp [h]
                    rw [if_pos (by simp [Region.wanted])]
                    refine op_value (v := .int .i64 x.b) (w' := Wx) (by simp [execOp, go_sem, frame_tmp (k63 _) hL3 (Nat.lt_of_lt_of_eq (by decide : 63 < 88) hsz.symm), (hxc Wx hT.1).2.2.2]) ⟨e, frame_put (k64 _) (q64 _), ?_⟩
                    simpa [upd] using hT
                  · rintro L _ Wx ⟨e, rfl, hT⟩ hcl hk' hd
                    rw [if_pos (by simp [Region.wanted])]
                    refine op_value (v := .pointer (some ⟨Bx, 4, none⟩)) (w' := Wx) (by simp [execOp, go_sem, frame_tout (n11 _) u11]) ⟨e, frame_put (k65 _) (q65 _), ?_⟩
                    simpa [upd] using hT
                  · rintro L _ Wx ⟨e, rfl, hT⟩ hcl hk' hd
                    have hL5 : L 5 = true := by have h := hd; simp [Region.binds] at h; simp [h]
                    rw [if_pos (by simp [Region.wanted])]
                    refine op_value (v := .int .i64 x.b) (w' := Wx) (by simp [execOp, go_sem, frame_tmp (k65 _) hL5 (Nat.lt_of_lt_of_eq (by decide : 65 < 88) hsz.symm), (hxc Wx hT.1).2.2.2]) ⟨e, frame_put (k66 _) (q66 _), ?_⟩
                    simpa [upd] using hT
                  · rintro L _ Wx ⟨e, rfl, hT⟩ hcl hk' hd
                    have hL6 : L 6 = true := by have h := hd; simp [Region.binds] at h; simp [h]
                    rw [if_pos (by simp [Region.wanted])]
                    refine op_value (v := .pointer (some ⟨w1.heap.size, x.b.toNat * 8, none⟩)) (w' := Wx) (by simp [execOp, go_sem, frame_tmp (k66 _) hL6 (Nat.lt_of_lt_of_eq (by decide : 66 < 88) hsz.symm), frame_tout (n7 _) u7, hx0, hx1]) ⟨e, frame_put (k67 _) (q67 _), ?_⟩
                    simpa [upd] using hT
                  · rintro L _ Wx ⟨e, rfl, hT⟩ hcl hk' hd
                    have hL7 : L 7 = true := by have h := hd; simp [Region.binds] at h; simp [h]
                    rw [if_pos (by simp [Region.wanted])]
                    refine op_value (v := .agg #[.int .u8 y.v.a, .int .u8 y.v.b, .int .u8 y.v.c, .int .u8 y.v.d, .int .u8 y.v.e, .int .u8 y.v.f, .int .u8 y.v.g, .int .u8 y.v.h]) (w' := Wx) (by simp [execOp, go_sem, frame_tmp (k67 _) hL7 (Nat.lt_of_lt_of_eq (by decide : 67 < 88) hsz.symm), (hsc Wx hT.1).1, (hsc Wx hT.1).2.1, (hsc Wx hT.1).2.2.1, (hsc Wx hT.1).2.2.2.1, (hsc Wx hT.1).2.2.2.2.1, (hsc Wx hT.1).2.2.2.2.2.1, (hsc Wx hT.1).2.2.2.2.2.2.1, (hsc Wx hT.1).2.2.2.2.2.2.2]) ⟨e, frame_put (k68 _) (q68 _), ?_⟩
                    simpa [upd] using hT
                  · rintro L _ Wx ⟨e, rfl, hT⟩ hcl hk' hd
                    rw [if_pos (by simp [Region.wanted])]
                    refine op_value (v := .pointer (some ⟨Bx, 5, none⟩)) (w' := Wx) (by simp [execOp, go_sem, frame_tout (n11 _) u11]) ⟨e, frame_put (k69 _) (q69 _), ?_⟩
                    simpa [upd] using hT
                  · rintro L _ Wx ⟨e, rfl, hT⟩ hcl hk' hd
                    have hL9 : L 9 = true := by have h := hd; simp [Region.binds] at h; simp [h]
                    rw [if_pos (by simp [Region.wanted])]
                    refine op_value (v := .agg #[.int .u8 x.v.a, .int .u8 x.v.b, .int .u8 x.v.c, .int .u8 x.v.d, .int .u8 x.v.e, .int .u8 x.v.f, .int .u8 x.v.g, .int .u8 x.v.h]) (w' := Wx) (by simp [execOp, go_sem, frame_tmp (k69 _) hL9 (Nat.lt_of_lt_of_eq (by decide : 69 < 88) hsz.symm), (hxv Wx hT.1).1, (hxv Wx hT.1).2.1, (hxv Wx hT.1).2.2.1, (hxv Wx hT.1).2.2.2.1, (hxv Wx hT.1).2.2.2.2.1, (hxv Wx hT.1).2.2.2.2.2.1, (hxv Wx hT.1).2.2.2.2.2.2.1, (hxv Wx hT.1).2.2.2.2.2.2.2]) ⟨e, frame_put (k70 _) (q70 _), ?_⟩
                    simpa [upd] using hT
                  · rintro L _ Wx ⟨e, rfl, hT⟩ hcl hk' hd
                    rw [if_pos (by simp [Region.wanted])]
                    refine op_value (v := .pointer (some ⟨Bx, 4, none⟩)) (w' := Wx) (by simp [execOp, go_sem, frame_tout (n11 _) u11]) ⟨e, frame_put (k71 _) (q71 _), ?_⟩
                    simpa [upd] using hT
                  · rintro L _ Wx ⟨e, rfl, hT⟩ hcl hk' hd
                    have hL11 : L 11 = true := by have h := hd; simp [Region.binds] at h; simp [h]
                    rw [if_pos (by simp [Region.wanted])]
                    refine op_value (v := .int .i64 x.b) (w' := Wx) (by simp [execOp, go_sem, frame_tmp (k71 _) hL11 (Nat.lt_of_lt_of_eq (by decide : 71 < 88) hsz.symm), (hxc Wx hT.1).2.2.2]) ⟨e, frame_put (k72 _) (q72 _), ?_⟩
                    simpa [upd] using hT
                  · rintro L _ Wx ⟨e, rfl, hT⟩ hcl hk' hd
                    have hL12 : L 12 = true := by have h := hd; simp [Region.binds] at h; simp [h]
                    rw [if_pos (by simp [Region.wanted])]
                    refine op_value (v := .pointer (some ⟨w1.heap.size + 1, x.b.toNat * 3, none⟩)) (w' := Wx) (by simp [execOp, go_sem, frame_tmp (k72 _) hL12 (Nat.lt_of_lt_of_eq (by decide : 72 < 88) hsz.symm), frame_tout (n8 _) u8, hx0, hx1]) ⟨e, frame_put (k73 _) (q73 _), ?_⟩
                    simpa [upd] using hT
                  · rintro L _ Wx ⟨e, rfl, hT⟩ hcl hk' hd
                    have hL13 : L 13 = true := by have h := hd; simp [Region.binds] at h; simp [h]
                    rw [if_pos (by simp [Region.wanted])]
                    refine op_value (v := .agg #[.int .i64 y.n.s, .int .i64 y.n.i, .int .i64 y.n.t]) (w' := Wx) (by simp [execOp, go_sem, frame_tmp (k73 _) hL13 (Nat.lt_of_lt_of_eq (by decide : 73 < 88) hsz.symm), (hwc Wx hT.1).1, (hwc Wx hT.1).2.1, (hwc Wx hT.1).2.2]) ⟨e, frame_put (k74 _) (q74 _), ?_⟩
                    simpa [upd] using hT
                  · rintro L _ Wx ⟨e, rfl, hT⟩ hcl hk' hd
                    rw [if_pos (by simp [Region.wanted])]
                    refine op_value (v := .slice (some ⟨b, off, none⟩) l.length cap) (w' := Wx) (by simp [execOp, go_sem, frame_tout (n0 _) u0]) ⟨e, frame_put (k75 _) (q75 _), ?_⟩
                    simpa [upd] using hT
                  · rintro L _ Wx ⟨e, rfl, hT⟩ hcl hk' hd
                    rw [if_pos (by simp [Region.wanted])]
                    refine op_value (v := .int .i64 (k : Int)) (w' := Wx) (by simp [execOp, go_sem, frame_tout (n10 _) u10]) ⟨e, frame_put (k76 _) (q76 _), ?_⟩
                    simpa [upd] using hT
                  · rintro L _ Wx ⟨e, rfl, hT⟩ hcl hk' hd
                    have hL15 : L 15 = true := by have h := hd; simp [Region.binds] at h; simp [h]
                    have hL16 : L 16 = true := by have h := hd; simp [Region.binds] at h; simp [h]
                    rw [if_pos (by simp [Region.wanted])]
                    refine op_callP (f := 77) (args := #[.slice (some ⟨b, off, none⟩) l.length cap, .int .i64 (k : Int)]) (by simp [go_sem, frame_tmp (k75 _) hL15 (Nat.lt_of_lt_of_eq (by decide : 75 < 88) hsz.symm), frame_tmp (k76 _) hL16 (Nat.lt_of_lt_of_eq (by decide : 76 < 88) hsz.symm)]) (was77_any l _ k x Wx hll (hsv Wx hT.1) hxk) ?_
                    rintro e' w' ⟨rfl, hb'⟩
                    refine ⟨_, rfl, e, by rw [hwas]; exact frame_put (k77 _) (q77 _), hT.1.trans (hb'.mono hT.1.size), ?_, ?_, ?_⟩
                    · intro h19; exact hT.2.1 (by simpa [upd] using h19)
                    · intro h19 h20
                      have h := hT.2.2.1 (by simpa [upd] using h19) (by simpa [upd] using h20)
                      exact (hb'.block _ (lt_of_heap h)).trans h
                    · intro h20
                      have h := hT.2.2.2 (by simpa [upd] using h20)
                      exact (hb'.block _ (lt_of_heap h)).trans h
                  · rintro L _ Wx ⟨e, rfl, hT⟩ hcl hk' hd
                    have hL0 : L 0 = true := by have h := hd; simp [Region.binds] at h; simp [h]
                    have hL2 : L 2 = true := by have h := hd; simp [Region.binds] at h; simp [h]
                    have hL4 : L 4 = true := by have h := hd; simp [Region.binds] at h; simp [h]
                    have hL8 : L 8 = true := by have h := hd; simp [Region.binds] at h; simp [h]
                    have hL10 : L 10 = true := by have h := hd; simp [Region.binds] at h; simp [h]
                    have hL14 : L 14 = true := by have h := hd; simp [Region.binds] at h; simp [h]
                    have hL17 : L 17 = true := by have h := hd; simp [Region.binds] at h; simp [h]
                    rw [if_pos (by simp [Region.wanted])]
                    refine op_value (v := .agg (ftArr ⟨(k : Int), n, x.b, y.v, x.v, y.n, was, 0⟩)) (w' := Wx) (by simp [execOp, go_sem, frame_tmp (k60 _) hL0 (Nat.lt_of_lt_of_eq (by decide : 60 < 88) hsz.symm), frame_tmp (k62 _) hL2 (Nat.lt_of_lt_of_eq (by decide : 62 < 88) hsz.symm), frame_tmp (k64 _) hL4 (Nat.lt_of_lt_of_eq (by decide : 64 < 88) hsz.symm), frame_tmp (k68 _) hL8 (Nat.lt_of_lt_of_eq (by decide : 68 < 88) hsz.symm), frame_tmp (k70 _) hL10 (Nat.lt_of_lt_of_eq (by decide : 70 < 88) hsz.symm), frame_tmp (k74 _) hL14 (Nat.lt_of_lt_of_eq (by decide : 74 < 88) hsz.symm), frame_tmp (k77 _) hL17 (Nat.lt_of_lt_of_eq (by decide : 77 < 88) hsz.symm), ftArr, nmArr]) ⟨e, frame_put (k78 _) (q78 _), ?_⟩
                    simpa [upd] using hT
                  · rintro L _ Wx ⟨e, rfl, hT⟩ hcl hk' hd
                    rw [if_pos (by simp [Region.wanted])]
                    have hN20 : L 20 = false := by
                      cases hh : L 20 with
                      | false => rfl
                      | true =>
                        have hx := hcl 20 _ rfl (by simp [hh])
                        simp [Region.binds] at hx
                        simp [hk'] at hx
                    refine op_value (v := .pointer (some ⟨Wx.heap.size, 0, none⟩)) (w' := Wx.alloc (.cells (ftArr ftz) 59)) (by simp [execOp, go_sem, ftArr, ftz, nz, z0]) ⟨Wx.heap.size, ?_, ?_⟩
                    · rw [← frame_put (k12 Wx.heap.size) (q12 Wx.heap.size)]
                      congr 1
                      rw [hps]
                      exact frame_swap (.cons (fun _ => rfl) (.cons (fun _ => rfl) (.cons (fun _ => rfl) (.cons (fun _ => rfl) (.cons (fun _ => rfl) (.cons (fun _ => rfl) (.cons (fun _ => rfl) (.cons (fun _ => rfl) (.cons (fun _ => rfl) (.cons (fun _ => rfl) (.cons (fun _ => rfl) (.cons (fun _ => rfl) (.cons (fun _ => rfl) (.cons (fun _ => rfl) (.cons (fun _ => rfl) (.cons (fun _ => rfl) (.cons (fun _ => rfl) (.cons (fun _ => rfl) (.cons (fun _ => rfl) (.cons (fun h => by simp [hk'] at h) .nil))))))))))))))))))))
                    · refine ⟨hT.1.alloc hT.1.size _, fun _ => hT.1.size, fun _ _ => heap_alloc_new Wx _, fun h20 => ?_⟩
                      simp [upd, hN20] at h20
                  · rintro L _ Wx ⟨e, rfl, hT⟩ hcl hk' hd
                    have hL18 : L 18 = true := by have h := hd; simp [Region.binds] at h; simp [h]
                    have hL19 : L 19 = true := by have h := hd; simp [Region.binds] at h; simp [h]
                    rw [if_pos (by simp [Region.wanted])]
                    have hlay := hT.2.2.1 hL19 hk'
                    refine op_stF 59 (.tmp 12) (.tmp 78) rfl ⟨e, 0, none⟩ (by rw [frame_in (k12 e) hL19 (Nat.lt_of_lt_of_eq (by decide : 12 < 88) hsz.symm)]) (.agg (ftArr ⟨(k : Int), n, x.b, y.v, x.v, y.n, was, 0⟩)) (by rw [frame_in (k78 e) hL18 (Nat.lt_of_lt_of_eq (by decide : 78 < 88) hsz.symm)]) (st_box _ hlay) ⟨e, frame_putNone (z20 _), ?_⟩
                    refine ⟨hT.1.grown (grownBy_setRow _ _ _) hT.1.size (fun j ej => by cases ej; exact hT.2.1 hL19), fun _ => hT.2.1 hL19, fun _ h20 => by simp [upd] at h20, fun _ => setRow_heap _ _ _ _ _ _ hlay⟩
                · rintro e L W' hT hall
                  have hA19 : L 19 = true := hall 19 (by simp)
                  have hA20 : L 20 = true := hall 20 (by simp)
                  simp only [putAll, Act.put, List.setIfInBounds_toArray, List.set_cons_succ, List.set_cons_zero]
                  have hfb := hT.2.2.2 hA20
                  have hbw := hT.1
                  have hle := hT.2.1 hA19
                  have HI3 := Lib.hid (HI2.out.grown hbw)
                  have HFB := Lib.hid hfb
                  have HLE := Lib.hid hle
                  have HKQ := Lib.hid (refK_kind (f := ⟨(k : Int), n, x.b, y.v, x.v, y.n, was, 0⟩) HNZ.out.2 HNZ.out.1)
                  have HKC := Lib.hid (kind78_any (ordR l) _ ⟨(k : Int), n, x.b, y.v, x.v, y.n, was, 0⟩ W' HOL.out (HNR.out.below HI3.out.below))
                  have HBX : Hid (W2.heap.size ≥ w1.heap.size + 2) := HI2.out.sz
                  have HVB : Hid (∀ g, u6.ownBlock = some g → g < W2.heap.size) := Lib.hid (fun g hg => (HI2.out.row.lt g hg).2)
                  clear hT hall hfb hbw hle hxc hxv hsc hwc hsv HI2
                  go_wp2_with (refine wpList_load rfl 59 (.tmp 12) rfl ⟨e, 0, none⟩ rfl (.agg (ftArr ⟨(k : Int), n, x.b, y.v, x.v, y.n, was, 0⟩)) (ld_ft HFB.out) ?_)
                  refine HKC.out.mono ?_
                  rintro e3 W3 ⟨rfl, b3⟩
                  rw [HKQ.out]
                  have HI4 := Lib.hid (HI3.out.grown b3)
                  have hf3 := (b3.block _ (lt_of_heap HFB.out)).trans HFB.out
                  generalize hkd : kindP (ordR l) n was x.v = kd at HE'
                  obtain ⟨W4, hW4⟩ : ∃ W4, W3.setRow e (ftArr ⟨(k : Int), n, x.b, y.v, x.v, y.n, was, kd⟩) = W4 := ⟨_, rfl⟩
                  have gW4 : W3.grownBy W4 (some e) := hW4 ▸ grownBy_setRow _ _ _
                  have fW4 : W4.heap[e]? = some (.cells (ftArr ⟨(k : Int), n, x.b, y.v, x.v, y.n, was, kd⟩) 59 (0, 0)) := hW4 ▸ setRow_heap _ _ _ _ _ _ hf3
                  have HS4 := Lib.hid (st_kindB kd hf3)
                  have HI5 := Lib.hid (HI4.out.turn gW4 (by have := HLE.out; have := HBX.out; omega) (fun ev => by have := HVB.out e ev; have := HLE.out; omega))
                  have HW4 := Lib.hid hW4
                  have HFW4 := Lib.hid fW4
                  clear hW4 gW4 fW4 hf3 b3 HI4 HI3 HKQ HKC hkd
                  have hol2 := HOL2.out
                  go_wp2_with (first | (refine wpList_store rfl 32 (.tmp 82) (.tmp 81) rfl ⟨e, 27, none⟩ rfl (.int .i8 kd) rfl HS4.out ?_; rw [HW4.out]) | (refine wpList_load rfl 59 (.tmp 12) rfl ⟨e, 0, none⟩ rfl (.agg (ftArr ⟨(k : Int), n, x.b, y.v, x.v, y.n, was, kd⟩)) (ld_ft HFW4.out) ?_) | (refine wpList_buildF rfl (.tmp 84) rfl ⟨(k : Int), n, x.b, y.v, x.v, y.n, was, kd⟩ rfl ?_) | (at_builtin; refine wpList_append_own _ rfl (.tmp 83) (.tmp 85) 55 rfl (w1.heap.size + 2) 59 i0 (.agg (ftArr ftz)) 28 112 Try.underlying55 hi hz0 hz1 hz2 rfl (by decide) u6 os.length (os.flatMap Ft.cells) rfl (HI5.out.row.alloc _) ⟨W4.heap.size, 0, none⟩ 1 1 (Ft.cells ⟨(k : Int), n, x.b, y.v, x.v, y.n, was, kd⟩) rfl rfl (ft_news (heap_alloc_new W4 _)) (Ft.cells_one _) (by unfold maxLen; omega) (by omega) (by have := HI5.out.sz; simp; omega) ?_; intro v9 w9 hown9 hg9 _))
                  have HO9 := Lib.hid hown9
                  have HG9 := Lib.hid hg9
                  clear hown9 hg9
                  go_roundw
                  case rel => exact ⟨k + 1, h, os ++ [⟨(k : Int), n, x.b, y.v, x.v, y.n, was, kd⟩], by have := HKL.out; omega, by go_num, hh, (HI5.out.grown (below_alloc1 _)).push HG9.out HO9.out, HE'.out⟩
                  case measure => have := HKL.out; simp [intOf]; omega
              · have e_1 : (x.k == 1) = false := by simp [k1]
                have hE' : os ++ emit l (ordR l) ((idxN n (l.drop (k + 1)) (k + 1)).map (fun i => (n, i)) ++ pairsP l ((ordR l).drop (q + 1))) h = readsP l := by
                  rw [← HE.out, HDR.out, idx_take HNN.out, List.map_cons, List.cons_append, emit_skip HX.out k2 k1]
                have HE' := Lib.hid hE'
                clear k2 k1 hE' HE
                go_wp2_with fail
                go_roundw
                case rel => exact ⟨k + 1, h, os, by have := HKL.out; omega, by go_num, hh, HI2.out, HE'.out⟩
                case measure => have := HKL.out; simp [intOf]; omega
          · have e_n : decide (x.n = n) = false := by simp [hnn]
            have hE' : os ++ emit l (ordR l) ((idxN n (l.drop (k + 1)) (k + 1)).map (fun i => (n, i)) ++ pairsP l ((ordR l).drop (q + 1))) h = readsP l := by
              rw [← HE.out, HDR.out, idx_skip hnn]
            have HE' := Lib.hid hE'
            clear hnn hE' HE
            go_wp2_with fail
            go_quiet (fail)
            go_wp2_with fail
            go_roundw
            case rel => exact ⟨k + 1, h, os, by have := HKL.out; omega, by go_num, hh, HI1.out.grown (Below.drewN' (Below.refl _ _) _), HE'.out⟩
            case measure => have := HKL.out; simp [intOf]; omega
        · have hE' : os ++ emit l (ordR l) (pairsP l ((ordR l).drop (q + 1))) h = readsP l := by
            have h1 := HE.out
            rw [drop_end hklt] at h1
            exact h1
          have HE' := Lib.hid hE'
          clear hE' HE
          go_wp2_with fail
          go_roundw
          case rel => exact ⟨q + 1, h, os, by have := HLT.out; omega, by go_num, hh, HI.out, HE'.out⟩
          case measure => have := HLT.out; simp [intOf]; omega
    · have hE' : os = readsP l := by
        have h1 := HE.out
        rw [drop_end hlt] at h1
        simpa [pairsP, emit] using h1
      have HR : Hid (wr.ownsRow w.heap.size 59 28 u6 (readsP l).length ((readsP l).flatMap Ft.cells)) := Lib.hid (by
        rw [← hE']
        exact owns_base HI.out.row (by have := HB1.out.size; omega))
      clear hE'
      go_wp2_with fail
      go_ret2
      exact ⟨_, rfl, HR.out, HB1.out.trans (HI.out.below.mono HB1.out.size)⟩

end Go.Proofs.Ytgdmgeihgkbjaaa
