/- 'order.Replay' -/
import Derived.Test.YtgdmgeihgkbjaaaNmSteps
import Derived.Test.YtgdmgeihgkbjaaaGrows
namespace Go.Proofs.Ytgdmgeihgkbjaaa
open Go.RowKit Go.Shelf
attribute [local go_sem] Oper.semAt_some

def z0 : V8 := ⟨0, 0, 0, 0, 0, 0, 0, 0⟩
def st0 : List V8 := List.replicate 32 z0
theorem zero24s : Try.zeroCells24 = stArr st0 := by kernel_rfl

/-- One read or write on the blocks, and whether all was serial. -/
def repStep (s : List V8 × Bool) (x : Sn) : List V8 × Bool :=
  if x.k = 1 then (s.1, s.2 && decide (s.1[x.b.toNat]?.getD z0 = x.v)) else (s.1.set x.b.toNat x.v, s.2)
def repName (l : List Sn) (s : List V8 × Bool) (n : Nm) : List V8 × Bool := ((nmSteps n l 0).map (·.2)).foldl repStep s
def repP (l : List Sn) : List V8 × Bool := (ordR l).foldl (repName l) (st0, true)

theorem repStep_length (s : List V8 × Bool) (x : Sn) : (repStep s x).1.length = s.1.length := by unfold repStep; split <;> simp
theorem repFold_length (xs : List Sn) : ∀ s : List V8 × Bool, (xs.foldl repStep s).1.length = s.1.length := by
  induction xs with
  | nil => intro s; rfl
  | cons x xs ih => intro s; rw [List.foldl_cons, ih, repStep_length]
theorem repName_length (l : List Sn) (s : List V8 × Bool) (n : Nm) : (repName l s n).1.length = s.1.length := repFold_length _ _

theorem nmSteps_mem : ∀ (l : List Sn) (n : Nm) (i : Nat) (p : Nat × Sn), p ∈ nmSteps n l i → i ≤ p.1 ∧ l[p.1 - i]? = some p.2 ∧ p.2.n = n ∧ (p.2.k = 1 ∨ p.2.k = 2)
  | [], _, _, _, h => by simp [nmSteps] at h
  | x :: r, n, i, p, h => by
    simp only [nmSteps] at h
    have key : p ∈ nmSteps n r (i + 1) → i ≤ p.1 ∧ (x :: r)[p.1 - i]? = some p.2 ∧ p.2.n = n ∧ (p.2.k = 1 ∨ p.2.k = 2) := fun h' => by
      obtain ⟨h1, h2, h3⟩ := nmSteps_mem r n (i + 1) p h'
      refine ⟨by omega, ?_, h3⟩
      have : p.1 - i = (p.1 - (i + 1)) + 1 := by omega
      rw [this]
      simpa using h2
    split at h
    · rename_i hc
      rcases List.mem_cons.1 h with rfl | h
      · exact ⟨Nat.le_refl _, by simp, hc⟩
      · exact key h
    · exact key h

/-- The marks of the rounds' loops. -/
def marksOf (Ds : List Nat) : List Deferred := Ds.map fun D => { target := .collected D, args := #[] }

theorem leaves_marks {n : Nat} {fn : Func} {tmps : Array Value} {R : Ending → World → Prop} : ∀ (Ds : List Nat) (W : World), (∀ D ∈ Ds, W.heap[D]? = some (.deferred (some []))) → Ds.Nodup →
    (∀ W', W'.os = W.os → W'.tape = W.tape → W'.output = W.output → W'.heap.size = W.heap.size → (∀ k, k ∉ Ds → W'.heap[k]? = W.heap[k]?) → LeavesIn Fence.wide n Try.prog fn tmps R [] .returning W') →
    LeavesInM Fence.wide n Try.prog fn tmps R (marksOf Ds) .returning W
  | [], W, _, _, h => h W rfl rfl rfl rfl (fun _ _ => rfl)
  | D :: Ds, W, hd, hn, h => by
    obtain ⟨hn1, hn2⟩ := List.nodup_cons.1 hn
    refine ⟨by simp, .inl ⟨D, _, rfl, run_takeDeferred (hd D (by simp)), ?_⟩⟩
    refine leaves_marks Ds _ (fun E hE => ?_) hn2 (fun W' h1 h2 h3 h4 h5 => h W' h1 h2 h3 (by rw [h4]; simp) (fun k hk => ?_))
    · have : E ≠ D := fun e => hn1 (e ▸ hE)
      exact (World.putObj_heap_other this).trans (hd E (List.mem_cons_of_mem _ hE))
    · have hk1 : k ≠ D := fun e => hk (by rw [e]; simp)
      exact (h5 k (fun hk2 => hk (List.mem_cons_of_mem _ hk2))).trans (World.putObj_heap_other hk1)

set_option maxRecDepth 100000 in
set_option maxHeartbeats 2000000 in
theorem replay_no (l : List Sn) (v : Value) (w : World) (hl : l.length ≤ 100000) (hv : Sns w.heap.size w v l) (hm : mayP l = false) :
    Calls Try.prog 27 #[v] w fun e w' => e = .returned (.tuple #[.agg (stArr st0), .bool false, .int .i64 2]) ∧ Below w.heap.size w w' := by
  have h0 : ((w.alloc (.cells (stArr st0) 24)).alloc (.cells #[.bool false] 4)).heap[w.heap.size]? = some (.cells (stArr st0) 24 (0, 0)) := heap_alloc2_old w _ _
  have h1 : ((w.alloc (.cells (stArr st0) 24)).alloc (.cells #[.bool false] 4)).heap[w.heap.size + 1]? = some (.cells #[.bool false] 4 (0, 0)) := heap_alloc2_new w _ _
  have hb : Below w.heap.size w ((w.alloc (.cells (stArr st0) 24)).alloc (.cells #[.bool false] 4)) := ((Below.refl _ _).alloc (Nat.le_refl _) _).alloc (by simp) _
  have hC := order_any l v _ hl ((hv.below hb).mono hb.size)
  obtain ⟨w2, hw2⟩ : ∃ w2, (w.alloc (.cells (stArr st0) 24)).alloc (.cells #[.bool false] 4) = w2 := ⟨_, rfl⟩
  rw [hw2] at h0 h1 hb hC
  have HW2 := Lib.hid hw2
  have HC := Lib.hid hC
  have H0 := Lib.hid h0
  have H1 := Lib.hid h1
  have HB := Lib.hid hb
  have HM := Lib.hid hm
  clear hw2 hC h0 h1 hb hm hv
  go_enter Try.func27, Try.ntmps27
  go_wp2_with (rw [zero24s])
  rw [HW2.out]
  refine HC.out.mono ?_
  rintro e w3 ⟨h, b3⟩
  rcases h with ⟨_, rfl⟩ | ⟨h2, _⟩
  · have B3 := Lib.hid b3
    have H03 : Hid (w3.heap[w.heap.size]? = some (.cells (stArr st0) 24 (0, 0))) := (b3.block _ (lt_of_heap H0.out)).trans H0.out
    have H13 : Hid (Boxed w3 (w.heap.size + 1) 4 (.bool false)) := (b3.block _ (lt_of_heap H1.out)).trans H1.out
    clear b3
    have HR : Hid (∀ w4, w3.setRow w.heap.size (stArr st0) = w4 → w4.heap[w.heap.size]? = some (.cells (stArr st0) 24 (0, 0)) ∧ Boxed w4 (w.heap.size + 1) 4 (.bool false) ∧ Below w.heap.size w w4) := by
      rintro w4 rfl
      exact ⟨setRow_heap _ _ _ _ _ _ H03.out, cells_turn H13.out (grownBy_setRow _ _ _) (by omega), ((HB.out.trans (B3.out.mono HB.out.size)).grown (grownBy_setRow _ _ _) (by have := HB.out.size; have := B3.out.size; omega) (fun k e => by cases e; omega))⟩
    go_wp2_with (first | (refine wpList_load rfl 24 (.tmp 2) rfl ⟨w.heap.size, 0, none⟩ rfl (.agg (stArr st0)) (ld_all H03.out (by decide)) ?_) | (refine wpList_store rfl 24 (.tmp 2) (.tmp 18) rfl ⟨w.heap.size, 0, none⟩ rfl (.agg (stArr st0)) rfl (st_all _ H03.out (by decide) (by decide)) ?_; obtain ⟨w4, hw4⟩ : ∃ w4, w3.setRow w.heap.size (stArr st0) = w4 := ⟨_, rfl⟩; obtain ⟨h4a, h4b, h4c⟩ := HR.out w4 hw4; rw [hw4]; have hc4 := h4b.cell; have hf4 := h4b.frozen; have H4A := Lib.hid h4a; have H4B := Lib.hid h4b; have H4C := Lib.hid h4c; clear hw4 h4a h4b h4c))
    have hl5 := ld_all (w := w4.setCell ⟨w.heap.size + 1, 0, none⟩ (.bool false)) (cells_turn H4A.out (grownBy_setCell' w4 (w.heap.size + 1) (.bool false)) (by omega)) (show st0.length = 32 by decide)
    have hc5 := (H4B.out.set (.bool false)).cell
    refine bodyPost_ret (v := .tuple #[.agg (stArr st0), .bool false, .int .i64 2]) (results_cct Try.results27 rfl hl5 rfl (by simp [go_sem, hc5]) rfl) rfl ⟨rfl, ?_⟩
    exact H4C.out.setCell (p := ⟨w.heap.size + 1, 0, none⟩) (by simp) _
  · rw [HM.out] at h2; cases h2

/-- All cells but those of the blocks from n₀ to n₁ lie as they lay. -/
def CK (n₀ n₁ : Nat) (W W' : World) : Prop := ∀ k o, (k < n₀ ∨ n₁ ≤ k) → o.isCells = true → W.heap[k]? = some o → W'.heap[k]? = some o

theorem CK.refl (n₀ n₁ : Nat) (W : World) : CK n₀ n₁ W W := fun _ _ _ _ h => h
theorem CK.trans {n₀ n₁ : Nat} {A B C : World} (h : CK n₀ n₁ A B) (k : CK n₀ n₁ B C) : CK n₀ n₁ A C := fun j o hj ho hA => k j o hj ho (h j o hj ho hA)
theorem Keep.ck {n₀ n₁ : Nat} {W W' : World} (h : Keep n₀ n₁ none W W') : CK n₀ n₁ W W' := fun k o hk ho hW => h.same k o (hk.imp id fun h => ⟨h, rowOf_none⟩) hW (.inl ho)
theorem ck_alloc {n₀ n₁ : Nat} (W : World) (o : Obj) : CK n₀ n₁ W (W.alloc o) := fun k _ _ _ h => (Below.heap_alloc W o k (lt_of_heap h)).trans h
theorem CK.grown {n₀ n₁ B : Nat} {A W W' : World} {row : Option Nat} (h : CK n₀ n₁ A W) (hg : W.grownBy W' row) (hr : ∀ r, row = some r → B ≤ r ∧ ∃ o : Obj, W.heap[r]? = some o ∧ o.isCells = false) : CK n₀ n₁ A W' := fun k o hk ho hA => by
  have hW := h k o hk ho hA
  refine (hg.block k (lt_of_heap hW) (fun e => ?_)).trans hW
  obtain ⟨_, o', ho', hc⟩ := hr k e.symm
  rw [hW] at ho'; cases ho'; rw [ho] at hc; cases hc
theorem RowsAt.ck {α : Type} {enc : α → List Value} {k n₀ n₁ : Nat} {W W' : World} {b off : Nat} {l : List α} (h : RowsAt enc k W b off l) (hk : CK n₀ n₁ W W') (hb : b < n₀ ∨ n₁ ≤ b) : RowsAt enc k W' b off l := by
  intro i x hx j c hc
  have h1 := h i x hx j c hc
  have h2 := h1
  unfold World.cell? at h2
  cases ho : W.heap[b]? with
  | none => simp only [ho] at h2; cases h2
  | some o =>
    have hd : o.isCells = true := by simp only [ho] at h2; cases o <;> first | rfl | cases h2
    exact (World.cell?_of_block (w := W) (a := ⟨b, off + i * k + j, none⟩) ((hk b o hb hd ho).trans ho.symm)).trans h1

/-- In Replay's loops: the blocks' state, the mark of being serial, what lies elsewhere, the marks of the loops. -/
structure RepI (w w4 : World) (s : List V8) (ok : Bool) (Ds : List Nat) (W : World) : Prop where
  st : W.heap[w.heap.size]? = some (.cells (stArr s) 24 (0, 0))
  ser : Boxed W (w.heap.size + 1) 4 (.bool ok)
  below : Below w.heap.size w W
  ck : CK w.heap.size (w.heap.size + 2) w4 W
  def_ : ∀ D ∈ Ds, W.heap[D]? = some (.deferred (some []))

theorem RepI.own {β : Type} {B : Nat} {w w4 : World} {Ds : List Nat} (f : β → List V8 × Bool) (hB : w.heap.size + 2 ≤ B) (hD : ∀ D ∈ Ds, D < B) : OwnFrom B (fun b W => RepI w w4 (f b).1 (f b).2 Ds W) := by
  rintro b W W' row ⟨h1, h2, h3, h4, h5⟩ hg hr
  exact ⟨kept_cells hg hr h1, kept_cells hg hr h2, kept_below h3 (Nat.le_refl _) (by omega) hg hr, h4.grown hg hr, fun D hDs => (hg.block D (lt_of_heap (h5 D hDs)) (fun e => by have := (hr D e.symm).1; have := hD D hDs; omega)).trans (h5 D hDs)⟩

theorem RepI.alloc {w w4 : World} {s : List V8} {ok : Bool} {Ds : List Nat} {W : World} (h : RepI w w4 s ok Ds W) (o : Obj) : RepI w w4 s ok Ds (W.alloc o) :=
  ⟨(Below.heap_alloc W o _ (lt_of_heap h.st)).trans h.st, h.ser.alloc o, h.below.alloc h.below.size o, h.ck.trans (ck_alloc W o), fun D hD => (Below.heap_alloc W o _ (lt_of_heap (h.def_ D hD))).trans (h.def_ D hD)⟩

theorem RepI.drew {w w4 : World} {s : List V8} {ok : Bool} {Ds : List Nat} {W : World} (h : RepI w w4 s ok Ds W) : RepI w w4 s ok Ds W.drew := ⟨h.st, h.ser, h.below.drew, h.ck, h.def_⟩

theorem RepI.turn {w w4 : World} {s s' : List V8} {ok ok' : Bool} {Ds : List Nat} {W W' : World} {j : Nat} (h : RepI w w4 s ok Ds W) (hg : W.grownBy W' (some j)) (hj : w.heap.size ≤ j ∧ j < w.heap.size + 2) (h1 : W'.heap[w.heap.size]? = some (.cells (stArr s') 24 (0, 0))) (h2 : Boxed W' (w.heap.size + 1) 4 (.bool ok'))
    (hD : ∀ D ∈ Ds, w.heap.size + 2 ≤ D) : RepI w w4 s' ok' Ds W' :=
  ⟨h1, h2, h.below.grown hg h.below.size (fun k e => by cases e; omega), fun k o hk ho hA => cells_turn (h.ck k o hk ho hA) hg (by omega), fun D hDs => cells_turn (h.def_ D hDs) hg (by have := hD D hDs; omega)⟩

theorem step_range {l : List Sn} (hm : mayP l = true) {i : Nat} {x : Sn} (hx : l[i]? = some x) (hk : x.k = 1 ∨ x.k = 2) : 0 ≤ x.b ∧ x.b < 32 := by
  have hs := mayP_at.1 hm i x hx
  unfold stepOK at hs
  simp only [Bool.and_eq_true] at hs
  obtain ⟨_, hs⟩ := hs
  cases hb : isC 0 x.n (l.take i)
  · rw [hb] at hs; simp at hs; omega
  · rw [hb] at hs
    simp only [cond_true, hk, if_true, Bool.and_eq_true, decide_eq_true_eq] at hs
    exact hs.2

/-- The loop over the names: the frame and the world at a round's head. -/
def RepO (l : List Sn) (a : Option Addr) (cap : Nat) (na : Option Addr) (nc : Nat) (w w4 : World) (a1 : Act) (W : World) : Prop :=
  ∃ (k : Nat) (s : List V8) (ok : Bool) (Ds : List Nat) (u7 u23 u24 u25 u26 u27 u28 u56 : Value), k ≤ (ordR l).length ∧ s.length = 32 ∧
      a1 = { tmps := #[.slice a l.length cap, undef, .pointer (some ⟨w.heap.size, 0, none⟩), .pointer (some ⟨w.heap.size + 1, 0, none⟩), .int .i64 0, .slice na (ordR l).length nc, undef, u7, undef, undef, undef,
        .tuple #[.slice na (ordR l).length nc, .int .i64 0], .slice a l.length cap, .tuple #[.slice na (ordR l).length nc, .int .i64 0], .slice na (ordR l).length nc, .int .i64 0, .int .i64 0, .bool false, undef, undef,
        .slice na (ordR l).length nc, .int .i64 ((ordR l).length : Int), .int .i64 (k : Int), u23, u24, u25, u26, u27, u28, undef, undef, undef, undef, undef, undef, undef, undef, undef, undef, undef, undef, undef, undef, undef, undef, undef, undef, undef, undef, undef, undef, undef, undef, undef, undef, undef, u56, undef, undef], defers := marksOf Ds } ∧
      RepI w w4 s ok Ds W ∧ (∀ D ∈ Ds, w.heap.size + 2 ≤ D) ∧ Ds.Nodup ∧ ((ordR l).drop k).foldl (repName l) (s, ok) = repP l

def RepM (l : List Sn) (a1 : Act) (_ : World) : Nat := (ordR l).length - (intOf (a1.tmps.getD 22 undef)).toNat

set_option maxRecDepth 100000 in
set_option maxHeartbeats 4000000 in
theorem replay_ok (l : List Sn) (v : Value) (w : World) (hl : l.length ≤ 100000) (hv : Sns w.heap.size w v l) (hm : mayP l = true) :
    Calls Try.prog 27 #[v] w fun e w' => e = .returned (.tuple #[.agg (stArr (repP l).1), .bool (repP l).2, .int .i64 0]) ∧ Below w.heap.size w w' := by
  have h0 : ((w.alloc (.cells (stArr st0) 24)).alloc (.cells #[.bool false] 4)).heap[w.heap.size]? = some (.cells (stArr st0) 24 (0, 0)) := heap_alloc2_old w _ _
  have h1 : ((w.alloc (.cells (stArr st0) 24)).alloc (.cells #[.bool false] 4)).heap[w.heap.size + 1]? = some (.cells #[.bool false] 4 (0, 0)) := heap_alloc2_new w _ _
  have hb : Below w.heap.size w ((w.alloc (.cells (stArr st0) 24)).alloc (.cells #[.bool false] 4)) := ((Below.refl _ _).alloc (Nat.le_refl _) _).alloc (by simp) _
  have hC := order_any l v _ hl ((hv.below hb).mono hb.size)
  obtain ⟨w2, hw2⟩ : ∃ w2, (w.alloc (.cells (stArr st0) 24)).alloc (.cells #[.bool false] 4) = w2 := ⟨_, rfl⟩
  rw [hw2] at h0 h1 hb hC
  have HW2 := Lib.hid hw2
  have HC := Lib.hid hC
  have H0 := Lib.hid h0
  have H1 := Lib.hid h1
  have HB := Lib.hid hb
  have HM := Lib.hid hm
  have HV := Lib.hid hv
  obtain ⟨a, cap, rfl, hn, ha⟩ := hv
  have HN := Lib.hid hn
  have HA := Lib.hid ha
  have hnl := ordR_le l
  clear hw2 hC h0 h1 hb hm hn ha
  refine (callsIn_wide (n := 9)).1 ?_
  refine callsIn_of_wp_marks Try.func27 rfl trivial ?_ rfl
  simp only [Try.ntmps27, List.size_toArray, List.length_cons, List.length_nil, Nat.reduceAdd, Nat.reduceSub, Array.replicate_succ, Array.replicate_zero, List.push_toArray, List.append_toArray, List.nil_append, List.cons_append]
  gi_wp2_with (rw [zero24s])
  rw [HW2.out]
  refine ⟨trivial, ?_⟩
  refine (callsIn_wide.2 HC.out).mono ?_
  rintro e w3 ⟨h3, b3⟩
  rcases h3 with ⟨hno, _⟩ | ⟨_, nv, rfl, hown⟩
  · rw [HM.out] at hno; cases hno
  obtain ⟨na, nc, rfl⟩ := ownsRow_slice hown
  obtain ⟨_, _, en, nn, nh⟩ := rows_of_owns (enc := Nm.cells) (k := 3) (fun _ => rfl) hown
  cases en
  have hnb : ∀ b off s, na = some ⟨b, off, s⟩ → w.heap.size + 2 ≤ b := fun b off s e => by
    have h1 := (hown.lt b (by rw [e]; rfl)).1
    have := lt_of_heap H1.out
    omega
  have NN := Lib.hid nn
  have NH := Lib.hid nh
  have NB := Lib.hid hnb
  have h03 : w3.heap[w.heap.size]? = some (.cells (stArr st0) 24 (0, 0)) := (b3.block _ (lt_of_heap H0.out)).trans H0.out
  have h13 : Boxed w3 (w.heap.size + 1) 4 (.bool false) := (b3.block _ (lt_of_heap H1.out)).trans H1.out
  have hc3 := h13.cell
  have hf3 := h13.frozen
  have B3 := Lib.hid (HB.out.trans (b3.mono HB.out.size))
  have H03 := Lib.hid h03
  have H13 := Lib.hid h13
  clear b3 nn nh h03 h13 hown hnb
  gi_wp2_with fail
  obtain ⟨w4, hw4⟩ : ∃ w4, w3.setCell ⟨w.heap.size + 1, 0, none⟩ (.bool true) = w4 := ⟨_, rfl⟩
  have hI4 : RepI w w4 st0 true [] w4 := by
    rw [← hw4]
    exact ⟨cells_turn H03.out (grownBy_setCell' w3 (w.heap.size + 1) (.bool true)) (by omega), H13.out.set _, B3.out.setCell (p := ⟨w.heap.size + 1, 0, none⟩) (by simp) _, CK.refl _ _ _, by simp⟩
  have hn4 : ∀ b off s, na = some ⟨b, off, s⟩ → 0 < (ordR l).length → s = none ∧ w.heap.size + 2 ≤ b ∧ RowsAt Nm.cells 3 w4 b off (ordR l) := fun b off s e hp => by
    obtain ⟨h1, h2, h3⟩ := NH.out b off s e hp
    refine ⟨h1, NB.out b off s e, ?_⟩
    rw [← hw4]
    intro i x hx j c hc
    have := NB.out b off s e
    exact (grownBy_setCell' w3 (w.heap.size + 1) (.bool true)).cell (a := ⟨b, off + i * 3 + j, none⟩) (h3 i x hx j c hc) (fun e2 => absurd (show b = w.heap.size + 1 by simpa using e2) (by omega))
  rw [hw4]
  have HI4 := Lib.hid hI4
  have HN4 := Lib.hid hn4
  clear hw4 hI4 hn4 hc3 hf3
  refine wpIn_loop (RepO l a cap na nc w w4)
    (RepM l) ?_ ?_
  · exact ⟨0, st0, true, [], undef, undef, undef, undef, undef, undef, undef, undef, Nat.zero_le _, by decide, rfl, HI4.out, by simp, by simp, rfl⟩
  rintro _ W1 ⟨k, s, ok, Ds, u7, u23, u24, u25, u26, u27, u28, u56, hk, hs, rfl, hI1, hDs, hNd, hF⟩
  have HI1 := Lib.hid hI1
  have HDS := Lib.hid hDs
  have HNO := Lib.hid hNd
  have HF := Lib.hid hF
  clear hI1 hDs hNd hF
  by_cases hlt : k < (ordR l).length
  · obtain ⟨nm, hnm⟩ : ∃ nm, (ordR l)[k]? = some nm := ⟨_, List.getElem?_eq_getElem hlt⟩
    have hne : ∃ nb noff, na = some ⟨nb, noff, none⟩ ∧ w.heap.size + 2 ≤ nb ∧ RowsAt Nm.cells 3 w4 nb noff (ordR l) := by
      rcases na with _ | ⟨nb, noff, s'⟩
      · have := (NN.out rfl).1; rw [this] at hlt; simp at hlt
      · obtain ⟨rfl, h2, h3⟩ := HN4.out nb noff s' rfl (by omega)
        exact ⟨nb, noff, rfl, h2, h3⟩
    obtain ⟨nb, noff, rfl, hnb, hnr⟩ := hne
    obtain ⟨y0, y1, y2⟩ := (hnr.ck HI1.out.ck (.inr hnb)).nm hnm
    have HNM := Lib.hid hnm
    clear hnr hnm
    gi_wp2_with fail
    have hwb : RepI w w4 s ok Ds (W1.alloc (.cells #[.int .i64 nm.s, .int .i64 nm.i, .int .i64 nm.t] 34)) := HI1.out.alloc _
    generalize W1.alloc (.cells #[.int .i64 nm.s, .int .i64 nm.i, .int .i64 nm.t] 34) = Wb at hwb ⊢
    refine ⟨trivial, ?_⟩
    refine (callsIn_wide.2 (steps56_any _ nm Wb ⟨_, _, _, rfl⟩)).mono ?_
    rintro e W0 ⟨rfl, hW0⟩
    have hI0 : RepI w w4 s ok Ds W0 := hW0 ▸ (hwb.alloc _).alloc _
    have hs0 : W0.heap.size = Wb.heap.size + 2 := by rw [← hW0]; simp
    have hbl : W0.heap[Wb.heap.size]? = some (.cells #[.slice a l.length cap] 25 (0, 0)) := hW0 ▸ heap_alloc2_old Wb _ _
    have hbn : W0.heap[Wb.heap.size + 1]? = some (.cells #[.int .i64 nm.s, .int .i64 nm.i, .int .i64 nm.t] 34 (0, 0)) := hW0 ▸ heap_alloc2_new Wb _ _
    have hbl' : W0.cell? ⟨Wb.heap.size, 0, none⟩ = some (.slice a l.length cap) := by rw [cell_of_row W0 _ _ _ 25 (0, 0) hbl]; rfl
    have hwbs : w.heap.size + 2 ≤ Wb.heap.size := by have := lt_of_heap hwb.ser; omega
    obtain ⟨bl, off, hal⟩ : ∃ bl off, 0 < l.length → a = some ⟨bl, off, none⟩ ∧ bl < w.heap.size ∧ RowsAt Sn.cells 14 w bl off l := by
      rcases a with _ | ⟨bl, off, s'⟩
      · exact ⟨0, 0, fun h => by have := (HN.out rfl).1; rw [this] at h; simp at h⟩
      · exact ⟨bl, off, fun h => by obtain ⟨rfl, h2, h3⟩ := HA.out bl off s' rfl h; exact ⟨rfl, h2, h3⟩⟩
    have hseq := steps73_in 6 Wb.heap.size (Wb.heap.size + 1) w.heap.size (w.heap.size + 2) bl off a cap l nm hl W0 (fun h => ⟨(hal h).1, (hal h).2.1, (hal h).2.2.below (hal h).2.1 hI0.below⟩) hI0.below.size (by omega) (by omega) hbl' hbn
    have HI0 := Lib.hid hI0
    have HAL := Lib.hid hal
    clear hwb hW0 hI0 hbl hbn hbl' hal
    have hdsl : ∀ D ∈ Ds, D < W0.heap.size := fun D hD => lt_of_heap (HI0.out.def_ D hD)
    have HDL := Lib.hid hdsl
    clear hdsl
    gi_wp2_with fail
    unfold SeqC at hseq
    refine wpIn_rangeFunc_ownH (F := Fence.wide) (n := 9) rfl (by omega) (gf := 73) (lb := #[.pointer (some ⟨Wb.heap.size, 0, none⟩), .pointer (some ⟨Wb.heap.size + 1, 0, none⟩)]) rfl trivial (enters_of Try.func73 (by kernel_rfl) rfl) hseq
      Keep.trans (Keep.book (by intro b h; cases h)) (Below.refl _ _) (fun _ => rfl)
      (fun pre W => RepI w w4 ((pre.map (·.1.2)).foldl repStep (s, ok)).1 ((pre.map (·.1.2)).foldl repStep (s, ok)).2 Ds W) (fun _ _ _ => False)
      (RepI.own (fun pre : List { p // p ∈ nmSteps nm l 0 } => (pre.map (·.1.2)).foldl repStep (s, ok)) (by omega) HDL.out) (fun _ _ _ _ _ hs _ _ => hs) HI0.out
      (fun x a' W => a' = { tmps := #[.slice a l.length cap, undef, .pointer (some ⟨w.heap.size, 0, none⟩), .pointer (some ⟨w.heap.size + 1, 0, none⟩), .int .i64 0, .slice (some ⟨nb, noff, none⟩) (ordR l).length nc, undef, .pointer (some ⟨W1.heap.size, 0, none⟩), cxV x.1.2.b (x.1.1 : Int), .pointer (some ⟨bl, off + x.1.1 * 14, none⟩), undef, .tuple #[.slice (some ⟨nb, noff, none⟩) (ordR l).length nc, .int .i64 0], .slice a l.length cap, .tuple #[.slice (some ⟨nb, noff, none⟩) (ordR l).length nc, .int .i64 0], .slice (some ⟨nb, noff, none⟩) (ordR l).length nc, .int .i64 0, .int .i64 0, .bool false, undef, undef, .slice (some ⟨nb, noff, none⟩) (ordR l).length nc, .int .i64 ((ordR l).length : Int), .int .i64 (k : Int), .bool true, .pointer (some ⟨nb, noff + k * 3, none⟩), .agg #[.int .i64 nm.s, .int .i64 nm.i, .int .i64 nm.t], .slice a l.length cap, .agg #[.int .i64 nm.s, .int .i64 nm.i, .int .i64 nm.t], .func (.func 73) #[] #[.pointer (some ⟨Wb.heap.size, 0, none⟩), .pointer (some ⟨Wb.heap.size + 1, 0, none⟩)], cxV x.1.2.b (x.1.1 : Int), .pointer (some ⟨bl, off + x.1.1 * 14, none⟩), undef, undef, undef, undef, undef, undef, undef, undef, undef, undef, undef, undef, undef, undef, undef, undef, undef, undef, undef, undef, undef, undef, undef, undef, undef, u56, undef, undef], defers := [] })
      (fun _ _ _ _ _ _ h _ _ => h) ?assign ?body ?done ?stop
    case stop => rintro D c pre W _ _ h; exact h.elim
    case assign =>
      rintro lp pre ⟨⟨i, x⟩, hx⟩ W K hi hK
      simp only [encPX]
      gi_wp2
      exact hK _ _ (KeepsFrom.refl _ _) (Keep.refl _ _ _ _) hi rfl
    case body =>
      rintro lp pre ⟨⟨i, x⟩, hx⟩ a' W hlp hrec hI rfl hlen
      obtain ⟨_, hli, hxn, hxk⟩ := nmSteps_mem l nm 0 (i, x) hx
      simp only [Nat.sub_zero] at hli hxn hxk
      have hpos : 0 < l.length := by have := (List.getElem?_eq_some_iff.1 hli).1; omega
      obtain ⟨hb0, hb1⟩ := step_range HM.out hli hxk
      obtain ⟨c0, c1, c2, c3, c4, c5, c6, c7, c8, c9, c10, c11, c12, c13⟩ := ((HAL.out hpos).2.2.below (HAL.out hpos).2.1 hI.below).sn hli
      have hnext : ((pre ++ [(⟨(i, x), hx⟩ : { p // p ∈ nmSteps nm l 0 })]).map (·.1.2)).foldl repStep (s, ok) = repStep ((pre.map (·.1.2)).foldl repStep (s, ok)) x := by simp
      have hlen2 : ((pre.map (·.1.2)).foldl repStep (s, ok)).1.length = 32 := by rw [repFold_length]; exact hs
      generalize (pre.map (·.1.2)).foldl repStep (s, ok) = cur at hI hnext hlen2
      obtain ⟨s2, ok2⟩ := cur
      simp only at hI hlen2
      have hj : x.b.toNat < s2.length := by omega
      have hre : ∀ ats t w, (Builtin.real_ ats t #[cxV x.b (i : Int)]).run Try.prog w = .ok (flV x.b) w := fun ats t w => run_real _ _ _ _ _
      have hcv : ∀ w, (Go.convert 96 3 (flV x.b)).run Try.prog w = .ok (.int .i64 x.b) w := fun w => run_from_float x.b hb0 hb1 w
      have hsz0 : w.heap.size + 2 ≤ W0.heap.size := by omega
      have HI := Lib.hid hI
      have HNX := Lib.hid hnext
      have HD2 := Lib.hid HDS.out
      clear hlen hrec hI hnext hseq
      by_cases hk1 : x.k = 1
      · have e1 : (x.k == 1) = true := by simp [hk1]
        obtain ⟨u, hu⟩ : ∃ u, s2[x.b.toNat]? = some u := ⟨_, List.getElem?_eq_getElem hj⟩
        have hstep : repStep (s2, ok2) x = (s2, ok2 && decide (u = x.v)) := by simp [repStep, hk1, hu]
        have HST := Lib.hid hstep
        clear hk1 hxk hstep
        gi_wp2_with fail
        obtain ⟨w0, hw0⟩ : ∃ w0, W.drew = w0 := ⟨_, rfl⟩
        have hI0 : RepI w w4 s2 ok2 Ds w0 := hw0 ▸ HI.out.drew
        have hcA := hI0.st
        have hcB := hI0.ser.cell
        have hfB := hI0.ser.frozen
        have hcl : ∀ j, w0.cell? ⟨bl, off + i * 14 + j, none⟩ = W.cell? ⟨bl, off + i * 14 + j, none⟩ := fun j => by rw [← hw0]; rfl
        rw [← hcl 5] at c5
        rw [← hcl 6] at c6
        rw [← hcl 7] at c7
        rw [← hcl 8] at c8
        rw [← hcl 9] at c9
        rw [← hcl 10] at c10
        rw [← hcl 11] at c11
        rw [← hcl 12] at c12
        have hg := grownBy_setCell' w0 (w.heap.size + 1) (.bool (ok2 && decide (u = x.v)))
        have hfin : KeepsFrom W0.heap.size W (w0.setCell ⟨w.heap.size + 1, 0, none⟩ (.bool (ok2 && decide (u = x.v)))) ∧ Keep w.heap.size (w.heap.size + 2) none W (w0.setCell ⟨w.heap.size + 1, 0, none⟩ (.bool (ok2 && decide (u = x.v)))) ∧
            (fun (pre : List { p // p ∈ nmSteps nm l 0 }) W => RepI w w4 ((pre.map (·.1.2)).foldl repStep (s, ok)).1 ((pre.map (·.1.2)).foldl repStep (s, ok)).2 Ds W) (pre ++ [⟨(i, x), hx⟩]) (w0.setCell ⟨w.heap.size + 1, 0, none⟩ (.bool (ok2 && decide (u = x.v)))) := by
          refine ⟨?_, ?_, ?_⟩
          · exact (show KeepsFrom W0.heap.size W w0 from hw0 ▸ (KeepsOthers.drew W).from _).trans (from_turn hg (.inl (by omega)))
          · exact (show Keep _ _ none W w0 from hw0 ▸ keep_drew).trans (Rnd.turn hg (by omega) (by omega) (by intro b h; cases h)).keep
          · show RepI _ _ _ _ _ _
            rw [HNX.out, HST.out]
            exact hI0.turn hg ⟨by omega, by omega⟩ (cells_turn hI0.st hg (by omega)) (hI0.ser.set _) HD2.out
        have hEq : ∀ w, (binOp .eql 23 (v8Val u) (v8Val x.v)).run Try.prog w = .ok (.bool (decide (u = x.v))) w := fun w => eql_v8 u x.v w
        have hGd : ∀ w, (eqGuard .eql 23 (.tmp 43) (.tmp 47) (v8Val u) (v8Val x.v)).run Try.prog w = .ok () w := fun w =>
          run_eqGuard_agg (P := Try.prog) w .eql 23 (.tmp 43) (.tmp 47) #[.int .u8 u.a, .int .u8 u.b, .int .u8 u.c, .int .u8 u.d, .int .u8 u.e, .int .u8 u.f, .int .u8 u.g, .int .u8 u.h] #[.int .u8 x.v.a, .int .u8 x.v.b, .int .u8 x.v.c, .int .u8 x.v.d, .int .u8 x.v.e, .int .u8 x.v.f, .int .u8 x.v.g, .int .u8 x.v.h] (by kernel_rfl)
        have HW0 := Lib.hid hw0
        clear hw0 hI0 hg hcl
        cases ok2
        · skip
          -- BEGIN R13F
          refine wpIn_region_frame mixed (fun _ => trivial) (by kernel_rfl) [(0, 39, .bool false), (1, 40, .bool false), (2, 41, undef), (3, 42, undef), (4, 43, undef), (5, 44, undef), (6, 45, undef), (7, 46, undef), (8, 47, undef), (9, 48, undef), (10, 49, .bool (false && decide (u = x.v)))] (fun L Wx => (L 11 = false → Wx = w0) ∧ (L 11 = true → Wx = w0.setCell ⟨w.heap.size + 1, 0, none⟩ (.bool (false && decide (u = x.v))))) ?_ ?_ (by rfl) (by rfl) ?_
          · exact ⟨fun _ => HW0.out, fun h => by cases h⟩
          · intro a0 ps ha0 hps
            have hsz : a0.tmps.size = 59 := by rw [ha0]; rfl
            have u2 : a0.tmps[2]? = some (.pointer (some ⟨w.heap.size, 0, none⟩)) := by rw [ha0]; rfl
            have u3 : a0.tmps[3]? = some (.pointer (some ⟨w.heap.size + 1, 0, none⟩)) := by rw [ha0]; rfl
            have u9 : a0.tmps[9]? = some (.pointer (some ⟨bl, off + i * 14, none⟩)) := by rw [ha0]; rfl
            have u10 : a0.tmps[10]? = some (.int .i64 x.b) := by rw [ha0]; rfl
            have n2 : slotOf ps 2 = none := by rw [hps]; rfl
            have n3 : slotOf ps 3 = none := by rw [hps]; rfl
            have n9 : slotOf ps 9 = none := by rw [hps]; rfl
            have n10 : slotOf ps 10 = none := by rw [hps]; rfl
            have k39 : slotOf ps 39 = some (0, .bool false) := by rw [hps]; rfl
            have q39 : keysOK ps 0 39 = true := by rw [hps]; rfl
            have k40 : slotOf ps 40 = some (1, .bool false) := by rw [hps]; rfl
            have q40 : keysOK ps 1 40 = true := by rw [hps]; rfl
            have k41 : slotOf ps 41 = some (2, undef) := by rw [hps]; rfl
            have q41 : keysOK ps 2 41 = true := by rw [hps]; rfl
            have k42 : slotOf ps 42 = some (3, undef) := by rw [hps]; rfl
            have q42 : keysOK ps 3 42 = true := by rw [hps]; rfl
            have k43 : slotOf ps 43 = some (4, undef) := by rw [hps]; rfl
            have q43 : keysOK ps 4 43 = true := by rw [hps]; rfl
            have k44 : slotOf ps 44 = some (5, undef) := by rw [hps]; rfl
            have q44 : keysOK ps 5 44 = true := by rw [hps]; rfl
            have k45 : slotOf ps 45 = some (6, undef) := by rw [hps]; rfl
            have q45 : keysOK ps 6 45 = true := by rw [hps]; rfl
            have k46 : slotOf ps 46 = some (7, undef) := by rw [hps]; rfl
            have q46 : keysOK ps 7 46 = true := by rw [hps]; rfl
            have k47 : slotOf ps 47 = some (8, undef) := by rw [hps]; rfl
            have q47 : keysOK ps 8 47 = true := by rw [hps]; rfl
            have k48 : slotOf ps 48 = some (9, undef) := by rw [hps]; rfl
            have q48 : keysOK ps 9 48 = true := by rw [hps]; rfl
            have k49 : slotOf ps 49 = some (10, .bool (false && decide (u = x.v))) := by rw [hps]; rfl
            have q49 : keysOK ps 10 49 = true := by rw [hps]; rfl
            have z11 : (ps.all fun p => !(p.1 == 11)) = true := by rw [hps]; rfl
            clear ha0 hps
            refine ⟨?_, ?_, ?_, ?_, ?_, ?_, ?_, ?_, ?_, ?_, ?_, ?_, trivial⟩
            · rintro L _ Wx ⟨rfl, hT⟩ hcl hk hd
              have hN : L 11 = false := by
                cases hh : L 11 with
                | false => rfl
                | true =>
                  have h0 := hcl 11 _ rfl (by simp [hh])
                  simp [Region.binds] at h0
                  simp [hk] at h0
              rw [if_pos (by simp [Region.wanted])]
              refine opIn_value (by intro c h; cases h) (by intro c h; cases h) (by intro c h; cases h) (v := .bool false) (w' := Wx) (by simp [execOp, go_sem, frame_tout (n3) u3, hT.1 hN, hcB]) ⟨frame_put (k39) (q39), ?_⟩
              simpa [upd] using hT
            · rintro L _ Wx ⟨rfl, hT⟩ hcl hk hd
              have hL0 : L 0 = true := by have h := hd; simp [Region.binds] at h; simp [h]
              rw [if_pos (by simp [Region.wanted])]
              refine opIn_value (by intro c h; cases h) (by intro c h; cases h) (by intro c h; cases h) (v := .bool false) (w' := Wx) (by simp [execOp, go_sem, frame_tmp (k39) hL0 (Nat.lt_of_lt_of_eq (by decide : 39 < 59) hsz.symm)]) ⟨frame_put (k40) (q40), ?_⟩
              simpa [upd] using hT
            · rintro L _ Wx ⟨rfl, hT⟩ hcl hk hd
              have hL1 : L 1 = true := by have h := hd; simp [Region.binds] at h; simp [h]
              rw [if_neg (by simp [Region.wanted, yielded, frame_tmp (k40) hL1 (Nat.lt_of_lt_of_eq (by decide : 40 < 59) hsz.symm)])]
              refine ⟨frame_put (k41) (q41), ?_⟩
              simpa [upd] using hT
            · rintro L _ Wx ⟨rfl, hT⟩ hcl hk hd
              have hL1 : L 1 = true := by have h := hd; simp [Region.binds] at h; simp [h]
              rw [if_neg (by simp [Region.wanted, yielded, frame_tmp (k40) hL1 (Nat.lt_of_lt_of_eq (by decide : 40 < 59) hsz.symm)])]
              refine ⟨frame_put (k42) (q42), ?_⟩
              simpa [upd] using hT
            · rintro L _ Wx ⟨rfl, hT⟩ hcl hk hd
              have hL1 : L 1 = true := by have h := hd; simp [Region.binds] at h; simp [h]
              have hN : L 11 = false := by
                cases hh : L 11 with
                | false => rfl
                | true =>
                  have h4 := hcl 11 _ rfl (by simp [hh])
                  simp [Region.binds] at h4
                  simp [hk] at h4
              rw [if_neg (by simp [Region.wanted, yielded, frame_tmp (k40) hL1 (Nat.lt_of_lt_of_eq (by decide : 40 < 59) hsz.symm)])]
              refine ⟨frame_put (k43) (q43), ?_⟩
              simpa [upd] using hT
            · rintro L _ Wx ⟨rfl, hT⟩ hcl hk hd
              have hL1 : L 1 = true := by have h := hd; simp [Region.binds] at h; simp [h]
              rw [if_neg (by simp [Region.wanted, yielded, frame_tmp (k40) hL1 (Nat.lt_of_lt_of_eq (by decide : 40 < 59) hsz.symm)])]
              refine ⟨frame_put (k44) (q44), ?_⟩
              simpa [upd] using hT
            · rintro L _ Wx ⟨rfl, hT⟩ hcl hk hd
              have hL1 : L 1 = true := by have h := hd; simp [Region.binds] at h; simp [h]
              rw [if_neg (by simp [Region.wanted, yielded, frame_tmp (k40) hL1 (Nat.lt_of_lt_of_eq (by decide : 40 < 59) hsz.symm)])]
              refine ⟨frame_put (k45) (q45), ?_⟩
              simpa [upd] using hT
            · rintro L _ Wx ⟨rfl, hT⟩ hcl hk hd
              have hL1 : L 1 = true := by have h := hd; simp [Region.binds] at h; simp [h]
              rw [if_neg (by simp [Region.wanted, yielded, frame_tmp (k40) hL1 (Nat.lt_of_lt_of_eq (by decide : 40 < 59) hsz.symm)])]
              refine ⟨frame_put (k46) (q46), ?_⟩
              simpa [upd] using hT
            · rintro L _ Wx ⟨rfl, hT⟩ hcl hk hd
              have hL1 : L 1 = true := by have h := hd; simp [Region.binds] at h; simp [h]
              have hN : L 11 = false := by
                cases hh : L 11 with
                | false => rfl
                | true =>
                  have h8 := hcl 11 _ rfl (by simp [hh])
                  simp [Region.binds] at h8
                  simp [hk] at h8
              rw [if_neg (by simp [Region.wanted, yielded, frame_tmp (k40) hL1 (Nat.lt_of_lt_of_eq (by decide : 40 < 59) hsz.symm)])]
              refine ⟨frame_put (k47) (q47), ?_⟩
              simpa [upd] using hT
            · rintro L _ Wx ⟨rfl, hT⟩ hcl hk hd
              have hL1 : L 1 = true := by have h := hd; simp [Region.binds] at h; simp [h]
              rw [if_neg (by simp [Region.wanted, yielded, frame_tmp (k40) hL1 (Nat.lt_of_lt_of_eq (by decide : 40 < 59) hsz.symm)])]
              refine ⟨frame_put (k48) (q48), ?_⟩
              simpa [upd] using hT
            · rintro L _ Wx ⟨rfl, hT⟩ hcl hk hd
              have hL1 : L 1 = true := by have h := hd; simp [Region.binds] at h; simp [h]
              rw [if_pos (by simp [Region.wanted])]
              refine opIn_value (by intro c h; cases h) (by intro c h; cases h) (by intro c h; cases h) (v := .bool (false && decide (u = x.v))) (w' := Wx) (by simp [execOp, go_sem, frame_tmp (k40) hL1 (Nat.lt_of_lt_of_eq (by decide : 40 < 59) hsz.symm)]) ⟨frame_put (k49) (q49), ?_⟩
              simpa [upd] using hT
            · rintro L _ Wx ⟨rfl, hT⟩ hcl hk hd
              have hL10 : L 10 = true := by have h := hd; simp [Region.binds] at h; simp [h]
              rw [if_pos (by simp [Region.wanted])]
              obtain rfl : Wx = w0 := hT.1 hk
              refine opIn_store 4 (.tmp 3) (.tmp 49) rfl ⟨w.heap.size + 1, 0, none⟩ (by rw [frame_oute n3 u3]) (.bool (false && decide (u = x.v))) (by rw [frame_in k49 hL10 (Nat.lt_of_lt_of_eq (by decide : 49 < 59) hsz.symm)]) (by simp [go_sem, hcB, hfB]; rfl) ⟨frame_putNone (z11), ?_⟩
              exact ⟨fun h => by simp [upd] at h, fun _ => rfl⟩
          · rintro L W' hT hall
            have hA11 : L 11 = true := hall 11 (by simp)
            simp only [putAll, Act.put, List.setIfInBounds_toArray, List.set_cons_succ, List.set_cons_zero]
            obtain rfl := hT.2 hA11
            clear hT hall
            have HFIN := Lib.hid hfin
            clear hfin
            gi_wp2
            have h := HFIN.out
            rw [hs0] at h
            exact ⟨h.1, h.2.1, h.2.2⟩
          -- END R13F
        · skip
          -- BEGIN R13T
          refine wpIn_region_frame mixed (fun _ => trivial) (by kernel_rfl) [(0, 39, .bool true), (1, 40, .bool true), (2, 41, .int .i64 x.b), (3, 42, .pointer (some ⟨w.heap.size, x.b.toNat * 8, none⟩)), (4, 43, v8Val u), (5, 44, .pointer (some ⟨bl, off + i * 14, none⟩)), (6, 45, .pointer (some ⟨bl, off + i * 14, none⟩)), (7, 46, .pointer (some ⟨bl, off + i * 14 + 5, none⟩)), (8, 47, v8Val x.v), (9, 48, .bool (decide (u = x.v))), (10, 49, .bool (true && decide (u = x.v)))] (fun L Wx => (L 11 = false → Wx = w0) ∧ (L 11 = true → Wx = w0.setCell ⟨w.heap.size + 1, 0, none⟩ (.bool (true && decide (u = x.v))))) ?_ ?_ (by rfl) (by rfl) ?_
          · exact ⟨fun _ => HW0.out, fun h => by cases h⟩
          · intro a0 ps ha0 hps
            have hsz : a0.tmps.size = 59 := by rw [ha0]; rfl
            have u2 : a0.tmps[2]? = some (.pointer (some ⟨w.heap.size, 0, none⟩)) := by rw [ha0]; rfl
            have u3 : a0.tmps[3]? = some (.pointer (some ⟨w.heap.size + 1, 0, none⟩)) := by rw [ha0]; rfl
            have u9 : a0.tmps[9]? = some (.pointer (some ⟨bl, off + i * 14, none⟩)) := by rw [ha0]; rfl
            have u10 : a0.tmps[10]? = some (.int .i64 x.b) := by rw [ha0]; rfl
            have n2 : slotOf ps 2 = none := by rw [hps]; rfl
            have n3 : slotOf ps 3 = none := by rw [hps]; rfl
            have n9 : slotOf ps 9 = none := by rw [hps]; rfl
            have n10 : slotOf ps 10 = none := by rw [hps]; rfl
            have k39 : slotOf ps 39 = some (0, .bool true) := by rw [hps]; rfl
            have q39 : keysOK ps 0 39 = true := by rw [hps]; rfl
            have k40 : slotOf ps 40 = some (1, .bool true) := by rw [hps]; rfl
            have q40 : keysOK ps 1 40 = true := by rw [hps]; rfl
            have k41 : slotOf ps 41 = some (2, .int .i64 x.b) := by rw [hps]; rfl
            have q41 : keysOK ps 2 41 = true := by rw [hps]; rfl
            have k42 : slotOf ps 42 = some (3, .pointer (some ⟨w.heap.size, x.b.toNat * 8, none⟩)) := by rw [hps]; rfl
            have q42 : keysOK ps 3 42 = true := by rw [hps]; rfl
            have k43 : slotOf ps 43 = some (4, v8Val u) := by rw [hps]; rfl
            have q43 : keysOK ps 4 43 = true := by rw [hps]; rfl
            have k44 : slotOf ps 44 = some (5, .pointer (some ⟨bl, off + i * 14, none⟩)) := by rw [hps]; rfl
            have q44 : keysOK ps 5 44 = true := by rw [hps]; rfl
            have k45 : slotOf ps 45 = some (6, .pointer (some ⟨bl, off + i * 14, none⟩)) := by rw [hps]; rfl
            have q45 : keysOK ps 6 45 = true := by rw [hps]; rfl
            have k46 : slotOf ps 46 = some (7, .pointer (some ⟨bl, off + i * 14 + 5, none⟩)) := by rw [hps]; rfl
            have q46 : keysOK ps 7 46 = true := by rw [hps]; rfl
            have k47 : slotOf ps 47 = some (8, v8Val x.v) := by rw [hps]; rfl
            have q47 : keysOK ps 8 47 = true := by rw [hps]; rfl
            have k48 : slotOf ps 48 = some (9, .bool (decide (u = x.v))) := by rw [hps]; rfl
            have q48 : keysOK ps 9 48 = true := by rw [hps]; rfl
            have k49 : slotOf ps 49 = some (10, .bool (true && decide (u = x.v))) := by rw [hps]; rfl
            have q49 : keysOK ps 10 49 = true := by rw [hps]; rfl
            have z11 : (ps.all fun p => !(p.1 == 11)) = true := by rw [hps]; rfl
            clear ha0 hps
            refine ⟨?_, ?_, ?_, ?_, ?_, ?_, ?_, ?_, ?_, ?_, ?_, ?_, trivial⟩
            · rintro L _ Wx ⟨rfl, hT⟩ hcl hk hd
              have hN : L 11 = false := by
                cases hh : L 11 with
                | false => rfl
                | true =>
                  have h0 := hcl 11 _ rfl (by simp [hh])
                  simp [Region.binds] at h0
                  simp [hk] at h0
              rw [if_pos (by simp [Region.wanted])]
              refine opIn_value (by intro c h; cases h) (by intro c h; cases h) (by intro c h; cases h) (v := .bool true) (w' := Wx) (by simp [execOp, go_sem, frame_tout (n3) u3, hT.1 hN, hcB]) ⟨frame_put (k39) (q39), ?_⟩
              simpa [upd] using hT
            · rintro L _ Wx ⟨rfl, hT⟩ hcl hk hd
              have hL0 : L 0 = true := by have h := hd; simp [Region.binds] at h; simp [h]
              rw [if_pos (by simp [Region.wanted])]
              refine opIn_value (by intro c h; cases h) (by intro c h; cases h) (by intro c h; cases h) (v := .bool true) (w' := Wx) (by simp [execOp, go_sem, frame_tmp (k39) hL0 (Nat.lt_of_lt_of_eq (by decide : 39 < 59) hsz.symm)]) ⟨frame_put (k40) (q40), ?_⟩
              simpa [upd] using hT
            · rintro L _ Wx ⟨rfl, hT⟩ hcl hk hd
              have hL1 : L 1 = true := by have h := hd; simp [Region.binds] at h; simp [h]
              rw [if_pos (by simp [Region.wanted, yielded, frame_tmp (k40) hL1 (Nat.lt_of_lt_of_eq (by decide : 40 < 59) hsz.symm)])]
              refine opIn_value (by intro c h; cases h) (by intro c h; cases h) (by intro c h; cases h) (v := .int .i64 x.b) (w' := Wx) (by simp [execOp, go_sem, frame_tout (n10) u10]) ⟨frame_put (k41) (q41), ?_⟩
              simpa [upd] using hT
            · rintro L _ Wx ⟨rfl, hT⟩ hcl hk hd
              have hL1 : L 1 = true := by have h := hd; simp [Region.binds] at h; simp [h]
              have hL2 : L 2 = true := by have h := hd; simp [Region.binds] at h; simp [h]
              rw [if_pos (by simp [Region.wanted, yielded, frame_tmp (k40) hL1 (Nat.lt_of_lt_of_eq (by decide : 40 < 59) hsz.symm)])]
              refine opIn_value (by intro c h; cases h) (by intro c h; cases h) (by intro c h; cases h) (v := .pointer (some ⟨w.heap.size, x.b.toNat * 8, none⟩)) (w' := Wx) (by simp [execOp, go_sem, frame_tmp (k41) hL2 (Nat.lt_of_lt_of_eq (by decide : 41 < 59) hsz.symm), frame_tout (n2) u2, hb0, hb1]) ⟨frame_put (k42) (q42), ?_⟩
              simpa [upd] using hT
            · rintro L _ Wx ⟨rfl, hT⟩ hcl hk hd
              have hL1 : L 1 = true := by have h := hd; simp [Region.binds] at h; simp [h]
              have hL3 : L 3 = true := by have h := hd; simp [Region.binds] at h; simp [h]
              have hN : L 11 = false := by
                cases hh : L 11 with
                | false => rfl
                | true =>
                  have h4 := hcl 11 _ rfl (by simp [hh])
                  simp [Region.binds] at h4
                  simp [hk] at h4
              rw [if_pos (by simp [Region.wanted, yielded, frame_tmp (k40) hL1 (Nat.lt_of_lt_of_eq (by decide : 40 < 59) hsz.symm)])]
              obtain rfl : Wx = w0 := hT.1 hN
              refine opIn_load 23 (.tmp 42) rfl ⟨w.heap.size, x.b.toNat * 8, none⟩ (by rw [frame_in (k42) hL3 (Nat.lt_of_lt_of_eq (by decide : 42 < 59) hsz.symm)]) (v8Val u) (ld_st hcA hu) ⟨frame_put (k43) (q43), ?_⟩
              simpa [upd] using hT
            · rintro L _ Wx ⟨rfl, hT⟩ hcl hk hd
              have hL1 : L 1 = true := by have h := hd; simp [Region.binds] at h; simp [h]
              rw [if_pos (by simp [Region.wanted, yielded, frame_tmp (k40) hL1 (Nat.lt_of_lt_of_eq (by decide : 40 < 59) hsz.symm)])]
              refine opIn_value (by intro c h; cases h) (by intro c h; cases h) (by intro c h; cases h) (v := .pointer (some ⟨bl, off + i * 14, none⟩)) (w' := Wx) (by simp [execOp, go_sem, frame_tout (n9) u9]) ⟨frame_put (k44) (q44), ?_⟩
              simpa [upd] using hT
            · rintro L _ Wx ⟨rfl, hT⟩ hcl hk hd
              have hL1 : L 1 = true := by have h := hd; simp [Region.binds] at h; simp [h]
              have hL5 : L 5 = true := by have h := hd; simp [Region.binds] at h; simp [h]
              rw [if_pos (by simp [Region.wanted, yielded, frame_tmp (k40) hL1 (Nat.lt_of_lt_of_eq (by decide : 40 < 59) hsz.symm)])]
              refine opIn_value (by intro c h; cases h) (by intro c h; cases h) (by intro c h; cases h) (v := .pointer (some ⟨bl, off + i * 14, none⟩)) (w' := Wx) (by simp [execOp, go_sem, frame_tmp (k44) hL5 (Nat.lt_of_lt_of_eq (by decide : 44 < 59) hsz.symm)]) ⟨frame_put (k45) (q45), ?_⟩
              simpa [upd] using hT
            · rintro L _ Wx ⟨rfl, hT⟩ hcl hk hd
              have hL1 : L 1 = true := by have h := hd; simp [Region.binds] at h; simp [h]
              have hL6 : L 6 = true := by have h := hd; simp [Region.binds] at h; simp [h]
              rw [if_pos (by simp [Region.wanted, yielded, frame_tmp (k40) hL1 (Nat.lt_of_lt_of_eq (by decide : 40 < 59) hsz.symm)])]
              refine opIn_value (by intro c h; cases h) (by intro c h; cases h) (by intro c h; cases h) (v := .pointer (some ⟨bl, off + i * 14 + 5, none⟩)) (w' := Wx) (by simp [execOp, go_sem, frame_tmp (k45) hL6 (Nat.lt_of_lt_of_eq (by decide : 45 < 59) hsz.symm)]) ⟨frame_put (k46) (q46), ?_⟩
              simpa [upd] using hT
            · rintro L _ Wx ⟨rfl, hT⟩ hcl hk hd
              have hL1 : L 1 = true := by have h := hd; simp [Region.binds] at h; simp [h]
              have hL7 : L 7 = true := by have h := hd; simp [Region.binds] at h; simp [h]
              have hN : L 11 = false := by
                cases hh : L 11 with
                | false => rfl
                | true =>
                  have h8 := hcl 11 _ rfl (by simp [hh])
                  simp [Region.binds] at h8
                  simp [hk] at h8
              rw [if_pos (by simp [Region.wanted, yielded, frame_tmp (k40) hL1 (Nat.lt_of_lt_of_eq (by decide : 40 < 59) hsz.symm)])]
              refine opIn_value (by intro c h; cases h) (by intro c h; cases h) (by intro c h; cases h) (v := v8Val x.v) (w' := Wx) (by simp [execOp, go_sem, frame_tmp (k46) hL7 (Nat.lt_of_lt_of_eq (by decide : 46 < 59) hsz.symm), hT.1 hN, v8Val, c5, c6, c7, c8, c9, c10, c11, c12]) ⟨frame_put (k47) (q47), ?_⟩
              simpa [upd] using hT
            · rintro L _ Wx ⟨rfl, hT⟩ hcl hk hd
              have hL1 : L 1 = true := by have h := hd; simp [Region.binds] at h; simp [h]
              have hL4 : L 4 = true := by have h := hd; simp [Region.binds] at h; simp [h]
              have hL8 : L 8 = true := by have h := hd; simp [Region.binds] at h; simp [h]
              rw [if_pos (by simp [Region.wanted, yielded, frame_tmp (k40) hL1 (Nat.lt_of_lt_of_eq (by decide : 40 < 59) hsz.symm)])]
              refine opIn_value (by intro c h; cases h) (by intro c h; cases h) (by intro c h; cases h) (v := .bool (decide (u = x.v))) (w' := Wx) (by simp [execOp, go_sem, frame_tmp (k43) hL4 (Nat.lt_of_lt_of_eq (by decide : 43 < 59) hsz.symm), frame_tmp (k47) hL8 (Nat.lt_of_lt_of_eq (by decide : 47 < 59) hsz.symm), hGd, hEq]) ⟨frame_put (k48) (q48), ?_⟩
              simpa [upd] using hT
            · rintro L _ Wx ⟨rfl, hT⟩ hcl hk hd
              have hL1 : L 1 = true := by have h := hd; simp [Region.binds] at h; simp [h]
              have hL9 : L 9 = true := by have h := hd; simp [Region.binds] at h; simp [h]
              rw [if_pos (by simp [Region.wanted])]
              refine opIn_value (by intro c h; cases h) (by intro c h; cases h) (by intro c h; cases h) (v := .bool (true && decide (u = x.v))) (w' := Wx) (by simp [execOp, go_sem, frame_tmp (k40) hL1 (Nat.lt_of_lt_of_eq (by decide : 40 < 59) hsz.symm), frame_tmp (k48) hL9 (Nat.lt_of_lt_of_eq (by decide : 48 < 59) hsz.symm)]) ⟨frame_put (k49) (q49), ?_⟩
              simpa [upd] using hT
            · rintro L _ Wx ⟨rfl, hT⟩ hcl hk hd
              have hL10 : L 10 = true := by have h := hd; simp [Region.binds] at h; simp [h]
              rw [if_pos (by simp [Region.wanted])]
              obtain rfl : Wx = w0 := hT.1 hk
              refine opIn_store 4 (.tmp 3) (.tmp 49) rfl ⟨w.heap.size + 1, 0, none⟩ (by rw [frame_oute n3 u3]) (.bool (true && decide (u = x.v))) (by rw [frame_in k49 hL10 (Nat.lt_of_lt_of_eq (by decide : 49 < 59) hsz.symm)]) (by simp [go_sem, hcB, hfB]; rfl) ⟨frame_putNone (z11), ?_⟩
              exact ⟨fun h => by simp [upd] at h, fun _ => rfl⟩
          · rintro L W' hT hall
            have hA11 : L 11 = true := hall 11 (by simp)
            simp only [putAll, Act.put, List.setIfInBounds_toArray, List.set_cons_succ, List.set_cons_zero]
            obtain rfl := hT.2 hA11
            clear hT hall
            have HFIN := Lib.hid hfin
            clear hfin
            gi_wp2
            have h := HFIN.out
            rw [hs0] at h
            exact ⟨h.1, h.2.1, h.2.2⟩
          -- END R13T
      · have e1 : (x.k == 1) = false := by simp [hk1]
        have hstep : repStep (s2, ok2) x = (s2.set x.b.toNat x.v, ok2) := by simp [repStep, hk1]
        have HST := Lib.hid hstep
        clear hk1 hxk hstep
        gi_wp2_with (first | (refine wpListIn_store_st rfl _ _ rfl w.heap.size x.b.toNat rfl x.v rfl HI.out.st hj ?_; intro W2 hg2 hst2; have HG2 := Lib.hid hg2; have HST2 := Lib.hid hst2; clear hg2 hst2))
        refine ⟨from_turn HG2.out (.inl (by omega)), (Rnd.turn HG2.out (Nat.le_refl _) (by omega) (by intro b h; cases h)).keep, ?_⟩
        show RepI _ _ _ _ _ _
        rw [HNX.out, HST.out]
        exact HI.out.turn HG2.out ⟨Nat.le_refl _, by omega⟩ HST2.out (cells_turn HI.out.ser HG2.out (by omega)) HD2.out
    case done =>
      rintro D xs W hD hS hI hK
      have hxs : (xs.map (·.1.2)).foldl repStep (s, ok) = repName l (s, ok) nm := by
        unfold repName
        have h := congrArg (List.map (·.2)) hS
        rw [List.map_map] at h
        rw [show xs.map (·.1.2) = (nmSteps nm l 0).map (·.2) from h]
      rw [hxs] at hI
      have hF2 : ((ordR l).drop (k + 1)).foldl (repName l) (repName l (s, ok) nm) = repP l := by
        have := HF.out
        rw [drop_cons HNM.out, List.foldl_cons] at this
        exact this
      have hl2 : (repName l (s, ok) nm).1.length = 32 := by rw [repName_length]; exact hs
      have HF2 := Lib.hid hF2
      have HI2 := Lib.hid hI
      have HK := Lib.hid hK
      clear hxs hF2 hI hK hseq
      generalize repName l (s, ok) nm = cur at *
      obtain ⟨s2, ok2⟩ := cur
      gi_wp2_with fail
      refine ⟨⟨k + 1, s2, ok2, D :: Ds, _, _, _, _, _, _, _, _, by omega, hl2, rfl, ?_, ?_, ?_, HF2.out⟩, ?_⟩
      · exact ⟨HI2.out.st, HI2.out.ser, HI2.out.below, HI2.out.ck, fun E hE => by rcases List.mem_cons.1 hE with rfl | hE; exact HK.out; exact HI2.out.def_ E hE⟩
      · intro E hE
        rcases List.mem_cons.1 hE with rfl | hE
        · omega
        · exact HDS.out E hE
      · exact List.nodup_cons.2 ⟨fun hm => by have := HDL.out D hm; omega, HNO.out⟩
      · unfold RepM; simp [intOf]; omega
  · obtain rfl : k = (ordR l).length := by omega
    have hfi : repP l = (s, ok) := by
      have := HF.out
      rw [drop_end hlt] at this
      exact this.symm
    have HFI := Lib.hid hfi
    have HA1 : Hid (W1.drew.heap[w.heap.size]? = some (.cells (stArr s) 24 (0, 0))) := HI1.out.st
    have HB1 : Hid (Boxed W1.drew (w.heap.size + 1) 4 (.bool ok)) := HI1.out.ser
    have HBL := Lib.hid HI1.out.below
    have HDF : Hid (∀ D ∈ Ds, W1.drew.heap[D]? = some (.deferred (some []))) := HI1.out.def_
    clear hfi
    gi_wp2_with fail
    -- BEGIN R16
    refine wpIn_region_frame mixed (fun _ => trivial) (by kernel_rfl) [(0, 57, .agg (stArr s)), (1, 58, .bool ok), (4, 4, .int .i64 0)] (fun L Wx => Wx.heap[w.heap.size]? = some (.cells (stArr s) 24 (0, 0)) ∧ Boxed Wx (w.heap.size + 1) 4 (.bool ok) ∧ Below w.heap.size w Wx ∧ ∀ D ∈ Ds, Wx.heap[D]? = some (.deferred (some []))) ?_ ?_ (by rfl) (by rfl) ?_
    · exact ⟨HA1.out, HB1.out, HBL.out.drew, HDF.out⟩
    · intro a0 ps ha0 hps
      have hsz : a0.tmps.size = 59 := by rw [ha0]; rfl
      have u2 : a0.tmps[2]? = some (.pointer (some ⟨w.heap.size, 0, none⟩)) := by rw [ha0]; rfl
      have u3 : a0.tmps[3]? = some (.pointer (some ⟨w.heap.size + 1, 0, none⟩)) := by rw [ha0]; rfl
      have n2 : slotOf ps 2 = none := by rw [hps]; rfl
      have n3 : slotOf ps 3 = none := by rw [hps]; rfl
      have k57 : slotOf ps 57 = some (0, .agg (stArr s)) := by rw [hps]; rfl
      have q57 : keysOK ps 0 57 = true := by rw [hps]; rfl
      have k58 : slotOf ps 58 = some (1, .bool ok) := by rw [hps]; rfl
      have q58 : keysOK ps 1 58 = true := by rw [hps]; rfl
      have z2 : (ps.all fun p => !(p.1 == 2)) = true := by rw [hps]; rfl
      have z3 : (ps.all fun p => !(p.1 == 3)) = true := by rw [hps]; rfl
      have k4 : slotOf ps 4 = some (4, .int .i64 0) := by rw [hps]; rfl
      have q4 : keysOK ps 4 4 = true := by rw [hps]; rfl
      clear ha0 hps
      refine ⟨?_, ?_, ?_, ?_, ?_, trivial⟩
      · rintro L _ Wx ⟨rfl, hT⟩ hcl hk hd
        rw [if_pos (by simp [Region.wanted])]
        refine opIn_load 24 (.tmp 2) rfl ⟨w.heap.size, 0, none⟩ (by rw [frame_oute (n2) u2]) (.agg (stArr s)) (ld_all hT.1 hs) ⟨frame_put (k57) (q57), ?_⟩
        simpa [upd] using hT
      · rintro L _ Wx ⟨rfl, hT⟩ hcl hk hd
        rw [if_pos (by simp [Region.wanted])]
        refine opIn_valueW (by intro c h; cases h) (v := .bool ok) (w' := Wx) (by simp [execOp, go_sem, frame_tout (n3) u3, hT.2.1.cell]) ⟨frame_put (k58) (q58), ?_⟩
        simpa [upd] using hT
      · rintro L _ Wx ⟨rfl, hT⟩ hcl hk hd
        have hL0 : L 0 = true := by have h := hd; simp [Region.binds] at h; simp [h]
        rw [if_pos (by simp [Region.wanted])]
        have hg := grownBy_setRow Wx w.heap.size (stArr s)
        refine opIn_store 24 (.tmp 2) (.tmp 57) rfl ⟨w.heap.size, 0, none⟩ (by rw [frame_oute n2 u2]) (.agg (stArr s)) (by rw [frame_in k57 hL0 (Nat.lt_of_lt_of_eq (by decide : 57 < 59) hsz.symm)]) (st_all s hT.1 hs hs) ⟨frame_putNone (z2), ?_⟩
        exact ⟨setRow_heap Wx _ _ _ _ _ hT.1, cells_turn hT.2.1 hg (by omega), hT.2.2.1.grown hg hT.2.2.1.size (fun k e => by cases e; omega), fun D hD => cells_turn (hT.2.2.2 D hD) hg (by have := HDS.out D hD; omega)⟩
      · rintro L _ Wx ⟨rfl, hT⟩ hcl hk hd
        have hL1 : L 1 = true := by have h := hd; simp [Region.binds] at h; simp [h]
        rw [if_pos (by simp [Region.wanted])]
        have hg := grownBy_setCell' Wx (w.heap.size + 1) (.bool ok)
        refine opIn_store 4 (.tmp 3) (.tmp 58) rfl ⟨w.heap.size + 1, 0, none⟩ (by rw [frame_oute n3 u3]) (.bool ok) (by rw [frame_in k58 hL1 (Nat.lt_of_lt_of_eq (by decide : 58 < 59) hsz.symm)]) (by simp [go_sem, hT.2.1.cell, hT.2.1.frozen]; rfl) ⟨frame_putNone (z3), ?_⟩
        exact ⟨cells_turn hT.1 hg (by omega), hT.2.1.set _, hT.2.2.1.grown hg hT.2.2.1.size (fun k e => by cases e; omega), fun D hD => cells_turn (hT.2.2.2 D hD) hg (by have := HDS.out D hD; omega)⟩
      · rintro L _ Wx ⟨rfl, hT⟩ hcl hk hd
        rw [if_pos (by simp [Region.wanted])]
        refine opIn_valueW (by intro c h; cases h) (v := .int .i64 0) (w' := Wx) (by simp [execOp, go_sem]) ⟨frame_put (k4) (q4), ?_⟩
        simpa [upd] using hT
    · rintro L W' hT hall
      simp only [putAll, Act.put, List.setIfInBounds_toArray, List.set_cons_succ, List.set_cons_zero]
      obtain ⟨t1, t2, t3, t4⟩ := hT
      clear hall
      gi_wp2_with fail
      refine leaves_marks Ds W' t4 HNO.out ?_
      intro W2 g1 g2 g3 g4 g5
      have hA2 : W2.heap[w.heap.size]? = some (.cells (stArr s) 24 (0, 0)) := (g5 _ (fun h => by have := HDS.out _ h; omega)).trans t1
      have hB2 : Boxed W2 (w.heap.size + 1) 4 (.bool ok) := (g5 _ (fun h => by have := HDS.out _ h; omega)).trans t2
      refine ⟨.tuple #[.agg (stArr s), .bool ok, .int .i64 0], results_cct Try.results27 rfl (ld_all hA2 hs) rfl (by simp [go_sem, hB2.cell]) rfl, by rw [HFI.out], ?_⟩
      exact t3.trans ⟨g1, g2, g3, by omega, fun k hk => g5 k (fun h => by have := HDS.out _ h; omega)⟩
    -- END R16

end Go.Proofs.Ytgdmgeihgkbjaaa
