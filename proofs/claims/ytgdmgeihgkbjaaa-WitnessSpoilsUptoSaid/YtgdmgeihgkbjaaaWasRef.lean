/- The reference's small functions of chapter 32: Named, order, was -/
import Derived.Test.YtgdmgeihgkbjaaaPd
import Derived.Test.YtgdmgeihgkbjaaaSameF
namespace Go.Proofs.Ytgdmgeihgkbjaaa
open Go.RowKit Go.Shelf

set_option maxHeartbeats 400000 in
theorem named32_any (n : Nm) (w : World) :
    Calls Try.prog 32 #[.agg #[.int .i64 n.s, .int .i64 n.i, .int .i64 n.t]] w fun e w' => e = .returned (.bool n.good) ∧ Below w.heap.size w w' := by
  obtain ⟨w1, hw1⟩ : ∃ w1, w.alloc (.cells #[.int .i64 n.s, .int .i64 n.i, .int .i64 n.t] 34) = w1 := ⟨_, rfl⟩
  have hb1 : Below w.heap.size w w1 := hw1 ▸ below_alloc1 _
  have HB1 := Lib.hid hb1
  have HC := Lib.hid (named60_any n (w.alloc (.cells #[.int .i64 n.s, .int .i64 n.i, .int .i64 n.t] 34)))
  clear hb1 hw1
  go_enter Try.func32, Try.ntmps32
  go_wp2_with fail
  refine HC.out.mono ?_
  rintro e w2 ⟨rfl, b2⟩
  have HB2 : Hid (Below w.heap.size w w2) := Lib.hid ((below_alloc1 _).trans (b2.mono (by simp)))
  clear b2
  go_wp2_with fail
  go_ret
  exact ⟨rfl, HB2.out⟩

/-- Where a name stands in a row; -1: nowhere. -/
def ordAt (n : Nm) : List Nm → Nat → Int
  | [], _ => -1
  | x :: r, i => if x = n then (i : Int) else ordAt n r (i + 1)

theorem ordAt_place (n : Nm) (ns : List Nm) : ordAt n ns 0 = placeOf ns n - 1 := by
  have key : ∀ (ns : List Nm) (i : Nat), ordAt n ns i = match ns.findIdx? (· = n) with | some j => ((i + j : Nat) : Int) | none => -1 := by
    intro ns
    induction ns with
    | nil => intro i; rfl
    | cons x ns ih =>
      intro i
      unfold ordAt
      rw [List.findIdx?_cons]
      by_cases h : x = n
      · simp [h]
      · simp only [h, if_false, decide_false, Bool.false_eq_true]
        rw [ih]
        cases ns.findIdx? (fun y => decide (y = n)) with
        | none => rfl
        | some j =>
          show ((i + 1 + j : Nat) : Int) = ((i + (j + 1) : Nat) : Int)
          congr 1; omega
  rw [key]
  unfold placeOf
  cases ns.findIdx? (fun y => decide (y = n)) with
  | none => rfl
  | some j => simp

/-- The slice value v holds the names ns. -/
def NmRow (w : World) (v : Value) (ns : List Nm) : Prop := ∃ a c, v = .slice a ns.length c ∧ ∀ (q : Nat) n, ns[q]? = some n → ∃ b, a = some ⟨b, 0, none⟩ ∧ b < w.heap.size ∧ RowsAt Nm.cells 3 w b 0 ns
theorem NmRow.below {w w' : World} {v : Value} {ns : List Nm} (h : NmRow w v ns) (hb : Below w.heap.size w w') : NmRow w' v ns := by
  obtain ⟨a, c, e, h⟩ := h
  refine ⟨a, c, e, fun q f hf => ?_⟩
  obtain ⟨b, h1, h2, h3⟩ := h q f hf
  exact ⟨b, h1, Nat.lt_of_lt_of_le h2 hb.size, h3.below h2 hb⟩

set_option maxRecDepth 100000 in
set_option maxHeartbeats 4000000 in
theorem order90_any (ns : List Nm) (v : Value) (n : Nm) (w : World) (hl : ns.length ≤ 100000) (hv : NmRow w v ns) :
    Calls Try.prog 90 #[v, .agg #[.int .i64 n.s, .int .i64 n.i, .int .i64 n.t]] w fun e w' => e = .returned (.int .i64 (ordAt n ns 0)) ∧ Below w.heap.size w w' := by
  obtain ⟨a, cap, rfl, ha⟩ := hv
  have HA := Lib.hid ha
  clear ha
  go_enter Try.func90, Try.ntmps90
  go_wp2
  go_loopw [5] (fun io wr => ∃ q : Nat, q ≤ ns.length ∧ io = .int .i64 q ∧ ordAt n ns 0 = ordAt n (ns.drop q) q ∧ (∃ m, wr = (w.alloc (.cells #[.int .i64 n.s, .int .i64 n.i, .int .i64 n.t] 34)).drewN m)) (fun io _ => ns.length - (intOf io).toNat)
  case atStart => exact ⟨0, Nat.zero_le _, rfl, rfl, 0, rfl⟩
  case round =>
    obtain ⟨q, hq, rfl, hF, m, rfl⟩ := hrel
    have HF := Lib.hid hF
    clear hF
    by_cases hlt : q < ns.length
    · obtain ⟨x, hx⟩ : ∃ x, ns[q]? = some x := ⟨_, List.getElem?_eq_getElem hlt⟩
      obtain ⟨b, rfl, hb, hr⟩ := HA.out q x hx
      have c0 := hr q x hx 0 _ rfl
      have c1 := hr q x hx 1 _ rfl
      have c2 := hr q x hx 2 _ rfl
      simp only [Nat.zero_add, Nat.add_zero] at c0 c1 c2
      have HX := Lib.hid (drop_cons hx)
      have hen := fun w => eql_nm x n w
      clear hr hx
      by_cases hn : x = n
      · have hn' : decide (x = n) = true := by simpa using hn
        have HR : Hid (ordAt n ns 0 = (q : Int)) := Lib.hid (by rw [HF.out, HX.out]; simp [ordAt, hn])
        clear hn
        go_wp2
        go_quiet (fail)
        go_wp2
        go_ret
        exact ⟨by rw [HR.out]; rfl, Below.drewN' (Below.drewN' (below_alloc1 _) _) _⟩
      · have hn' : decide (x = n) = false := by simpa using hn
        have HR : Hid (ordAt n ns 0 = ordAt n (ns.drop (q + 1)) (q + 1)) := Lib.hid (by rw [HF.out, HX.out]; simp [ordAt, hn])
        clear hn
        go_wp2
        go_quiet (fail)
        go_wp2
        go_roundw
        case rel => exact ⟨q + 1, by omega, by go_num, HR.out, _, rfl⟩
        case measure => simp [intOf]; omega
    · have HR : Hid (ordAt n ns 0 = -1) := Lib.hid (by rw [HF.out, drop_end hlt]; rfl)
      go_wp2
      go_ret
      exact ⟨by rw [HR.out]; rfl, Below.drewN' (below_alloc1 _) _⟩

theorem lastW_step {l : List Sn} {j : Nat} {y : Sn} (hy : l[j]? = some y) (b : Int) (u : V8) : lastW (l.take (j + 1)) b u = if y.k = 2 ∧ y.b = b ∧ y.v = u then y.n else lastW (l.take j) b u := by
  rw [List.take_add_one, hy, Option.toList_some, lastW_snoc]

def nmArr (n : Nm) : Array Value := #[.int .i64 n.s, .int .i64 n.i, .int .i64 n.t]
theorem info34s : (Try.prog.info? 34).map (·.size) = some 3 := by kernel_rfl
theorem st_nm {w : World} {B : Nat} {m : Nm} (n : Nm) {t : TypeId} (h : w.heap[B]? = some (.cells (nmArr m) t (0, 0))) : (storeVar 34 ⟨B, 0, none⟩ (.agg (nmArr n))).run Try.prog w = .ok () (w.setRow B (nmArr n)) :=
  run_storeVar_row w B t 34 (nmArr m) (nmArr n) h info34s rfl (by
    rw [Array.all_eq_true_iff_forall_mem]
    intro v hv
    simp [nmArr] at hv
    rcases hv with rfl | rfl | rfl <;> rfl)
theorem ld_nm {w : World} {B : Nat} {m : Nm} {t : TypeId} {fr : Nat × Nat} (h : w.heap[B]? = some (.cells (nmArr m) t fr)) : (loadVar 34 ⟨B, 0, none⟩).run Try.prog w = .ok (.agg (nmArr m)) w :=
  run_loadVar_row w B t 34 (nmArr m) fr _ h Try.underlying34 rfl info34s

set_option maxRecDepth 100000 in
set_option maxHeartbeats 4000000 in
theorem was77_any (l : List Sn) (v : Value) (i : Nat) (x : Sn) (w : World) (hl : l.length ≤ 100000) (hv : Sns w.heap.size w v l) (hx : l[i]? = some x) :
    Calls Try.prog 77 #[v, .int .i64 (i : Int)] w fun e w' => e = .returned (.agg (nmArr (lastW (l.take i) x.b x.v))) ∧ Below w.heap.size w w' := by
  obtain ⟨a, cap, rfl, hn, ha⟩ := hv
  have hil := (List.getElem?_eq_some_iff.1 hx).1
  obtain ⟨b, off, rfl, hb, hr⟩ := rows_some hn ha hil
  obtain ⟨w1, hw1⟩ : ∃ w1, w.alloc (.cells (nmArr nz) 34) = w1 := ⟨_, rfl⟩
  have hw1' : w.alloc (.cells #[.int .i64 0, .int .i64 0, .int .i64 0] 34) = w1 := hw1
  have hb1 : Below w.heap.size w w1 := hw1 ▸ below_alloc1 _
  have hz1 : w1.heap[w.heap.size]? = some (.cells (nmArr nz) 34 (0, 0)) := hw1 ▸ heap_alloc_new w _
  have HR := Lib.hid (hr.below hb hb1)
  have HW1 := Lib.hid hw1'
  have HB1 := Lib.hid hb1
  have HZ1 := Lib.hid hz1
  have HX := Lib.hid hx
  clear hw1 hw1' hb1 hz1 hr hx hn ha
  go_enter Try.func77, Try.ntmps77
  go_upto_region 1 with (fail)
  rw [HW1.out]
  go_wp2_with fail
  go_loopw [5] (fun io wr => ∃ q : Nat, q ≤ i ∧ io = .int .i64 ((q : Int) - 1) ∧ lastW (l.take i) x.b x.v = lastW (l.take q) x.b x.v ∧ (∃ m, wr = w1.drewN m)) (fun io _ => (intOf io + 1).toNat)
  case atStart => exact ⟨i, Nat.le_refl _, by go_num, rfl, 0, rfl⟩
  case round =>
    obtain ⟨q, hq, rfl, hF, m, rfl⟩ := hrel
    have HF := Lib.hid hF
    clear hF
    cases q with
    | zero =>
      have HE : Hid (lastW (l.take i) x.b x.v = nz) := Lib.hid (by rw [HF.out]; rfl)
      have HZ2 : Hid ((w1.drewN m).heap[w.heap.size]? = some (.cells (nmArr nz) 34 (0, 0))) := HZ1
      have HB2 : Hid (Below w.heap.size w (w1.drewN m)) := Lib.hid (Below.drewN' HB1.out m)
      generalize w1.drewN m = w2 at *
      go_wp2_with (refine wpList_store rfl 34 (.tmp 4) (.tmp 49) rfl ⟨w.heap.size, 0, none⟩ rfl (.agg (nmArr nz)) rfl (st_nm nz HZ2.out) ?_)
      refine bodyPost_ret (v := .agg (nmArr nz)) (results_c Try.results77 rfl (ld_nm (setRow_heap _ _ _ _ _ _ HZ2.out))) rfl ⟨by rw [HE.out], ?_⟩
      exact HB2.out.grown (grownBy_setRow _ _ _) HB2.out.size (fun k e => by cases e; omega)
    | succ j =>
      have hjl : j < l.length := by omega
      obtain ⟨y, hy⟩ : ∃ y, l[j]? = some y := ⟨_, List.getElem?_eq_getElem hjl⟩
      have hst := lastW_step hy x.b x.v
      obtain ⟨c0, c1, c2, c3, c4, c5, c6, c7, c8, c9, c10, c11, c12, c13⟩ := HR.out.sn hy
      obtain ⟨d0, d1, d2, d3, d4, d5, d6, d7, d8, d9, d10, d11, d12, d13⟩ := HR.out.sn HX.out
      have hsub : ((j + 1 : Nat) : Int) - 1 = (j : Int) := by omega
      have hev := fun w => eql_v8 y.v x.v w
      rw [hsub]
      have HS := Lib.hid hst
      clear hst hy hsub
      by_cases h0 : y.k = 2
      · have e_0 : (y.k == 2) = true := by simp [h0]
        by_cases h1 : y.b = x.b
        · have e_1 : (y.b == x.b) = true := by simp [h1]
          by_cases h2 : y.v = x.v
          · have e_2 : decide (y.v = x.v) = true := by simp [h2]
            have HE : Hid (lastW (l.take i) x.b x.v = y.n) := Lib.hid (by rw [HF.out, HS.out, if_pos ⟨h0, h1, h2⟩])
            clear h0 h1 h2
            go_wp2_with fail
            go_quiet (fail)
            have HZ2 : Hid ((w1.drewN (m + nq)).heap[w.heap.size]? = some (.cells (nmArr nz) 34 (0, 0))) := HZ1
            go_wp2_with (refine wpList_store rfl 34 (.tmp 4) (.tmp 48) rfl ⟨w.heap.size, 0, none⟩ rfl (.agg (nmArr y.n)) rfl (st_nm y.n HZ2.out) ?_)
            refine bodyPost_ret (v := .agg (nmArr y.n)) (results_c Try.results77 rfl (ld_nm (setRow_heap _ _ _ _ _ _ HZ2.out))) rfl ⟨by rw [HE.out], ?_⟩
            exact (Below.drewN' HB1.out _).grown (grownBy_setRow _ _ _) HB1.out.size (fun k e => by cases e; omega)
          · have e_2 : decide (y.v = x.v) = false := by simp [h2]
            have HE : Hid (lastW (l.take i) x.b x.v = lastW (l.take j) x.b x.v) := Lib.hid (by rw [HF.out, HS.out, if_neg (fun h => h2 h.2.2)])
            clear h0 h1 h2
            go_wp2_with fail
            go_quiet (fail)
            go_wp2_with fail
            go_roundw
            case rel => exact ⟨j, by omega, by go_num, HE.out, _, rfl⟩
            case measure => simp [intOf]
        · have e_1 : (y.b == x.b) = false := by simp [h1]
          have HE : Hid (lastW (l.take i) x.b x.v = lastW (l.take j) x.b x.v) := Lib.hid (by rw [HF.out, HS.out, if_neg (fun h => h1 h.2.1)])
          clear h0 h1
          go_wp2_with fail
          go_quiet (fail)
          go_wp2_with fail
          go_roundw
          case rel => exact ⟨j, by omega, by go_num, HE.out, _, rfl⟩
          case measure => simp [intOf]
      · have e_0 : (y.k == 2) = false := by simp [h0]
        have HE : Hid (lastW (l.take i) x.b x.v = lastW (l.take j) x.b x.v) := Lib.hid (by rw [HF.out, HS.out, if_neg (fun h => h0 h.1)])
        clear h0
        go_wp2_with fail
        go_quiet (fail)
        go_wp2_with fail
        go_roundw
        case rel => exact ⟨j, by omega, by go_num, HE.out, _, rfl⟩
        case measure => simp [intOf]

end Go.Proofs.Ytgdmgeihgkbjaaa
