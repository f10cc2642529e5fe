/- 'model.marks': the blocks that are set -/
import Derived.Test.YtgdmgeihgkbjaaaAll
namespace Go.Proofs.Ytgdmgeihgkbjaaa
open Go.RowKit Go.Shelf

def bArr (m : List Bool) : Array Value := (m.map boolV).toArray
def mkL (l : List Int) : List Bool := (List.range 32).map fun k : Nat => decide ((k : Int) ∈ l)
theorem mkL_length (l : List Int) : (mkL l).length = 32 := by simp [mkL]

theorem ld_b {W : World} {B i : Nat} {m : List Bool} {b : Bool} {t : TypeId} {fr : Nat × Nat} (hB : W.heap[B]? = some (.cells (bArr m) t fr)) (hi : m[i]? = some b) : W.cell? ⟨B, i, none⟩ = some (.bool b) := by
  rw [cell_of_row W B _ _ t fr hB]
  simp [bArr, hi, boolV]

theorem bArr_one (m : List Bool) : (bArr m).all (·.oneCell') = true := by
  simp [bArr, boolV, Value.oneCell']

theorem bArr_size (m : List Bool) : (bArr m).size = m.length := by simp [bArr]

theorem st_b {W : World} {B i : Nat} {m : List Bool} (v : Bool) {t : TypeId} (hB : W.heap[B]? = some (.cells (bArr m) t (0, 0))) (hi : i < m.length) :
    (storeVar 4 ⟨B, i, none⟩ (.bool v)).run Try.prog W = .ok () (W.setRow B (bArr (m.set i v))) := by
  have h := run_storeCells_row (P := Try.prog) W B i (m.map boolV) t [.bool v] hB (by simp; omega) (by intro c hc; simp at hc; subst hc; rfl)
  have e : splice (m.map boolV) i [.bool v] = (m.set i v).map boolV := by
    unfold splice
    apply List.ext_getElem?
    intro j
    simp only [List.getElem?_map, List.length_singleton]
    rw [List.append_assoc]
    by_cases hj : j < i
    · rw [List.getElem?_append_left (by simp; omega), List.getElem?_take, if_pos hj, List.getElem?_set_ne (by omega)]
      simp
    · rw [List.getElem?_append_right (by simp; omega)]
      have hl : ((m.map boolV).take i).length = i := by simp; omega
      rw [hl]
      by_cases hji : j = i
      · subst hji
        simp [hi, boolV]
      · have : j - i = (j - i - 1) + 1 := by omega
        rw [this, List.singleton_append, List.getElem?_cons_succ, List.getElem?_drop, List.getElem?_set_ne (by omega)]
        have : i + 1 + (j - i - 1) = j := by omega
        rw [this]
        simp
  rw [e] at h
  have hs : ((Value.bool v).cells.size ≠ 1) = False := by simp [Value.cells]
  have h1 : (sizeOf 4).run Try.prog W = .ok 1 W := by simp [go_sem]
  simp only [storeVar, Sem.run_bind, h1, Result.andThen_ok, hs, if_false]
  exact h

theorem info77 : (Try.prog.info? 77).map (·.size) = some 32 := by kernel_rfl

theorem ld_ball {W : World} {B : Nat} {m : List Bool} {t : TypeId} {fr : Nat × Nat} (hB : W.heap[B]? = some (.cells (bArr m) t fr)) (hs : m.length = 32) : (loadVar 77 ⟨B, 0, none⟩).run Try.prog W = .ok (.agg (bArr m)) W :=
  run_loadVar_row W B t 77 (bArr m) fr _ hB Try.underlying77 rfl (by rw [bArr_size, hs]; exact info77)

theorem st_ball {W : World} {B : Nat} {m : List Bool} (m' : List Bool) {t : TypeId} (hB : W.heap[B]? = some (.cells (bArr m) t (0, 0))) (hs : m.length = 32) (hs' : m'.length = 32) :
    (storeVar 77 ⟨B, 0, none⟩ (.agg (bArr m'))).run Try.prog W = .ok () (W.setRow B (bArr m')) :=
  run_storeVar_row W B t 77 (bArr m) (bArr m') hB (by rw [bArr_size, hs']; exact info77) (by rw [bArr_size, bArr_size, hs, hs']) (bArr_one m')

theorem b_eq_iff {s t : List Bool} (hs : s.length = 32) (ht : t.length = 32) : decide (s = t) = (List.range 32).all (fun i => (s[i]?.getD false == t[i]?.getD false)) := by
  rw [Bool.eq_iff_iff]
  simp only [decide_eq_true_eq, List.all_eq_true, List.mem_range, beq_iff_eq]
  constructor
  · rintro rfl i _; rfl
  · intro h
    apply List.ext_getElem?
    intro i
    by_cases hi : i < 32
    · have := h i hi
      rw [List.getElem?_eq_getElem (by omega), List.getElem?_eq_getElem (by omega)] at this ⊢
      simpa using this
    · rw [List.getElem?_eq_none (by omega), List.getElem?_eq_none (by omega)]

theorem eqIn_b {s t : List Bool} (hs : s.length = 32) (ht : t.length = 32) (d : Nat) (w : World) : (Op.equalIn (d + 2) 77 (.agg (bArr s)) (.agg (bArr t))).run Try.prog w = .ok (decide (s = t)) w := by
  rw [b_eq_iff hs ht]
  refine run_equalIn_array (P := Try.prog) w (d + 1) 77 4 32 1 (bArr s) (bArr t) _ Try.underlying77 (by simp [go_sem]) (fun i hi => ?_)
  have h1 : s[i]? = some s[i] := List.getElem?_eq_getElem (by omega)
  have h2 : t[i]? = some t[i] := List.getElem?_eq_getElem (by omega)
  refine ⟨.bool s[i], .bool t[i], ?_, ?_, ?_⟩
  · simp [part, isAgg, go_sem, bArr, h1, boolV]
  · simp [part, isAgg, go_sem, bArr, h2, boolV]
  · simp [go_sem, h1, h2]

theorem neq_b {s t : List Bool} (hs : s.length = 32) (ht : t.length = 32) (w : World) : (binOp .neq 77 (.agg (bArr s)) (.agg (bArr t))).run Try.prog w = .ok (.bool (!decide (s = t))) w := by
  rw [run_neq_struct, eqIn_b hs ht 9998 w]; rfl

theorem results_c {P : Program} {fn : Func} {p : Tmp} {ty : TypeId} (h : fn.results = #[.cell p ty]) {tmps : Array Value} {w : World} {a : Addr} {u : Value} (hp : tmps.getD p undef = .pointer (some a)) (ha : (loadVar ty a).run P w = .ok u w) :
    (results fn tmps).run P w = .ok u w := by
  rw [Array.getD_eq_getD_getElem?] at hp
  simp [results, h, hp, asAddr, ha]

def noB : List Bool := List.replicate 32 false
def marksF (m : List Bool) (l : List Int) : List Bool := l.foldl (fun m k => m.set k.toNat true) m

theorem marksF_eq (l : List Int) (h : ∀ k ∈ l, 0 ≤ k ∧ k < 32) : marksF noB l = mkL l := by
  have gen : ∀ (l : List Int) (m : List Bool) (i : Nat), m.length = 32 → (∀ k ∈ l, 0 ≤ k ∧ k < 32) → (marksF m l)[i]? = if i < 32 then some ((m[i]?.getD false) || decide ((i : Int) ∈ l)) else none := by
    intro l
    induction l with
    | nil =>
      intro m i hm _
      simp only [marksF, List.foldl_nil, List.not_mem_nil, decide_false, Bool.or_false]
      by_cases hi : i < 32
      · rw [if_pos hi, List.getElem?_eq_getElem (by omega)]; rfl
      · rw [if_neg hi, List.getElem?_eq_none (by omega)]
    | cons k l ih =>
      intro m i hm hl
      have := ih (m.set k.toNat true) i (by simpa using hm) (fun x hx => hl x (by simp [hx]))
      rw [marksF, List.foldl_cons]
      rw [marksF] at this
      rw [this]
      by_cases hi : i < 32
      · rw [if_pos hi, if_pos hi]
        congr 1
        have hk := hl k (by simp)
        by_cases hki : k.toNat = i
        · have : (i : Int) = k := by omega
          subst hki
          rw [List.getElem?_set_self (by omega)]
          simp [this]
        · have : ¬ (i : Int) = k := by omega
          rw [List.getElem?_set_ne hki]
          simp [this]
      · rw [if_neg hi, if_neg hi]
  apply List.ext_getElem?
  intro i
  rw [gen l noB i (by simp [noB]) h]
  by_cases hi : i < 32
  · rw [if_pos hi]
    have : noB[i]? = some false := by unfold noB; rw [List.getElem?_replicate, if_pos hi]
    rw [this]
    simp [mkL, hi]
  · rw [if_neg hi, List.getElem?_eq_none (by rw [mkL_length]; omega)]

set_option maxRecDepth 100000 in
set_option maxHeartbeats 1000000 in
theorem marks_any (l : List Int) (v : Value) (base : Nat) (w : World) (hl : l.length ≤ 32) (hv : w.ownsRow base 3 1 v l.length (intsC l)) (hr : ∀ k ∈ l, 0 ≤ k ∧ k < 32) :
    Calls Try.prog 48 #[v] w fun e w' => e = .returned (.agg (bArr (mkL l))) ∧ Below w.heap.size w w' := by
  obtain ⟨a, c, rfl⟩ := ownsRow_slice hv
  have h0 := heap_alloc_new w (.cells (bArr noB) 77)
  have hb0 := below_alloc1 (w := w) (.cells (bArr noB) 77)
  go_enter Try.func48, Try.ntmps48
  have H0 := Lib.hid h0
  have HV := Lib.hid hv
  have HM := Lib.hid (marksF_eq l hr)
  have HR := Lib.hid hr
  clear h0 hv hr
  go_wp2_with fail
  go_loopw [7] (fun i wr => ∃ (q : Nat) (cur : List Bool), q ≤ l.length ∧ i = .int .i64 q ∧ cur.length = 32 ∧ marksF noB l = marksF cur (l.drop q) ∧ wr.heap[w.heap.size]? = some (.cells (bArr cur) 77 (0, 0)) ∧ Below w.heap.size w wr) (fun i _ => l.length - (intOf i).toNat)
  case atStart => exact ⟨0, noB, Nat.zero_le _, rfl, by simp [noB], rfl, H0.out, hb0⟩
  case round =>
    obtain ⟨q, cur, hq, rfl, hcl, hF, g0, hB⟩ := hrel
    have HF := Lib.hid hF
    have G0 := Lib.hid g0
    have HB := Lib.hid hB
    clear hF g0 hB hb0
    by_cases hlt : q < l.length
    · obtain ⟨y, hy⟩ : ∃ y, l[q]? = some y := ⟨_, List.getElem?_eq_getElem hlt⟩
      have hrow : wr.ownsRow base 3 1 (.slice a l.length c) l.length (intsC l) := HV.out.kept (grownBy_of_below (row := some w.heap.size) HB.out) (.inr (fun e => by have := (HV.out.lt _ e).2; omega))
      obtain ⟨g, rfl, hc⟩ := ints_at hrow hy
      obtain ⟨hy0, hy1⟩ := HR.out y (List.mem_of_getElem? hy)
      have hj : y.toNat < cur.length := by omega
      have HY := Lib.hid hy
      clear hrow hy
      go_wp2_with (refine wpList_store rfl 4 (.tmp 12) _ rfl ⟨w.heap.size, y.toNat, none⟩ rfl (.bool true) rfl (st_b true G0.out hj) ?_)
      go_roundw
      case rel =>
        have hg := grownBy_setRow wr w.heap.size (bArr (cur.set y.toNat true))
        exact ⟨q + 1, cur.set y.toNat true, by omega, by go_num, by simpa using hcl, by rw [HF.out, drop_cons HY.out]; rfl, setRow_heap wr _ _ _ 77 _ G0.out, HB.out.grown hg HB.out.size (fun k e => by cases e; omega)⟩
      case measure => simp [intOf]; omega
    · have hfin : cur = mkL l := by rw [← HM.out, HF.out, drop_end hlt]; rfl
      have HFI := Lib.hid hfin
      clear hfin
      go_wp2_with (first | (refine wpList_load rfl 77 (.tmp 2) rfl ⟨w.heap.size, 0, none⟩ rfl (.agg (bArr cur)) (ld_ball G0.out hcl) ?_) | (refine wpList_store rfl 77 (.tmp 2) (.tmp 14) rfl ⟨w.heap.size, 0, none⟩ rfl (.agg (bArr cur)) rfl (st_ball _ G0.out hcl hcl) ?_))
      have hg := grownBy_setRow wr w.heap.size (bArr cur)
      have hld := ld_ball (setRow_heap wr w.heap.size _ (bArr cur) 77 _ G0.out) hcl
      refine bodyPost_ret (v := .agg (bArr cur)) (results_c Try.results48 rfl hld) rfl ⟨by rw [HFI.out], HB.out.grown hg HB.out.size (fun k e => by cases e; omega)⟩

end Go.Proofs.Ytgdmgeihgkbjaaa
