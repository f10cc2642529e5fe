/- 'order.Order' -/
import Derived.Test.YtgdmgeihgkbjaaaSort
import Derived.Test.YtgdmgeihgkbjaaaRangeM
import Derived.Test.YtgdmgeihgkbjaaaOrd
namespace Go.Proofs.Ytgdmgeihgkbjaaa
open Go.RowKit Go.Shelf

/-- What Order hands back. -/
def OrderR (base : Nat) (l : List Sn) (e : Ending) (W : World) : Prop :=
  (mayP l = false ∧ e = .returned (.tuple #[.slice none 0 0, .int .i64 2])) ∨ (mayP l = true ∧ ∃ v, e = .returned (.tuple #[v, .int .i64 0]) ∧ W.ownsRow base 34 3 v (ordR l).length ((ordR l).flatMap Nm.cells))

def doneL (m : LM) : List Nm := (m.filter fun p => decide (0 < p.2.2.d)).map (·.1)

theorem info34 : (Try.prog.info? 34).map (fun i => (i.zero, i.size, i.bytes)) = some (some (.agg #[.int .i64 0, .int .i64 0, .int .i64 0]), 3, 24) := by kernel_rfl

theorem look_of_mem {m : LM} (hk : m.Pairwise fun p q => p.1 ≠ q.1) {p : Nm × (Nat × Lf)} (h : p ∈ m) : look m p.1 = some p.2 := by
  induction m with
  | nil => cases h
  | cons q m ih =>
    obtain ⟨h1, h2⟩ := List.pairwise_cons.1 hk
    unfold look at ih ⊢
    rcases List.mem_cons.1 h with rfl | h
    · simp
    · have : ¬ q.1 = p.1 := h1 p h
      simpa [this] using ih h2 h

theorem lv_look {l : List Sn} {m : LM} (hinv : LvInv l (projL m)) {n : Nm} {bf : Nat × Lf} (h : look m n = some bf) : isC 0 n l = true ∧ bf.2 = ⟨firstAt 0 n l 0 + 1, firstAt 3 n l 0 + 1, firstAt 4 n l 0 + 1, firstAt 5 n l 0 + 1⟩ := by
  have h1 := hinv.1 n
  rw [look_proj, h] at h1
  split at h1
  · rename_i hc
    refine ⟨hc, ?_⟩
    simpa using h1
  · cases h1

theorem lv_some {l : List Sn} {m : LM} (hinv : LvInv l (projL m)) {n : Nm} {k : Int} (h : isC k n l = true) : ∃ b, look m n = some (b, ⟨firstAt 0 n l 0 + 1, firstAt 3 n l 0 + 1, firstAt 4 n l 0 + 1, firstAt 5 n l 0 + 1⟩) := by
  have h0 : isC 0 n l = true := by
    cases e : isC 0 n l with
    | true => rfl
    | false => rw [hinv.2 n e k] at h; cases h
  have h1 := hinv.1 n
  rw [look_proj, if_pos h0] at h1
  obtain ⟨⟨b, f⟩, h2, h3⟩ := Option.map_eq_some_iff.1 h1
  exact ⟨b, by rw [h2]; congr 2⟩

theorem done_mem {l : List Sn} {m : LM} (hinv : LvInv l (projL m)) (hk : m.Pairwise fun p q => p.1 ≠ q.1) {n : Nm} : n ∈ doneL m ↔ isC 5 n l = true := by
  unfold doneL
  simp only [List.mem_map, List.mem_filter, decide_eq_true_eq]
  constructor
  · rintro ⟨p, ⟨hp, hd⟩, rfl⟩
    have := (lv_look hinv (look_of_mem hk hp)).2
    rw [this] at hd
    exact fa_pos.1 hd
  · intro h
    obtain ⟨b, hb⟩ := lv_some hinv h
    exact ⟨(n, _), ⟨look_mem hb, fa_pos.2 h⟩, rfl⟩

theorem done_nodup {m : LM} (hk : m.Pairwise fun p q => p.1 ≠ q.1) : (doneL m).Nodup := by
  unfold doneL
  show List.Pairwise _ _
  rw [List.pairwise_map]
  exact hk.filter _

theorem done_perm {l : List Sn} {m : LM} (hmay : mayP l = true) (hinv : LvInv l (projL m)) (hk : m.Pairwise fun p q => p.1 ≠ q.1) : (doneL m).Perm (ordR l) :=
  perm_of_mem (done_nodup hk) (ordR_nodup hmay) (fun _ => (done_mem hinv hk).trans (mem_ordR hmay).symm)

theorem ordR_le (l : List Sn) : (ordR l).length ≤ l.length := by
  unfold ordR
  rw [List.length_map]
  exact List.length_filter_le _ _

theorem order_unique {l : List Sn} {m : LM} (hmay : mayP l = true) (hinv : LvInv l (projL m)) (hk : m.Pairwise fun p q => p.1 ≠ q.1) {acc out : List Nm} (ha : acc.Perm (doneL m)) (ho : out.Perm acc) (hs : out.Pairwise fun a b => comOf m a ≤ comOf m b) : out = ordR l := by
  have hp := ho.trans ha
  refine ord_unique hmay (hp.symm.nodup (done_nodup hk)) (fun n => (hp.mem_iff).trans (done_mem hinv hk)) ?_
  refine hs.imp_of_mem fun {a b} h1 h2 hab => ?_
  have e : ∀ n, n ∈ out → comOf m n = firstAt 3 n l 0 + 1 := fun n hn => by
    obtain ⟨bb, hb⟩ := lv_some hinv ((done_mem hinv hk).1 (hp.mem_iff.1 hn))
    simp [comOf, hb]
  have := e a h1
  have := e b h2
  omega

theorem owns_base {W : World} {b b' : Nat} {e : TypeId} {size n : Nat} {v : Value} {xs : List Value} (h : W.ownsRow b e size v n xs) (hb : b' ≤ b) : W.ownsRow b' e size v n xs := by
  obtain ⟨h1, h2⟩ := h
  refine ⟨h1, ?_⟩
  rcases h2 with h2 | ⟨g, cap, cur, e1, e2, e3⟩
  · exact .inl h2
  · exact .inr ⟨g, cap, cur, e1, by omega, e3⟩

theorem doneL_erase {rest : LM} {i : Nat} {p : Nm × (Nat × Lf)} (hp : rest[i]? = some p) : (doneL rest).Perm ((if 0 < p.2.2.d then [p.1] else []) ++ doneL (rest.eraseIdx i)) := by
  have h := ((eraseIdx_perm hp).filter fun p => decide (0 < p.2.2.d)).map (·.1)
  unfold doneL
  refine h.trans ?_
  by_cases hd : 0 < p.2.2.d
  · simp [hd]
  · simp [hd]

theorem cells_new3 (w : World) (o : Obj) (nm : Nm) : ∀ j u, nm.cells[j]? = some u → ((w.alloc o).alloc (.cells #[.int .i64 nm.s, .int .i64 nm.i, .int .i64 nm.t] 34)).cell? ((⟨w.heap.size + 1, 0, none⟩ : Addr).add j) = some u := by
  have h := cells_new (w.alloc o) nm.cells 34
  have e : (w.alloc o).heap.size = w.heap.size + 1 := by simp
  rw [e] at h
  exact h

set_option maxRecDepth 100000 in
set_option maxHeartbeats 2000000 in
theorem order_any (l : List Sn) (v : Value) (w : World) (hl : l.length ≤ 100000) (hv : Sns w.heap.size w v l) :
    Calls Try.prog 21 #[v] w fun e w' => OrderR w.heap.size l e w' ∧ Below w.heap.size w w' := by
  obtain ⟨i0, hi, hz0, hz1, hz2⟩ := info_parts info34
  have HV := Lib.hid hv
  clear hv
  go_enter Try.func21, Try.ntmps21
  go_wp2_with fail
  refine (lives_any l v w hl HV.out).mono ?_
  rintro e w1 ⟨hR, hB⟩
  rcases hR with ⟨hno, rfl⟩ | ⟨M, m, hl1, rfl, hL⟩
  · have hm : mayP l = false := by
      cases h : mayP l with
      | false => rfl
      | true => obtain ⟨m, h1, _⟩ := lives_may h; rw [hno] at h1; cases h1
    have HM := Lib.hid hm
    have HB := Lib.hid hB
    clear hm hB hno
    go_wp2_with fail
    go_ret2
    exact ⟨.inl ⟨HM.out, rfl⟩, HB.out.alloc HB.out.size _⟩
  · obtain ⟨hmay, hinv⟩ := may_of_lives hl1
    have hB2 : Below w1.heap.size w1 (w1.alloc (.cells #[.map (some M)] 81)) := below_alloc1 _
    have hc2 : (w1.alloc (.cells #[.map (some M)] 81)).heap[w1.heap.size]? = some (.cells #[.map (some M)] 81 (0, 0)) := heap_alloc_new _ _
    have hL2 : LivesAt w.heap.size M (w1.alloc (.cells #[.map (some M)] 81)) m := hL.kept (fun k _ hk => hB2.block k hk)
    have hs2 : (w1.alloc (.cells #[.map (some M)] 81)).heap.size = w1.heap.size + 1 := by simp
    have HMAY := Lib.hid hmay
    have HINV := Lib.hid hinv
    have HL2 := Lib.hid hL2
    have HC2 := Lib.hid hc2
    have HBB := Lib.hid (hB.trans (hB2.mono hB.size))
    have HSZ := Lib.hid hB.size
    have HS2 := Lib.hid hs2
    have HLL := Lib.hid hl1
    clear hmay hinv hL2 hc2 hB hB2 hL hl1 hs2
    go_wp2_with (first | (at_range; refine wpList_range_m rfl (.tmp 16) 81 rfl Try.underlying81 HL2.out.map rfl ?_; intro w3 hrg hg3 hs3))
    go_frame
    generalize w1.alloc (.cells #[.map (some M)] 81) = w2 at *
    have hperm := done_perm HMAY.out HINV.out HL2.out.keys
    have hbnd : (doneL m).length ≤ 100000 := by have := hperm.length_eq; have := ordR_le l; omega
    have hB3 : Below w2.heap.size w2 w3 := (Below.refl _ _).grown hg3 (Nat.le_refl _) (fun k e => by cases e)
    have HPERM := Lib.hid hperm
    have HBND := Lib.hid hbnd
    have HB3 := Lib.hid hB3
    have HRG := Lib.hid hrg
    have HS3 := Lib.hid hs3
    clear hperm hbnd hB3 hrg hg3 hs3
    go_loopg [6] m.length (fun kx vo wr => ∃ (rest : LM) (acc : List Nm), rest.length ≤ kx ∧ RangesM nmV lfPtr wr M w2.heap.size m rest ∧ wr.ownsRow (w2.heap.size + 1) 34 3 vo acc.length (acc.flatMap Nm.cells) ∧ Below w2.heap.size w2 wr ∧
      Hid ((acc ++ doneL rest).Perm (doneL m)) ∧ Hid (∀ p ∈ rest, p ∈ m) ∧ w2.heap.size < wr.heap.size)
    case atStart => exact ⟨m, [], Nat.le_refl _, HRG.out, World.ownsRow_nil _ _ _ _, HB3.out, (List.Perm.refl _ : (doneL m).Perm _), (fun _ h => h : ∀ p ∈ m, p ∈ m), by rw [HS3.out]; omega⟩
    case round =>
      obtain ⟨rest, acc, hkx, hrg, hown, hB, HP, HI, hsz⟩ := hrel
      have HRG := Lib.hid hrg
      have HOWN := Lib.hid hown
      have HB := Lib.hid hB
      clear hrg hown hB
      have hne1 : w1.heap.size < w2.heap.size := by have := HS2.out; omega
      have HNE1 := Lib.hid hne1
      clear hne1
      go_wp2_with (first | (at_next; refine wpList_next_m rfl (.tmp 17) rfl HRG.out rfl ?_ ?_))
      · intro h0
        subst h0
        have hp : acc.Perm (doneL m) := by have := HP.out; simpa [doneL] using this
        have HPP := Lib.hid hp
        have hc4 : wr.heap[w1.heap.size]? = some (.cells #[.map (some M)] 81 (0, 0)) := (HB.out.block _ HNE1.out).trans HC2.out
        have hLM : M < w2.heap.size := HL2.out.map.lt
        have hL4 : LivesAt w.heap.size M wr m := HL2.out.kept (fun k _ hk => HB.out.block k hk)
        have hall : ∀ n ∈ acc, (look m n).isSome = true := fun n hn => by
          obtain ⟨b, hb⟩ := lv_some HINV.out ((done_mem HINV.out HL2.out.keys).1 (hp.mem_iff.1 hn))
          rw [hb]; rfl
        have hlen : acc.length < 100000000 := by have := hp.length_eq; have := HBND.out; omega
        have HC := sort_any m M w1.heap.size (w2.heap.size + 1) w.heap.size acc u6 wr hL4 hc4 HOWN.out hall hlen
        have HCC := Lib.hid HC
        clear HC hc4 hL4 hall hlen hp hLM HRG HP
        go_wp2_with (refine HCC.out.mono ?_; rintro e w5 ⟨rfl, out, ho, hs, hown5, hg5⟩)
        have heq : out = ordR l := order_unique HMAY.out HINV.out HL2.out.keys HPP.out ho hs
        subst heq
        have HO5 : Hid (w5.ownsRow w.heap.size 34 3 u6 (ordR l).length ((ordR l).flatMap Nm.cells)) := owns_base hown5 (by have := HSZ.out; have := HS2.out; omega)
        have HB5 : Hid (Below w.heap.size w w5) := (HBB.out.trans (HB.out.mono HBB.out.size)).grown hg5 (by have := HBB.out.size; omega) (fun k e => by have := (HOWN.out.lt k e).1; have := HBB.out.size; omega)
        clear hown5 hg5 ho hs
        go_wp2_with fail
        go_ret2
        exact ⟨.inr ⟨HMAY.out, u6, rfl, HO5.out⟩, HB5.out⟩
      · intro i nm bb f w4 hp hrg4 hg4 hs4 hen
        have hen' : (Instr.entry (.pointer (some ⟨w2.heap.size, 0, none⟩))).run Try.prog w4 = .ok (.tuple #[.agg #[.int .i64 nm.s, .int .i64 nm.i, .int .i64 nm.t], .pointer (some ⟨bb, 0, none⟩)]) w4 := hen
        have hmem := HI.out _ (List.mem_of_getElem? hp)
        have hB4 : Below w2.heap.size w2 w4 := HB.out.grown hg4 (by omega) (fun k e => by cases e; exact Nat.le_refl _)
        have hcb : w4.heap[bb]? = some (.cells f.arr 86 (0, 0)) := (hB4.block _ (lt_of_heap (HL2.out.at_ _ hmem).2)).trans (HL2.out.at_ _ hmem).2
        have hcd : w4.cell? ⟨bb, 3, none⟩ = some (.int .i64 f.d) := by rw [cell_of_row w4 _ _ _ 86 (0, 0) hcb]; rfl
        have hbb4 : bb < w4.heap.size := lt_of_heap hcb
        have hown4 : w4.ownsRow (w2.heap.size + 1) 34 3 u6 acc.length (acc.flatMap Nm.cells) := by
          refine HOWN.out.kept hg4 ?_
          cases e : u6.ownBlock with
          | none => exact .inl rfl
          | some k => refine .inr (fun e2 => ?_); cases e2; have := (HOWN.out.lt _ e).1; omega
        have hrl : (rest.eraseIdx i).length + 1 = rest.length := by
          have := (eraseIdx_perm hp).length_eq
          simpa using this.symm
        have hpe := doneL_erase hp
        have hI' : ∀ p ∈ rest.eraseIdx i, p ∈ m := fun p h => HI.out p ((List.eraseIdx_sublist _ _).mem h)
        have HI' := Lib.hid hI'
        have HPE := Lib.hid hpe
        have HP0 := Lib.hid hp
        have HRG4 := Lib.hid hrg4
        have HB4 := Lib.hid hB4
        have HOWN4 := Lib.hid hown4
        have HRL := Lib.hid hrl
        have HS4 := Lib.hid hs4
        clear hen hmem hB4 hcb hown4 hrl hpe hp hrg4 hg4 hs4 HRG HOWN HI hI'
        rw [show nmV nm = .agg #[.int .i64 nm.s, .int .i64 nm.i, .int .i64 nm.t] from rfl, show lfPtr (bb, f) = .pointer (some ⟨bb, 0, none⟩) from rfl]
        by_cases hd : 0 < f.d
        · have e1 : decide (f.d > 0) = true := by simpa using hd
          have hnl : acc.length + 1 ≤ 100001 := by
            have h1 := HP.out.length_eq
            have := HBND.out
            simp at h1; omega
          go_wp2_with (at_builtin; refine wpList_append_own _ rfl _ _ 45 rfl (w2.heap.size + 1) 34 i0 (.agg #[.int .i64 0, .int .i64 0, .int .i64 0]) 3 24 Try.underlying45 hi hz0 hz1 hz2 rfl (by decide) _ _ _ rfl ((HOWN4.out.alloc _).alloc _) ⟨w4.heap.size + 1, 0, none⟩ 1 1 nm.cells rfl rfl (cells_new3 _ _ _) (Nm.cells_one nm) (by unfold maxLen; omega) (by omega) (by have := HS4.out; simp; omega) ?_; intro v5 w5 hown5 hg5 _)
          have hs5 := hg5.size
          have H5 := Lib.hid hown5
          have HG5 := Lib.hid hg5
          clear hown5 hg5
          go_roundg (gk - 1)
          case measure => have := HRL.out; omega
          case rel =>
            have hrow : ∀ k, u6.ownBlock = some k → w2.heap.size + 1 ≤ k := fun k e => (HOWN4.out.lt k e).1
            have hML := HRG4.out.map.lt
            have hMr : M < w2.heap.size := HL2.out.map.lt
            refine ⟨rest.eraseIdx i, acc ++ [nm], by have := HRL.out; omega, HRG4.out.kept ?_ ?_, ?_, ?_, ?_, HI', ?_⟩
            · exact (HG5.out.block _ (by simp; omega) (fun e => by have := hrow _ e.symm; omega)).trans ((heap_alloc_old _ _ (by simp; omega)).trans (heap_alloc_old _ _ hML))
            · exact (HG5.out.block _ (by have := HRG4.out.lt; simp; omega) (fun e => by have := hrow _ e.symm; omega)).trans ((heap_alloc_old _ _ (by have := HRG4.out.lt; simp; omega)).trans (heap_alloc_old _ _ HRG4.out.lt))
            · have := H5.out
              simpa using this
            · refine ((HB4.out.alloc HB4.out.size _).alloc (by have := HB4.out.size; simp; omega) _).grown HG5.out (by have := HB4.out.size; simp; omega) (fun k e => by have := hrow _ e; omega)
            · show _
              have h1 := HPE.out
              rw [if_pos hd] at h1
              have h2 := (List.Perm.append_left acc h1).symm.trans HP.out
              have h3 : ((acc ++ [nm]) ++ doneL (rest.eraseIdx i)).Perm (doneL m) := by simpa using h2
              exact h3
            · have := HS4.out
              simp at hs5; omega
        · have e1 : decide (f.d > 0) = false := by simpa using hd
          have hd' : f.d ≤ 0 := by omega
          have HD := Lib.hid hd
          clear hd
          go_wp2_with fail
          go_roundg (gk - 1)
          case measure => have := HRL.out; omega
          case rel =>
            refine ⟨rest.eraseIdx i, acc, by have := HRL.out; omega, HRG4.out.kept (heap_alloc_old _ _ HRG4.out.map.lt) (heap_alloc_old _ _ HRG4.out.lt), HOWN4.out.alloc _, HB4.out.alloc HB4.out.size _, ?_, HI', by have := HS4.out; simp; omega⟩
            show _
            have h1 := HPE.out
            rw [if_neg (show ¬ 0 < f.d by have := HD.out; omega), List.nil_append] at h1
            exact (List.Perm.append_left acc h1).symm.trans HP.out

end Go.Proofs.Ytgdmgeihgkbjaaa
