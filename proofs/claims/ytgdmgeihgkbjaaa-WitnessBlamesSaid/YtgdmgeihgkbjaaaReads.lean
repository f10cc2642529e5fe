/- 'reads': the iterator over the reads that count -/
import Derived.Test.YtgdmgeihgkbjaaaEmit
namespace Go.Proofs.Ytgdmgeihgkbjaaa
open Go.RowKit Go.Shelf
attribute [local go_sem] run_makeMap_plain

set_option maxRecDepth 100000 in
set_option maxHeartbeats 6000000 in
theorem reads74_in (n Bb Bv n₀ n₁ : Nat) (bo : Option Nat) (lv : Value) (l : List Sn) (hl : l.length ≤ 100000) (hm : mayP l = true) (w : World) (hv : Sns n₀ w lv l) (hn : n₀ ≤ n₁) (hn1 : n₁ ≤ w.heap.size)
    (hbo : ∀ b, bo = some b → b < w.heap.size) (hrow : ∀ k, rowOf bo w k → n₀ ≤ k ∧ k < n₁) (hBb : n₁ ≤ Bb) (hb : w.heap[Bb]? = some (.cells #[.pointer (some ⟨Bv, 0, none⟩)] 98 (0, 0))) (hview : ViewAt n₁ w Bv lv (ordR l)) :
    SeqX (n + 9) 74 #[.pointer (some ⟨Bb, 0, none⟩)] (fun f => #[.agg (ftArr f)]) (KeepR n₀ n₁ bo) (readsP l) w := by
  intro lp I W hW hI0 hIt hY
  obtain ⟨va, vc, rfl, hvn, hva⟩ := hv
  obtain ⟨na, nc, Mp, hBv, hMp, hbv, hmp, hnn, hnr⟩ := hview
  -- where all lies at the start
  have hbW : W.heap[Bb]? = some (.cells #[.pointer (some ⟨Bv, 0, none⟩)] 98 (0, 0)) := (hW.block _ (lt_of_heap hb)).trans hb
  have hbvW : W.heap[Bv]? = some (.cells #[.slice va l.length vc, .slice na (ordR l).length nc, .map (some Mp)] 119 (0, 0)) := (hW.block _ (lt_of_heap hbv)).trans hbv
  have HVN := Lib.hid hvn
  have HVA : Hid (∀ b off s, va = some ⟨b, off, s⟩ → 0 < l.length → s = none ∧ b < n₀ ∧ RowsAt Sn.cells 14 W b off l) := fun b off s e h => ⟨(hva b off s e h).1, (hva b off s e h).2.1, (hva b off s e h).2.2.below (B := w.heap.size) (by have := (hva b off s e h).2.1; omega) hW⟩
  obtain ⟨w1, hw1⟩ : ∃ w1, W.alloc (.map #[] 0) = w1 := ⟨_, rfl⟩
  obtain ⟨base, hbase⟩ : ∃ base, base = W.heap.size + 1 := ⟨_, rfl⟩
  have hg1 : GroupI base w1 W.heap.size [] [] := hw1 ▸ GroupI.new W base (by omega)
  have hB1 : Below W.heap.size W w1 := hw1 ▸ below_alloc1 _
  have hs1 : W.heap.size + 1 ≤ w1.heap.size := by rw [← hw1]; simp
  have cb : w1.cell? ⟨Bb, 0, none⟩ = some (.pointer (some ⟨Bv, 0, none⟩)) := by rw [cell_of_row w1 _ _ _ 98 (0, 0) ((hB1.block _ (lt_of_heap hbW)).trans hbW)]; rfl
  have cv : w1.cell? ⟨Bv, 0, none⟩ = some (.slice va l.length vc) := by rw [cell_of_row w1 _ _ _ 119 (0, 0) ((hB1.block _ (lt_of_heap hbvW)).trans hbvW)]; rfl
  rw [← hw1] at cb cv
  have HW1 := Lib.hid hw1
  have HG1 := Lib.hid hg1
  have HB1 := Lib.hid hB1
  have HS1 := Lib.hid hs1
  have HI0 := Lib.hid hI0
  have HIT := Lib.hid hIt
  have HY := Lib.hid hY
  have HBW := Lib.hid hbW
  have HBV := Lib.hid hbvW
  have HM := Lib.hid hm
  have HWW := Lib.hid hW
  have HNV := Lib.hid (And.intro hMp (And.intro hmp (And.intro hnn hnr)))
  have HRW := Lib.hid hrow
  have HBO := Lib.hid hbo
  obtain ⟨Ms, hMs⟩ : ∃ Ms, Ms = W.heap.size := ⟨_, rfl⟩
  clear hw1 hg1 hB1 hs1 hI0 hIt hY hbW hbvW hm hva hvn hb hbv hmp hnn hnr hMp hW hrow hbo
  refine callsIn_of_wp Try.func74 rfl trivial ?_ rfl
  simp only [Try.ntmps74, List.size_toArray, List.length_cons, List.length_nil, Nat.reduceAdd, Nat.reduceSub, Array.replicate_succ, Array.replicate_zero, List.push_toArray, List.append_toArray, List.nil_append, List.cons_append]
  gi_wp2_with fail
  rw [HW1.out]
  clear cb cv
  rw [← hMs] at HG1 ⊢
  have HMS := Lib.hid hMs
  have HBA := Lib.hid hbase
  clear hMs hbase
  obtain ⟨i0, hi, hz0, hz1, hz2⟩ := info_parts info3z
  gi_loopw [21] (fun io wr => ∃ (q : Nat) (m : List (Nm × Value)), q ≤ l.length ∧ io = .int .i64 q ∧ GroupI base wr Ms m (l.take q) ∧ Below W.heap.size W wr ∧ W.heap.size + 1 ≤ wr.heap.size) (fun io _ => l.length - (intOf io).toNat)
  case atStart => exact ⟨0, [], Nat.zero_le _, rfl, HG1.out, HB1.out, HS1.out⟩
  case round =>
    obtain ⟨q, m, hq, rfl, hg, hB, hsz⟩ := hrel
    have HG := Lib.hid hg
    have HB := Lib.hid hB
    clear hg hB
    by_cases hlt : q < l.length
    · obtain ⟨x, hx⟩ : ∃ x, l[q]? = some x := ⟨_, List.getElem?_eq_getElem hlt⟩
      obtain ⟨b, off, rfl, hb, hr⟩ := rows_some HVN.out HVA.out hlt
      obtain ⟨c0, c1, c2, c3, c4, c5, c6, c7, c8, c9, c10, c11, c12, c13⟩ := (hr.below (B := W.heap.size) (by have := HWW.out.size; omega) HB.out).sn hx
      have hk0 : GroupI base ((wr.alloc (.cells (snArr x) 36)).alloc (.cells #[.int .i64 (q : Int)] 3)) Ms m (l.take q) := (HG.out.alloc _).alloc _
      have hB0 : Below W.heap.size W ((wr.alloc (.cells (snArr x) 36)).alloc (.cells #[.int .i64 (q : Int)] 3)) := (HB.out.alloc HB.out.size _).alloc (by have := HB.out.size; simp; omega) _
      have hcn : ∀ j u, [Value.int .i64 (q : Int)][j]? = some u → ((wr.alloc (.cells (snArr x) 36)).alloc (.cells #[.int .i64 (q : Int)] 3)).cell? ((⟨(wr.alloc (.cells (snArr x) 36)).heap.size, 0, none⟩ : Addr).add j) = some u := cell_one_new _ _ _
      have hsz0 : ((wr.alloc (.cells (snArr x) 36)).alloc (.cells #[.int .i64 (q : Int)] 3)).heap.size = wr.heap.size + 2 := by simp
      have hsz1 : (wr.alloc (.cells (snArr x) 36)).heap.size = wr.heap.size + 1 := by simp
      rw [hsz1] at hcn
      have hil := idxN_length x.n (l.take q) 0
      have hil2 : (l.take q).length = q := by rw [List.length_take]; omega
      have hil3 : (idxN x.n (l.take q) 0).length < 100001 := by omega
      obtain ⟨va0, vc0, hv0⟩ := ownsRow_slice (hk0.old x.n)
      have HX := Lib.hid hx
      have HLT := Lib.hid hlt
      have HK0 := Lib.hid hk0
      have HB0 := Lib.hid hB0
      have HCN := Lib.hid hcn
      have HV0 := Lib.hid hv0
      have HZ := Lib.hid (And.intro hsz0 (And.intro hil2 hil3))
      have HNE : Hid (wr.heap.size + 1 ≠ Ms) := (by have := HMS.out; omega : wr.heap.size + 1 ≠ Ms)
      clear hr hx hlt hk0 hB0 hcn hv0 hsz0 hsz1 hil hil2 hil3
      gi_wp2_with (first | (refine wpListIn_entry Try.underlying121 nmKey zero30 HK0.out.map rfl (.tmp 26) (.tmp 28) rfl rfl x.n rfl ?_; intro w2 st hg2 hs2 he2; have HG2 := Lib.hid hg2; have HS2 := Lib.hid hs2; have HE2 := Lib.hid he2; have HR2 := Lib.hid (HK0.out.row2 x.n hg2); clear hg2 hs2 he2; simp only [id_eq]; rw [HV0.out]; rw [HV0.out] at HR2) | (gi_at_builtin; refine wpListIn_append_own_at _ rfl _ _ 30 rfl base 3 i0 (.int .i64 0) 1 8 Try.underlying30 hi hz0 hz1 hz2 rfl (by decide) (.slice va0 (idxN x.n (l.take q) 0).length vc0) (idxN x.n (l.take q) 0).length ((idxN x.n (l.take q) 0).map natV) rfl HR2.out ⟨wr.heap.size + 1, 0, none⟩ 1 1 [.int .i64 (q : Int)] rfl rfl (news_far HG2.out HCN.out HNE.out) (by intro u hu; simp at hu; subst hu; rfl) (by have := HZ.out.2.2; unfold maxLen; omega) (by have := HZ.out.2.2; omega) (by have := HS2.out; have := HZ.out.1; have := HBA.out; omega) ?_; intro v4 w4 hown4 hgrow4 hnil4 hloc4; have HOWN4 := Lib.hid hown4; have HGROW4 := Lib.hid hgrow4; have HLOC4 := Lib.hid hloc4; obtain ⟨g4, cap4, hv4⟩ := ownsRow_succ hown4; have HV4 := Lib.hid hv4; clear hnil4 hloc4 hgrow4 hown4 hv4) | (refine wpListIn_estore (HK0.out.entry HE2.out (HV0.out ▸ HGROW4.out)) rfl (.tmp 26) (.tmp 34) (.tmp 33) rfl rfl rfl v4 rfl ?_; intro w5 hg5 hs5 hm5; have HG5 := Lib.hid hg5; have HS5 := Lib.hid hs5; have HM5 := Lib.hid hm5; clear hg5 hs5 hm5))
      go_roundw
      case rel =>
        have ht : l.take (q + 1) = l.take q ++ [x] := by rw [List.take_add_one, HX.out]; rfl
        have hlow : W.heap.size ≤ Ms := by have := HMS.out; omega
        have hown : w4.ownsRow base 3 1 v4 ((idxN x.n (l.take q) 0).length + 1) ((idxN x.n (l.take q) 0).map natV ++ [natV (l.take q).length]) := by
          rw [HZ.out.2.1]; exact HOWN4.out
        have hsz2 := HK0.out.old x.n
        have hB2 := HB0.out.grown HG2.out HB0.out.size (fun k e => by cases e; exact hlow)
        have hB4 := hB2.grown HGROW4.out hB2.size (fun k e => by
          have h1 := (hsz2.lt k (by rw [HV0.out]; exact e)).1
          have := HBA.out
          omega)
        have hB5 := hB4.grown HG5.out hB4.size (fun k e => by cases e; exact hlow)
        refine ⟨q + 1, _, by have := HLT.out; omega, by go_num, ht ▸ HK0.out.step HG2.out HS2.out hown (HV0.out ▸ HGROW4.out) (HV0.out ▸ HLOC4.out) HG5.out HM5.out, hB5, ?_⟩
        have h1 := HZ.out.1
        have h2 := HGROW4.out.size
        have h3 := HS2.out
        have h5 := HS5.out
        omega
      case measure => have := HLT.out; simp [intOf]; omega
    · obtain rfl : q = l.length := by omega
      have hwh := whose_any l va vc Bv (.slice na (ordR l).length nc) (.map (some Mp)) wr hl ⟨va, vc, rfl, HVN.out, fun b off s e h => ⟨(HVA.out b off s e h).1, by have := (HVA.out b off s e h).2.1; have := HWW.out.size; have := HB.out.size; omega, (HVA.out b off s e h).2.2.below (B := W.heap.size) (by have := (HVA.out b off s e h).2.1; have := HWW.out.size; omega) HB.out⟩⟩ ((HB.out.block _ (lt_of_heap HBV.out)).trans HBV.out)
      have HWH := Lib.hid hwh
      have cb : wr.cell? ⟨Bb, 0, none⟩ = some (.pointer (some ⟨Bv, 0, none⟩)) := by rw [cell_of_row wr _ _ _ 98 (0, 0) ((HB.out.block _ (lt_of_heap HBW.out)).trans HBW.out)]; rfl
      clear hwh
      gi_wp2_with fail
      refine ⟨trivial, ?_⟩
      refine (callsIn_wide.2 HWH.out).mono ?_
      rintro e w2 ⟨⟨Mo, om, rfl, hMo, hmo, hom⟩, hB2⟩
      have HMO := Lib.hid hmo
      have HOM := Lib.hid hom
      have HB2 := Lib.hid hB2
      have HMO2 := Lib.hid hMo
      clear cb hmo hom hB2 hMo
      have hbig : Below W.heap.size W (w2.alloc (.cells (hdArr h0) 124)) := (HB.out.trans (HB2.out.mono HB.out.size)).alloc (by have := HB.out.size; have := HB2.out.size; omega) _
      have cb : (w2.alloc (.cells (hdArr h0) 124)).cell? ⟨Bb, 0, none⟩ = some (.pointer (some ⟨Bv, 0, none⟩)) := by rw [cell_of_row _ _ _ _ 98 (0, 0) ((hbig.block _ (lt_of_heap HBW.out)).trans HBW.out)]; rfl
      have cv : (w2.alloc (.cells (hdArr h0) 124)).cell? ⟨Bv, 1, none⟩ = some (.slice na (ordR l).length nc) := by rw [cell_of_row _ _ _ _ 119 (0, 0) ((hbig.block _ (lt_of_heap HBV.out)).trans HBV.out)]; rfl
      have HBIG := Lib.hid hbig
      clear hbig
      gi_wp2_with (rw [zero124])
      clear cb cv
      have hz2 : W.heap.size ≤ w2.heap.size := Nat.le_trans HB.out.size HB2.out.size
      have hzw : w.heap.size ≤ W.heap.size := HWW.out.size
      have C : EmC n₀ n₁ bo W.heap.size w2 I := ⟨HIT.out, by omega, hz2, fun b hb => by have := HBO.out b hb; omega⟩
      have hw2 : Below W.heap.size W w2 := HB.out.trans (HB2.out.mono HB.out.size)
      have hrw : ∀ j, rowOf bo w2 j → n₀ ≤ j ∧ j < n₁ := fun j hr => HRW.out j (rowOf_of_block (fun b hb => ((hw2.mono hzw).block b (HBO.out b hb)).trans (HWW.out.block b (HBO.out b hb))) hr)
      have hE0 : EmI n₀ n₁ bo w2 I h0 0 (w2.alloc (.cells (hdArr h0) 124)) := by
        have hr3 : ∀ j, rowOf bo (w2.alloc (.cells (hdArr h0) 124)) j → n₀ ≤ j ∧ j < n₁ := fun j hr => hrw j (rowOf_of_block (fun b hb => Below.heap_alloc w2 _ b (C.bo b hb)) hr)
        have hsz3 : (w2.alloc (.cells (hdArr h0) 124)).heap.size = w2.heap.size + 1 := by simp
        refine ⟨hsz3 ▸ HI0.out _ HBIG.out, heap_alloc_new w2 _, by decide, dk_alloc w2 _, fun j _ hr => hr3 j hr, by omega, fun j hr => ?_⟩
        have := (hr3 j hr).2
        omega
      have hgr : GroupI base w2 Ms m l := by
        have hg := HG.out
        rw [List.take_length] at hg
        exact hg.kept (HB2.out.block _ hg.map.lt) (fun k c t f _ hk => (HB2.out.block _ (lt_of_heap hk)).trans hk)
      have hb2 : w2.heap[Bb]? = some (.cells #[.pointer (some ⟨Bv, 0, none⟩)] 98 (0, 0)) := (hw2.block _ (lt_of_heap HBW.out)).trans HBW.out
      have hv2 : w2.heap[Bv]? = some (.cells #[.slice va l.length vc, .slice na (ordR l).length nc, .map (some Mp)] 119 (0, 0)) := (hw2.block _ (lt_of_heap HBV.out)).trans HBV.out
      have hll : ∀ b off s, va = some ⟨b, off, s⟩ → 0 < l.length → s = none ∧ b < n₀ ∧ RowsAt Sn.cells 14 w2 b off l := fun b off s e h => ⟨(HVA.out b off s e h).1, (HVA.out b off s e h).2.1, (HVA.out b off s e h).2.2.below (B := W.heap.size) (by have := (HVA.out b off s e h).2.1; omega) hw2⟩
      have hnm : MapIs nmV intV w2 Mp (plF [] (ordR l) 0) := HNV.out.2.1.kept (((hw2.mono hzw).block _ HNV.out.2.1.lt).trans (HWW.out.block _ HNV.out.2.1.lt))
      have hnr : ∀ b off s, na = some ⟨b, off, s⟩ → 0 < (ordR l).length → s = none ∧ n₁ ≤ b ∧ RowsAt Nm.cells 3 w2 b off (ordR l) := fun b off s e h => by
        obtain ⟨h1, h2⟩ := HNV.out.2.2.2 b off s e
        obtain ⟨h3, h4, h5⟩ := h2 h
        exact ⟨h3, h1, (h5.below (B := w.heap.size) h4 HWW.out).below (B := w.heap.size) h4 (hw2.mono hzw)⟩
      have HE0 := Lib.hid hE0
      have HC := Lib.hid C
      have HGR := Lib.hid hgr
      have HB2' := Lib.hid (And.intro hb2 hv2)
      have HLL := Lib.hid hll
      have HNM := Lib.hid hnm
      have HNR := Lib.hid hnr
      have HNN := Lib.hid HNV.out.2.2.1
      have HMP := Lib.hid HNV.out.1
      have HMOn : Hid (n₁ ≤ Mo) := (by have := HMO2.out; have := HB.out.size; omega : n₁ ≤ Mo)
      have HMSn : Hid (n₁ ≤ Ms ∧ n₁ ≤ base) := (by have := HMS.out; have := HBA.out; omega : n₁ ≤ Ms ∧ n₁ ≤ base)
      have hle := ordR_le l
      have HR0 : Hid ((readsP l).drop 0 = emit l (ordR l) (pairsP l ((ordR l).drop 0)) h0) := Lib.hid rfl
      clear hz2 C hw2 hrw hE0 hgr hb2 hv2 hll hnm hnr hzw
      gi_loopw [43] (fun io wr => ∃ (q k : Nat) (h : List Sn), q ≤ (ordR l).length ∧ k ≤ (readsP l).length ∧ io = .int .i64 q ∧ EmI n₀ n₁ bo w2 I h k wr ∧ (readsP l).drop k = emit l (ordR l) (pairsP l ((ordR l).drop q)) h) (fun io _ => (ordR l).length - (intOf io).toNat)
      case atStart => exact ⟨0, 0, h0, Nat.zero_le _, Nat.zero_le _, rfl, HE0.out, HR0.out⟩
      case round =>
        obtain ⟨wo, rfl⟩ : ∃ wo : World, wo = wr := ⟨_, rfl⟩
        obtain ⟨q, k, h, hq, hkl, rfl, hE, hR⟩ := hrel
        have HE := Lib.hid hE
        have HR := Lib.hid hR
        clear hE hR
        by_cases hlt : q < (ordR l).length
        · obtain ⟨nm, hnm⟩ : ∃ nm, (ordR l)[q]? = some nm := ⟨_, List.getElem?_eq_getElem hlt⟩
          have hne : ∃ nb noff, na = some ⟨nb, noff, none⟩ ∧ n₁ ≤ nb ∧ RowsAt Nm.cells 3 w2 nb noff (ordR l) := by
            rcases na with _ | ⟨nb, noff, s'⟩
            · have := (HNN.out rfl).1; rw [this] at hlt; simp at hlt
            · obtain ⟨rfl, h2, h3⟩ := HNR.out nb noff s' rfl (by omega)
              exact ⟨nb, noff, rfl, h2, h3⟩
          obtain ⟨nb, noff, rfl, hnb, hnrow⟩ := hne
          obtain ⟨y0, y1, y2⟩ := (hnrow.ck HE.out.dk.ck (.inr hnb)).nm hnm
          obtain ⟨ga, gc, hgv, hgc⟩ := HGR.out.rows nm
          have hEA : EmI n₀ n₁ bo w2 I h k (wo.alloc (.cells #[.int .i64 nm.s, .int .i64 nm.i, .int .i64 nm.t] 34)) := HE.out.alloc HC.out _
          have hgm : MapIs nmV id (wo.alloc (.cells #[.int .i64 nm.s, .int .i64 nm.i, .int .i64 nm.t] 34)) Ms m := (hEA.dk.group HGR.out HMSn.out.1).map
          have hlook : (((look m nm).map id).getD slNil) = .slice ga (idxN nm l 0).length gc := by rw [← hgv]; cases look m nm <;> rfl
          have hbo' : ∀ b, bo = some b → b < wo.heap.size := fun b hb => by have := HC.out.bo b hb; have := HE.out.size; omega
          have hFB : FarBox n₁ bo wo.heap.size (.cells #[.int .i64 nm.s, .int .i64 nm.i, .int .i64 nm.t] 34) (wo.alloc (.cells #[.int .i64 nm.s, .int .i64 nm.i, .int .i64 nm.t] 34)) :=
            FarBox.new (by have := HC.out.nn; have := HE.out.size; omega) hbo' (fun hr => by have := HE.out.rin _ hr; omega) _
          have hR1 : (readsP l).drop k = emit l (ordR l) (todo l (ordR l) q 0) h := by rw [← pairs_drop]; exact HR.out
          have HEA := Lib.hid hEA
          have HGM := Lib.hid hgm
          have HLK := Lib.hid hlook
          have HFB := Lib.hid hFB
          have HR1 := Lib.hid hR1
          have HNM' := Lib.hid hnm
          have HGC := Lib.hid hgc
          have HLT := Lib.hid hlt
          have hcl : (idxN nm l 0).length ≤ 100000 := Nat.le_trans (idxN_length nm l 0) hl
          clear hnrow hgv hEA hgm hlook hbo' hFB hR1 hnm hgc hlt
          gi_wp2_with (refine wpListIn_look Try.underlying121 nmKey zero30 HGM.out rfl (.tmp 47) (.tmp 48) rfl rfl nm rfl ?_; simp only [id_eq]; rw [HLK.out])
          clear y0 y1 y2
          obtain ⟨kn, hkn⟩ : ∃ kn, kn = wo.heap.size := ⟨_, rfl⟩
          have HKN := Lib.hid hkn
          rw [← hkn] at HFB ⊢
          clear hkn
          gi_loopw [51] (fun jo wr => ∃ (j k : Nat) (h : List Sn), j ≤ (idxN nm l 0).length ∧ k ≤ (readsP l).length ∧ jo = .int .i64 j ∧ EmI n₀ n₁ bo w2 I h k wr ∧ FarBox n₁ bo kn (.cells #[.int .i64 nm.s, .int .i64 nm.i, .int .i64 nm.t] 34) wr ∧ (readsP l).drop k = emit l (ordR l) (todo l (ordR l) q j) h) (fun jo _ => (idxN nm l 0).length - (intOf jo).toNat)
          case atStart => exact ⟨0, k, h, Nat.zero_le _, hkl, rfl, HEA.out, HFB.out, HR1.out⟩
          case round =>
            clear HEA HFB HR1 HE HR HGM HKN h hkl k
            obtain ⟨wi, rfl⟩ : ∃ wi : World, wi = wr := ⟨_, rfl⟩
            obtain ⟨j, k, h, hj, hkl, rfl, hE, hF, hR⟩ := hrel
            have HE := Lib.hid hE
            have HF := Lib.hid hF
            have HR := Lib.hid hR
            clear hE hF hR
            by_cases hjlt : j < (idxN nm l 0).length
            · obtain ⟨i, hi0⟩ : ∃ i, (idxN nm l 0)[j]? = some i := ⟨_, List.getElem?_eq_getElem hjlt⟩
              obtain ⟨g, rfl, hgb, hcj0⟩ := HGC.out j i hi0
              obtain ⟨_, x, hx0, hxn⟩ := idxN_mem l nm 0 i (List.mem_of_getElem? hi0)
              have hx : l[i]? = some x := by simpa using hx0
              have hil : i < l.length := (List.getElem?_eq_some_iff.1 hx).1
              have hne : ∃ lb loff, va = some ⟨lb, loff, none⟩ ∧ lb < n₀ ∧ RowsAt Sn.cells 14 w2 lb loff l := by
                rcases va with _ | ⟨lb, loff, s'⟩
                · have := (HVN.out rfl).1; rw [this] at hil; simp at hil
                · obtain ⟨rfl, h2, h3⟩ := HLL.out lb loff s' rfl (by omega)
                  exact ⟨lb, loff, rfl, h2, h3⟩
              obtain ⟨lb, loff, rfl, hlb, hlrow⟩ := hne
              have hdk := HE.out.dk
              obtain ⟨c0, c1, c2, c3, c4, c5, c6, c7, c8, c9, c10, c11, c12, c13⟩ := (hlrow.ck hdk.ck (.inl hlb)).sn hx
              have hcj : wi.cell? ⟨g, j, none⟩ = some (.int .i64 (i : Int)) := hdk.cell (ad := ⟨g, j, none⟩) (.inr (by have := HMSn.out.2; show n₁ ≤ g; omega)) hcj0
              have vb : wi.cell? ⟨Bb, 0, none⟩ = some (.pointer (some ⟨Bv, 0, none⟩)) := by rw [cell_of_row wi _ _ _ 98 (0, 0) (hdk Bb _ (.inr hBb) (.inl rfl) HB2'.out.1)]; rfl
              have vv : wi.cell? ⟨Bv, 0, none⟩ = some (.slice (some ⟨lb, loff, none⟩) l.length vc) := by rw [cell_of_row wi _ _ _ 119 (0, 0) (hdk Bv _ (.inr hBv) (.inl rfl) HB2'.out.2)]; rfl
              have hbi : ∀ b, bo = some b → b < wi.heap.size := fun b hb => by have := HC.out.bo b hb; have := HE.out.size; omega
              have HEX : Hid (EmI n₀ n₁ bo w2 I h k (wi.alloc (.cells (snArr x) 36))) := HE.out.alloc HC.out _
              have HFX : Hid (FarBox n₁ bo kn (.cells #[.int .i64 nm.s, .int .i64 nm.i, .int .i64 nm.t] 34) (wi.alloc (.cells (snArr x) 36))) := HF.out.alloc hbi _
              have htd : todo l (ordR l) q j = (nm, i) :: todo l (ordR l) q (j + 1) := todo_next HNM'.out hi0
              have HTD := Lib.hid htd
              have HX := Lib.hid hx
              have HJLT := Lib.hid hjlt
              have HBI := Lib.hid hbi
              clear hlrow hx0 hx hi0 htd hcj0 hdk hjlt hbi hxn
              by_cases hk2 : x.k = 2
              · have e2 : (x.k == 2) = true := by simp [hk2]
                obtain ⟨hb0, hb1⟩ := step_range HM.out HX.out (.inr hk2)
                have HR2 : Hid ((readsP l).drop k = emit l (ordR l) (todo l (ordR l) q (j + 1)) (h.set x.b.toNat x)) := Lib.hid (by rw [HR.out, HTD.out, emit_write HX.out hk2])
                have hhl : x.b.toNat < h.length := by have := HEX.out.len; omega
                have HHL := Lib.hid hhl
                clear hk2 hhl
                gi_wp2_with (refine wpListIn_store_hd rfl (.tmp 69) (.tmp 68) rfl w2.heap.size x.b.toNat rfl x rfl HEX.out.hold HHL.out ?_; intro w5 hg5 hh5; have HG5 := Lib.hid hg5; have HH5 := Lib.hid hh5; clear hg5 hh5)
                go_roundw
                case rel =>
                  have hkB : kn ≠ w2.heap.size := fun e => by
                    have h1 := HFX.out.box
                    rw [e, HEX.out.hold] at h1
                    simp at h1
                  have hs := HEX.out.size
                  exact ⟨j + 1, k, h.set x.b.toNat x, by have := HJLT.out; omega, hkl, by go_num, HEX.out.set HC.out HG5.out HH5.out, HFX.out.grown HG5.out (fun b hb => by have := HC.out.bo b hb; exact ⟨by omega, fun e => by cases e; omega⟩) (fun e => hkB (by cases e; rfl)), HR2.out⟩
                case measure => have := HJLT.out; simp [intOf]; omega
              · have e2 : (x.k == 2) = false := by simp [hk2]
                by_cases hk1 : x.k = 1
                · have e1 : (x.k == 1) = true := by simp [hk1]
                  obtain ⟨hb0, hb1⟩ := step_range HM.out HX.out (.inl hk1)
                  have hsn : snArr x = #[.int .i8 x.k, .int .i64 x.n.s, .int .i64 x.n.i, .int .i64 x.n.t, .int .i64 x.b, .int .u8 x.v.a, .int .u8 x.v.b, .int .u8 x.v.c, .int .u8 x.v.d, .int .u8 x.v.e, .int .u8 x.v.f, .int .u8 x.v.g, .int .u8 x.v.h, .int .i64 x.e] := rfl
                  obtain ⟨y, hy⟩ : ∃ y, h[x.b.toNat]? = some y := ⟨_, List.getElem?_eq_getElem (by have := HEX.out.len; omega)⟩
                  obtain ⟨was, hwas⟩ : ∃ was, lastW (l.take i) x.b x.v = was := ⟨_, rfl⟩
                  obtain ⟨kd, hkd⟩ : ∃ kd, kindP (ordR l) nm was x.v = kd := ⟨_, rfl⟩
                  have hft : ftOf l (ordR l) h nm i x = ⟨(i : Int), nm, x.b, y.v, x.v, y.n, was, kd⟩ := by simp [ftOf, hy, hwas, hkd]
                  have HEM := Lib.hid (emit_read HX.out hk1 (n := nm) (ns := ordR l) (todo l (ordR l) q (j + 1)) h)
                  obtain ⟨w0, hw0⟩ : ∃ w0, (wi.alloc (.cells #[.int .i8 x.k, .int .i64 x.n.s, .int .i64 x.n.i, .int .i64 x.n.t, .int .i64 x.b, .int .u8 x.v.a, .int .u8 x.v.b, .int .u8 x.v.c, .int .u8 x.v.d, .int .u8 x.v.e, .int .u8 x.v.f, .int .u8 x.v.g, .int .u8 x.v.h, .int .i64 x.e] 36)).drew = w0 := ⟨_, rfl⟩
                  have hEw : EmI n₀ n₁ bo w2 I h k w0 := by rw [← hw0, ← hsn]; exact HEX.out.drew HC.out 1
                  have hFw : FarBox n₁ bo kn (.cells #[.int .i64 nm.s, .int .i64 nm.i, .int .i64 nm.t] 34) w0 := by rw [← hw0, ← hsn]; exact HFX.out.drew 1
                  have hxw : w0.heap[wi.heap.size]? = some (.cells (snArr x) 36 (0, 0)) := by rw [← hw0, ← hsn]; exact heap_alloc_new wi _
                  have hbw : ∀ b, bo = some b → b < w0.heap.size := fun b hb => by have := HC.out.bo b hb; have := hEw.size; omega
                  have hlw : look om (i : Int) = some was := hwas ▸ HOM.out i x HX.out hk1
                  have hRD : ∀ Wx, (Wx = w0 ∨ Wx = w0.alloc (.cells (ftArr ftz) 59)) → EmF w2 Wx kn wi.heap.size x.b.toNat nm x y ∧ (Instr.lookup 122 (.map (some Mo)) (.int .i64 (i : Int)) false).run Try.prog Wx = .ok (.agg #[.int .i64 was.s, .int .i64 was.i, .int .i64 was.t]) Wx := by
                    rintro Wx (rfl | rfl)
                    · exact ⟨emit_facts hEw hFw hxw hy, lookup_was (hEw.dk.mapIs HMO.out (.inr HMOn.out)) hlw⟩
                    · exact ⟨emit_facts (hEw.alloc HC.out _) (hFw.alloc hbw _) ((heap_alloc_old w0 _ (lt_of_heap hxw)).trans hxw) hy, lookup_was ((hEw.alloc HC.out _).dk.mapIs HMO.out (.inr HMOn.out)) hlw⟩
                  have hdk2 := (hEw.alloc HC.out (.cells (ftArr ⟨(i : Int), nm, x.b, y.v, x.v, y.n, was, 0⟩) 59)).dk
                  have hvb := hdk2 Bb _ (.inr hBb) (.inl rfl) HB2'.out.1
                  have vb2 : (w0.alloc (.cells (ftArr ⟨(i : Int), nm, x.b, y.v, x.v, y.n, was, 0⟩) 59)).cell? ⟨Bb, 0, none⟩ = some (.pointer (some ⟨Bv, 0, none⟩)) := by rw [cell_of_row _ _ _ _ 98 (0, 0) hvb]; rfl
                  have hki := kind_any ⟨(i : Int), nm, x.b, y.v, x.v, y.n, was, 0⟩ (ordR l) (ordR_nodup HM.out) Bv w0.heap.size Mp _ _ _ (hdk2 Bv _ (.inr hBv) (.inl rfl) HB2'.out.2) (heap_alloc_new w0 _) (hdk2.mapIs HNM.out (.inr HMP.out))
                  have HKI : Hid (Calls Try.prog 76 #[.pointer (some ⟨Bv, 0, none⟩), .pointer (some ⟨w0.heap.size, 0, none⟩)] (w0.alloc (.cells (ftArr ⟨(i : Int), nm, x.b, y.v, x.v, y.n, was, 0⟩) 59)) fun e w' => e = .returned (.int .i8 kd) ∧ ∃ k, w' = (w0.alloc (.cells (ftArr ⟨(i : Int), nm, x.b, y.v, x.v, y.n, was, 0⟩) 59)).drewN k) :=
                    Lib.hid (hki.mono (fun e w' h => ⟨by rw [h.1, ← hkd], h.2⟩))
                  have HEW := Lib.hid hEw
                  have HFW := Lib.hid hFw
                  have HFT := Lib.hid hft
                  have HW0 := Lib.hid hw0
                  clear hk2 hk1 hsn hy hwas hft hki hkd hEw hFw hxw hbw hlw hdk2 hvb hw0
                  gi_wp2_with fail
                  -- BEGIN RD
                  refine wpIn_region_frame mixed (fun _ => trivial) (by kernel_rfl) [(0, 75, .int .i64 (i : Int)), (1, 76, .agg #[.int .i64 nm.s, .int .i64 nm.i, .int .i64 nm.t]), (2, 77, .pointer (some ⟨wi.heap.size, 4, none⟩)), (3, 78, .int .i64 x.b), (4, 79, .pointer (some ⟨w2.heap.size, x.b.toNat * 14, none⟩)), (5, 80, .pointer (some ⟨w2.heap.size, x.b.toNat * 14, none⟩)), (6, 81, .pointer (some ⟨w2.heap.size, x.b.toNat * 14 + 5, none⟩)), (7, 82, .agg #[.int .u8 y.v.a, .int .u8 y.v.b, .int .u8 y.v.c, .int .u8 y.v.d, .int .u8 y.v.e, .int .u8 y.v.f, .int .u8 y.v.g, .int .u8 y.v.h]), (8, 83, .pointer (some ⟨wi.heap.size, 5, none⟩)), (9, 84, .agg #[.int .u8 x.v.a, .int .u8 x.v.b, .int .u8 x.v.c, .int .u8 x.v.d, .int .u8 x.v.e, .int .u8 x.v.f, .int .u8 x.v.g, .int .u8 x.v.h]), (10, 85, .pointer (some ⟨w2.heap.size, x.b.toNat * 14, none⟩)), (11, 86, .pointer (some ⟨w2.heap.size, x.b.toNat * 14, none⟩)), (12, 87, .pointer (some ⟨w2.heap.size, x.b.toNat * 14 + 1, none⟩)), (13, 88, .agg #[.int .i64 y.n.s, .int .i64 y.n.i, .int .i64 y.n.t]), (14, 89, .map (some Mo)), (15, 90, .int .i64 (i : Int)), (16, 91, .agg #[.int .i64 was.s, .int .i64 was.i, .int .i64 was.t]), (17, 92, .agg (ftArr ⟨(i : Int), nm, x.b, y.v, x.v, y.n, was, 0⟩)), (18, 14, .pointer (some ⟨w0.heap.size, 0, none⟩))] (fun L Wx => RdT w0 (w0.alloc (.cells (ftArr ftz) 59)) (w0.alloc (.cells (ftArr ⟨(i : Int), nm, x.b, y.v, x.v, y.n, was, 0⟩) 59)) (L 18) (L 19) Wx) ?_ ?_ (by rfl) (by rfl) ?_
                  · exact HW0.out ▸ RdT.start
                  · intro a0 ps ha0 hps
                    have hsz : a0.tmps.size = 102 := by rw [ha0]; rfl
                    have u6 : a0.tmps[6]? = some (.map (some Mo)) := by rw [ha0]; rfl
                    have u9 : a0.tmps[9]? = some (.pointer (some ⟨kn, 0, none⟩)) := by rw [ha0]; rfl
                    have u11 : a0.tmps[11]? = some (.int .i64 (i : Int)) := by rw [ha0]; rfl
                    have u12 : a0.tmps[12]? = some (.pointer (some ⟨wi.heap.size, 0, none⟩)) := by rw [ha0]; rfl
                    have u13 : a0.tmps[13]? = some (.pointer (some ⟨w2.heap.size, x.b.toNat * 14, none⟩)) := by rw [ha0]; rfl
                    have n6 : slotOf ps 6 = none := by rw [hps]; rfl
                    have n9 : slotOf ps 9 = none := by rw [hps]; rfl
                    have n11 : slotOf ps 11 = none := by rw [hps]; rfl
                    have n12 : slotOf ps 12 = none := by rw [hps]; rfl
                    have n13 : slotOf ps 13 = none := by rw [hps]; rfl
                    have k75 : slotOf ps 75 = some (0, .int .i64 (i : Int)) := by rw [hps]; rfl
                    have q75 : keysOK ps 0 75 = true := by rw [hps]; rfl
                    have k76 : slotOf ps 76 = some (1, .agg #[.int .i64 nm.s, .int .i64 nm.i, .int .i64 nm.t]) := by rw [hps]; rfl
                    have q76 : keysOK ps 1 76 = true := by rw [hps]; rfl
                    have k77 : slotOf ps 77 = some (2, .pointer (some ⟨wi.heap.size, 4, none⟩)) := by rw [hps]; rfl
                    have q77 : keysOK ps 2 77 = true := by rw [hps]; rfl
                    have k78 : slotOf ps 78 = some (3, .int .i64 x.b) := by rw [hps]; rfl
                    have q78 : keysOK ps 3 78 = true := by rw [hps]; rfl
                    have k79 : slotOf ps 79 = some (4, .pointer (some ⟨w2.heap.size, x.b.toNat * 14, none⟩)) := by rw [hps]; rfl
                    have q79 : keysOK ps 4 79 = true := by rw [hps]; rfl
                    have k80 : slotOf ps 80 = some (5, .pointer (some ⟨w2.heap.size, x.b.toNat * 14, none⟩)) := by rw [hps]; rfl
                    have q80 : keysOK ps 5 80 = true := by rw [hps]; rfl
                    have k81 : slotOf ps 81 = some (6, .pointer (some ⟨w2.heap.size, x.b.toNat * 14 + 5, none⟩)) := by rw [hps]; rfl
                    have q81 : keysOK ps 6 81 = true := by rw [hps]; rfl
                    have k82 : slotOf ps 82 = some (7, .agg #[.int .u8 y.v.a, .int .u8 y.v.b, .int .u8 y.v.c, .int .u8 y.v.d, .int .u8 y.v.e, .int .u8 y.v.f, .int .u8 y.v.g, .int .u8 y.v.h]) := by rw [hps]; rfl
                    have q82 : keysOK ps 7 82 = true := by rw [hps]; rfl
                    have k83 : slotOf ps 83 = some (8, .pointer (some ⟨wi.heap.size, 5, none⟩)) := by rw [hps]; rfl
                    have q83 : keysOK ps 8 83 = true := by rw [hps]; rfl
                    have k84 : slotOf ps 84 = some (9, .agg #[.int .u8 x.v.a, .int .u8 x.v.b, .int .u8 x.v.c, .int .u8 x.v.d, .int .u8 x.v.e, .int .u8 x.v.f, .int .u8 x.v.g, .int .u8 x.v.h]) := by rw [hps]; rfl
                    have q84 : keysOK ps 9 84 = true := by rw [hps]; rfl
                    have k85 : slotOf ps 85 = some (10, .pointer (some ⟨w2.heap.size, x.b.toNat * 14, none⟩)) := by rw [hps]; rfl
                    have q85 : keysOK ps 10 85 = true := by rw [hps]; rfl
                    have k86 : slotOf ps 86 = some (11, .pointer (some ⟨w2.heap.size, x.b.toNat * 14, none⟩)) := by rw [hps]; rfl
                    have q86 : keysOK ps 11 86 = true := by rw [hps]; rfl
                    have k87 : slotOf ps 87 = some (12, .pointer (some ⟨w2.heap.size, x.b.toNat * 14 + 1, none⟩)) := by rw [hps]; rfl
                    have q87 : keysOK ps 12 87 = true := by rw [hps]; rfl
                    have k88 : slotOf ps 88 = some (13, .agg #[.int .i64 y.n.s, .int .i64 y.n.i, .int .i64 y.n.t]) := by rw [hps]; rfl
                    have q88 : keysOK ps 13 88 = true := by rw [hps]; rfl
                    have k89 : slotOf ps 89 = some (14, .map (some Mo)) := by rw [hps]; rfl
                    have q89 : keysOK ps 14 89 = true := by rw [hps]; rfl
                    have k90 : slotOf ps 90 = some (15, .int .i64 (i : Int)) := by rw [hps]; rfl
                    have q90 : keysOK ps 15 90 = true := by rw [hps]; rfl
                    have k91 : slotOf ps 91 = some (16, .agg #[.int .i64 was.s, .int .i64 was.i, .int .i64 was.t]) := by rw [hps]; rfl
                    have q91 : keysOK ps 16 91 = true := by rw [hps]; rfl
                    have k92 : slotOf ps 92 = some (17, .agg (ftArr ⟨(i : Int), nm, x.b, y.v, x.v, y.n, was, 0⟩)) := by rw [hps]; rfl
                    have q92 : keysOK ps 17 92 = true := by rw [hps]; rfl
                    have k14 : slotOf ps 14 = some (18, .pointer (some ⟨w0.heap.size, 0, none⟩)) := by rw [hps]; rfl
                    have q14 : keysOK ps 18 14 = true := by rw [hps]; rfl
                    have z19 : (ps.all fun p => !(p.1 == 19)) = true := by rw [hps]; rfl
                    clear ha0 hps
                    refine ⟨?_, ?_, ?_, ?_, ?_, ?_, ?_, ?_, ?_, ?_, ?_, ?_, ?_, ?_, ?_, ?_, ?_, ?_, ?_, ?_, trivial⟩
                    · rintro L _ Wx ⟨rfl, hT⟩ hcl hk hd
                      rw [if_pos (by simp [Region.wanted])]
                      refine opIn_valueW (by intro c h; cases h) (v := .int .i64 (i : Int)) (w' := Wx) (by simp [execOp, go_sem, frame_tout (n11) u11]) ⟨frame_put (k75) (q75), ?_⟩
                      simpa [upd] using hT
                    · rintro L _ Wx ⟨rfl, hT⟩ hcl hk hd
                      have hN : L 19 = false := by
                        cases hh : L 19 with
                        | false => rfl
                        | true =>
                          have h1 := hcl 19 _ rfl (by simp [hh])
                          simp [Region.binds] at h1
                          simp [hk] at h1
                      rw [if_pos (by simp [Region.wanted])]
                      have hRx : Wx = w0 ∨ Wx = w0.alloc (.cells (ftArr ftz) 59) := by
                        cases h18 : L 18 with
                        | false => exact .inl (hT.1 h18 hN)
                        | true => exact .inr (hT.2.1 h18 hN)
                      obtain ⟨⟨g0, g1, g2, g3, g4, g5, g6, g7, g8, g9, g10, g11, g12, g13, g14, g15, g16, g17, g18, g19, g20, g21, g22⟩, glk⟩ := hRD Wx hRx
                      refine opIn_valueW (by intro c h; cases h) (v := .agg #[.int .i64 nm.s, .int .i64 nm.i, .int .i64 nm.t]) (w' := Wx) (by simp [execOp, go_sem, frame_tout (n9) u9, g0, g1, g2]) ⟨frame_put (k76) (q76), ?_⟩
                      simpa [upd] using hT
                    · rintro L _ Wx ⟨rfl, hT⟩ hcl hk hd
                      rw [if_pos (by simp [Region.wanted])]
                      refine opIn_valueW (by intro c h; cases h) (v := .pointer (some ⟨wi.heap.size, 4, none⟩)) (w' := Wx) (by simp [execOp, go_sem, frame_tout (n12) u12]) ⟨frame_put (k77) (q77), ?_⟩
                      simpa [upd] using hT
                    · rintro L _ Wx ⟨rfl, hT⟩ hcl hk hd
                      have hL2 : L 2 = true := by have h := hd; simp [Region.binds] at h; simp [h]
                      have hN : L 19 = false := by
                        cases hh : L 19 with
                        | false => rfl
                        | true =>
                          have h3 := hcl 19 _ rfl (by simp [hh])
                          simp [Region.binds] at h3
                          simp [hk] at h3
                      rw [if_pos (by simp [Region.wanted])]
                      have hRx : Wx = w0 ∨ Wx = w0.alloc (.cells (ftArr ftz) 59) := by
                        cases h18 : L 18 with
                        | false => exact .inl (hT.1 h18 hN)
                        | true => exact .inr (hT.2.1 h18 hN)
                      obtain ⟨⟨g0, g1, g2, g3, g4, g5, g6, g7, g8, g9, g10, g11, g12, g13, g14, g15, g16, g17, g18, g19, g20, g21, g22⟩, glk⟩ := hRD Wx hRx
                      refine opIn_valueW (by intro c h; cases h) (v := .int .i64 x.b) (w' := Wx) (by simp [execOp, go_sem, frame_tmp (k77) hL2 (Nat.lt_of_lt_of_eq (by decide : 77 < 102) hsz.symm), g3]) ⟨frame_put (k78) (q78), ?_⟩
                      simpa [upd] using hT
                    · rintro L _ Wx ⟨rfl, hT⟩ hcl hk hd
                      rw [if_pos (by simp [Region.wanted])]
                      refine opIn_valueW (by intro c h; cases h) (v := .pointer (some ⟨w2.heap.size, x.b.toNat * 14, none⟩)) (w' := Wx) (by simp [execOp, go_sem, frame_tout (n13) u13]) ⟨frame_put (k79) (q79), ?_⟩
                      simpa [upd] using hT
                    · rintro L _ Wx ⟨rfl, hT⟩ hcl hk hd
                      have hL4 : L 4 = true := by have h := hd; simp [Region.binds] at h; simp [h]
                      rw [if_pos (by simp [Region.wanted])]
                      refine opIn_valueW (by intro c h; cases h) (v := .pointer (some ⟨w2.heap.size, x.b.toNat * 14, none⟩)) (w' := Wx) (by simp [execOp, go_sem, frame_tmp (k79) hL4 (Nat.lt_of_lt_of_eq (by decide : 79 < 102) hsz.symm)]) ⟨frame_put (k80) (q80), ?_⟩
                      simpa [upd] using hT
                    · rintro L _ Wx ⟨rfl, hT⟩ hcl hk hd
                      have hL5 : L 5 = true := by have h := hd; simp [Region.binds] at h; simp [h]
                      rw [if_pos (by simp [Region.wanted])]
                      refine opIn_valueW (by intro c h; cases h) (v := .pointer (some ⟨w2.heap.size, x.b.toNat * 14 + 5, none⟩)) (w' := Wx) (by simp [execOp, go_sem, frame_tmp (k80) hL5 (Nat.lt_of_lt_of_eq (by decide : 80 < 102) hsz.symm)]) ⟨frame_put (k81) (q81), ?_⟩
                      simpa [upd] using hT
                    · rintro L _ Wx ⟨rfl, hT⟩ hcl hk hd
                      have hL6 : L 6 = true := by have h := hd; simp [Region.binds] at h; simp [h]
                      have hN : L 19 = false := by
                        cases hh : L 19 with
                        | false => rfl
                        | true =>
                          have h7 := hcl 19 _ rfl (by simp [hh])
                          simp [Region.binds] at h7
                          simp [hk] at h7
                      rw [if_pos (by simp [Region.wanted])]
                      have hRx : Wx = w0 ∨ Wx = w0.alloc (.cells (ftArr ftz) 59) := by
                        cases h18 : L 18 with
                        | false => exact .inl (hT.1 h18 hN)
                        | true => exact .inr (hT.2.1 h18 hN)
                      obtain ⟨⟨g0, g1, g2, g3, g4, g5, g6, g7, g8, g9, g10, g11, g12, g13, g14, g15, g16, g17, g18, g19, g20, g21, g22⟩, glk⟩ := hRD Wx hRx
                      refine opIn_valueW (by intro c h; cases h) (v := .agg #[.int .u8 y.v.a, .int .u8 y.v.b, .int .u8 y.v.c, .int .u8 y.v.d, .int .u8 y.v.e, .int .u8 y.v.f, .int .u8 y.v.g, .int .u8 y.v.h]) (w' := Wx) (by simp [execOp, go_sem, frame_tmp (k81) hL6 (Nat.lt_of_lt_of_eq (by decide : 81 < 102) hsz.symm), g12, g13, g14, g15, g16, g17, g18, g19]) ⟨frame_put (k82) (q82), ?_⟩
                      simpa [upd] using hT
                    · rintro L _ Wx ⟨rfl, hT⟩ hcl hk hd
                      rw [if_pos (by simp [Region.wanted])]
                      refine opIn_valueW (by intro c h; cases h) (v := .pointer (some ⟨wi.heap.size, 5, none⟩)) (w' := Wx) (by simp [execOp, go_sem, frame_tout (n12) u12]) ⟨frame_put (k83) (q83), ?_⟩
                      simpa [upd] using hT
                    · rintro L _ Wx ⟨rfl, hT⟩ hcl hk hd
                      have hL8 : L 8 = true := by have h := hd; simp [Region.binds] at h; simp [h]
                      have hN : L 19 = false := by
                        cases hh : L 19 with
                        | false => rfl
                        | true =>
                          have h9 := hcl 19 _ rfl (by simp [hh])
                          simp [Region.binds] at h9
                          simp [hk] at h9
                      rw [if_pos (by simp [Region.wanted])]
                      have hRx : Wx = w0 ∨ Wx = w0.alloc (.cells (ftArr ftz) 59) := by
                        cases h18 : L 18 with
                        | false => exact .inl (hT.1 h18 hN)
                        | true => exact .inr (hT.2.1 h18 hN)
                      obtain ⟨⟨g0, g1, g2, g3, g4, g5, g6, g7, g8, g9, g10, g11, g12, g13, g14, g15, g16, g17, g18, g19, g20, g21, g22⟩, glk⟩ := hRD Wx hRx
                      refine opIn_valueW (by intro c h; cases h) (v := .agg #[.int .u8 x.v.a, .int .u8 x.v.b, .int .u8 x.v.c, .int .u8 x.v.d, .int .u8 x.v.e, .int .u8 x.v.f, .int .u8 x.v.g, .int .u8 x.v.h]) (w' := Wx) (by simp [execOp, go_sem, frame_tmp (k83) hL8 (Nat.lt_of_lt_of_eq (by decide : 83 < 102) hsz.symm), g4, g5, g6, g7, g8, g9, g10, g11]) ⟨frame_put (k84) (q84), ?_⟩
                      simpa [upd] using hT
                    · rintro L _ Wx ⟨rfl, hT⟩ hcl hk hd
                      rw [if_pos (by simp [Region.wanted])]
                      refine opIn_valueW (by intro c h; cases h) (v := .pointer (some ⟨w2.heap.size, x.b.toNat * 14, none⟩)) (w' := Wx) (by simp [execOp, go_sem, frame_tout (n13) u13]) ⟨frame_put (k85) (q85), ?_⟩
                      simpa [upd] using hT
                    · rintro L _ Wx ⟨rfl, hT⟩ hcl hk hd
                      have hL10 : L 10 = true := by have h := hd; simp [Region.binds] at h; simp [h]
                      rw [if_pos (by simp [Region.wanted])]
                      refine opIn_valueW (by intro c h; cases h) (v := .pointer (some ⟨w2.heap.size, x.b.toNat * 14, none⟩)) (w' := Wx) (by simp [execOp, go_sem, frame_tmp (k85) hL10 (Nat.lt_of_lt_of_eq (by decide : 85 < 102) hsz.symm)]) ⟨frame_put (k86) (q86), ?_⟩
                      simpa [upd] using hT
                    · rintro L _ Wx ⟨rfl, hT⟩ hcl hk hd
                      have hL11 : L 11 = true := by have h := hd; simp [Region.binds] at h; simp [h]
                      rw [if_pos (by simp [Region.wanted])]
                      refine opIn_valueW (by intro c h; cases h) (v := .pointer (some ⟨w2.heap.size, x.b.toNat * 14 + 1, none⟩)) (w' := Wx) (by simp [execOp, go_sem, frame_tmp (k86) hL11 (Nat.lt_of_lt_of_eq (by decide : 86 < 102) hsz.symm)]) ⟨frame_put (k87) (q87), ?_⟩
                      simpa [upd] using hT
                    · rintro L _ Wx ⟨rfl, hT⟩ hcl hk hd
                      have hL12 : L 12 = true := by have h := hd; simp [Region.binds] at h; simp [h]
                      have hN : L 19 = false := by
                        cases hh : L 19 with
                        | false => rfl
                        | true =>
                          have h13 := hcl 19 _ rfl (by simp [hh])
                          simp [Region.binds] at h13
                          simp [hk] at h13
                      rw [if_pos (by simp [Region.wanted])]
                      have hRx : Wx = w0 ∨ Wx = w0.alloc (.cells (ftArr ftz) 59) := by
                        cases h18 : L 18 with
                        | false => exact .inl (hT.1 h18 hN)
                        | true => exact .inr (hT.2.1 h18 hN)
                      obtain ⟨⟨g0, g1, g2, g3, g4, g5, g6, g7, g8, g9, g10, g11, g12, g13, g14, g15, g16, g17, g18, g19, g20, g21, g22⟩, glk⟩ := hRD Wx hRx
                      refine opIn_valueW (by intro c h; cases h) (v := .agg #[.int .i64 y.n.s, .int .i64 y.n.i, .int .i64 y.n.t]) (w' := Wx) (by simp [execOp, go_sem, frame_tmp (k87) hL12 (Nat.lt_of_lt_of_eq (by decide : 87 < 102) hsz.symm), g20, g21, g22]) ⟨frame_put (k88) (q88), ?_⟩
                      simpa [upd] using hT
                    · rintro L _ Wx ⟨rfl, hT⟩ hcl hk hd
                      rw [if_pos (by simp [Region.wanted])]
                      refine opIn_valueW (by intro c h; cases h) (v := .map (some Mo)) (w' := Wx) (by simp [execOp, go_sem, frame_tout (n6) u6]) ⟨frame_put (k89) (q89), ?_⟩
                      simpa [upd] using hT
                    · rintro L _ Wx ⟨rfl, hT⟩ hcl hk hd
                      rw [if_pos (by simp [Region.wanted])]
                      refine opIn_valueW (by intro c h; cases h) (v := .int .i64 (i : Int)) (w' := Wx) (by simp [execOp, go_sem, frame_tout (n11) u11]) ⟨frame_put (k90) (q90), ?_⟩
                      simpa [upd] using hT
                    · rintro L _ Wx ⟨rfl, hT⟩ hcl hk hd
                      have hL14 : L 14 = true := by have h := hd; simp [Region.binds] at h; simp [h]
                      have hL15 : L 15 = true := by have h := hd; simp [Region.binds] at h; simp [h]
                      have hN : L 19 = false := by
                        cases hh : L 19 with
                        | false => rfl
                        | true =>
                          have h16 := hcl 19 _ rfl (by simp [hh])
                          simp [Region.binds] at h16
                          simp [hk] at h16
                      rw [if_pos (by simp [Region.wanted])]
                      have hRx : Wx = w0 ∨ Wx = w0.alloc (.cells (ftArr ftz) 59) := by
                        cases h18 : L 18 with
                        | false => exact .inl (hT.1 h18 hN)
                        | true => exact .inr (hT.2.1 h18 hN)
                      obtain ⟨⟨g0, g1, g2, g3, g4, g5, g6, g7, g8, g9, g10, g11, g12, g13, g14, g15, g16, g17, g18, g19, g20, g21, g22⟩, glk⟩ := hRD Wx hRx
                      refine opIn_valueW (by intro c h; cases h) (v := .agg #[.int .i64 was.s, .int .i64 was.i, .int .i64 was.t]) (w' := Wx) (by simp [execOp, go_sem, frame_tmp (k89) hL14 (Nat.lt_of_lt_of_eq (by decide : 89 < 102) hsz.symm), frame_tmp (k90) hL15 (Nat.lt_of_lt_of_eq (by decide : 90 < 102) hsz.symm), glk]) ⟨frame_put (k91) (q91), ?_⟩
                      simpa [upd] using hT
                    · rintro L _ Wx ⟨rfl, hT⟩ hcl hk hd
                      have hL0 : L 0 = true := by have h := hd; simp [Region.binds] at h; simp [h]
                      have hL1 : L 1 = true := by have h := hd; simp [Region.binds] at h; simp [h]
                      have hL3 : L 3 = true := by have h := hd; simp [Region.binds] at h; simp [h]
                      have hL7 : L 7 = true := by have h := hd; simp [Region.binds] at h; simp [h]
                      have hL9 : L 9 = true := by have h := hd; simp [Region.binds] at h; simp [h]
                      have hL13 : L 13 = true := by have h := hd; simp [Region.binds] at h; simp [h]
                      have hL16 : L 16 = true := by have h := hd; simp [Region.binds] at h; simp [h]
                      rw [if_pos (by simp [Region.wanted])]
                      refine opIn_valueW (by intro c h; cases h) (v := .agg (ftArr ⟨(i : Int), nm, x.b, y.v, x.v, y.n, was, 0⟩)) (w' := Wx) (by simp [execOp, go_sem, frame_tmp (k75) hL0 (Nat.lt_of_lt_of_eq (by decide : 75 < 102) hsz.symm), frame_tmp (k76) hL1 (Nat.lt_of_lt_of_eq (by decide : 76 < 102) hsz.symm), frame_tmp (k78) hL3 (Nat.lt_of_lt_of_eq (by decide : 78 < 102) hsz.symm), frame_tmp (k82) hL7 (Nat.lt_of_lt_of_eq (by decide : 82 < 102) hsz.symm), frame_tmp (k84) hL9 (Nat.lt_of_lt_of_eq (by decide : 84 < 102) hsz.symm), frame_tmp (k88) hL13 (Nat.lt_of_lt_of_eq (by decide : 88 < 102) hsz.symm), frame_tmp (k91) hL16 (Nat.lt_of_lt_of_eq (by decide : 91 < 102) hsz.symm), ftArr]) ⟨frame_put (k92) (q92), ?_⟩
                      simpa [upd] using hT
                    · rintro L _ Wx ⟨rfl, hT⟩ hcl hk hd
                      have hN : L 19 = false := by
                        cases hh : L 19 with
                        | false => rfl
                        | true =>
                          have h18 := hcl 19 _ rfl (by simp [hh])
                          simp [Region.binds] at h18
                          simp [hk] at h18
                      rw [if_pos (by simp [Region.wanted])]
                      rw [hT.1 hk hN]
                      refine opIn_valueW (by intro c h; cases h) (v := .pointer (some ⟨w0.heap.size, 0, none⟩)) (w' := w0.alloc (.cells (ftArr ftz) 59)) (by simp [execOp, go_sem, ftArr, ftz, nz, z0]) ⟨frame_put (k14) (q14), ?_⟩
                      simpa [upd, hN] using RdT.laid
                    · rintro L _ Wx ⟨rfl, hT⟩ hcl hk hd
                      have hL17 : L 17 = true := by have h := hd; simp [Region.binds] at h; simp [h]
                      have hL18 : L 18 = true := by have h := hd; simp [Region.binds] at h; simp [h]
                      rw [if_pos (by simp [Region.wanted])]
                      rw [hT.2.1 hL18 hk]
                      refine opIn_store 59 (.tmp 14) (.tmp 92) rfl ⟨w0.heap.size, 0, none⟩ (by rw [frame_in (k14) hL18 (Nat.lt_of_lt_of_eq (by decide : 14 < 102) hsz.symm)]) (.agg (ftArr ⟨(i : Int), nm, x.b, y.v, x.v, y.n, was, 0⟩)) (by rw [frame_in (k92) hL17 (Nat.lt_of_lt_of_eq (by decide : 92 < 102) hsz.symm)]) (st_ft w0 _) ⟨frame_putNone (z19), ?_⟩
                      simpa [upd] using RdT.full
                  · rintro L W' hT hall
                    have hA19 : L 19 = true := hall 19 (by simp)
                    simp only [putAll, Act.put, List.setIfInBounds_toArray, List.set_cons_succ, List.set_cons_zero]
                    have hW' := hT.2.2 hA19
                    subst hW'
                    clear hT hall hA19
                    gi_wp2_with fail
                    refine ⟨trivial, ?_⟩
                    refine (callsIn_wide.2 HKI.out).mono ?_
                    rintro e w' ⟨rfl, k', rfl⟩
                    obtain ⟨w7, hw7⟩ : ∃ w7, w0.drewN k' = w7 := ⟨_, rfl⟩
                    have HE7 : Hid (EmI n₀ n₁ bo w2 I h k w7) := hw7 ▸ HEW.out.drew HC.out k'
                    have HF7 : Hid (FarBox n₁ bo kn (.cells #[.int .i64 nm.s, .int .i64 nm.i, .int .i64 nm.t] 34) w7) := hw7 ▸ HFW.out.drew k'
                    have e7 : (w0.alloc (.cells (ftArr ⟨(i : Int), nm, x.b, y.v, x.v, y.n, was, 0⟩) 59)).drewN k' = w7.alloc (.cells (ftArr ⟨(i : Int), nm, x.b, y.v, x.v, y.n, was, 0⟩) 59) := hw7 ▸ rfl
                    have es : w0.heap.size = w7.heap.size := hw7 ▸ rfl
                    rw [e7, es]
                    clear vb2 e7 es hw7
                    have hcons : (readsP l).drop k = (⟨(i : Int), nm, x.b, y.v, x.v, y.n, was, kd⟩ : Ft) :: emit l (ordR l) (todo l (ordR l) q (j + 1)) h := by rw [HR.out, HTD.out, HEM.out, HFT.out]
                    obtain ⟨hgk, hdr⟩ := drop_of_cons hcons
                    have hkl2 : k + 1 ≤ (readsP l).length := (List.getElem?_eq_some_iff.1 hgk).1
                    have hE8 : EmI n₀ n₁ bo w2 I h k (w7.alloc (.cells (ftArr ⟨(i : Int), nm, x.b, y.v, x.v, y.n, was, kd⟩) 59)) := HE7.out.alloc HC.out _
                    have hF8 : FarBox n₁ bo kn (.cells #[.int .i64 nm.s, .int .i64 nm.i, .int .i64 nm.t] 34) (w7.alloc (.cells (ftArr ⟨(i : Int), nm, x.b, y.v, x.v, y.n, was, kd⟩) 59)) :=
                      HF7.out.alloc (fun b hb => by have := HC.out.bo b hb; have := HE7.out.size; omega) _
                    obtain ⟨fn, tmps, assign, body, hy, hRo⟩ := HY.out _ k _ _ hE8.inv hgk
                    have HRO := Lib.hid hRo
                    have HDR := Lib.hid hdr
                    have HE8 := Lib.hid hE8
                    have HF8 := Lib.hid hF8
                    clear hcons hgk hdr hE8 hF8 hRo
                    gi_wp2_with (first | (refine wpListIn_store rfl 32 (.tmp 95) (.tmp 94) rfl ⟨w7.heap.size, 27, none⟩ rfl (.int .i8 kd) rfl (st_kind w7 _ _ _ _ _ _ _ _ kd) ?_) | (refine wpListIn_load rfl 59 (.tmp 14) rfl ⟨w7.heap.size, 0, none⟩ rfl _ (ld_ft (heap_alloc_new w7 _)) ?_))
                    refine HRO.out.mono ?_
                    rintro e W3 ⟨rfl, hI3, hK3⟩
                    have HE9 := Lib.hid (HE8.out.yield HC.out hI3 hK3)
                    have HF9 := Lib.hid (HF8.out.yield (.inl rfl) hK3.1)
                    clear hI3 hK3 hy
                    gi_wp2_with fail
                    go_roundw
                    case rel => exact ⟨j + 1, k + 1, h, by have := HJLT.out; omega, hkl2, by go_num, HE9.out, HF9.out, HDR.out⟩
                    case measure => have := HJLT.out; simp [intOf]; omega
                  -- END RD
                · have e1 : (x.k == 1) = false := by simp [hk1]
                  have HR2 : Hid ((readsP l).drop k = emit l (ordR l) (todo l (ordR l) q (j + 1)) h) := Lib.hid (by rw [HR.out, HTD.out, emit_skip HX.out hk2 hk1])
                  clear hk1 hk2
                  gi_wp2_with fail
                  go_roundw
                  case rel => exact ⟨j + 1, k, h, by have := HJLT.out; omega, hkl, by go_num, HEX.out, HFX.out, HR2.out⟩
                  case measure => have := HJLT.out; simp [intOf]; omega
            · obtain rfl : j = (idxN nm l 0).length := by omega
              have HR2 : Hid ((readsP l).drop k = emit l (ordR l) (pairsP l ((ordR l).drop (q + 1))) h) := Lib.hid (by rw [HR.out, todo_end HNM'.out (Nat.le_refl _)])
              gi_wp2_with fail
              go_roundw
              case rel => exact ⟨q + 1, k, h, by have := HLT.out; omega, hkl, by go_num, HE.out, HR2.out⟩
              case measure => have := HLT.out; simp [intOf]; omega
        · obtain rfl : q = (ordR l).length := by omega
          gi_wp2_with fail
          go_end0
          have h1 := HR.out
          rw [List.drop_length] at h1
          have h2 : (readsP l).length ≤ k := List.drop_eq_nil_iff.1 (by rw [h1]; rfl)
          obtain rfl : k = (readsP l).length := by omega
          exact ⟨⟨_, rfl⟩, _, HE.out.inv⟩
end Go.Proofs.Ytgdmgeihgkbjaaa
