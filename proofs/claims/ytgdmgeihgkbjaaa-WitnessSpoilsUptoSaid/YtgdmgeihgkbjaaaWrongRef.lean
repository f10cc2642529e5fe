/- 'cashboxref32.Wrong', 'Mend', 'First', 'Count' -/
import Derived.Test.YtgdmgeihgkbjaaaReadsRef
import Derived.Test.YtgdmgeihgkbjaaaGrow32
namespace Go.Proofs.Ytgdmgeihgkbjaaa
open Go.RowKit Go.Shelf

def rdP (l : List Sn) : List Ft := if mayP l then readsP l else []
def bad (f : Ft) : Bool := decide (f.want ≠ f.got)
theorem fsP_rd (l : List Sn) : fsP l = (rdP l).filter bad := by
  unfold fsP rdP
  split
  · rfl
  · rfl
theorem rdP_length {l : List Sn} (hl : l.length ≤ 100000) : (rdP l).length ≤ 10000000000 := by
  unfold rdP
  split
  · exact reads_length hl
  · simp

theorem reads65_gen (l : List Sn) (v : Value) (w : World) (hl : l.length ≤ 100000) (hv : Sns w.heap.size w v l) :
    Calls Try.prog 65 #[v] w fun e w' => ∃ vo, e = .returned (.tuple #[vo, .int .i64 (erP l)]) ∧ w'.ownsRow w.heap.size 59 28 vo (rdP l).length ((rdP l).flatMap Ft.cells) ∧ Below w.heap.size w w' := by
  cases hm : mayP l with
  | false =>
    refine (reads65_err l v w hl hv hm).mono ?_
    rintro e w' ⟨rfl, hb⟩
    have e1 : rdP l = [] := by simp [rdP, hm]
    have e2 : erP l = 2 := by simp [erP, hm]
    rw [e1, e2]
    exact ⟨_, rfl, World.ownsRow_nil _ _ _ _, hb⟩
  | true =>
    refine (reads65_ok l v w hl hv hm).mono ?_
    rintro e w' ⟨vo, rfl, hr, hb⟩
    have e1 : rdP l = readsP l := by simp [rdP, hm]
    have e2 : erP l = 0 := by simp [erP, hm]
    rw [e1, e2]
    exact ⟨_, rfl, hr, hb⟩

theorem ftr_at {w : World} {b q : Nat} {fs : List Ft} {f : Ft} (hr : RowsAt Ft.cells 28 w b 0 fs) (hf : fs[q]? = some f) :
    w.cell? ⟨b, q * 28, none⟩ = some (.int .i64 f.i) ∧ w.cell? ⟨b, q * 28 + 5, none⟩ = some (.int .u8 f.want.a) ∧ w.cell? ⟨b, q * 28 + 6, none⟩ = some (.int .u8 f.want.b) ∧ w.cell? ⟨b, q * 28 + 7, none⟩ = some (.int .u8 f.want.c) ∧ w.cell? ⟨b, q * 28 + 8, none⟩ = some (.int .u8 f.want.d) ∧
    w.cell? ⟨b, q * 28 + 9, none⟩ = some (.int .u8 f.want.e) ∧ w.cell? ⟨b, q * 28 + 10, none⟩ = some (.int .u8 f.want.f) ∧ w.cell? ⟨b, q * 28 + 11, none⟩ = some (.int .u8 f.want.g) ∧ w.cell? ⟨b, q * 28 + 12, none⟩ = some (.int .u8 f.want.h) ∧
    w.cell? ⟨b, q * 28 + 13, none⟩ = some (.int .u8 f.got.a) ∧ w.cell? ⟨b, q * 28 + 14, none⟩ = some (.int .u8 f.got.b) ∧ w.cell? ⟨b, q * 28 + 15, none⟩ = some (.int .u8 f.got.c) ∧ w.cell? ⟨b, q * 28 + 16, none⟩ = some (.int .u8 f.got.d) ∧
    w.cell? ⟨b, q * 28 + 17, none⟩ = some (.int .u8 f.got.e) ∧ w.cell? ⟨b, q * 28 + 18, none⟩ = some (.int .u8 f.got.f) ∧ w.cell? ⟨b, q * 28 + 19, none⟩ = some (.int .u8 f.got.g) ∧ w.cell? ⟨b, q * 28 + 20, none⟩ = some (.int .u8 f.got.h) ∧
    w.cell? ⟨b, q * 28 + 27, none⟩ = some (.int .i8 f.k) := by
  have h : ∀ j c, f.cells[j]? = some c → w.cell? ⟨b, q * 28 + j, none⟩ = some c := fun j c hc => by
    have := hr q f hf j c hc
    rwa [Nat.zero_add] at this
  exact ⟨h 0 _ rfl, h 5 _ rfl, h 6 _ rfl, h 7 _ rfl, h 8 _ rfl, h 9 _ rfl, h 10 _ rfl, h 11 _ rfl, h 12 _ rfl, h 13 _ rfl, h 14 _ rfl, h 15 _ rfl, h 16 _ rfl, h 17 _ rfl, h 18 _ rfl, h 19 _ rfl, h 20 _ rfl, h 27 _ rfl⟩

theorem bad_take {fs : List Ft} {q : Nat} {f : Ft} (hf : fs[q]? = some f) : (fs.take (q + 1)).filter bad = (fs.take q).filter bad ++ (if f.want = f.got then [] else [f]) := by
  rw [List.take_add_one, hf, Option.toList_some, List.filter_append]
  congr 1
  by_cases h : f.want = f.got <;> simp [bad, h]

set_option maxRecDepth 100000 in
set_option maxHeartbeats 4000000 in
theorem wrong40_gen (l : List Sn) (v : Value) (w : World) (hl : l.length ≤ 100000) (hv : Sns w.heap.size w v l) :
    Calls Try.prog 40 #[v] w fun e w' => ∃ vo, e = .returned (.tuple #[vo, .int .i64 (erP l)]) ∧ w'.ownsRow w.heap.size 59 28 vo (fsP l).length ((fsP l).flatMap Ft.cells) ∧ Below w.heap.size w w' := by
  obtain ⟨i0, hi, hz0, hz1, hz2⟩ := info_parts Try.info59z
  have HC := Lib.hid (reads65_gen l v w hl hv)
  have hrl := rdP_length hl
  have hfs := fsP_rd l
  have HFS := Lib.hid hfs
  obtain ⟨va, vc, rfl, _, _⟩ := hv
  clear hfs
  generalize erP l = er at *
  generalize rdP l = rs at *
  go_enter Try.func40, Try.ntmps40
  go_wp2_with fail
  refine HC.out.mono ?_
  rintro e w2 ⟨vr, rfl, hrow, b2⟩
  obtain ⟨ra, rc, hvr, hft⟩ := FtRow.of_owns hrow
  subst hvr
  have HROW := Lib.hid hft
  have HB2 := Lib.hid b2
  clear hrow b2 hft HC
  go_wp2_with fail
  go_loopw [6, 7] (fun vo io wr => ∃ q : Nat, q ≤ rs.length ∧ io = .int .i64 q ∧ Below w2.heap.size w2 wr ∧ wr.ownsRow w2.heap.size 59 28 vo ((rs.take q).filter bad).length (((rs.take q).filter bad).flatMap Ft.cells)) (fun _ io _ => rs.length - (intOf io).toNat)
  case atStart => exact ⟨0, Nat.zero_le _, rfl, Below.refl _ _, World.ownsRow_nil _ _ _ _⟩
  case round =>
    obtain ⟨q, hq, rfl, hB, hO⟩ := hrel
    have HB := Lib.hid hB
    have HO := Lib.hid hO
    clear hB hO
    by_cases hlt : q < rs.length
    · obtain ⟨f, hf⟩ : ∃ f, rs[q]? = some f := ⟨_, List.getElem?_eq_getElem hlt⟩
      obtain ⟨g, rfl, hg, hr⟩ := HROW.out q f hf
      have hr2 := hr.below hg HB.out
      obtain ⟨d0, d5, d6, d7, d8, d9, d10, d11, d12, d13, d14, d15, d16, d17, d18, d19, d20, d27⟩ := ftr_at hr2 hf
      have hq8 := fun w => neq_v8 f.want f.got w
      have hqi : (q : Int) < (rs.length : Int) := by omega
      have hst := bad_take hf
      have HLD : Hid (∀ W, Below wr.heap.size wr W → (loadVar 59 ⟨g, q * 28, none⟩).run Try.prog W = .ok (.agg (ftArr f)) W) := Lib.hid (fun W hW => by
        have h := ld_ft_row (hr2.below (Nat.lt_of_lt_of_le hg HB.out.size) hW) hf
        rwa [Nat.zero_add] at h)
      have HLT := Lib.hid hlt
      clear hr hr2 hf d0 d27 hlt
      by_cases hne : f.want = f.got
      · have hd : decide (f.want = f.got) = true := by simpa using hne
        rw [if_pos hne, List.append_nil] at hst
        have HST := Lib.hid hst
        clear hne hst
        go_wp2_with fail
        go_quiet (fail)
        go_wp2_with fail
        go_roundw
        case rel => exact ⟨q + 1, by have := HLT.out; omega, by go_num, Below.drewN' HB.out _, by rw [HST.out]; exact owns_below HO.out (Below.drewN' (Below.refl _ _) _)⟩
        case measure => have := HLT.out; simp [intOf]; omega
      · have hd : decide (f.want = f.got) = false := by simpa using hne
        rw [if_neg hne] at hst
        have hln : ((rs.take q).filter bad).length ≤ 10000000000 := Nat.le_trans (List.length_filter_le _ _) (by rw [List.length_take]; omega)
        have HST := Lib.hid hst
        have HLN := Lib.hid hln
        clear hne hst hln
        generalize hos : (rs.take q).filter bad = os at *
        clear hos
        go_wp2_with fail
        go_quiet (fail)
        go_upto_region 7 with (fail)
        obtain ⟨w3, hw3⟩ : ∃ w3, wr.drewN nq = w3 := ⟨_, rfl⟩
        have hb3 : Below wr.heap.size wr w3 := hw3 ▸ Below.drewN' (Below.refl _ _) nq
        have HB3 := Lib.hid (HB.out.trans (hb3.mono HB.out.size))
        have HLD3 := Lib.hid (HLD.out w3 hb3)
        have HO3 := Lib.hid (owns_below HO.out hb3)
        rw [hw3]
        clear hw3 hb3 d5 d6 d7 d8 d9 d10 d11 d12 d13 d14 d15 d16 d17 d18 d19 d20 hq8 hd HO
        have hln := HLN.out
        go_wp2_with (first | (refine wpList_load rfl 59 (.tmp 33) rfl ⟨g, q * 28, none⟩ rfl (.agg (ftArr f)) HLD3.out ?_) | (refine wpList_buildF rfl (.tmp 34) rfl f rfl ?_) | (at_builtin; refine wpList_append_own _ rfl (.tmp 30) (.tmp 35) 55 rfl w2.heap.size 59 i0 (.agg (ftArr ftz)) 28 112 Try.underlying55 hi hz0 hz1 hz2 rfl (by decide) u6 os.length (os.flatMap Ft.cells) rfl (HO3.out.alloc _) ⟨w3.heap.size, 0, none⟩ 1 1 f.cells rfl rfl (ft_news (heap_alloc_new w3 _)) (Ft.cells_one _) (by unfold maxLen; omega) (by omega) (by have := HB3.out.size; simp; omega) ?_; intro v9 w9 hown9 hg9 _))
        have HO9 := Lib.hid hown9
        have HB9 : Hid (Below w2.heap.size w2 w9) := Lib.hid ((HB3.out.alloc HB3.out.size _).grown hg9 (by have := HB3.out.size; simp; omega) (fun k e => (HO3.out.lt k e).1))
        clear hown9 hg9
        go_roundw
        case rel => exact ⟨q + 1, by have := HLT.out; omega, by go_num, HB9.out, by rw [HST.out]; have := HO9.out; simpa using this⟩
        case measure => have := HLT.out; simp [intOf]; omega
    · obtain rfl : q = rs.length := by omega
      have HR : Hid (wr.ownsRow w.heap.size 59 28 u6 (fsP l).length ((fsP l).flatMap Ft.cells)) := Lib.hid (by
        have h1 := HO.out
        rw [List.take_length, ← HFS.out] at h1
        exact owns_base h1 HB2.out.size)
      go_wp2_with fail
      go_ret2
      exact ⟨_, rfl, HR.out, HB2.out.trans (HB.out.mono HB2.out.size)⟩

/-! ### Mend -/

theorem wpList_append_hist {ops : Array Oper} {rest : List Oper} {o : Oper} {a : Act} {w : World} {Q : Exit → Act → World → Prop} (hgd : o.guard = none) (s x : Operand) (ho : o.op = .call { callee := .builtin .append, args := #[s, x], argTypes := #[25, 25] }) (hty : o.type = 25) (base g : Nat)
    (hs : a.eval s = .slice (some ⟨g, 0, none⟩) 0 0) (hown : w.ownsRow base 36 14 (.slice (some ⟨g, 0, none⟩) 0 0) 0 []) (l : List Sn) (v : Value) (hx : a.eval x = v) (hv : Sns w.heap.size w v l) (hl : l.length ≤ 100000) (hbase : base ≤ w.heap.size)
    (h : ∀ v' w', w'.ownsRow base 36 14 v' l.length (l.flatMap Sn.cells) → w.grownBy w' (some g) → wpList Try.prog ops Q rest (a.put o.dst v') w') : wpList Try.prog ops Q (o :: rest) a w :=
  wpList_plain hgd fun _ hK => wp_append_hist s x ho hty base g hs hown l v hx hv hl hbase fun v' w' h1 h2 => hK _ _ (h v' w' h1 h2)

set_option maxRecDepth 100000 in
set_option maxHeartbeats 4000000 in
theorem mend34_err (l : List Sn) (v : Value) (w : World) (hl : l.length ≤ 100000) (hv : Sns w.heap.size w v l) (hm : mayP l = false) :
    Calls Try.prog 34 #[v] w fun e w' => e = .returned (.tuple #[slNil, .int .i64 2]) ∧ Below w.heap.size w w' := by
  have HC := Lib.hid (wrong40_gen l v w hl hv)
  have he : erP l = 2 := by simp [erP, hm]
  rw [he] at HC
  have hfl := fsP_length hl
  obtain ⟨va, vc, rfl, _, _⟩ := hv
  clear he hm
  go_enter Try.func34, Try.ntmps34
  go_wp2_with fail
  refine HC.out.mono ?_
  rintro e w2 ⟨vr, rfl, hrow, b2⟩
  have HB2 := Lib.hid b2
  clear hrow b2 HC
  go_wp2_with fail
  go_ret2
  exact ⟨rfl, HB2.out⟩

set_option maxRecDepth 100000 in
set_option maxHeartbeats 8000000 in
theorem mend34_ok (l : List Sn) (v : Value) (w : World) (hl : l.length ≤ 100000) (hv : Sns w.heap.size w v l) (hm : mayP l = true) :
    Calls Try.prog 34 #[v] w fun e w' => ∃ vo, e = .returned (.tuple #[vo, .int .i64 0]) ∧ w'.ownsRow w.heap.size 36 14 vo (mendP l).length ((mendP l).flatMap Sn.cells) ∧ Below w.heap.size w w' := by
  have HC := Lib.hid (wrong40_gen l v w hl hv)
  have he : erP l = 0 := by simp [erP, hm]
  have hf : fsP l = wrongP l := by simp [fsP, hm]
  rw [he, hf] at HC
  have hwl : (wrongP l).length ≤ 10000000000 := Nat.le_trans (List.length_filter_le _ _) (reads_length hl)
  have HM := Lib.hid hm
  have HV := Lib.hid hv
  obtain ⟨va, vc, rfl, _, _⟩ := hv
  clear he hf hm
  go_enter Try.func34, Try.ntmps34
  go_wp2_with fail
  refine HC.out.mono ?_
  rintro e w2 ⟨vr, rfl, hrow, b2⟩
  obtain ⟨ra, rc, hvr, hft⟩ := FtRow.of_owns hrow
  subst hvr
  have HROW := Lib.hid hft
  have HB2 := Lib.hid b2
  have HV2 : Hid (Sns (w2.alloc (.cells #[] 36)).heap.size (w2.alloc (.cells #[] 36)) (.slice va l.length vc) l) := Lib.hid ((HV.out.below (b2.alloc b2.size _)).mono (by have := b2.size; simp; omega))
  have HMD : Hid ((w2.alloc (.cells #[] 36)).ownsRow w2.heap.size 36 14 (.slice (some ⟨w2.heap.size, 0, none⟩) 0 0) 0 []) := Lib.hid (World.ownsRow_made w2 #[] 0 (Nat.le_refl _) (by unfold maxLen; omega) rfl)
  clear hrow b2 hft HC
  go_wp2_with (at_builtin; refine wpList_append_hist rfl (.tmp 16) (.tmp 17) rfl rfl w2.heap.size w2.heap.size rfl HMD.out l _ rfl HV2.out hl (by simp) ?_; intro v3 w3 hown3 hg3)
  have hb3 : Below w2.heap.size w2 w3 := (below_alloc1 _).grown hg3 (by simp) (fun k e => by cases e; exact Nat.le_refl _)
  obtain ⟨a9, c9, rfl⟩ := ownsRow_slice hown3
  have HOWN := Lib.hid hown3
  have HB3 := Lib.hid hb3
  clear hown3 hg3 hb3 HV2 HMD
  go_wp2_with fail
  go_loopw [7] (fun io wr => ∃ (q : Nat) (m : List Sn), q ≤ (wrongP l).length ∧ io = .int .i64 q ∧ Below w2.heap.size w2 wr ∧ m.length = l.length ∧ wr.ownsRow w2.heap.size 36 14 (.slice a9 l.length c9) m.length (m.flatMap Sn.cells) ∧ ((wrongP l).drop q).foldl mendOne m = mendP l) (fun io _ => (wrongP l).length - (intOf io).toNat)
  case atStart => exact ⟨0, l, Nat.zero_le _, rfl, HB3.out, rfl, HOWN.out, rfl⟩
  case round =>
    obtain ⟨q, m, hq, rfl, hB, hml, hown, hmd⟩ := hrel
    have HB := Lib.hid hB
    have HO := Lib.hid hown
    have HMD := Lib.hid hmd
    have HML := Lib.hid hml
    clear hB hown hmd hml
    by_cases hlt : q < (wrongP l).length
    · obtain ⟨f, hf⟩ : ∃ f, (wrongP l)[q]? = some f := ⟨_, List.getElem?_eq_getElem hlt⟩
      obtain ⟨i, x0, hbl⟩ := blame_ok HM.out (List.mem_of_getElem? hf)
      obtain ⟨b, rfl, hb, hr⟩ := HROW.out q f hf
      have hil : i < l.length := (List.getElem?_eq_some_iff.1 hbl.hx).1
      obtain ⟨x, hx⟩ : ∃ x, m[i]? = some x := ⟨_, List.getElem?_eq_getElem (by have := HML.out; omega)⟩
      have hfi := hbl.at_
      have hone : mendOne m f = m.set i { x with v := f.want } := by
        unfold mendOne
        have : f.i.toNat = i := by omega
        rw [this, hx]
      have hmn : ((wrongP l).drop (q + 1)).foldl mendOne (m.set i { x with v := f.want }) = mendP l := by
        obtain ⟨h1, h2⟩ := List.getElem?_eq_some_iff.1 hf
        rw [← HMD.out, List.drop_eq_getElem_cons h1, h2, List.foldl_cons, hone]
      obtain ⟨w5, hw5⟩ : ∃ w5, wr.drew = w5 := ⟨_, rfl⟩
      have hb5 : Below wr.heap.size wr w5 := hw5 ▸ (Below.refl _ _).drew
      obtain ⟨d0, d5, d6, d7, d8, d9, d10, d11, d12, d13, d14, d15, d16, d17, d18, d19, d20, d27⟩ := ftr_at (hr.below hb HB.out) hf
      rw [hfi] at d0
      obtain ⟨g, c8, hg8, hgb, w6, hst, hgr, hown6⟩ := owns_set (owns_below HO.out hb5) hx f.want
      injection hg8 with e1 e2 e3
      subst e1 e3
      clear e2
      have hqi : (q : Int) < ((wrongP l).length : Int) := by omega
      have hii : (i : Int) < (l.length : Int) := by omega
      have HMN := Lib.hid hmn
      have HST := Lib.hid hst
      have HGR := Lib.hid hgr
      have HO6 := Lib.hid hown6
      have HGB := Lib.hid hgb
      have HB5 := Lib.hid (HB.out.trans (hb5.mono HB.out.size))
      have HW5 := Lib.hid hw5
      have HLT := Lib.hid hlt
      have HRR := Lib.hid (And.intro hf hr)
      have HFI := Lib.hid hfi
      clear hmn hst hgr hown6 hgb hone hbl hf hr hfi d13 d14 d15 d16 d17 d18 d19 d20 d27 hw5 hb5 hlt hx
      go_upto_region 8 with (fail)
      go_still_tail 13, (by kernel_rfl)
      change wpList _ _ _ _ _ wr.drew
      rw [HW5.out]
      clear d0 d5 d6 d7 d8 d9 d10 d11 d12
      go_wp2_with (refine wpList_store rfl 23 (.tmp 37) (.tmp 35) rfl ⟨g, i * 14 + 5, none⟩ rfl (v8Val f.want) rfl HST.out ?_)
      go_roundw
      case rel =>
        have h5 := HO6.out
        have hset : (m.set i { x with v := f.want }).length = m.length := by simp
        exact ⟨q + 1, m.set i { x with v := f.want }, by have := HLT.out; omega, by go_num, HB5.out.grown HGR.out HB5.out.size (fun k e => by cases e; exact HGB.out), by rw [hset]; exact HML.out, by rw [hset]; rwa [HML.out] at h5 ⊢, HMN.out⟩
      case measure => have := HLT.out; simp [intOf]; omega
    · obtain rfl : q = (wrongP l).length := by omega
      have hmm : m = mendP l := by
        have h1 := HMD.out
        rw [List.drop_length] at h1
        exact h1
      have hO := HO.out
      rw [hmm] at hO
      have HO2 := Lib.hid (owns_base hO HB2.out.size)
      have HBF := Lib.hid (HB2.out.trans (HB.out.mono HB2.out.size))
      clear hmm hO
      go_wp2_with fail
      go_ret2
      exact ⟨_, rfl, HO2.out, HBF.out⟩

end Go.Proofs.Ytgdmgeihgkbjaaa
