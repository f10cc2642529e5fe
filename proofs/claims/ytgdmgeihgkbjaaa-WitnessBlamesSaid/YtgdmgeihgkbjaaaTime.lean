/- 'cashboxlaw27.OrderTime' -/
import Derived.Test.YtgdmgeihgkbjaaaWake27
import Derived.Test.YtgdmgeihgkbjaaaDraw2
namespace Go.Proofs.Ytgdmgeihgkbjaaa
open Go.RowKit Go.Shelf

/-- A slice of the call's own, read. -/
theorem rows_of_owns {α : Type} {enc : α → List Value} {k : Nat} (hk : ∀ x, (enc x).length = k) {W : World} {base : Nat} {e : TypeId} {v : Value} {l : List α} (h : W.ownsRow base e k v l.length (l.flatMap enc)) : Rows enc k W.heap.size W v l := by
  rcases h.2 with ⟨rfl, h0⟩ | ⟨g, cap, cur, rfl, hb, hg, hn, hc, hcs, ht⟩
  · have : l = [] := List.length_eq_zero_iff.1 h0
    subst this
    exact Rows.nil _ _ _ _
  · refine ⟨_, cap, rfl, (fun h => by cases h), fun b off s e _ => ?_⟩
    cases e
    refine ⟨rfl, lt_of_heap hg, fun i x hx j c hc2 => ?_⟩
    have hj : j < k := by
      have := (List.getElem?_eq_some_iff.1 hc2).1
      rwa [hk] at this
    have hi : i < l.length := (List.getElem?_eq_some_iff.1 hx).1
    have hlt : i * k + j < l.length * k := by
      have := Nat.mul_le_mul_right k hi
      rw [Nat.succ_mul] at this
      omega
    have := flat_get hk l i x hx j hj
    rw [← ht, List.getElem?_take, if_pos hlt, hc2] at this
    rw [cell_of_row W g _ cur e (0, 0) hg, Nat.zero_add]
    simpa using this

def nmAt (w : World) (b o : Nat) (n : Nm) : Prop :=
  w.cell? ⟨b, o, none⟩ = some (.int .i64 n.s) ∧ w.cell? ⟨b, o + 1, none⟩ = some (.int .i64 n.i) ∧ w.cell? ⟨b, o + 2, none⟩ = some (.int .i64 n.t)

theorem RowsAt.nm {w : World} {b off : Nat} {l : List Nm} (h : RowsAt Nm.cells 3 w b off l) {q : Nat} {n : Nm} (hx : l[q]? = some n) : nmAt w b (off + q * 3) n :=
  ⟨h q n hx 0 _ rfl, h q n hx 1 _ rfl, h q n hx 2 _ rfl⟩

/-- The same, in every world behind. -/
def NmIn (w : World) (b o : Nat) (n : Nm) : Prop := ∀ W, Below w.heap.size w W → nmAt W b o n

theorem RowsAt.nmIn {B : Nat} {w : World} {b off : Nat} {l : List Nm} (h : RowsAt Nm.cells 3 w b off l) (hb : b < B) (hB : B = w.heap.size) {q : Nat} {n : Nm} (hx : l[q]? = some n) : NmIn w b (off + q * 3) n :=
  fun _ hW => (h.below hb (hB ▸ hW)).nm hx

theorem NmIn.eq {w W : World} {b o : Nat} {n : Nm} (h : NmIn w b o n) (hW : Below w.heap.size w W) : W.cell? ⟨b, o, none⟩ = some (.int .i64 n.s) ∧ W.cell? ⟨b, o + 1, none⟩ = some (.int .i64 n.i) ∧ W.cell? ⟨b, o + 2, none⟩ = some (.int .i64 n.t) := h W hW

set_option maxRecDepth 100000 in
set_option maxHeartbeats 6000000 in
theorem time_any (l : List Sn) (v : Value) (w : World) (hv : Sns w.heap.size w v l) :
    Calls Try.prog 5 #[v] w fun e w' => e = .returned (.bool true) ∧ Below w.heap.size w w' := by
  have HV := Lib.hid hv
  obtain ⟨a, cap, rfl, hn, ha⟩ := hv
  have HN := Lib.hid hn
  have HA := Lib.hid ha
  clear hn ha
  by_cases hl : 200 < l.length
  · go_enter Try.func5, Try.ntmps5
    go_wp2_with fail
    refine (wakes27_any _).mono ?_
    rintro e w1 ⟨rfl, b1⟩
    go_wp2_with fail
    go_ret
    exact ⟨rfl, b1⟩
  · have hl' : l.length ≤ 200 := by omega
    have HL : Hid (l.length ≤ 100000) := by show _ ≤ _; omega
    clear hl
    go_enter Try.func5, Try.ntmps5
    go_wp2_with fail
    refine (order_any l _ w HL.out HV.out).mono ?_
    rintro e w1 ⟨h, b1⟩
    rcases h with ⟨hm, rfl⟩ | ⟨hm, nv, rfl, hown⟩
    · have HM := Lib.hid hm
      have B1 := Lib.hid b1
      clear hm b1
      go_wp2_with fail
      refine (may22_any l _ w1 HL.out ((HV.out.below B1.out).mono B1.out.size)).mono ?_
      rintro e w2 ⟨rfl, b2⟩
      rw [HM.out]
      have B2 := Lib.hid (B1.out.trans (b2.mono B1.out.size))
      clear b2
      go_wp2_with fail
      refine (wakes27_any _).mono ?_
      rintro e w3 ⟨rfl, b3⟩
      have B3 := Lib.hid (B2.out.trans (b3.mono B2.out.size))
      clear b3
      go_wp2_with fail
      go_ret
      exact ⟨rfl, B3.out⟩
    · have hnr := rows_of_owns (enc := Nm.cells) (k := 3) (fun _ => rfl) hown
      have hlen : (ordR l).length = l.countP fun x => decide (x.k = 5) := ordR_length hm
      have hle := ordR_le l
      have HM := Lib.hid hm
      have B1 := Lib.hid b1
      have HLEN := Lib.hid hlen
      have HV1 : Hid (Sns w1.heap.size w1 (.slice a l.length cap) l) := (HV.out.below b1).mono b1.size
      obtain ⟨na, ncap, rfl, nn, nh⟩ := hnr
      have NN := Lib.hid nn
      have NH := Lib.hid nh
      have hnl : (ordR l).length ≤ 200 := by omega
      have ONE : Hid (∀ (i k : Nat) (ni nk : Nm), (ordR l)[i]? = some ni → (ordR l)[k]? = some nk → k < i → ¬ ni = nk ∧ firstAt 3 nk l 0 < firstAt 3 ni l 0 ∧ (aheadP l ni nk && ansP l ni) = false) := by
        intro i k ni nk hi hk hki
        have hs := ordR_sorted hm
        have hlt : firstAt 3 nk l 0 < firstAt 3 ni l 0 := by
          obtain ⟨hi1, rfl⟩ := List.getElem?_eq_some_iff.1 hi
          obtain ⟨hk1, rfl⟩ := List.getElem?_eq_some_iff.1 hk
          exact List.pairwise_iff_getElem.1 hs k i hk1 hi1 hki
        refine ⟨fun e => by rw [e] at hlt; omega, hlt, ?_⟩
        cases hA : aheadP l ni nk && ansP l ni with
        | false => rfl
        | true =>
          exfalso
          simp only [Bool.and_eq_true] at hA
          obtain ⟨h1, h2⟩ := hA
          simp only [aheadP, Bool.and_eq_true, decide_eq_true_eq] at h1
          have h3 := ansF_first _ _ _ _ h2
          exact order_time hm (done_commit hm ((mem_ordR hm).1 (List.mem_of_getElem? hk))) hlt h1.2 (by omega)
      clear hm b1 hown hlen nn nh hle
      go_wp2_with fail
      go_loopw [5, 34] (fun d i wr => ∃ q : Nat, q ≤ l.length ∧ i = .int .i64 q ∧ d = .int .i64 ((l.take q).countP fun x => decide (x.k = 5) : Nat) ∧ Below w1.heap.size w1 wr) (fun _ i _ => l.length - (intOf i).toNat)
      case atStart => exact ⟨0, Nat.zero_le _, rfl, rfl, Below.refl _ _⟩
      case round =>
        obtain ⟨q, hq, rfl, rfl, hB⟩ := hrel
        by_cases hlt : q < l.length
        · obtain ⟨x, hx⟩ : ∃ x, l[q]? = some x := ⟨_, List.getElem?_eq_getElem hlt⟩
          obtain ⟨b, off, rfl, hb, hr⟩ := rows_some HN.out HA.out hlt
          obtain ⟨c0, c1, c2, c3, c4, c5, c6, c7, c8, c9, c10, c11, c12, c13⟩ := (hr.below hb (B1.out.trans (hB.mono B1.out.size))).sn hx
          have hct : (l.take (q + 1)).countP (fun x => decide (x.k = 5)) = (l.take q).countP (fun x => decide (x.k = 5)) + if x.k = 5 then 1 else 0 := by
            rw [List.take_add_one, hx, List.countP_append]
            by_cases h : x.k = 5 <;> simp [h]
          have hcle : (l.take q).countP (fun x => decide (x.k = 5)) ≤ 200 := Nat.le_trans List.countP_le_length (by simp; omega)
          have HB := Lib.hid hB
          have HCT := Lib.hid hct
          clear hr hx hB hct
          by_cases hk : x.k = 5
          · have e1 : (x.k == 5) = true := by simp [hk]
            have HK := Lib.hid hk
            clear hk
            generalize (l.take q).countP (fun x => decide (x.k = 5)) = cnt at *
            go_wp2_with fail
            go_roundw
            case rel => exact ⟨q + 1, by omega, by go_num, by rw [HCT.out, if_pos HK.out]; go_num, HB.out.alloc HB.out.size _⟩
            case measure => simp [intOf]; omega
          · have e1 : (x.k == 5) = false := by simp [hk]
            have HK := Lib.hid hk
            clear hk
            generalize (l.take q).countP (fun x => decide (x.k = 5)) = cnt at *
            go_wp2_with fail
            go_roundw
            case rel => exact ⟨q + 1, by omega, by go_num, by rw [HCT.out, if_neg HK.out]; rfl, HB.out.alloc HB.out.size _⟩
            case measure => simp [intOf]; omega
        · obtain rfl : q = l.length := by omega
          have hcnt : (l.take l.length).countP (fun x => decide (x.k = 5)) = (ordR l).length := by rw [List.take_length]; exact HLEN.out.symm
          rw [hcnt]
          have HB := Lib.hid hB
          clear hB hcnt
          go_wp2_with fail
          go_loopw [46] (fun io wo => ∃ i : Nat, i ≤ (ordR l).length ∧ io = .int .i64 i ∧ Below w1.heap.size w1 wo) (fun io _ => (ordR l).length - (intOf io).toNat)
          case atStart => exact ⟨0, Nat.zero_le _, rfl, HB.out⟩
          case round =>
            obtain ⟨wo, rfl⟩ : ∃ wo : World, wo = wr := ⟨_, rfl⟩
            obtain ⟨i, hi, rfl, hBo⟩ := hrel
            by_cases hil : i < (ordR l).length
            · obtain ⟨ni, hni0⟩ : ∃ ni, (ordR l)[i]? = some ni := ⟨_, List.getElem?_eq_getElem hil⟩
              obtain ⟨b, off, rfl, hb, hr⟩ := rows_some NN.out NH.out hil
              have HR := Lib.hid hr
              have HNI0 := Lib.hid hni0
              have HBo := Lib.hid hBo
              clear hr hni0 hBo
              go_wp2_with fail
              go_loopw [9] (fun ko wi => ∃ k : Nat, k ≤ i ∧ ko = .int .i64 k ∧ Below w1.heap.size w1 wi) (fun ko _ => i - (intOf ko).toNat)
              case atStart => exact ⟨0, Nat.zero_le _, rfl, HBo.out⟩
              case round =>
                obtain ⟨wi, rfl⟩ : ∃ wi : World, wi = wr := ⟨_, rfl⟩
                obtain ⟨k, hk, rfl, hBi⟩ := hrel
                by_cases hki : k < i
                · obtain ⟨nk, hnk0⟩ : ∃ nk, (ordR l)[k]? = some nk := ⟨_, List.getElem?_eq_getElem (by omega)⟩
                  obtain ⟨hne, hcl, hAA⟩ := ONE.out i k ni nk HNI0.out hnk0 hki
                  have hri := (HR.out.below hb hBi)
                  have hbi : b < wi.heap.size := Nat.lt_of_lt_of_le hb hBi.size
                  have hni := hri.nmIn hbi rfl HNI0.out
                  have hnk := hri.nmIn hbi rfl hnk0
                  have hsv : Sns wi.heap.size wi (.slice a l.length cap) l := (HV1.out.below hBi).mono hBi.size
                  have hge : decide (firstAt 3 nk l 0 ≥ firstAt 3 ni l 0) = false := by simp; omega
                  have hkl : k < (ordR l).length := by omega
                  have hll := HL.out
                  have HBI := Lib.hid hBi
                  clear hBi hri hnk0 hcl
                  go_wp2_with fail
                  cases hAH : aheadP l ni nk
                  · have hAhead : ∀ Wx, Below wi.heap.size wi Wx → Calls Try.prog 24 #[.slice a l.length cap, .agg #[.int .i64 ni.s, .int .i64 ni.i, .int .i64 ni.t], .agg #[.int .i64 nk.s, .int .i64 nk.i, .int .i64 nk.t]] Wx fun e w' => e = .returned (.bool false) ∧ Below Wx.heap.size Wx w' :=
                      fun Wx hT => hAH ▸ ahead_any l _ ni nk Wx hll ((hsv.below hT).mono hT.size)
                    clear hAA hAH
                    -- BEGIN TA
                    refine wp_region_frame mixed (by kernel_rfl) [(0, 54, .slice (some ⟨b, off, none⟩) (ordR l).length ncap), (1, 55, .int .i64 i), (2, 56, .pointer (some ⟨b, off + i * 3, none⟩)), (3, 57, .agg #[.int .i64 ni.s, .int .i64 ni.i, .int .i64 ni.t]), (4, 58, .slice (some ⟨b, off, none⟩) (ordR l).length ncap), (5, 59, .int .i64 k), (6, 60, .pointer (some ⟨b, off + k * 3, none⟩)), (7, 61, .agg #[.int .i64 nk.s, .int .i64 nk.i, .int .i64 nk.t]), (8, 62, .bool false), (9, 63, .bool false), (10, 64, .slice a l.length cap), (11, 65, .slice (some ⟨b, off, none⟩) (ordR l).length ncap), (12, 66, .int .i64 k), (13, 67, .pointer (some ⟨b, off + k * 3, none⟩)), (14, 68, .agg #[.int .i64 nk.s, .int .i64 nk.i, .int .i64 nk.t]), (15, 69, .int .i64 (firstAt 3 nk l 0)), (16, 70, .slice a l.length cap), (17, 71, .slice (some ⟨b, off, none⟩) (ordR l).length ncap), (18, 72, .int .i64 i), (19, 73, .pointer (some ⟨b, off + i * 3, none⟩)), (20, 74, .agg #[.int .i64 ni.s, .int .i64 ni.i, .int .i64 ni.t]), (21, 75, .int .i64 (firstAt 3 ni l 0)), (22, 76, .bool false), (23, 77, .bool false), (24, 78, .bool false), (25, 79, .slice a l.length cap), (26, 80, .slice (some ⟨b, off, none⟩) (ordR l).length ncap), (27, 81, .int .i64 i), (28, 82, .pointer (some ⟨b, off + i * 3, none⟩)), (29, 83, .agg #[.int .i64 ni.s, .int .i64 ni.i, .int .i64 ni.t]), (30, 84, .slice (some ⟨b, off, none⟩) (ordR l).length ncap), (31, 85, .int .i64 k), (32, 86, .pointer (some ⟨b, off + k * 3, none⟩)), (33, 87, .agg #[.int .i64 nk.s, .int .i64 nk.i, .int .i64 nk.t]), (34, 88, .bool false), (35, 89, .bool false), (36, 90, undef), (37, 91, undef), (38, 92, undef), (39, 93, undef), (40, 94, undef), (41, 95, undef), (42, 96, .bool false), (43, 97, .bool false)] (fun L Wx => Below wi.heap.size wi Wx) ?_ ?_ (by rfl) (by rfl) ?_
                    · exact (Below.refl _ _).drew
                    · intro a0 ps ha0 hps
                      have hsz : a0.tmps.size = 106 := by rw [ha0]; rfl
                      have u0 : a0.tmps[0]? = some (.slice a l.length cap) := by rw [ha0]; rfl
                      have u3 : a0.tmps[3]? = some (.slice (some ⟨b, off, none⟩) (ordR l).length ncap) := by rw [ha0]; rfl
                      have u8 : a0.tmps[8]? = some (.int .i64 i) := by rw [ha0]; rfl
                      have u9 : a0.tmps[9]? = some (.int .i64 k) := by rw [ha0]; rfl
                      have n0 : slotOf ps 0 = none := by rw [hps]; rfl
                      have n3 : slotOf ps 3 = none := by rw [hps]; rfl
                      have n8 : slotOf ps 8 = none := by rw [hps]; rfl
                      have n9 : slotOf ps 9 = none := by rw [hps]; rfl
                      have k54 : slotOf ps 54 = some (0, .slice (some ⟨b, off, none⟩) (ordR l).length ncap) := by rw [hps]; rfl
                      have q54 : keysOK ps 0 54 = true := by rw [hps]; rfl
                      have k55 : slotOf ps 55 = some (1, .int .i64 i) := by rw [hps]; rfl
                      have q55 : keysOK ps 1 55 = true := by rw [hps]; rfl
                      have k56 : slotOf ps 56 = some (2, .pointer (some ⟨b, off + i * 3, none⟩)) := by rw [hps]; rfl
                      have q56 : keysOK ps 2 56 = true := by rw [hps]; rfl
                      have k57 : slotOf ps 57 = some (3, .agg #[.int .i64 ni.s, .int .i64 ni.i, .int .i64 ni.t]) := by rw [hps]; rfl
                      have q57 : keysOK ps 3 57 = true := by rw [hps]; rfl
                      have k58 : slotOf ps 58 = some (4, .slice (some ⟨b, off, none⟩) (ordR l).length ncap) := by rw [hps]; rfl
                      have q58 : keysOK ps 4 58 = true := by rw [hps]; rfl
                      have k59 : slotOf ps 59 = some (5, .int .i64 k) := by rw [hps]; rfl
                      have q59 : keysOK ps 5 59 = true := by rw [hps]; rfl
                      have k60 : slotOf ps 60 = some (6, .pointer (some ⟨b, off + k * 3, none⟩)) := by rw [hps]; rfl
                      have q60 : keysOK ps 6 60 = true := by rw [hps]; rfl
                      have k61 : slotOf ps 61 = some (7, .agg #[.int .i64 nk.s, .int .i64 nk.i, .int .i64 nk.t]) := by rw [hps]; rfl
                      have q61 : keysOK ps 7 61 = true := by rw [hps]; rfl
                      have k62 : slotOf ps 62 = some (8, .bool false) := by rw [hps]; rfl
                      have q62 : keysOK ps 8 62 = true := by rw [hps]; rfl
                      have k63 : slotOf ps 63 = some (9, .bool false) := by rw [hps]; rfl
                      have q63 : keysOK ps 9 63 = true := by rw [hps]; rfl
                      have k64 : slotOf ps 64 = some (10, .slice a l.length cap) := by rw [hps]; rfl
                      have q64 : keysOK ps 10 64 = true := by rw [hps]; rfl
                      have k65 : slotOf ps 65 = some (11, .slice (some ⟨b, off, none⟩) (ordR l).length ncap) := by rw [hps]; rfl
                      have q65 : keysOK ps 11 65 = true := by rw [hps]; rfl
                      have k66 : slotOf ps 66 = some (12, .int .i64 k) := by rw [hps]; rfl
                      have q66 : keysOK ps 12 66 = true := by rw [hps]; rfl
                      have k67 : slotOf ps 67 = some (13, .pointer (some ⟨b, off + k * 3, none⟩)) := by rw [hps]; rfl
                      have q67 : keysOK ps 13 67 = true := by rw [hps]; rfl
                      have k68 : slotOf ps 68 = some (14, .agg #[.int .i64 nk.s, .int .i64 nk.i, .int .i64 nk.t]) := by rw [hps]; rfl
                      have q68 : keysOK ps 14 68 = true := by rw [hps]; rfl
                      have k69 : slotOf ps 69 = some (15, .int .i64 (firstAt 3 nk l 0)) := by rw [hps]; rfl
                      have q69 : keysOK ps 15 69 = true := by rw [hps]; rfl
                      have k70 : slotOf ps 70 = some (16, .slice a l.length cap) := by rw [hps]; rfl
                      have q70 : keysOK ps 16 70 = true := by rw [hps]; rfl
                      have k71 : slotOf ps 71 = some (17, .slice (some ⟨b, off, none⟩) (ordR l).length ncap) := by rw [hps]; rfl
                      have q71 : keysOK ps 17 71 = true := by rw [hps]; rfl
                      have k72 : slotOf ps 72 = some (18, .int .i64 i) := by rw [hps]; rfl
                      have q72 : keysOK ps 18 72 = true := by rw [hps]; rfl
                      have k73 : slotOf ps 73 = some (19, .pointer (some ⟨b, off + i * 3, none⟩)) := by rw [hps]; rfl
                      have q73 : keysOK ps 19 73 = true := by rw [hps]; rfl
                      have k74 : slotOf ps 74 = some (20, .agg #[.int .i64 ni.s, .int .i64 ni.i, .int .i64 ni.t]) := by rw [hps]; rfl
                      have q74 : keysOK ps 20 74 = true := by rw [hps]; rfl
                      have k75 : slotOf ps 75 = some (21, .int .i64 (firstAt 3 ni l 0)) := by rw [hps]; rfl
                      have q75 : keysOK ps 21 75 = true := by rw [hps]; rfl
                      have k76 : slotOf ps 76 = some (22, .bool false) := by rw [hps]; rfl
                      have q76 : keysOK ps 22 76 = true := by rw [hps]; rfl
                      have k77 : slotOf ps 77 = some (23, .bool false) := by rw [hps]; rfl
                      have q77 : keysOK ps 23 77 = true := by rw [hps]; rfl
                      have k78 : slotOf ps 78 = some (24, .bool false) := by rw [hps]; rfl
                      have q78 : keysOK ps 24 78 = true := by rw [hps]; rfl
                      have k79 : slotOf ps 79 = some (25, .slice a l.length cap) := by rw [hps]; rfl
                      have q79 : keysOK ps 25 79 = true := by rw [hps]; rfl
                      have k80 : slotOf ps 80 = some (26, .slice (some ⟨b, off, none⟩) (ordR l).length ncap) := by rw [hps]; rfl
                      have q80 : keysOK ps 26 80 = true := by rw [hps]; rfl
                      have k81 : slotOf ps 81 = some (27, .int .i64 i) := by rw [hps]; rfl
                      have q81 : keysOK ps 27 81 = true := by rw [hps]; rfl
                      have k82 : slotOf ps 82 = some (28, .pointer (some ⟨b, off + i * 3, none⟩)) := by rw [hps]; rfl
                      have q82 : keysOK ps 28 82 = true := by rw [hps]; rfl
                      have k83 : slotOf ps 83 = some (29, .agg #[.int .i64 ni.s, .int .i64 ni.i, .int .i64 ni.t]) := by rw [hps]; rfl
                      have q83 : keysOK ps 29 83 = true := by rw [hps]; rfl
                      have k84 : slotOf ps 84 = some (30, .slice (some ⟨b, off, none⟩) (ordR l).length ncap) := by rw [hps]; rfl
                      have q84 : keysOK ps 30 84 = true := by rw [hps]; rfl
                      have k85 : slotOf ps 85 = some (31, .int .i64 k) := by rw [hps]; rfl
                      have q85 : keysOK ps 31 85 = true := by rw [hps]; rfl
                      have k86 : slotOf ps 86 = some (32, .pointer (some ⟨b, off + k * 3, none⟩)) := by rw [hps]; rfl
                      have q86 : keysOK ps 32 86 = true := by rw [hps]; rfl
                      have k87 : slotOf ps 87 = some (33, .agg #[.int .i64 nk.s, .int .i64 nk.i, .int .i64 nk.t]) := by rw [hps]; rfl
                      have q87 : keysOK ps 33 87 = true := by rw [hps]; rfl
                      have k88 : slotOf ps 88 = some (34, .bool false) := by rw [hps]; rfl
                      have q88 : keysOK ps 34 88 = true := by rw [hps]; rfl
                      have k89 : slotOf ps 89 = some (35, .bool false) := by rw [hps]; rfl
                      have q89 : keysOK ps 35 89 = true := by rw [hps]; rfl
                      have k90 : slotOf ps 90 = some (36, undef) := by rw [hps]; rfl
                      have q90 : keysOK ps 36 90 = true := by rw [hps]; rfl
                      have k91 : slotOf ps 91 = some (37, undef) := by rw [hps]; rfl
                      have q91 : keysOK ps 37 91 = true := by rw [hps]; rfl
                      have k92 : slotOf ps 92 = some (38, undef) := by rw [hps]; rfl
                      have q92 : keysOK ps 38 92 = true := by rw [hps]; rfl
                      have k93 : slotOf ps 93 = some (39, undef) := by rw [hps]; rfl
                      have q93 : keysOK ps 39 93 = true := by rw [hps]; rfl
                      have k94 : slotOf ps 94 = some (40, undef) := by rw [hps]; rfl
                      have q94 : keysOK ps 40 94 = true := by rw [hps]; rfl
                      have k95 : slotOf ps 95 = some (41, undef) := by rw [hps]; rfl
                      have q95 : keysOK ps 41 95 = true := by rw [hps]; rfl
                      have k96 : slotOf ps 96 = some (42, .bool false) := by rw [hps]; rfl
                      have q96 : keysOK ps 42 96 = true := by rw [hps]; rfl
                      have k97 : slotOf ps 97 = some (43, .bool false) := by rw [hps]; rfl
                      have q97 : keysOK ps 43 97 = true := by rw [hps]; rfl
                      clear ha0 hps
                      refine ⟨?_, ?_, ?_, ?_, ?_, ?_, ?_, ?_, ?_, ?_, ?_, ?_, ?_, ?_, ?_, ?_, ?_, ?_, ?_, ?_, ?_, ?_, ?_, ?_, ?_, ?_, ?_, ?_, ?_, ?_, ?_, ?_, ?_, ?_, ?_, ?_, ?_, ?_, ?_, ?_, ?_, ?_, ?_, ?_, trivial⟩
                      · rintro L _ Wx ⟨rfl, hT⟩ hcl hk hd
                        rw [if_pos (by simp [Region.wanted])]
                        refine op_value (v := .slice (some ⟨b, off, none⟩) (ordR l).length ncap) (w' := Wx) (by simp [execOp, go_sem, frame_tout (n3) u3]) ⟨frame_put (k54) (q54), ?_⟩
                        simpa [upd] using hT
                      · rintro L _ Wx ⟨rfl, hT⟩ hcl hk hd
                        rw [if_pos (by simp [Region.wanted])]
                        refine op_value (v := .int .i64 i) (w' := Wx) (by simp [execOp, go_sem, frame_tout (n8) u8]) ⟨frame_put (k55) (q55), ?_⟩
                        simpa [upd] using hT
                      · rintro L _ Wx ⟨rfl, hT⟩ hcl hk hd
                        have hL0 : L 0 = true := by have h := hd; simp [Region.binds] at h; simp [h]
                        have hL1 : L 1 = true := by have h := hd; simp [Region.binds] at h; simp [h]
                        rw [if_pos (by simp [Region.wanted])]
                        refine op_value (v := .pointer (some ⟨b, off + i * 3, none⟩)) (w' := Wx) (by simp [execOp, go_sem, frame_tmp (k54) hL0 (Nat.lt_of_lt_of_eq (by decide : 54 < 106) hsz.symm), frame_tmp (k55) hL1 (Nat.lt_of_lt_of_eq (by decide : 55 < 106) hsz.symm), hil]) ⟨frame_put (k56) (q56), ?_⟩
                        simpa [upd] using hT
                      · rintro L _ Wx ⟨rfl, hT⟩ hcl hk hd
                        have hL2 : L 2 = true := by have h := hd; simp [Region.binds] at h; simp [h]
                        rw [if_pos (by simp [Region.wanted])]
                        refine op_value (v := .agg #[.int .i64 ni.s, .int .i64 ni.i, .int .i64 ni.t]) (w' := Wx) (by simp [execOp, go_sem, frame_tmp (k56) hL2 (Nat.lt_of_lt_of_eq (by decide : 56 < 106) hsz.symm), (hni.eq hT).1, (hni.eq hT).2.1, (hni.eq hT).2.2]) ⟨frame_put (k57) (q57), ?_⟩
                        simpa [upd] using hT
                      · rintro L _ Wx ⟨rfl, hT⟩ hcl hk hd
                        rw [if_pos (by simp [Region.wanted])]
                        refine op_value (v := .slice (some ⟨b, off, none⟩) (ordR l).length ncap) (w' := Wx) (by simp [execOp, go_sem, frame_tout (n3) u3]) ⟨frame_put (k58) (q58), ?_⟩
                        simpa [upd] using hT
                      · rintro L _ Wx ⟨rfl, hT⟩ hcl hk hd
                        rw [if_pos (by simp [Region.wanted])]
                        refine op_value (v := .int .i64 k) (w' := Wx) (by simp [execOp, go_sem, frame_tout (n9) u9]) ⟨frame_put (k59) (q59), ?_⟩
                        simpa [upd] using hT
                      · rintro L _ Wx ⟨rfl, hT⟩ hcl hk hd
                        have hL4 : L 4 = true := by have h := hd; simp [Region.binds] at h; simp [h]
                        have hL5 : L 5 = true := by have h := hd; simp [Region.binds] at h; simp [h]
                        rw [if_pos (by simp [Region.wanted])]
                        refine op_value (v := .pointer (some ⟨b, off + k * 3, none⟩)) (w' := Wx) (by simp [execOp, go_sem, frame_tmp (k58) hL4 (Nat.lt_of_lt_of_eq (by decide : 58 < 106) hsz.symm), frame_tmp (k59) hL5 (Nat.lt_of_lt_of_eq (by decide : 59 < 106) hsz.symm), hkl]) ⟨frame_put (k60) (q60), ?_⟩
                        simpa [upd] using hT
                      · rintro L _ Wx ⟨rfl, hT⟩ hcl hk hd
                        have hL6 : L 6 = true := by have h := hd; simp [Region.binds] at h; simp [h]
                        rw [if_pos (by simp [Region.wanted])]
                        refine op_value (v := .agg #[.int .i64 nk.s, .int .i64 nk.i, .int .i64 nk.t]) (w' := Wx) (by simp [execOp, go_sem, frame_tmp (k60) hL6 (Nat.lt_of_lt_of_eq (by decide : 60 < 106) hsz.symm), (hnk.eq hT).1, (hnk.eq hT).2.1, (hnk.eq hT).2.2]) ⟨frame_put (k61) (q61), ?_⟩
                        simpa [upd] using hT
                      · rintro L _ Wx ⟨rfl, hT⟩ hcl hk hd
                        have hL3 : L 3 = true := by have h := hd; simp [Region.binds] at h; simp [h]
                        have hL7 : L 7 = true := by have h := hd; simp [Region.binds] at h; simp [h]
                        rw [if_pos (by simp [Region.wanted])]
                        refine op_value (v := .bool false) (w' := Wx) (by simp [execOp, go_sem, frame_tmp (k57) hL3 (Nat.lt_of_lt_of_eq (by decide : 57 < 106) hsz.symm), frame_tmp (k61) hL7 (Nat.lt_of_lt_of_eq (by decide : 61 < 106) hsz.symm), eql_nm, hne]) ⟨frame_put (k62) (q62), ?_⟩
                        simpa [upd] using hT
                      · rintro L _ Wx ⟨rfl, hT⟩ hcl hk hd
                        have hL8 : L 8 = true := by have h := hd; simp [Region.binds] at h; simp [h]
                        rw [if_pos (by simp [Region.wanted])]
                        refine op_value (v := .bool false) (w' := Wx) (by simp [execOp, go_sem, frame_tmp (k62) hL8 (Nat.lt_of_lt_of_eq (by decide : 62 < 106) hsz.symm)]) ⟨frame_put (k63) (q63), ?_⟩
                        simpa [upd] using hT
                      · rintro L _ Wx ⟨rfl, hT⟩ hcl hk hd
                        have hL9 : L 9 = true := by have h := hd; simp [Region.binds] at h; simp [h]
                        rw [if_pos (by simp [Region.wanted, yielded, frame_tmp (k63) hL9 (Nat.lt_of_lt_of_eq (by decide : 63 < 106) hsz.symm)])]
                        refine op_value (v := .slice a l.length cap) (w' := Wx) (by simp [execOp, go_sem, frame_tout (n0) u0]) ⟨frame_put (k64) (q64), ?_⟩
                        simpa [upd] using hT
                      · rintro L _ Wx ⟨rfl, hT⟩ hcl hk hd
                        have hL9 : L 9 = true := by have h := hd; simp [Region.binds] at h; simp [h]
                        rw [if_pos (by simp [Region.wanted, yielded, frame_tmp (k63) hL9 (Nat.lt_of_lt_of_eq (by decide : 63 < 106) hsz.symm)])]
                        refine op_value (v := .slice (some ⟨b, off, none⟩) (ordR l).length ncap) (w' := Wx) (by simp [execOp, go_sem, frame_tout (n3) u3]) ⟨frame_put (k65) (q65), ?_⟩
                        simpa [upd] using hT
                      · rintro L _ Wx ⟨rfl, hT⟩ hcl hk hd
                        have hL9 : L 9 = true := by have h := hd; simp [Region.binds] at h; simp [h]
                        rw [if_pos (by simp [Region.wanted, yielded, frame_tmp (k63) hL9 (Nat.lt_of_lt_of_eq (by decide : 63 < 106) hsz.symm)])]
                        refine op_value (v := .int .i64 k) (w' := Wx) (by simp [execOp, go_sem, frame_tout (n9) u9]) ⟨frame_put (k66) (q66), ?_⟩
                        simpa [upd] using hT
                      · rintro L _ Wx ⟨rfl, hT⟩ hcl hk hd
                        have hL9 : L 9 = true := by have h := hd; simp [Region.binds] at h; simp [h]
                        have hL11 : L 11 = true := by have h := hd; simp [Region.binds] at h; simp [h]
                        have hL12 : L 12 = true := by have h := hd; simp [Region.binds] at h; simp [h]
                        rw [if_pos (by simp [Region.wanted, yielded, frame_tmp (k63) hL9 (Nat.lt_of_lt_of_eq (by decide : 63 < 106) hsz.symm)])]
                        refine op_value (v := .pointer (some ⟨b, off + k * 3, none⟩)) (w' := Wx) (by simp [execOp, go_sem, frame_tmp (k65) hL11 (Nat.lt_of_lt_of_eq (by decide : 65 < 106) hsz.symm), frame_tmp (k66) hL12 (Nat.lt_of_lt_of_eq (by decide : 66 < 106) hsz.symm), hkl]) ⟨frame_put (k67) (q67), ?_⟩
                        simpa [upd] using hT
                      · rintro L _ Wx ⟨rfl, hT⟩ hcl hk hd
                        have hL9 : L 9 = true := by have h := hd; simp [Region.binds] at h; simp [h]
                        have hL13 : L 13 = true := by have h := hd; simp [Region.binds] at h; simp [h]
                        rw [if_pos (by simp [Region.wanted, yielded, frame_tmp (k63) hL9 (Nat.lt_of_lt_of_eq (by decide : 63 < 106) hsz.symm)])]
                        refine op_value (v := .agg #[.int .i64 nk.s, .int .i64 nk.i, .int .i64 nk.t]) (w' := Wx) (by simp [execOp, go_sem, frame_tmp (k67) hL13 (Nat.lt_of_lt_of_eq (by decide : 67 < 106) hsz.symm), (hnk.eq hT).1, (hnk.eq hT).2.1, (hnk.eq hT).2.2]) ⟨frame_put (k68) (q68), ?_⟩
                        simpa [upd] using hT
                      · rintro L _ Wx ⟨rfl, hT⟩ hcl hk hd
                        have hL9 : L 9 = true := by have h := hd; simp [Region.binds] at h; simp [h]
                        have hL10 : L 10 = true := by have h := hd; simp [Region.binds] at h; simp [h]
                        have hL14 : L 14 = true := by have h := hd; simp [Region.binds] at h; simp [h]
                        rw [if_pos (by simp [Region.wanted, yielded, frame_tmp (k63) hL9 (Nat.lt_of_lt_of_eq (by decide : 63 < 106) hsz.symm)])]
                        refine op_callP (f := 23) (args := #[.slice a l.length cap, .agg #[.int .i64 nk.s, .int .i64 nk.i, .int .i64 nk.t]]) (by simp [go_sem, frame_tmp (k64) hL10 (Nat.lt_of_lt_of_eq (by decide : 64 < 106) hsz.symm), frame_tmp (k68) hL14 (Nat.lt_of_lt_of_eq (by decide : 68 < 106) hsz.symm)]) (commits_any l _ nk Wx hll ((hsv.below hT).mono hT.size)) ?_
                        rintro e w' ⟨rfl, hb'⟩
                        refine ⟨_, rfl, frame_put (k69) (q69), ?_⟩
                        exact hT.trans (hb'.mono hT.size)
                      · rintro L _ Wx ⟨rfl, hT⟩ hcl hk hd
                        have hL9 : L 9 = true := by have h := hd; simp [Region.binds] at h; simp [h]
                        rw [if_pos (by simp [Region.wanted, yielded, frame_tmp (k63) hL9 (Nat.lt_of_lt_of_eq (by decide : 63 < 106) hsz.symm)])]
                        refine op_value (v := .slice a l.length cap) (w' := Wx) (by simp [execOp, go_sem, frame_tout (n0) u0]) ⟨frame_put (k70) (q70), ?_⟩
                        simpa [upd] using hT
                      · rintro L _ Wx ⟨rfl, hT⟩ hcl hk hd
                        have hL9 : L 9 = true := by have h := hd; simp [Region.binds] at h; simp [h]
                        rw [if_pos (by simp [Region.wanted, yielded, frame_tmp (k63) hL9 (Nat.lt_of_lt_of_eq (by decide : 63 < 106) hsz.symm)])]
                        refine op_value (v := .slice (some ⟨b, off, none⟩) (ordR l).length ncap) (w' := Wx) (by simp [execOp, go_sem, frame_tout (n3) u3]) ⟨frame_put (k71) (q71), ?_⟩
                        simpa [upd] using hT
                      · rintro L _ Wx ⟨rfl, hT⟩ hcl hk hd
                        have hL9 : L 9 = true := by have h := hd; simp [Region.binds] at h; simp [h]
                        rw [if_pos (by simp [Region.wanted, yielded, frame_tmp (k63) hL9 (Nat.lt_of_lt_of_eq (by decide : 63 < 106) hsz.symm)])]
                        refine op_value (v := .int .i64 i) (w' := Wx) (by simp [execOp, go_sem, frame_tout (n8) u8]) ⟨frame_put (k72) (q72), ?_⟩
                        simpa [upd] using hT
                      · rintro L _ Wx ⟨rfl, hT⟩ hcl hk hd
                        have hL9 : L 9 = true := by have h := hd; simp [Region.binds] at h; simp [h]
                        have hL17 : L 17 = true := by have h := hd; simp [Region.binds] at h; simp [h]
                        have hL18 : L 18 = true := by have h := hd; simp [Region.binds] at h; simp [h]
                        rw [if_pos (by simp [Region.wanted, yielded, frame_tmp (k63) hL9 (Nat.lt_of_lt_of_eq (by decide : 63 < 106) hsz.symm)])]
                        refine op_value (v := .pointer (some ⟨b, off + i * 3, none⟩)) (w' := Wx) (by simp [execOp, go_sem, frame_tmp (k71) hL17 (Nat.lt_of_lt_of_eq (by decide : 71 < 106) hsz.symm), frame_tmp (k72) hL18 (Nat.lt_of_lt_of_eq (by decide : 72 < 106) hsz.symm), hil]) ⟨frame_put (k73) (q73), ?_⟩
                        simpa [upd] using hT
                      · rintro L _ Wx ⟨rfl, hT⟩ hcl hk hd
                        have hL9 : L 9 = true := by have h := hd; simp [Region.binds] at h; simp [h]
                        have hL19 : L 19 = true := by have h := hd; simp [Region.binds] at h; simp [h]
                        rw [if_pos (by simp [Region.wanted, yielded, frame_tmp (k63) hL9 (Nat.lt_of_lt_of_eq (by decide : 63 < 106) hsz.symm)])]
                        refine op_value (v := .agg #[.int .i64 ni.s, .int .i64 ni.i, .int .i64 ni.t]) (w' := Wx) (by simp [execOp, go_sem, frame_tmp (k73) hL19 (Nat.lt_of_lt_of_eq (by decide : 73 < 106) hsz.symm), (hni.eq hT).1, (hni.eq hT).2.1, (hni.eq hT).2.2]) ⟨frame_put (k74) (q74), ?_⟩
                        simpa [upd] using hT
                      · rintro L _ Wx ⟨rfl, hT⟩ hcl hk hd
                        have hL9 : L 9 = true := by have h := hd; simp [Region.binds] at h; simp [h]
                        have hL16 : L 16 = true := by have h := hd; simp [Region.binds] at h; simp [h]
                        have hL20 : L 20 = true := by have h := hd; simp [Region.binds] at h; simp [h]
                        rw [if_pos (by simp [Region.wanted, yielded, frame_tmp (k63) hL9 (Nat.lt_of_lt_of_eq (by decide : 63 < 106) hsz.symm)])]
                        refine op_callP (f := 23) (args := #[.slice a l.length cap, .agg #[.int .i64 ni.s, .int .i64 ni.i, .int .i64 ni.t]]) (by simp [go_sem, frame_tmp (k70) hL16 (Nat.lt_of_lt_of_eq (by decide : 70 < 106) hsz.symm), frame_tmp (k74) hL20 (Nat.lt_of_lt_of_eq (by decide : 74 < 106) hsz.symm)]) (commits_any l _ ni Wx hll ((hsv.below hT).mono hT.size)) ?_
                        rintro e w' ⟨rfl, hb'⟩
                        refine ⟨_, rfl, frame_put (k75) (q75), ?_⟩
                        exact hT.trans (hb'.mono hT.size)
                      · rintro L _ Wx ⟨rfl, hT⟩ hcl hk hd
                        have hL9 : L 9 = true := by have h := hd; simp [Region.binds] at h; simp [h]
                        have hL15 : L 15 = true := by have h := hd; simp [Region.binds] at h; simp [h]
                        have hL21 : L 21 = true := by have h := hd; simp [Region.binds] at h; simp [h]
                        rw [if_pos (by simp [Region.wanted, yielded, frame_tmp (k63) hL9 (Nat.lt_of_lt_of_eq (by decide : 63 < 106) hsz.symm)])]
                        refine op_value (v := .bool false) (w' := Wx) (by simp [execOp, go_sem, frame_tmp (k69) hL15 (Nat.lt_of_lt_of_eq (by decide : 69 < 106) hsz.symm), frame_tmp (k75) hL21 (Nat.lt_of_lt_of_eq (by decide : 75 < 106) hsz.symm), hge]) ⟨frame_put (k76) (q76), ?_⟩
                        simpa [upd] using hT
                      · rintro L _ Wx ⟨rfl, hT⟩ hcl hk hd
                        have hL9 : L 9 = true := by have h := hd; simp [Region.binds] at h; simp [h]
                        have hL22 : L 22 = true := by have h := hd; simp [Region.binds] at h; simp [h]
                        rw [if_pos (by simp [Region.wanted])]
                        refine op_value (v := .bool false) (w' := Wx) (by simp [execOp, go_sem, frame_tmp (k63) hL9 (Nat.lt_of_lt_of_eq (by decide : 63 < 106) hsz.symm), frame_tmp (k76) hL22 (Nat.lt_of_lt_of_eq (by decide : 76 < 106) hsz.symm)]) ⟨frame_put (k77) (q77), ?_⟩
                        simpa [upd] using hT
                      · rintro L _ Wx ⟨rfl, hT⟩ hcl hk hd
                        have hL23 : L 23 = true := by have h := hd; simp [Region.binds] at h; simp [h]
                        rw [if_pos (by simp [Region.wanted])]
                        refine op_value (v := .bool false) (w' := Wx) (by simp [execOp, go_sem, frame_tmp (k77) hL23 (Nat.lt_of_lt_of_eq (by decide : 77 < 106) hsz.symm)]) ⟨frame_put (k78) (q78), ?_⟩
                        simpa [upd] using hT
                      · rintro L _ Wx ⟨rfl, hT⟩ hcl hk hd
                        have hL24 : L 24 = true := by have h := hd; simp [Region.binds] at h; simp [h]
                        rw [if_pos (by simp [Region.wanted, yielded, frame_tmp (k78) hL24 (Nat.lt_of_lt_of_eq (by decide : 78 < 106) hsz.symm)])]
                        refine op_value (v := .slice a l.length cap) (w' := Wx) (by simp [execOp, go_sem, frame_tout (n0) u0]) ⟨frame_put (k79) (q79), ?_⟩
                        simpa [upd] using hT
                      · rintro L _ Wx ⟨rfl, hT⟩ hcl hk hd
                        have hL24 : L 24 = true := by have h := hd; simp [Region.binds] at h; simp [h]
                        rw [if_pos (by simp [Region.wanted, yielded, frame_tmp (k78) hL24 (Nat.lt_of_lt_of_eq (by decide : 78 < 106) hsz.symm)])]
                        refine op_value (v := .slice (some ⟨b, off, none⟩) (ordR l).length ncap) (w' := Wx) (by simp [execOp, go_sem, frame_tout (n3) u3]) ⟨frame_put (k80) (q80), ?_⟩
                        simpa [upd] using hT
                      · rintro L _ Wx ⟨rfl, hT⟩ hcl hk hd
                        have hL24 : L 24 = true := by have h := hd; simp [Region.binds] at h; simp [h]
                        rw [if_pos (by simp [Region.wanted, yielded, frame_tmp (k78) hL24 (Nat.lt_of_lt_of_eq (by decide : 78 < 106) hsz.symm)])]
                        refine op_value (v := .int .i64 i) (w' := Wx) (by simp [execOp, go_sem, frame_tout (n8) u8]) ⟨frame_put (k81) (q81), ?_⟩
                        simpa [upd] using hT
                      · rintro L _ Wx ⟨rfl, hT⟩ hcl hk hd
                        have hL24 : L 24 = true := by have h := hd; simp [Region.binds] at h; simp [h]
                        have hL26 : L 26 = true := by have h := hd; simp [Region.binds] at h; simp [h]
                        have hL27 : L 27 = true := by have h := hd; simp [Region.binds] at h; simp [h]
                        rw [if_pos (by simp [Region.wanted, yielded, frame_tmp (k78) hL24 (Nat.lt_of_lt_of_eq (by decide : 78 < 106) hsz.symm)])]
                        refine op_value (v := .pointer (some ⟨b, off + i * 3, none⟩)) (w' := Wx) (by simp [execOp, go_sem, frame_tmp (k80) hL26 (Nat.lt_of_lt_of_eq (by decide : 80 < 106) hsz.symm), frame_tmp (k81) hL27 (Nat.lt_of_lt_of_eq (by decide : 81 < 106) hsz.symm), hil]) ⟨frame_put (k82) (q82), ?_⟩
                        simpa [upd] using hT
                      · rintro L _ Wx ⟨rfl, hT⟩ hcl hk hd
                        have hL24 : L 24 = true := by have h := hd; simp [Region.binds] at h; simp [h]
                        have hL28 : L 28 = true := by have h := hd; simp [Region.binds] at h; simp [h]
                        rw [if_pos (by simp [Region.wanted, yielded, frame_tmp (k78) hL24 (Nat.lt_of_lt_of_eq (by decide : 78 < 106) hsz.symm)])]
                        refine op_value (v := .agg #[.int .i64 ni.s, .int .i64 ni.i, .int .i64 ni.t]) (w' := Wx) (by simp [execOp, go_sem, frame_tmp (k82) hL28 (Nat.lt_of_lt_of_eq (by decide : 82 < 106) hsz.symm), (hni.eq hT).1, (hni.eq hT).2.1, (hni.eq hT).2.2]) ⟨frame_put (k83) (q83), ?_⟩
                        simpa [upd] using hT
                      · rintro L _ Wx ⟨rfl, hT⟩ hcl hk hd
                        have hL24 : L 24 = true := by have h := hd; simp [Region.binds] at h; simp [h]
                        rw [if_pos (by simp [Region.wanted, yielded, frame_tmp (k78) hL24 (Nat.lt_of_lt_of_eq (by decide : 78 < 106) hsz.symm)])]
                        refine op_value (v := .slice (some ⟨b, off, none⟩) (ordR l).length ncap) (w' := Wx) (by simp [execOp, go_sem, frame_tout (n3) u3]) ⟨frame_put (k84) (q84), ?_⟩
                        simpa [upd] using hT
                      · rintro L _ Wx ⟨rfl, hT⟩ hcl hk hd
                        have hL24 : L 24 = true := by have h := hd; simp [Region.binds] at h; simp [h]
                        rw [if_pos (by simp [Region.wanted, yielded, frame_tmp (k78) hL24 (Nat.lt_of_lt_of_eq (by decide : 78 < 106) hsz.symm)])]
                        refine op_value (v := .int .i64 k) (w' := Wx) (by simp [execOp, go_sem, frame_tout (n9) u9]) ⟨frame_put (k85) (q85), ?_⟩
                        simpa [upd] using hT
                      · rintro L _ Wx ⟨rfl, hT⟩ hcl hk hd
                        have hL24 : L 24 = true := by have h := hd; simp [Region.binds] at h; simp [h]
                        have hL30 : L 30 = true := by have h := hd; simp [Region.binds] at h; simp [h]
                        have hL31 : L 31 = true := by have h := hd; simp [Region.binds] at h; simp [h]
                        rw [if_pos (by simp [Region.wanted, yielded, frame_tmp (k78) hL24 (Nat.lt_of_lt_of_eq (by decide : 78 < 106) hsz.symm)])]
                        refine op_value (v := .pointer (some ⟨b, off + k * 3, none⟩)) (w' := Wx) (by simp [execOp, go_sem, frame_tmp (k84) hL30 (Nat.lt_of_lt_of_eq (by decide : 84 < 106) hsz.symm), frame_tmp (k85) hL31 (Nat.lt_of_lt_of_eq (by decide : 85 < 106) hsz.symm), hkl]) ⟨frame_put (k86) (q86), ?_⟩
                        simpa [upd] using hT
                      · rintro L _ Wx ⟨rfl, hT⟩ hcl hk hd
                        have hL24 : L 24 = true := by have h := hd; simp [Region.binds] at h; simp [h]
                        have hL32 : L 32 = true := by have h := hd; simp [Region.binds] at h; simp [h]
                        rw [if_pos (by simp [Region.wanted, yielded, frame_tmp (k78) hL24 (Nat.lt_of_lt_of_eq (by decide : 78 < 106) hsz.symm)])]
                        refine op_value (v := .agg #[.int .i64 nk.s, .int .i64 nk.i, .int .i64 nk.t]) (w' := Wx) (by simp [execOp, go_sem, frame_tmp (k86) hL32 (Nat.lt_of_lt_of_eq (by decide : 86 < 106) hsz.symm), (hnk.eq hT).1, (hnk.eq hT).2.1, (hnk.eq hT).2.2]) ⟨frame_put (k87) (q87), ?_⟩
                        simpa [upd] using hT
                      · rintro L _ Wx ⟨rfl, hT⟩ hcl hk hd
                        have hL24 : L 24 = true := by have h := hd; simp [Region.binds] at h; simp [h]
                        have hL25 : L 25 = true := by have h := hd; simp [Region.binds] at h; simp [h]
                        have hL29 : L 29 = true := by have h := hd; simp [Region.binds] at h; simp [h]
                        have hL33 : L 33 = true := by have h := hd; simp [Region.binds] at h; simp [h]
                        rw [if_pos (by simp [Region.wanted, yielded, frame_tmp (k78) hL24 (Nat.lt_of_lt_of_eq (by decide : 78 < 106) hsz.symm)])]
                        refine op_callP (f := 24) (args := #[.slice a l.length cap, .agg #[.int .i64 ni.s, .int .i64 ni.i, .int .i64 ni.t], .agg #[.int .i64 nk.s, .int .i64 nk.i, .int .i64 nk.t]]) (by simp [go_sem, frame_tmp (k79) hL25 (Nat.lt_of_lt_of_eq (by decide : 79 < 106) hsz.symm), frame_tmp (k83) hL29 (Nat.lt_of_lt_of_eq (by decide : 83 < 106) hsz.symm), frame_tmp (k87) hL33 (Nat.lt_of_lt_of_eq (by decide : 87 < 106) hsz.symm)]) (hAhead Wx hT) ?_
                        rintro e w' ⟨rfl, hb'⟩
                        refine ⟨_, rfl, frame_put (k88) (q88), ?_⟩
                        exact hT.trans (hb'.mono hT.size)
                      · rintro L _ Wx ⟨rfl, hT⟩ hcl hk hd
                        have hL24 : L 24 = true := by have h := hd; simp [Region.binds] at h; simp [h]
                        have hL34 : L 34 = true := by have h := hd; simp [Region.binds] at h; simp [h]
                        rw [if_pos (by simp [Region.wanted, yielded, frame_tmp (k78) hL24 (Nat.lt_of_lt_of_eq (by decide : 78 < 106) hsz.symm)])]
                        refine op_value (v := .bool false) (w' := Wx) (by simp [execOp, go_sem, frame_tmp (k88) hL34 (Nat.lt_of_lt_of_eq (by decide : 88 < 106) hsz.symm)]) ⟨frame_put (k89) (q89), ?_⟩
                        simpa [upd] using hT
                      · rintro L _ Wx ⟨rfl, hT⟩ hcl hk hd
                        have hL35 : L 35 = true := by have h := hd; simp [Region.binds] at h; simp [h]
                        rw [if_neg (by simp [Region.wanted, yielded, frame_tmp (k89) hL35 (Nat.lt_of_lt_of_eq (by decide : 89 < 106) hsz.symm)])]
                        refine ⟨frame_put (k90) (q90), ?_⟩
                        simpa [upd] using hT
                      · rintro L _ Wx ⟨rfl, hT⟩ hcl hk hd
                        have hL35 : L 35 = true := by have h := hd; simp [Region.binds] at h; simp [h]
                        rw [if_neg (by simp [Region.wanted, yielded, frame_tmp (k89) hL35 (Nat.lt_of_lt_of_eq (by decide : 89 < 106) hsz.symm)])]
                        refine ⟨frame_put (k91) (q91), ?_⟩
                        simpa [upd] using hT
                      · rintro L _ Wx ⟨rfl, hT⟩ hcl hk hd
                        have hL35 : L 35 = true := by have h := hd; simp [Region.binds] at h; simp [h]
                        rw [if_neg (by simp [Region.wanted, yielded, frame_tmp (k89) hL35 (Nat.lt_of_lt_of_eq (by decide : 89 < 106) hsz.symm)])]
                        refine ⟨frame_put (k92) (q92), ?_⟩
                        simpa [upd] using hT
                      · rintro L _ Wx ⟨rfl, hT⟩ hcl hk hd
                        have hL35 : L 35 = true := by have h := hd; simp [Region.binds] at h; simp [h]
                        rw [if_neg (by simp [Region.wanted, yielded, frame_tmp (k89) hL35 (Nat.lt_of_lt_of_eq (by decide : 89 < 106) hsz.symm)])]
                        refine ⟨frame_put (k93) (q93), ?_⟩
                        simpa [upd] using hT
                      · rintro L _ Wx ⟨rfl, hT⟩ hcl hk hd
                        have hL35 : L 35 = true := by have h := hd; simp [Region.binds] at h; simp [h]
                        rw [if_neg (by simp [Region.wanted, yielded, frame_tmp (k89) hL35 (Nat.lt_of_lt_of_eq (by decide : 89 < 106) hsz.symm)])]
                        refine ⟨frame_put (k94) (q94), ?_⟩
                        simpa [upd] using hT
                      · rintro L _ Wx ⟨rfl, hT⟩ hcl hk hd
                        have hL35 : L 35 = true := by have h := hd; simp [Region.binds] at h; simp [h]
                        rw [if_neg (by simp [Region.wanted, yielded, frame_tmp (k89) hL35 (Nat.lt_of_lt_of_eq (by decide : 89 < 106) hsz.symm)])]
                        refine ⟨frame_put (k95) (q95), ?_⟩
                        simpa [upd] using hT
                      · rintro L _ Wx ⟨rfl, hT⟩ hcl hk hd
                        have hL24 : L 24 = true := by have h := hd; simp [Region.binds] at h; simp [h]
                        have hL35 : L 35 = true := by have h := hd; simp [Region.binds] at h; simp [h]
                        rw [if_pos (by simp [Region.wanted, yielded, frame_tmp (k78) hL24 (Nat.lt_of_lt_of_eq (by decide : 78 < 106) hsz.symm)])]
                        refine op_value (v := .bool false) (w' := Wx) (by simp [execOp, go_sem, frame_tmp (k89) hL35 (Nat.lt_of_lt_of_eq (by decide : 89 < 106) hsz.symm)]) ⟨frame_put (k96) (q96), ?_⟩
                        simpa [upd] using hT
                      · rintro L _ Wx ⟨rfl, hT⟩ hcl hk hd
                        have hL24 : L 24 = true := by have h := hd; simp [Region.binds] at h; simp [h]
                        have hL42 : L 42 = true := by have h := hd; simp [Region.binds] at h; simp [h]
                        rw [if_pos (by simp [Region.wanted])]
                        refine op_value (v := .bool false) (w' := Wx) (by simp [execOp, go_sem, frame_tmp (k78) hL24 (Nat.lt_of_lt_of_eq (by decide : 78 < 106) hsz.symm), frame_tmp (k96) hL42 (Nat.lt_of_lt_of_eq (by decide : 96 < 106) hsz.symm)]) ⟨frame_put (k97) (q97), ?_⟩
                        simpa [upd] using hT
                    · rintro L W' hT hall
                      simp only [putAll, Act.put, List.setIfInBounds_toArray, List.set_cons_succ, List.set_cons_zero]
                      go_wp2_with fail
                      go_roundw
                      case rel => exact ⟨k + 1, by omega, by go_num, HBI.out.trans (hT.mono HBI.out.size)⟩
                      case measure => simp [intOf]; omega
                    -- END TA
                  · have hAhead : ∀ Wx, Below wi.heap.size wi Wx → Calls Try.prog 24 #[.slice a l.length cap, .agg #[.int .i64 ni.s, .int .i64 ni.i, .int .i64 ni.t], .agg #[.int .i64 nk.s, .int .i64 nk.i, .int .i64 nk.t]] Wx fun e w' => e = .returned (.bool true) ∧ Below Wx.heap.size Wx w' :=
                      fun Wx hT => hAH ▸ ahead_any l _ ni nk Wx hll ((hsv.below hT).mono hT.size)
                    have hAN : ansP l ni = false := by rw [hAH] at hAA; simpa using hAA
                    have hAns : ∀ Wx, Below wi.heap.size wi Wx → Calls Try.prog 25 #[.slice a l.length cap, .agg #[.int .i64 ni.s, .int .i64 ni.i, .int .i64 ni.t]] Wx fun e w' => e = .returned (.bool false) ∧ Below Wx.heap.size Wx w' :=
                      fun Wx hT => hAN ▸ answered_any l _ ni Wx hll ((hsv.below hT).mono hT.size)
                    clear hAA hAH hAN
                    -- BEGIN TB
                    refine wp_region_frame mixed (by kernel_rfl) [(0, 54, .slice (some ⟨b, off, none⟩) (ordR l).length ncap), (1, 55, .int .i64 i), (2, 56, .pointer (some ⟨b, off + i * 3, none⟩)), (3, 57, .agg #[.int .i64 ni.s, .int .i64 ni.i, .int .i64 ni.t]), (4, 58, .slice (some ⟨b, off, none⟩) (ordR l).length ncap), (5, 59, .int .i64 k), (6, 60, .pointer (some ⟨b, off + k * 3, none⟩)), (7, 61, .agg #[.int .i64 nk.s, .int .i64 nk.i, .int .i64 nk.t]), (8, 62, .bool false), (9, 63, .bool false), (10, 64, .slice a l.length cap), (11, 65, .slice (some ⟨b, off, none⟩) (ordR l).length ncap), (12, 66, .int .i64 k), (13, 67, .pointer (some ⟨b, off + k * 3, none⟩)), (14, 68, .agg #[.int .i64 nk.s, .int .i64 nk.i, .int .i64 nk.t]), (15, 69, .int .i64 (firstAt 3 nk l 0)), (16, 70, .slice a l.length cap), (17, 71, .slice (some ⟨b, off, none⟩) (ordR l).length ncap), (18, 72, .int .i64 i), (19, 73, .pointer (some ⟨b, off + i * 3, none⟩)), (20, 74, .agg #[.int .i64 ni.s, .int .i64 ni.i, .int .i64 ni.t]), (21, 75, .int .i64 (firstAt 3 ni l 0)), (22, 76, .bool false), (23, 77, .bool false), (24, 78, .bool false), (25, 79, .slice a l.length cap), (26, 80, .slice (some ⟨b, off, none⟩) (ordR l).length ncap), (27, 81, .int .i64 i), (28, 82, .pointer (some ⟨b, off + i * 3, none⟩)), (29, 83, .agg #[.int .i64 ni.s, .int .i64 ni.i, .int .i64 ni.t]), (30, 84, .slice (some ⟨b, off, none⟩) (ordR l).length ncap), (31, 85, .int .i64 k), (32, 86, .pointer (some ⟨b, off + k * 3, none⟩)), (33, 87, .agg #[.int .i64 nk.s, .int .i64 nk.i, .int .i64 nk.t]), (34, 88, .bool true), (35, 89, .bool true), (36, 90, .slice a l.length cap), (37, 91, .slice (some ⟨b, off, none⟩) (ordR l).length ncap), (38, 92, .int .i64 i), (39, 93, .pointer (some ⟨b, off + i * 3, none⟩)), (40, 94, .agg #[.int .i64 ni.s, .int .i64 ni.i, .int .i64 ni.t]), (41, 95, .bool false), (42, 96, .bool false), (43, 97, .bool false)] (fun L Wx => Below wi.heap.size wi Wx) ?_ ?_ (by rfl) (by rfl) ?_
                    · exact (Below.refl _ _).drew
                    · intro a0 ps ha0 hps
                      have hsz : a0.tmps.size = 106 := by rw [ha0]; rfl
                      have u0 : a0.tmps[0]? = some (.slice a l.length cap) := by rw [ha0]; rfl
                      have u3 : a0.tmps[3]? = some (.slice (some ⟨b, off, none⟩) (ordR l).length ncap) := by rw [ha0]; rfl
                      have u8 : a0.tmps[8]? = some (.int .i64 i) := by rw [ha0]; rfl
                      have u9 : a0.tmps[9]? = some (.int .i64 k) := by rw [ha0]; rfl
                      have n0 : slotOf ps 0 = none := by rw [hps]; rfl
                      have n3 : slotOf ps 3 = none := by rw [hps]; rfl
                      have n8 : slotOf ps 8 = none := by rw [hps]; rfl
                      have n9 : slotOf ps 9 = none := by rw [hps]; rfl
                      have k54 : slotOf ps 54 = some (0, .slice (some ⟨b, off, none⟩) (ordR l).length ncap) := by rw [hps]; rfl
                      have q54 : keysOK ps 0 54 = true := by rw [hps]; rfl
                      have k55 : slotOf ps 55 = some (1, .int .i64 i) := by rw [hps]; rfl
                      have q55 : keysOK ps 1 55 = true := by rw [hps]; rfl
                      have k56 : slotOf ps 56 = some (2, .pointer (some ⟨b, off + i * 3, none⟩)) := by rw [hps]; rfl
                      have q56 : keysOK ps 2 56 = true := by rw [hps]; rfl
                      have k57 : slotOf ps 57 = some (3, .agg #[.int .i64 ni.s, .int .i64 ni.i, .int .i64 ni.t]) := by rw [hps]; rfl
                      have q57 : keysOK ps 3 57 = true := by rw [hps]; rfl
                      have k58 : slotOf ps 58 = some (4, .slice (some ⟨b, off, none⟩) (ordR l).length ncap) := by rw [hps]; rfl
                      have q58 : keysOK ps 4 58 = true := by rw [hps]; rfl
                      have k59 : slotOf ps 59 = some (5, .int .i64 k) := by rw [hps]; rfl
                      have q59 : keysOK ps 5 59 = true := by rw [hps]; rfl
                      have k60 : slotOf ps 60 = some (6, .pointer (some ⟨b, off + k * 3, none⟩)) := by rw [hps]; rfl
                      have q60 : keysOK ps 6 60 = true := by rw [hps]; rfl
                      have k61 : slotOf ps 61 = some (7, .agg #[.int .i64 nk.s, .int .i64 nk.i, .int .i64 nk.t]) := by rw [hps]; rfl
                      have q61 : keysOK ps 7 61 = true := by rw [hps]; rfl
                      have k62 : slotOf ps 62 = some (8, .bool false) := by rw [hps]; rfl
                      have q62 : keysOK ps 8 62 = true := by rw [hps]; rfl
                      have k63 : slotOf ps 63 = some (9, .bool false) := by rw [hps]; rfl
                      have q63 : keysOK ps 9 63 = true := by rw [hps]; rfl
                      have k64 : slotOf ps 64 = some (10, .slice a l.length cap) := by rw [hps]; rfl
                      have q64 : keysOK ps 10 64 = true := by rw [hps]; rfl
                      have k65 : slotOf ps 65 = some (11, .slice (some ⟨b, off, none⟩) (ordR l).length ncap) := by rw [hps]; rfl
                      have q65 : keysOK ps 11 65 = true := by rw [hps]; rfl
                      have k66 : slotOf ps 66 = some (12, .int .i64 k) := by rw [hps]; rfl
                      have q66 : keysOK ps 12 66 = true := by rw [hps]; rfl
                      have k67 : slotOf ps 67 = some (13, .pointer (some ⟨b, off + k * 3, none⟩)) := by rw [hps]; rfl
                      have q67 : keysOK ps 13 67 = true := by rw [hps]; rfl
                      have k68 : slotOf ps 68 = some (14, .agg #[.int .i64 nk.s, .int .i64 nk.i, .int .i64 nk.t]) := by rw [hps]; rfl
                      have q68 : keysOK ps 14 68 = true := by rw [hps]; rfl
                      have k69 : slotOf ps 69 = some (15, .int .i64 (firstAt 3 nk l 0)) := by rw [hps]; rfl
                      have q69 : keysOK ps 15 69 = true := by rw [hps]; rfl
                      have k70 : slotOf ps 70 = some (16, .slice a l.length cap) := by rw [hps]; rfl
                      have q70 : keysOK ps 16 70 = true := by rw [hps]; rfl
                      have k71 : slotOf ps 71 = some (17, .slice (some ⟨b, off, none⟩) (ordR l).length ncap) := by rw [hps]; rfl
                      have q71 : keysOK ps 17 71 = true := by rw [hps]; rfl
                      have k72 : slotOf ps 72 = some (18, .int .i64 i) := by rw [hps]; rfl
                      have q72 : keysOK ps 18 72 = true := by rw [hps]; rfl
                      have k73 : slotOf ps 73 = some (19, .pointer (some ⟨b, off + i * 3, none⟩)) := by rw [hps]; rfl
                      have q73 : keysOK ps 19 73 = true := by rw [hps]; rfl
                      have k74 : slotOf ps 74 = some (20, .agg #[.int .i64 ni.s, .int .i64 ni.i, .int .i64 ni.t]) := by rw [hps]; rfl
                      have q74 : keysOK ps 20 74 = true := by rw [hps]; rfl
                      have k75 : slotOf ps 75 = some (21, .int .i64 (firstAt 3 ni l 0)) := by rw [hps]; rfl
                      have q75 : keysOK ps 21 75 = true := by rw [hps]; rfl
                      have k76 : slotOf ps 76 = some (22, .bool false) := by rw [hps]; rfl
                      have q76 : keysOK ps 22 76 = true := by rw [hps]; rfl
                      have k77 : slotOf ps 77 = some (23, .bool false) := by rw [hps]; rfl
                      have q77 : keysOK ps 23 77 = true := by rw [hps]; rfl
                      have k78 : slotOf ps 78 = some (24, .bool false) := by rw [hps]; rfl
                      have q78 : keysOK ps 24 78 = true := by rw [hps]; rfl
                      have k79 : slotOf ps 79 = some (25, .slice a l.length cap) := by rw [hps]; rfl
                      have q79 : keysOK ps 25 79 = true := by rw [hps]; rfl
                      have k80 : slotOf ps 80 = some (26, .slice (some ⟨b, off, none⟩) (ordR l).length ncap) := by rw [hps]; rfl
                      have q80 : keysOK ps 26 80 = true := by rw [hps]; rfl
                      have k81 : slotOf ps 81 = some (27, .int .i64 i) := by rw [hps]; rfl
                      have q81 : keysOK ps 27 81 = true := by rw [hps]; rfl
                      have k82 : slotOf ps 82 = some (28, .pointer (some ⟨b, off + i * 3, none⟩)) := by rw [hps]; rfl
                      have q82 : keysOK ps 28 82 = true := by rw [hps]; rfl
                      have k83 : slotOf ps 83 = some (29, .agg #[.int .i64 ni.s, .int .i64 ni.i, .int .i64 ni.t]) := by rw [hps]; rfl
                      have q83 : keysOK ps 29 83 = true := by rw [hps]; rfl
                      have k84 : slotOf ps 84 = some (30, .slice (some ⟨b, off, none⟩) (ordR l).length ncap) := by rw [hps]; rfl
                      have q84 : keysOK ps 30 84 = true := by rw [hps]; rfl
                      have k85 : slotOf ps 85 = some (31, .int .i64 k) := by rw [hps]; rfl
                      have q85 : keysOK ps 31 85 = true := by rw [hps]; rfl
                      have k86 : slotOf ps 86 = some (32, .pointer (some ⟨b, off + k * 3, none⟩)) := by rw [hps]; rfl
                      have q86 : keysOK ps 32 86 = true := by rw [hps]; rfl
                      have k87 : slotOf ps 87 = some (33, .agg #[.int .i64 nk.s, .int .i64 nk.i, .int .i64 nk.t]) := by rw [hps]; rfl
                      have q87 : keysOK ps 33 87 = true := by rw [hps]; rfl
                      have k88 : slotOf ps 88 = some (34, .bool true) := by rw [hps]; rfl
                      have q88 : keysOK ps 34 88 = true := by rw [hps]; rfl
                      have k89 : slotOf ps 89 = some (35, .bool true) := by rw [hps]; rfl
                      have q89 : keysOK ps 35 89 = true := by rw [hps]; rfl
                      have k90 : slotOf ps 90 = some (36, .slice a l.length cap) := by rw [hps]; rfl
                      have q90 : keysOK ps 36 90 = true := by rw [hps]; rfl
                      have k91 : slotOf ps 91 = some (37, .slice (some ⟨b, off, none⟩) (ordR l).length ncap) := by rw [hps]; rfl
                      have q91 : keysOK ps 37 91 = true := by rw [hps]; rfl
                      have k92 : slotOf ps 92 = some (38, .int .i64 i) := by rw [hps]; rfl
                      have q92 : keysOK ps 38 92 = true := by rw [hps]; rfl
                      have k93 : slotOf ps 93 = some (39, .pointer (some ⟨b, off + i * 3, none⟩)) := by rw [hps]; rfl
                      have q93 : keysOK ps 39 93 = true := by rw [hps]; rfl
                      have k94 : slotOf ps 94 = some (40, .agg #[.int .i64 ni.s, .int .i64 ni.i, .int .i64 ni.t]) := by rw [hps]; rfl
                      have q94 : keysOK ps 40 94 = true := by rw [hps]; rfl
                      have k95 : slotOf ps 95 = some (41, .bool false) := by rw [hps]; rfl
                      have q95 : keysOK ps 41 95 = true := by rw [hps]; rfl
                      have k96 : slotOf ps 96 = some (42, .bool false) := by rw [hps]; rfl
                      have q96 : keysOK ps 42 96 = true := by rw [hps]; rfl
                      have k97 : slotOf ps 97 = some (43, .bool false) := by rw [hps]; rfl
                      have q97 : keysOK ps 43 97 = true := by rw [hps]; rfl
                      clear ha0 hps
                      refine ⟨?_, ?_, ?_, ?_, ?_, ?_, ?_, ?_, ?_, ?_, ?_, ?_, ?_, ?_, ?_, ?_, ?_, ?_, ?_, ?_, ?_, ?_, ?_, ?_, ?_, ?_, ?_, ?_, ?_, ?_, ?_, ?_, ?_, ?_, ?_, ?_, ?_, ?_, ?_, ?_, ?_, ?_, ?_, ?_, trivial⟩
                      · rintro L _ Wx ⟨rfl, hT⟩ hcl hk hd
                        rw [if_pos (by simp [Region.wanted])]
                        refine op_value (v := .slice (some ⟨b, off, none⟩) (ordR l).length ncap) (w' := Wx) (by simp [execOp, go_sem, frame_tout (n3) u3]) ⟨frame_put (k54) (q54), ?_⟩
                        simpa [upd] using hT
                      · rintro L _ Wx ⟨rfl, hT⟩ hcl hk hd
                        rw [if_pos (by simp [Region.wanted])]
                        refine op_value (v := .int .i64 i) (w' := Wx) (by simp [execOp, go_sem, frame_tout (n8) u8]) ⟨frame_put (k55) (q55), ?_⟩
                        simpa [upd] using hT
                      · rintro L _ Wx ⟨rfl, hT⟩ hcl hk hd
                        have hL0 : L 0 = true := by have h := hd; simp [Region.binds] at h; simp [h]
                        have hL1 : L 1 = true := by have h := hd; simp [Region.binds] at h; simp [h]
                        rw [if_pos (by simp [Region.wanted])]
                        refine op_value (v := .pointer (some ⟨b, off + i * 3, none⟩)) (w' := Wx) (by simp [execOp, go_sem, frame_tmp (k54) hL0 (Nat.lt_of_lt_of_eq (by decide : 54 < 106) hsz.symm), frame_tmp (k55) hL1 (Nat.lt_of_lt_of_eq (by decide : 55 < 106) hsz.symm), hil]) ⟨frame_put (k56) (q56), ?_⟩
                        simpa [upd] using hT
                      · rintro L _ Wx ⟨rfl, hT⟩ hcl hk hd
                        have hL2 : L 2 = true := by have h := hd; simp [Region.binds] at h; simp [h]
                        rw [if_pos (by simp [Region.wanted])]
                        refine op_value (v := .agg #[.int .i64 ni.s, .int .i64 ni.i, .int .i64 ni.t]) (w' := Wx) (by simp [execOp, go_sem, frame_tmp (k56) hL2 (Nat.lt_of_lt_of_eq (by decide : 56 < 106) hsz.symm), (hni.eq hT).1, (hni.eq hT).2.1, (hni.eq hT).2.2]) ⟨frame_put (k57) (q57), ?_⟩
                        simpa [upd] using hT
                      · rintro L _ Wx ⟨rfl, hT⟩ hcl hk hd
                        rw [if_pos (by simp [Region.wanted])]
                        refine op_value (v := .slice (some ⟨b, off, none⟩) (ordR l).length ncap) (w' := Wx) (by simp [execOp, go_sem, frame_tout (n3) u3]) ⟨frame_put (k58) (q58), ?_⟩
                        simpa [upd] using hT
                      · rintro L _ Wx ⟨rfl, hT⟩ hcl hk hd
                        rw [if_pos (by simp [Region.wanted])]
                        refine op_value (v := .int .i64 k) (w' := Wx) (by simp [execOp, go_sem, frame_tout (n9) u9]) ⟨frame_put (k59) (q59), ?_⟩
                        simpa [upd] using hT
                      · rintro L _ Wx ⟨rfl, hT⟩ hcl hk hd
                        have hL4 : L 4 = true := by have h := hd; simp [Region.binds] at h; simp [h]
                        have hL5 : L 5 = true := by have h := hd; simp [Region.binds] at h; simp [h]
                        rw [if_pos (by simp [Region.wanted])]
                        refine op_value (v := .pointer (some ⟨b, off + k * 3, none⟩)) (w' := Wx) (by simp [execOp, go_sem, frame_tmp (k58) hL4 (Nat.lt_of_lt_of_eq (by decide : 58 < 106) hsz.symm), frame_tmp (k59) hL5 (Nat.lt_of_lt_of_eq (by decide : 59 < 106) hsz.symm), hkl]) ⟨frame_put (k60) (q60), ?_⟩
                        simpa [upd] using hT
                      · rintro L _ Wx ⟨rfl, hT⟩ hcl hk hd
                        have hL6 : L 6 = true := by have h := hd; simp [Region.binds] at h; simp [h]
                        rw [if_pos (by simp [Region.wanted])]
                        refine op_value (v := .agg #[.int .i64 nk.s, .int .i64 nk.i, .int .i64 nk.t]) (w' := Wx) (by simp [execOp, go_sem, frame_tmp (k60) hL6 (Nat.lt_of_lt_of_eq (by decide : 60 < 106) hsz.symm), (hnk.eq hT).1, (hnk.eq hT).2.1, (hnk.eq hT).2.2]) ⟨frame_put (k61) (q61), ?_⟩
                        simpa [upd] using hT
                      · rintro L _ Wx ⟨rfl, hT⟩ hcl hk hd
                        have hL3 : L 3 = true := by have h := hd; simp [Region.binds] at h; simp [h]
                        have hL7 : L 7 = true := by have h := hd; simp [Region.binds] at h; simp [h]
                        rw [if_pos (by simp [Region.wanted])]
                        refine op_value (v := .bool false) (w' := Wx) (by simp [execOp, go_sem, frame_tmp (k57) hL3 (Nat.lt_of_lt_of_eq (by decide : 57 < 106) hsz.symm), frame_tmp (k61) hL7 (Nat.lt_of_lt_of_eq (by decide : 61 < 106) hsz.symm), eql_nm, hne]) ⟨frame_put (k62) (q62), ?_⟩
                        simpa [upd] using hT
                      · rintro L _ Wx ⟨rfl, hT⟩ hcl hk hd
                        have hL8 : L 8 = true := by have h := hd; simp [Region.binds] at h; simp [h]
                        rw [if_pos (by simp [Region.wanted])]
                        refine op_value (v := .bool false) (w' := Wx) (by simp [execOp, go_sem, frame_tmp (k62) hL8 (Nat.lt_of_lt_of_eq (by decide : 62 < 106) hsz.symm)]) ⟨frame_put (k63) (q63), ?_⟩
                        simpa [upd] using hT
                      · rintro L _ Wx ⟨rfl, hT⟩ hcl hk hd
                        have hL9 : L 9 = true := by have h := hd; simp [Region.binds] at h; simp [h]
                        rw [if_pos (by simp [Region.wanted, yielded, frame_tmp (k63) hL9 (Nat.lt_of_lt_of_eq (by decide : 63 < 106) hsz.symm)])]
                        refine op_value (v := .slice a l.length cap) (w' := Wx) (by simp [execOp, go_sem, frame_tout (n0) u0]) ⟨frame_put (k64) (q64), ?_⟩
                        simpa [upd] using hT
                      · rintro L _ Wx ⟨rfl, hT⟩ hcl hk hd
                        have hL9 : L 9 = true := by have h := hd; simp [Region.binds] at h; simp [h]
                        rw [if_pos (by simp [Region.wanted, yielded, frame_tmp (k63) hL9 (Nat.lt_of_lt_of_eq (by decide : 63 < 106) hsz.symm)])]
                        refine op_value (v := .slice (some ⟨b, off, none⟩) (ordR l).length ncap) (w' := Wx) (by simp [execOp, go_sem, frame_tout (n3) u3]) ⟨frame_put (k65) (q65), ?_⟩
                        simpa [upd] using hT
                      · rintro L _ Wx ⟨rfl, hT⟩ hcl hk hd
                        have hL9 : L 9 = true := by have h := hd; simp [Region.binds] at h; simp [h]
                        rw [if_pos (by simp [Region.wanted, yielded, frame_tmp (k63) hL9 (Nat.lt_of_lt_of_eq (by decide : 63 < 106) hsz.symm)])]
                        refine op_value (v := .int .i64 k) (w' := Wx) (by simp [execOp, go_sem, frame_tout (n9) u9]) ⟨frame_put (k66) (q66), ?_⟩
                        simpa [upd] using hT
                      · rintro L _ Wx ⟨rfl, hT⟩ hcl hk hd
                        have hL9 : L 9 = true := by have h := hd; simp [Region.binds] at h; simp [h]
                        have hL11 : L 11 = true := by have h := hd; simp [Region.binds] at h; simp [h]
                        have hL12 : L 12 = true := by have h := hd; simp [Region.binds] at h; simp [h]
                        rw [if_pos (by simp [Region.wanted, yielded, frame_tmp (k63) hL9 (Nat.lt_of_lt_of_eq (by decide : 63 < 106) hsz.symm)])]
                        refine op_value (v := .pointer (some ⟨b, off + k * 3, none⟩)) (w' := Wx) (by simp [execOp, go_sem, frame_tmp (k65) hL11 (Nat.lt_of_lt_of_eq (by decide : 65 < 106) hsz.symm), frame_tmp (k66) hL12 (Nat.lt_of_lt_of_eq (by decide : 66 < 106) hsz.symm), hkl]) ⟨frame_put (k67) (q67), ?_⟩
                        simpa [upd] using hT
                      · rintro L _ Wx ⟨rfl, hT⟩ hcl hk hd
                        have hL9 : L 9 = true := by have h := hd; simp [Region.binds] at h; simp [h]
                        have hL13 : L 13 = true := by have h := hd; simp [Region.binds] at h; simp [h]
                        rw [if_pos (by simp [Region.wanted, yielded, frame_tmp (k63) hL9 (Nat.lt_of_lt_of_eq (by decide : 63 < 106) hsz.symm)])]
                        refine op_value (v := .agg #[.int .i64 nk.s, .int .i64 nk.i, .int .i64 nk.t]) (w' := Wx) (by simp [execOp, go_sem, frame_tmp (k67) hL13 (Nat.lt_of_lt_of_eq (by decide : 67 < 106) hsz.symm), (hnk.eq hT).1, (hnk.eq hT).2.1, (hnk.eq hT).2.2]) ⟨frame_put (k68) (q68), ?_⟩
                        simpa [upd] using hT
                      · rintro L _ Wx ⟨rfl, hT⟩ hcl hk hd
                        have hL9 : L 9 = true := by have h := hd; simp [Region.binds] at h; simp [h]
                        have hL10 : L 10 = true := by have h := hd; simp [Region.binds] at h; simp [h]
                        have hL14 : L 14 = true := by have h := hd; simp [Region.binds] at h; simp [h]
                        rw [if_pos (by simp [Region.wanted, yielded, frame_tmp (k63) hL9 (Nat.lt_of_lt_of_eq (by decide : 63 < 106) hsz.symm)])]
                        refine op_callP (f := 23) (args := #[.slice a l.length cap, .agg #[.int .i64 nk.s, .int .i64 nk.i, .int .i64 nk.t]]) (by simp [go_sem, frame_tmp (k64) hL10 (Nat.lt_of_lt_of_eq (by decide : 64 < 106) hsz.symm), frame_tmp (k68) hL14 (Nat.lt_of_lt_of_eq (by decide : 68 < 106) hsz.symm)]) (commits_any l _ nk Wx hll ((hsv.below hT).mono hT.size)) ?_
                        rintro e w' ⟨rfl, hb'⟩
                        refine ⟨_, rfl, frame_put (k69) (q69), ?_⟩
                        exact hT.trans (hb'.mono hT.size)
                      · rintro L _ Wx ⟨rfl, hT⟩ hcl hk hd
                        have hL9 : L 9 = true := by have h := hd; simp [Region.binds] at h; simp [h]
                        rw [if_pos (by simp [Region.wanted, yielded, frame_tmp (k63) hL9 (Nat.lt_of_lt_of_eq (by decide : 63 < 106) hsz.symm)])]
                        refine op_value (v := .slice a l.length cap) (w' := Wx) (by simp [execOp, go_sem, frame_tout (n0) u0]) ⟨frame_put (k70) (q70), ?_⟩
                        simpa [upd] using hT
                      · rintro L _ Wx ⟨rfl, hT⟩ hcl hk hd
                        have hL9 : L 9 = true := by have h := hd; simp [Region.binds] at h; simp [h]
                        rw [if_pos (by simp [Region.wanted, yielded, frame_tmp (k63) hL9 (Nat.lt_of_lt_of_eq (by decide : 63 < 106) hsz.symm)])]
                        refine op_value (v := .slice (some ⟨b, off, none⟩) (ordR l).length ncap) (w' := Wx) (by simp [execOp, go_sem, frame_tout (n3) u3]) ⟨frame_put (k71) (q71), ?_⟩
                        simpa [upd] using hT
                      · rintro L _ Wx ⟨rfl, hT⟩ hcl hk hd
                        have hL9 : L 9 = true := by have h := hd; simp [Region.binds] at h; simp [h]
                        rw [if_pos (by simp [Region.wanted, yielded, frame_tmp (k63) hL9 (Nat.lt_of_lt_of_eq (by decide : 63 < 106) hsz.symm)])]
                        refine op_value (v := .int .i64 i) (w' := Wx) (by simp [execOp, go_sem, frame_tout (n8) u8]) ⟨frame_put (k72) (q72), ?_⟩
                        simpa [upd] using hT
                      · rintro L _ Wx ⟨rfl, hT⟩ hcl hk hd
                        have hL9 : L 9 = true := by have h := hd; simp [Region.binds] at h; simp [h]
                        have hL17 : L 17 = true := by have h := hd; simp [Region.binds] at h; simp [h]
                        have hL18 : L 18 = true := by have h := hd; simp [Region.binds] at h; simp [h]
                        rw [if_pos (by simp [Region.wanted, yielded, frame_tmp (k63) hL9 (Nat.lt_of_lt_of_eq (by decide : 63 < 106) hsz.symm)])]
                        refine op_value (v := .pointer (some ⟨b, off + i * 3, none⟩)) (w' := Wx) (by simp [execOp, go_sem, frame_tmp (k71) hL17 (Nat.lt_of_lt_of_eq (by decide : 71 < 106) hsz.symm), frame_tmp (k72) hL18 (Nat.lt_of_lt_of_eq (by decide : 72 < 106) hsz.symm), hil]) ⟨frame_put (k73) (q73), ?_⟩
                        simpa [upd] using hT
                      · rintro L _ Wx ⟨rfl, hT⟩ hcl hk hd
                        have hL9 : L 9 = true := by have h := hd; simp [Region.binds] at h; simp [h]
                        have hL19 : L 19 = true := by have h := hd; simp [Region.binds] at h; simp [h]
                        rw [if_pos (by simp [Region.wanted, yielded, frame_tmp (k63) hL9 (Nat.lt_of_lt_of_eq (by decide : 63 < 106) hsz.symm)])]
                        refine op_value (v := .agg #[.int .i64 ni.s, .int .i64 ni.i, .int .i64 ni.t]) (w' := Wx) (by simp [execOp, go_sem, frame_tmp (k73) hL19 (Nat.lt_of_lt_of_eq (by decide : 73 < 106) hsz.symm), (hni.eq hT).1, (hni.eq hT).2.1, (hni.eq hT).2.2]) ⟨frame_put (k74) (q74), ?_⟩
                        simpa [upd] using hT
                      · rintro L _ Wx ⟨rfl, hT⟩ hcl hk hd
                        have hL9 : L 9 = true := by have h := hd; simp [Region.binds] at h; simp [h]
                        have hL16 : L 16 = true := by have h := hd; simp [Region.binds] at h; simp [h]
                        have hL20 : L 20 = true := by have h := hd; simp [Region.binds] at h; simp [h]
                        rw [if_pos (by simp [Region.wanted, yielded, frame_tmp (k63) hL9 (Nat.lt_of_lt_of_eq (by decide : 63 < 106) hsz.symm)])]
                        refine op_callP (f := 23) (args := #[.slice a l.length cap, .agg #[.int .i64 ni.s, .int .i64 ni.i, .int .i64 ni.t]]) (by simp [go_sem, frame_tmp (k70) hL16 (Nat.lt_of_lt_of_eq (by decide : 70 < 106) hsz.symm), frame_tmp (k74) hL20 (Nat.lt_of_lt_of_eq (by decide : 74 < 106) hsz.symm)]) (commits_any l _ ni Wx hll ((hsv.below hT).mono hT.size)) ?_
                        rintro e w' ⟨rfl, hb'⟩
                        refine ⟨_, rfl, frame_put (k75) (q75), ?_⟩
                        exact hT.trans (hb'.mono hT.size)
                      · rintro L _ Wx ⟨rfl, hT⟩ hcl hk hd
                        have hL9 : L 9 = true := by have h := hd; simp [Region.binds] at h; simp [h]
                        have hL15 : L 15 = true := by have h := hd; simp [Region.binds] at h; simp [h]
                        have hL21 : L 21 = true := by have h := hd; simp [Region.binds] at h; simp [h]
                        rw [if_pos (by simp [Region.wanted, yielded, frame_tmp (k63) hL9 (Nat.lt_of_lt_of_eq (by decide : 63 < 106) hsz.symm)])]
                        refine op_value (v := .bool false) (w' := Wx) (by simp [execOp, go_sem, frame_tmp (k69) hL15 (Nat.lt_of_lt_of_eq (by decide : 69 < 106) hsz.symm), frame_tmp (k75) hL21 (Nat.lt_of_lt_of_eq (by decide : 75 < 106) hsz.symm), hge]) ⟨frame_put (k76) (q76), ?_⟩
                        simpa [upd] using hT
                      · rintro L _ Wx ⟨rfl, hT⟩ hcl hk hd
                        have hL9 : L 9 = true := by have h := hd; simp [Region.binds] at h; simp [h]
                        have hL22 : L 22 = true := by have h := hd; simp [Region.binds] at h; simp [h]
                        rw [if_pos (by simp [Region.wanted])]
                        refine op_value (v := .bool false) (w' := Wx) (by simp [execOp, go_sem, frame_tmp (k63) hL9 (Nat.lt_of_lt_of_eq (by decide : 63 < 106) hsz.symm), frame_tmp (k76) hL22 (Nat.lt_of_lt_of_eq (by decide : 76 < 106) hsz.symm)]) ⟨frame_put (k77) (q77), ?_⟩
                        simpa [upd] using hT
                      · rintro L _ Wx ⟨rfl, hT⟩ hcl hk hd
                        have hL23 : L 23 = true := by have h := hd; simp [Region.binds] at h; simp [h]
                        rw [if_pos (by simp [Region.wanted])]
                        refine op_value (v := .bool false) (w' := Wx) (by simp [execOp, go_sem, frame_tmp (k77) hL23 (Nat.lt_of_lt_of_eq (by decide : 77 < 106) hsz.symm)]) ⟨frame_put (k78) (q78), ?_⟩
                        simpa [upd] using hT
                      · rintro L _ Wx ⟨rfl, hT⟩ hcl hk hd
                        have hL24 : L 24 = true := by have h := hd; simp [Region.binds] at h; simp [h]
                        rw [if_pos (by simp [Region.wanted, yielded, frame_tmp (k78) hL24 (Nat.lt_of_lt_of_eq (by decide : 78 < 106) hsz.symm)])]
                        refine op_value (v := .slice a l.length cap) (w' := Wx) (by simp [execOp, go_sem, frame_tout (n0) u0]) ⟨frame_put (k79) (q79), ?_⟩
                        simpa [upd] using hT
                      · rintro L _ Wx ⟨rfl, hT⟩ hcl hk hd
                        have hL24 : L 24 = true := by have h := hd; simp [Region.binds] at h; simp [h]
                        rw [if_pos (by simp [Region.wanted, yielded, frame_tmp (k78) hL24 (Nat.lt_of_lt_of_eq (by decide : 78 < 106) hsz.symm)])]
                        refine op_value (v := .slice (some ⟨b, off, none⟩) (ordR l).length ncap) (w' := Wx) (by simp [execOp, go_sem, frame_tout (n3) u3]) ⟨frame_put (k80) (q80), ?_⟩
                        simpa [upd] using hT
                      · rintro L _ Wx ⟨rfl, hT⟩ hcl hk hd
                        have hL24 : L 24 = true := by have h := hd; simp [Region.binds] at h; simp [h]
                        rw [if_pos (by simp [Region.wanted, yielded, frame_tmp (k78) hL24 (Nat.lt_of_lt_of_eq (by decide : 78 < 106) hsz.symm)])]
                        refine op_value (v := .int .i64 i) (w' := Wx) (by simp [execOp, go_sem, frame_tout (n8) u8]) ⟨frame_put (k81) (q81), ?_⟩
                        simpa [upd] using hT
                      · rintro L _ Wx ⟨rfl, hT⟩ hcl hk hd
                        have hL24 : L 24 = true := by have h := hd; simp [Region.binds] at h; simp [h]
                        have hL26 : L 26 = true := by have h := hd; simp [Region.binds] at h; simp [h]
                        have hL27 : L 27 = true := by have h := hd; simp [Region.binds] at h; simp [h]
                        rw [if_pos (by simp [Region.wanted, yielded, frame_tmp (k78) hL24 (Nat.lt_of_lt_of_eq (by decide : 78 < 106) hsz.symm)])]
                        refine op_value (v := .pointer (some ⟨b, off + i * 3, none⟩)) (w' := Wx) (by simp [execOp, go_sem, frame_tmp (k80) hL26 (Nat.lt_of_lt_of_eq (by decide : 80 < 106) hsz.symm), frame_tmp (k81) hL27 (Nat.lt_of_lt_of_eq (by decide : 81 < 106) hsz.symm), hil]) ⟨frame_put (k82) (q82), ?_⟩
                        simpa [upd] using hT
                      · rintro L _ Wx ⟨rfl, hT⟩ hcl hk hd
                        have hL24 : L 24 = true := by have h := hd; simp [Region.binds] at h; simp [h]
                        have hL28 : L 28 = true := by have h := hd; simp [Region.binds] at h; simp [h]
                        rw [if_pos (by simp [Region.wanted, yielded, frame_tmp (k78) hL24 (Nat.lt_of_lt_of_eq (by decide : 78 < 106) hsz.symm)])]
                        refine op_value (v := .agg #[.int .i64 ni.s, .int .i64 ni.i, .int .i64 ni.t]) (w' := Wx) (by simp [execOp, go_sem, frame_tmp (k82) hL28 (Nat.lt_of_lt_of_eq (by decide : 82 < 106) hsz.symm), (hni.eq hT).1, (hni.eq hT).2.1, (hni.eq hT).2.2]) ⟨frame_put (k83) (q83), ?_⟩
                        simpa [upd] using hT
                      · rintro L _ Wx ⟨rfl, hT⟩ hcl hk hd
                        have hL24 : L 24 = true := by have h := hd; simp [Region.binds] at h; simp [h]
                        rw [if_pos (by simp [Region.wanted, yielded, frame_tmp (k78) hL24 (Nat.lt_of_lt_of_eq (by decide : 78 < 106) hsz.symm)])]
                        refine op_value (v := .slice (some ⟨b, off, none⟩) (ordR l).length ncap) (w' := Wx) (by simp [execOp, go_sem, frame_tout (n3) u3]) ⟨frame_put (k84) (q84), ?_⟩
                        simpa [upd] using hT
                      · rintro L _ Wx ⟨rfl, hT⟩ hcl hk hd
                        have hL24 : L 24 = true := by have h := hd; simp [Region.binds] at h; simp [h]
                        rw [if_pos (by simp [Region.wanted, yielded, frame_tmp (k78) hL24 (Nat.lt_of_lt_of_eq (by decide : 78 < 106) hsz.symm)])]
                        refine op_value (v := .int .i64 k) (w' := Wx) (by simp [execOp, go_sem, frame_tout (n9) u9]) ⟨frame_put (k85) (q85), ?_⟩
                        simpa [upd] using hT
                      · rintro L _ Wx ⟨rfl, hT⟩ hcl hk hd
                        have hL24 : L 24 = true := by have h := hd; simp [Region.binds] at h; simp [h]
                        have hL30 : L 30 = true := by have h := hd; simp [Region.binds] at h; simp [h]
                        have hL31 : L 31 = true := by have h := hd; simp [Region.binds] at h; simp [h]
                        rw [if_pos (by simp [Region.wanted, yielded, frame_tmp (k78) hL24 (Nat.lt_of_lt_of_eq (by decide : 78 < 106) hsz.symm)])]
                        refine op_value (v := .pointer (some ⟨b, off + k * 3, none⟩)) (w' := Wx) (by simp [execOp, go_sem, frame_tmp (k84) hL30 (Nat.lt_of_lt_of_eq (by decide : 84 < 106) hsz.symm), frame_tmp (k85) hL31 (Nat.lt_of_lt_of_eq (by decide : 85 < 106) hsz.symm), hkl]) ⟨frame_put (k86) (q86), ?_⟩
                        simpa [upd] using hT
                      · rintro L _ Wx ⟨rfl, hT⟩ hcl hk hd
                        have hL24 : L 24 = true := by have h := hd; simp [Region.binds] at h; simp [h]
                        have hL32 : L 32 = true := by have h := hd; simp [Region.binds] at h; simp [h]
                        rw [if_pos (by simp [Region.wanted, yielded, frame_tmp (k78) hL24 (Nat.lt_of_lt_of_eq (by decide : 78 < 106) hsz.symm)])]
                        refine op_value (v := .agg #[.int .i64 nk.s, .int .i64 nk.i, .int .i64 nk.t]) (w' := Wx) (by simp [execOp, go_sem, frame_tmp (k86) hL32 (Nat.lt_of_lt_of_eq (by decide : 86 < 106) hsz.symm), (hnk.eq hT).1, (hnk.eq hT).2.1, (hnk.eq hT).2.2]) ⟨frame_put (k87) (q87), ?_⟩
                        simpa [upd] using hT
                      · rintro L _ Wx ⟨rfl, hT⟩ hcl hk hd
                        have hL24 : L 24 = true := by have h := hd; simp [Region.binds] at h; simp [h]
                        have hL25 : L 25 = true := by have h := hd; simp [Region.binds] at h; simp [h]
                        have hL29 : L 29 = true := by have h := hd; simp [Region.binds] at h; simp [h]
                        have hL33 : L 33 = true := by have h := hd; simp [Region.binds] at h; simp [h]
                        rw [if_pos (by simp [Region.wanted, yielded, frame_tmp (k78) hL24 (Nat.lt_of_lt_of_eq (by decide : 78 < 106) hsz.symm)])]
                        refine op_callP (f := 24) (args := #[.slice a l.length cap, .agg #[.int .i64 ni.s, .int .i64 ni.i, .int .i64 ni.t], .agg #[.int .i64 nk.s, .int .i64 nk.i, .int .i64 nk.t]]) (by simp [go_sem, frame_tmp (k79) hL25 (Nat.lt_of_lt_of_eq (by decide : 79 < 106) hsz.symm), frame_tmp (k83) hL29 (Nat.lt_of_lt_of_eq (by decide : 83 < 106) hsz.symm), frame_tmp (k87) hL33 (Nat.lt_of_lt_of_eq (by decide : 87 < 106) hsz.symm)]) (hAhead Wx hT) ?_
                        rintro e w' ⟨rfl, hb'⟩
                        refine ⟨_, rfl, frame_put (k88) (q88), ?_⟩
                        exact hT.trans (hb'.mono hT.size)
                      · rintro L _ Wx ⟨rfl, hT⟩ hcl hk hd
                        have hL24 : L 24 = true := by have h := hd; simp [Region.binds] at h; simp [h]
                        have hL34 : L 34 = true := by have h := hd; simp [Region.binds] at h; simp [h]
                        rw [if_pos (by simp [Region.wanted, yielded, frame_tmp (k78) hL24 (Nat.lt_of_lt_of_eq (by decide : 78 < 106) hsz.symm)])]
                        refine op_value (v := .bool true) (w' := Wx) (by simp [execOp, go_sem, frame_tmp (k88) hL34 (Nat.lt_of_lt_of_eq (by decide : 88 < 106) hsz.symm)]) ⟨frame_put (k89) (q89), ?_⟩
                        simpa [upd] using hT
                      · rintro L _ Wx ⟨rfl, hT⟩ hcl hk hd
                        have hL35 : L 35 = true := by have h := hd; simp [Region.binds] at h; simp [h]
                        rw [if_pos (by simp [Region.wanted, yielded, frame_tmp (k89) hL35 (Nat.lt_of_lt_of_eq (by decide : 89 < 106) hsz.symm)])]
                        refine op_value (v := .slice a l.length cap) (w' := Wx) (by simp [execOp, go_sem, frame_tout (n0) u0]) ⟨frame_put (k90) (q90), ?_⟩
                        simpa [upd] using hT
                      · rintro L _ Wx ⟨rfl, hT⟩ hcl hk hd
                        have hL35 : L 35 = true := by have h := hd; simp [Region.binds] at h; simp [h]
                        rw [if_pos (by simp [Region.wanted, yielded, frame_tmp (k89) hL35 (Nat.lt_of_lt_of_eq (by decide : 89 < 106) hsz.symm)])]
                        refine op_value (v := .slice (some ⟨b, off, none⟩) (ordR l).length ncap) (w' := Wx) (by simp [execOp, go_sem, frame_tout (n3) u3]) ⟨frame_put (k91) (q91), ?_⟩
                        simpa [upd] using hT
                      · rintro L _ Wx ⟨rfl, hT⟩ hcl hk hd
                        have hL35 : L 35 = true := by have h := hd; simp [Region.binds] at h; simp [h]
                        rw [if_pos (by simp [Region.wanted, yielded, frame_tmp (k89) hL35 (Nat.lt_of_lt_of_eq (by decide : 89 < 106) hsz.symm)])]
                        refine op_value (v := .int .i64 i) (w' := Wx) (by simp [execOp, go_sem, frame_tout (n8) u8]) ⟨frame_put (k92) (q92), ?_⟩
                        simpa [upd] using hT
                      · rintro L _ Wx ⟨rfl, hT⟩ hcl hk hd
                        have hL35 : L 35 = true := by have h := hd; simp [Region.binds] at h; simp [h]
                        have hL37 : L 37 = true := by have h := hd; simp [Region.binds] at h; simp [h]
                        have hL38 : L 38 = true := by have h := hd; simp [Region.binds] at h; simp [h]
                        rw [if_pos (by simp [Region.wanted, yielded, frame_tmp (k89) hL35 (Nat.lt_of_lt_of_eq (by decide : 89 < 106) hsz.symm)])]
                        refine op_value (v := .pointer (some ⟨b, off + i * 3, none⟩)) (w' := Wx) (by simp [execOp, go_sem, frame_tmp (k91) hL37 (Nat.lt_of_lt_of_eq (by decide : 91 < 106) hsz.symm), frame_tmp (k92) hL38 (Nat.lt_of_lt_of_eq (by decide : 92 < 106) hsz.symm), hil]) ⟨frame_put (k93) (q93), ?_⟩
                        simpa [upd] using hT
                      · rintro L _ Wx ⟨rfl, hT⟩ hcl hk hd
                        have hL35 : L 35 = true := by have h := hd; simp [Region.binds] at h; simp [h]
                        have hL39 : L 39 = true := by have h := hd; simp [Region.binds] at h; simp [h]
                        rw [if_pos (by simp [Region.wanted, yielded, frame_tmp (k89) hL35 (Nat.lt_of_lt_of_eq (by decide : 89 < 106) hsz.symm)])]
                        refine op_value (v := .agg #[.int .i64 ni.s, .int .i64 ni.i, .int .i64 ni.t]) (w' := Wx) (by simp [execOp, go_sem, frame_tmp (k93) hL39 (Nat.lt_of_lt_of_eq (by decide : 93 < 106) hsz.symm), (hni.eq hT).1, (hni.eq hT).2.1, (hni.eq hT).2.2]) ⟨frame_put (k94) (q94), ?_⟩
                        simpa [upd] using hT
                      · rintro L _ Wx ⟨rfl, hT⟩ hcl hk hd
                        have hL35 : L 35 = true := by have h := hd; simp [Region.binds] at h; simp [h]
                        have hL36 : L 36 = true := by have h := hd; simp [Region.binds] at h; simp [h]
                        have hL40 : L 40 = true := by have h := hd; simp [Region.binds] at h; simp [h]
                        rw [if_pos (by simp [Region.wanted, yielded, frame_tmp (k89) hL35 (Nat.lt_of_lt_of_eq (by decide : 89 < 106) hsz.symm)])]
                        refine op_callP (f := 25) (args := #[.slice a l.length cap, .agg #[.int .i64 ni.s, .int .i64 ni.i, .int .i64 ni.t]]) (by simp [go_sem, frame_tmp (k90) hL36 (Nat.lt_of_lt_of_eq (by decide : 90 < 106) hsz.symm), frame_tmp (k94) hL40 (Nat.lt_of_lt_of_eq (by decide : 94 < 106) hsz.symm)]) (hAns Wx hT) ?_
                        rintro e w' ⟨rfl, hb'⟩
                        refine ⟨_, rfl, frame_put (k95) (q95), ?_⟩
                        exact hT.trans (hb'.mono hT.size)
                      · rintro L _ Wx ⟨rfl, hT⟩ hcl hk hd
                        have hL24 : L 24 = true := by have h := hd; simp [Region.binds] at h; simp [h]
                        have hL35 : L 35 = true := by have h := hd; simp [Region.binds] at h; simp [h]
                        have hL41 : L 41 = true := by have h := hd; simp [Region.binds] at h; simp [h]
                        rw [if_pos (by simp [Region.wanted, yielded, frame_tmp (k78) hL24 (Nat.lt_of_lt_of_eq (by decide : 78 < 106) hsz.symm)])]
                        refine op_value (v := .bool false) (w' := Wx) (by simp [execOp, go_sem, frame_tmp (k89) hL35 (Nat.lt_of_lt_of_eq (by decide : 89 < 106) hsz.symm), frame_tmp (k95) hL41 (Nat.lt_of_lt_of_eq (by decide : 95 < 106) hsz.symm)]) ⟨frame_put (k96) (q96), ?_⟩
                        simpa [upd] using hT
                      · rintro L _ Wx ⟨rfl, hT⟩ hcl hk hd
                        have hL24 : L 24 = true := by have h := hd; simp [Region.binds] at h; simp [h]
                        have hL42 : L 42 = true := by have h := hd; simp [Region.binds] at h; simp [h]
                        rw [if_pos (by simp [Region.wanted])]
                        refine op_value (v := .bool false) (w' := Wx) (by simp [execOp, go_sem, frame_tmp (k78) hL24 (Nat.lt_of_lt_of_eq (by decide : 78 < 106) hsz.symm), frame_tmp (k96) hL42 (Nat.lt_of_lt_of_eq (by decide : 96 < 106) hsz.symm)]) ⟨frame_put (k97) (q97), ?_⟩
                        simpa [upd] using hT
                    · rintro L W' hT hall
                      simp only [putAll, Act.put, List.setIfInBounds_toArray, List.set_cons_succ, List.set_cons_zero]
                      go_wp2_with fail
                      go_roundw
                      case rel => exact ⟨k + 1, by omega, by go_num, HBI.out.trans (hT.mono HBI.out.size)⟩
                      case measure => simp [intOf]; omega
                    -- END TB
                · have HBI := Lib.hid hBi
                  clear hBi
                  go_wp2_with fail
                  go_roundw
                  case rel => exact ⟨i + 1, by omega, by go_num, HBI.out⟩
                  case measure => simp [intOf]; omega
            · obtain rfl : i = (ordR l).length := by omega
              have HBo := Lib.hid hBo
              clear hBo
              go_wp2_with fail
              refine (wakes27_any _).mono ?_
              rintro e w3 ⟨rfl, b3⟩
              have B3 : Hid (Below w.heap.size w w3) := (B1.out.trans (HBo.out.mono B1.out.size)).trans (b3.mono (by have := B1.out.size; have := HBo.out.size; omega))
              clear b3
              go_wp2_with fail
              go_ret
              exact ⟨rfl, B3.out⟩

end Go.Proofs.Ytgdmgeihgkbjaaa
