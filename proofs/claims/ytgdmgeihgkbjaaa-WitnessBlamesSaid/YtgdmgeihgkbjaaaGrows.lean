/- 'cashboxlaw27.OrderGrows' -/
import Derived.Test.YtgdmgeihgkbjaaaUntil
namespace Go.Proofs.Ytgdmgeihgkbjaaa
open Go.RowKit Go.Shelf

/-- What Order hands back, where the history may be. -/
theorem order_ok (l : List Sn) (v : Value) (w : World) (hl : l.length ≤ 100000) (hv : Sns w.heap.size w v l) (hm : mayP l = true) :
    Calls Try.prog 21 #[v] w fun e w' => (∃ a c, e = .returned (.tuple #[.slice a (ordR l).length c, .int .i64 0]) ∧ Nms w'.heap.size w' (.slice a (ordR l).length c) (ordR l)) ∧ Below w.heap.size w w' :=
  (order_any l v w hl hv).mono fun e w' ⟨h, hb⟩ => ⟨by
    rcases h with ⟨h1, _⟩ | ⟨_, v, he, ho⟩
    · rw [hm] at h1; cases h1
    · have hr := rows_of_owns (enc := Nm.cells) (k := 3) (fun _ => rfl) ho
      obtain ⟨a, c, rfl, h2⟩ := hr
      exact ⟨a, c, he, a, c, rfl, h2⟩, hb⟩

set_option maxRecDepth 100000 in
set_option maxHeartbeats 4000000 in
theorem grows_any (l : List Sn) (v : Value) (n : Int) (w : World) (hv : Sns w.heap.size w v l) (hcap : ∀ a n c, v = .slice a n c → n ≤ c) :
    Calls Try.prog 6 #[v, .int .i64 n] w fun e w' => e = .returned (.bool true) ∧ Below w.heap.size w w' := by
  have HV := Lib.hid hv
  obtain ⟨a, cap, rfl, hn, ha⟩ := hv
  have hcp := hcap _ _ _ rfl
  have HN := Lib.hid hn
  have HA := Lib.hid ha
  clear hn ha hcap
  by_cases hl : 200 < l.length
  · go_enter Try.func6, Try.ntmps6
    go_wp2_with fail
    refine (wakes27_any _).mono ?_
    rintro e w1 ⟨rfl, b1⟩
    go_wp2_with fail
    go_ret
    exact ⟨rfl, b1⟩
  · have hl' : l.length ≤ 200 := by omega
    have HL : Hid (l.length ≤ 100000) := by show _ ≤ _; omega
    have HCP := Lib.hid hcp
    clear hl hcp
    go_enter Try.func6, Try.ntmps6
    go_wp2_with fail
    refine (may22_any l _ w HL.out HV.out).mono ?_
    rintro e w1 ⟨rfl, b1⟩
    have B1 := Lib.hid b1
    clear b1
    cases hm : mayP l with
    | false =>
      clear hm
      go_wp2_with fail
      refine (wakes27_any _).mono ?_
      rintro e w2 ⟨rfl, b2⟩
      have B2 : Hid (Below w.heap.size w w2) := B1.out.trans (b2.mono B1.out.size)
      clear b2
      go_wp2_with fail
      go_ret
      exact ⟨rfl, B2.out⟩
    | true =>
      have HM := Lib.hid hm
      clear hm
      have hc1 := until_any l a cap n w1 HL.out ((HV.out.below B1.out).mono B1.out.size) HCP.out
      have HC1 := Lib.hid hc1
      clear hc1
      go_wp2_with fail
      refine HC1.out.mono ?_
      rintro e w2 ⟨⟨v5, rfl, ho⟩, b2⟩
      obtain ⟨hd, hhd⟩ : ∃ hd, l.take (untilN n l.length) = hd := ⟨_, rfl⟩
      have hmh : mayP hd = true := hhd ▸ mayP_take HM.out _
      have hlh : hd.length ≤ 200 := by rw [← hhd, List.length_take]; omega
      have hsub : (ordR hd).Sublist (ordR l) := hhd ▸ ordR_take _
      rw [hhd] at ho
      have hs := rows_of_owns (enc := Sn.cells) (k := 14) (fun x => Sn.cells_length x) ho
      have HS := Lib.hid hs
      have HMH := Lib.hid hmh
      have HSUB := Lib.hid hsub
      have B2 : Hid (Below w.heap.size w w2) := B1.out.trans (b2.mono B1.out.size)
      clear ho hs hmh hsub hhd b2 HC1
      go_wp2_with fail
      refine (order_ok hd v5 w2 (by omega) HS.out HMH.out).mono ?_
      rintro e w3 ⟨⟨aa, ca, rfl, hna⟩, b3⟩
      have HNA := Lib.hid hna
      have B3 : Hid (Below w.heap.size w w3) := B2.out.trans (b3.mono B2.out.size)
      clear hna b3
      go_wp2_with fail
      refine (order_ok l _ w3 HL.out ((HV.out.below B3.out).mono B3.out.size) HM.out).mono ?_
      rintro e w4 ⟨⟨ab, cb, rfl, hnb⟩, b4⟩
      have HNB := Lib.hid hnb
      have HNA4 : Hid (Nms w4.heap.size w4 (.slice aa (ordR hd).length ca) (ordR hd)) := (HNA.out.below b4).mono b4.size
      have B4 : Hid (Below w.heap.size w w4) := B3.out.trans (b4.mono B3.out.size)
      have hla : (ordR hd).length ≤ 200 := by have := ordR_le hd; omega
      have hlb : (ordR l).length ≤ 200 := by have := ordR_le l; omega
      clear hnb b4 HNA hlh
      have hmet := metF_sub (ordR l) (ordR hd) 0 (by simpa using HSUB.out) (Nat.zero_le _)
      have HMET := Lib.hid hmet
      clear hmet
      obtain ⟨_, _, eb, nb, hb⟩ := HNB.out
      cases eb
      obtain ⟨_, _, ea, na, hha⟩ := HNA4.out
      cases ea
      have NB := Lib.hid nb
      have HBB := Lib.hid hb
      have NA := Lib.hid na
      have HAA := Lib.hid hha
      clear nb hb na hha HS HSUB HMH
      generalize ordR hd = A at *
      generalize ordR l = B at *
      go_wp2_with fail
      go_loopw [10, 43] (fun ato i wr => ∃ q at_ : Nat, q ≤ B.length ∧ at_ ≤ q ∧ at_ ≤ A.length ∧ i = .int .i64 q ∧ ato = .int .i64 at_ ∧ metF A (B.drop q) at_ = A.length ∧ Below w4.heap.size w4 wr) (fun _ i _ => B.length - (intOf i).toNat)
      case atStart => exact ⟨0, 0, Nat.zero_le _, Nat.le_refl _, Nat.zero_le _, rfl, rfl, HMET.out, Below.refl _ _⟩
      case round =>
        obtain ⟨q, at_, hq, hat, hatA, rfl, rfl, hF, hB⟩ := hrel
        have HF := Lib.hid hF
        have HB := Lib.hid hB
        clear hF hB
        by_cases hlt : q < B.length
        · obtain ⟨y, hy⟩ : ∃ y, B[q]? = some y := ⟨_, List.getElem?_eq_getElem hlt⟩
          obtain ⟨b, off, rfl, hbb, hr⟩ := rows_some NB.out HBB.out hlt
          obtain ⟨y0, y1, y2⟩ := (hr.below hbb HB.out).nm hy
          have HY := Lib.hid hy
          clear hr hy
          have hb1 : b < wr.heap.size := Nat.lt_of_lt_of_le hbb HB.out.size
          have hnext : ∀ o, Below w4.heap.size w4 (wr.alloc o) := fun o => HB.out.alloc HB.out.size o
          have HNX := Lib.hid hnext
          clear hnext
          by_cases hA : at_ < A.length
          · obtain ⟨x, hx⟩ : ∃ x, A[at_]? = some x := ⟨_, List.getElem?_eq_getElem hA⟩
            obtain ⟨b2, off2, rfl, hbb2, hr2⟩ := rows_some NA.out HAA.out hA
            obtain ⟨x0, x1, x2⟩ := (hr2.below hbb2 HB.out).nm hx
            have hb2 : b2 < wr.heap.size := Nat.lt_of_lt_of_le hbb2 HB.out.size
            have HX := Lib.hid hx
            have hen := eql_nm x y
            have e0 : decide (at_ < A.length) = true := by simpa using hA
            clear hr2 hx
            by_cases hxy : x = y
            · have e1 : decide (x = y) = true := by simpa using hxy
              have hstep : metF A (B.drop (q + 1)) (at_ + 1) = A.length := by
                have := HF.out
                rw [drop_cons HY.out, metF, if_pos (by rw [HX.out, hxy])] at this
                exact this
              have HST := Lib.hid hstep
              clear hstep
              go_wp2_with fail
              go_quiet (fail)
              go_wp2_with fail
              go_roundw
              case rel => exact ⟨q + 1, at_ + 1, by omega, by omega, by omega, by go_num, by go_num, HST.out, Below.drewN' (HNX.out _) _⟩
              case measure => simp [intOf]; omega
            · have e1 : decide (x = y) = false := by simpa using hxy
              have hstep : metF A (B.drop (q + 1)) at_ = A.length := by
                have := HF.out
                rw [drop_cons HY.out, metF, if_neg (by rw [HX.out]; intro e; exact hxy (Option.some.inj e))] at this
                exact this
              have HST := Lib.hid hstep
              clear hstep
              go_wp2_with fail
              go_quiet (fail)
              go_wp2_with fail
              go_roundw
              case rel => exact ⟨q + 1, at_, by omega, by omega, by omega, by go_num, rfl, HST.out, Below.drewN' (HNX.out _) _⟩
              case measure => simp [intOf]; omega
          · have e0 : decide (at_ < A.length) = false := by simpa using hA
            have hstep : metF A (B.drop (q + 1)) at_ = A.length := by
              have := HF.out
              rw [drop_cons HY.out, metF, if_neg (by rw [List.getElem?_eq_none (by omega)]; intro e; cases e)] at this
              exact this
            have HST := Lib.hid hstep
            clear hstep
            go_wp2_with fail
            go_quiet (fail)
            go_wp2_with fail
            go_roundw
            case rel => exact ⟨q + 1, at_, by omega, by omega, by omega, by go_num, rfl, HST.out, Below.drewN' (HNX.out _) _⟩
            case measure => simp [intOf]; omega
        · have hat2 : at_ = A.length := by
            have := HF.out
            rw [drop_end hlt] at this
            exact this
          subst hat2
          go_wp2_with fail
          refine (wakes27_any _).mono ?_
          rintro e w5 ⟨rfl, b5⟩
          have B5 : Hid (Below w.heap.size w w5) := (B4.out.trans (HB.out.mono B4.out.size)).trans (b5.mono (by have := B4.out.size; have := HB.out.size; omega))
          clear b5
          go_wp2_with fail
          go_ret
          exact ⟨rfl, B5.out⟩

end Go.Proofs.Ytgdmgeihgkbjaaa
