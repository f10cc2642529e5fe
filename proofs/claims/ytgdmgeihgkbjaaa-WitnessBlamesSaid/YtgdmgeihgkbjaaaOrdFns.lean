/- 'order.May', 'order.Ahead', 'cashboxlaw27.commits', 'cashboxlaw27.answered' -/
import Derived.Test.YtgdmgeihgkbjaaaOrder
namespace Go.Proofs.Ytgdmgeihgkbjaaa
open Go.RowKit Go.Shelf

theorem lives_form (l : List Sn) (v : Value) (w : World) (hl : l.length ≤ 100000) (hv : Sns w.heap.size w v l) :
    Calls Try.prog 51 #[v] w fun e w' => ((mayP l = false ∧ e = .returned (.tuple #[.map none, .bool false])) ∨ ∃ M m, mayP l = true ∧ LvInv l (projL m) ∧ e = .returned (.tuple #[.map (some M), .bool true]) ∧ LivesAt w.heap.size M w' m) ∧ Below w.heap.size w w' :=
  (lives_any l v w hl hv).mono fun e w' ⟨h, hb⟩ => ⟨by
    rcases h with ⟨hno, he⟩ | ⟨M, m, hl1, he, hL⟩
    · refine .inl ⟨?_, he⟩
      cases h : mayP l with
      | false => rfl
      | true => obtain ⟨m, h1, _⟩ := lives_may h; rw [hno] at h1; cases h1
    · obtain ⟨h1, h2⟩ := may_of_lives hl1
      exact .inr ⟨M, m, h1, h2, he, hL⟩, hb⟩

theorem may22_any (l : List Sn) (v : Value) (w : World) (hl : l.length ≤ 100000) (hv : Sns w.heap.size w v l) :
    Calls Try.prog 22 #[v] w fun e w' => e = .returned (.bool (mayP l)) ∧ Below w.heap.size w w' := by
  have HC := Lib.hid (lives_form l v w hl hv)
  clear hv
  go_enter Try.func22, Try.ntmps22
  go_wp2_with fail
  refine HC.out.mono ?_
  rintro e w1 ⟨h | ⟨M, m, h⟩, hB⟩
  · obtain ⟨hm, rfl⟩ := h
    have HM := Lib.hid hm
    clear hm
    go_wp2_with fail
    go_ret
    exact ⟨by rw [HM.out]; rfl, hB⟩
  · obtain ⟨hm, _, rfl, _⟩ := h
    have HM := Lib.hid hm
    clear hm
    go_wp2_with fail
    go_ret
    exact ⟨by rw [HM.out]; rfl, hB⟩

set_option maxHeartbeats 1000000 in
theorem commits_any (l : List Sn) (v : Value) (n : Nm) (w : World) (hl : l.length ≤ 100000) (hv : Sns w.heap.size w v l) :
    Calls Try.prog 23 #[v, .agg #[.int .i64 n.s, .int .i64 n.i, .int .i64 n.t]] w
      fun e w' => e = .returned (.int .i64 (firstAt 3 n l 0)) ∧ Below w.heap.size w w' := by
  obtain ⟨a, cap, rfl, hn, ha⟩ := hv
  have HN := Lib.hid hn
  have HA := Lib.hid ha
  clear hn ha
  go_enter Try.func23, Try.ntmps23
  go_wp2
  go_loopw [8] (fun i wr => ∃ q : Nat, q ≤ l.length ∧ i = .int .i64 q ∧ firstAt 3 n l 0 = firstAt 3 n (l.drop q) q ∧ (∃ m, wr = (w.alloc (.cells #[.int .i64 n.s, .int .i64 n.i, .int .i64 n.t] 34)).drewN m)) (fun i _ => l.length - (intOf i).toNat)
  case atStart => exact ⟨0, Nat.zero_le _, rfl, rfl, 0, rfl⟩
  case round =>
    obtain ⟨q, hq, rfl, hF, m, rfl⟩ := hrel
    have HF := Lib.hid hF
    clear hF
    by_cases hlt : q < l.length
    · obtain ⟨x, hx⟩ : ∃ x, l[q]? = some x := ⟨_, List.getElem?_eq_getElem hlt⟩
      obtain ⟨b, off, rfl, hb, hr⟩ := rows_some HN.out HA.out hlt
      obtain ⟨c0, c1, c2, c3, _⟩ := hr.sn hx
      have HX := Lib.hid hx
      clear hr hx
      by_cases hk : x.k = 3
      · have hk' : (x.k == 3) = true := by simpa using hk
        have hen := eql_nm x.n n
        by_cases hn : x.n = n
        · have hn' : decide (x.n = n) = true := by simpa using hn
          go_wp2
          go_quiet (fail)
          go_wp2
          go_ret
          exact ⟨by rw [HF.out, drop_cons HX.out]; simp [firstAt, hit, hk, hn], Below.drewN' (Below.drewN' (below_alloc1 _) _) _⟩
        · have hn' : decide (x.n = n) = false := by simpa using hn
          go_wp2
          go_quiet (fail)
          go_wp2
          go_roundw
          case rel => exact ⟨q + 1, by omega, by go_num, by rw [HF.out, drop_cons HX.out]; simp [firstAt, hit, hn], _, rfl⟩
          case measure => simp [intOf]; omega
      · have hk' : (x.k == 3) = false := by simpa using hk
        go_wp2
        go_quiet (fail)
        go_wp2
        go_roundw
        case rel => exact ⟨q + 1, by omega, by go_num, by rw [HF.out, drop_cons HX.out]; simp [firstAt, hit, hk], _, rfl⟩
        case measure => simp [intOf]; omega
    · go_wp2
      go_ret
      exact ⟨by rw [HF.out, drop_end hlt]; rfl, Below.drewN' (below_alloc1 _) _⟩

def ansF (c : Int) (n : Nm) : List Sn → Nat → Bool
  | [], _ => false
  | x :: r, i => if hit 4 n x then decide ((i : Int) > c) else ansF c n r (i + 1)

/-- Was n answered behind its Commit's call? -/
def ansP (l : List Sn) (n : Nm) : Bool := ansF (firstAt 3 n l 0) n l 0

theorem ansF_first (c : Int) (n : Nm) : ∀ (l : List Sn) (i : Nat), ansF c n l i = true → firstAt 4 n l i > c ∧ 0 ≤ firstAt 4 n l i
  | [], _, h => by cases h
  | x :: r, i, h => by
    unfold ansF at h
    unfold firstAt
    split at h
    · rename_i hh; rw [if_pos hh]; simp at h; omega
    · rename_i hh; rw [if_neg hh]; exact ansF_first c n r (i + 1) h

set_option maxHeartbeats 1000000 in
theorem answered_any (l : List Sn) (v : Value) (n : Nm) (w : World) (hl : l.length ≤ 100000) (hv : Sns w.heap.size w v l) :
    Calls Try.prog 25 #[v, .agg #[.int .i64 n.s, .int .i64 n.i, .int .i64 n.t]] w
      fun e w' => e = .returned (.bool (ansP l n)) ∧ Below w.heap.size w w' := by
  have HV := Lib.hid hv
  obtain ⟨a, cap, rfl, hn, ha⟩ := hv
  have HN := Lib.hid hn
  have HA := Lib.hid ha
  clear hn ha
  go_enter Try.func25, Try.ntmps25
  go_wp2
  go_loopw [8] (fun i wr => ∃ q : Nat, q ≤ l.length ∧ i = .int .i64 q ∧ ansP l n = ansF (firstAt 3 n l 0) n (l.drop q) q ∧ (∃ m, wr = (w.alloc (.cells #[.int .i64 n.s, .int .i64 n.i, .int .i64 n.t] 34)).drewN m)) (fun i _ => l.length - (intOf i).toNat)
  case atStart => exact ⟨0, Nat.zero_le _, rfl, rfl, 0, rfl⟩
  case round =>
    obtain ⟨q, hq, rfl, hF, m, rfl⟩ := hrel
    have HF := Lib.hid hF
    clear hF
    by_cases hlt : q < l.length
    · obtain ⟨x, hx⟩ : ∃ x, l[q]? = some x := ⟨_, List.getElem?_eq_getElem hlt⟩
      obtain ⟨b, off, rfl, hb, hr⟩ := rows_some HN.out HA.out hlt
      obtain ⟨c0, c1, c2, c3, _⟩ := hr.sn hx
      have HX := Lib.hid hx
      clear hr hx
      by_cases hk : x.k = 4
      · have hk' : (x.k == 4) = true := by simpa using hk
        have hen := eql_nm x.n n
        by_cases hn : x.n = n
        · have hn' : decide (x.n = n) = true := by simpa using hn
          have hres : ansP l n = decide ((q : Int) > firstAt 3 n l 0) := by rw [HF.out, drop_cons HX.out]; simp [ansF, hit, hk, hn]
          have HR := Lib.hid hres
          clear hres
          go_wp2
          go_quiet (fail)
          go_wp2_with fail
          refine (commits_any l _ n _ hl ((HV.out.below (Below.drewN' (below_alloc1 _) _)).mono (by simp))).mono ?_
          rintro e w' ⟨rfl, hb'⟩
          have hB : Below w.heap.size w w' := (Below.drewN' (below_alloc1 (w := w) _) _).trans (hb'.mono (by simp))
          have HB := Lib.hid hB
          clear hB hb'
          go_wp2_with fail
          go_ret
          exact ⟨by rw [HR.out]; rfl, HB.out⟩
        · have hn' : decide (x.n = n) = false := by simpa using hn
          go_wp2
          go_quiet (fail)
          go_wp2
          go_roundw
          case rel => exact ⟨q + 1, by omega, by go_num, by rw [HF.out, drop_cons HX.out]; simp [ansF, hit, hn], _, rfl⟩
          case measure => simp [intOf]; omega
      · have hk' : (x.k == 4) = false := by simpa using hk
        go_wp2
        go_quiet (fail)
        go_wp2
        go_roundw
        case rel => exact ⟨q + 1, by omega, by go_num, by rw [HF.out, drop_cons HX.out]; simp [ansF, hit, hk], _, rfl⟩
        case measure => simp [intOf]; omega
    · go_wp2
      go_ret
      exact ⟨by rw [HF.out, drop_end hlt]; rfl, Below.drewN' (below_alloc1 _) _⟩

end Go.Proofs.Ytgdmgeihgkbjaaa
