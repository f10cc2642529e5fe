/- 'model.may': the first error of steps. -/
import Derived.Test.YtgdmgeihgkbjaaaLib
namespace Go.Proofs.Ytgdmgeihgkbjaaa
open Go.RowKit

def Sn.rw (x : Sn) : Bool := x.k == 1 || x.k == 2
def Sn.inB (x : Sn) : Bool := decide (0 ≤ x.b) && decide (x.b < 32)
def mayE : List Sn → Int → Int
  | [], e => e
  | x :: r, e => if x.rw then mayE r (if x.inB then e else 230) else 2

theorem mayE_in {x : Sn} {r : List Sn} {e : Int} (h : x.k = 1 ∨ x.k = 2) (h0 : 0 ≤ x.b) (h1 : x.b < 32) : mayE (x :: r) e = mayE r e := by
  simp [mayE, Sn.rw, Sn.inB, h, h0, h1]
theorem mayE_out {x : Sn} {r : List Sn} {e : Int} (h : x.k = 1 ∨ x.k = 2) (h0 : x.b < 0 ∨ 32 ≤ x.b) : mayE (x :: r) e = mayE r 230 := by
  have : x.inB = false := by simp [Sn.inB]; omega
  simp [mayE, Sn.rw, this, h]
theorem mayE_bad {x : Sn} {r : List Sn} {e : Int} (h : ¬ x.k = 1) (h' : ¬ x.k = 2) : mayE (x :: r) e = 2 := by
  simp [mayE, Sn.rw, h, h']

set_option maxHeartbeats 1000000 in
theorem may_any (l : List Sn) (v : Value) (w : World) (hl : l.length ≤ 100000) (hv : Sns w.heap.size w v l) :
    Calls Try.prog 46 #[v] w fun e w' => e = .returned (.int .i64 (mayE l 0)) ∧ Below w.heap.size w w' := by
  obtain ⟨a, cap, rfl, hn, ha⟩ := hv
  have HN := Lib.hid hn
  have HA := Lib.hid ha
  clear hn ha
  go_enter Try.func46, Try.ntmps46
  go_wp2
  go_loopw [3, 8] (fun er i wr => ∃ (q : Nat) (r : Int), q ≤ l.length ∧ er = .int .i64 r ∧ i = .int .i64 q ∧ mayE l 0 = mayE (l.drop q) r ∧ Below w.heap.size w wr) (fun _ i _ => l.length - (intOf i).toNat)
  case atStart => exact ⟨0, 0, Nat.zero_le _, rfl, rfl, rfl, Below.refl _ _⟩
  case round =>
    obtain ⟨q, r, hq, rfl, rfl, hF, hB⟩ := hrel
    have HF := Lib.hid hF
    clear hF
    by_cases hlt : q < l.length
    · obtain ⟨x, hx⟩ : ∃ x, l[q]? = some x := ⟨_, List.getElem?_eq_getElem hlt⟩
      obtain ⟨b, off, rfl, hb, hr⟩ := rows_some HN.out HA.out hlt
      obtain ⟨c0, c1, c2, c3, c4, c5, c6, c7, c8, c9, c10, c11, c12, c13⟩ := (hr.below hb hB).sn hx
      have HX := Lib.hid hx
      have HB := Lib.hid hB
      clear hr hx hB
      by_cases hk : x.k = 1 ∨ x.k = 2
      · have HB2 : Hid (∀ o, Below w.heap.size w (wr.alloc o)) := fun o => HB.out.alloc HB.out.size o
        rcases hk with hk | hk
        · have e1 : (x.k != 1) = false := by simp [hk]
          have e2 : (x.k == 1) = true := by simp [hk]
          have HK := Lib.hid hk
          clear hk
          go_wp2
          all_goals
            go_roundw
            case rel => exact ⟨q + 1, _, by omega, rfl, by go_num, by rw [HF.out, drop_cons HX.out]; first | exact mayE_in (.inl HK.out) (by omega) (by omega) | exact mayE_out (.inl HK.out) (by omega), HB2.out _⟩
            case measure => simp [intOf]; omega
        · have e1 : (x.k != 1) = true := by simp [hk]
          have e2 : (x.k != 2) = false := by simp [hk]
          have HK := Lib.hid hk
          clear hk
          go_wp2
          all_goals
            go_roundw
            case rel => exact ⟨q + 1, _, by omega, rfl, by go_num, by rw [HF.out, drop_cons HX.out]; first | exact mayE_in (.inr HK.out) (by omega) (by omega) | exact mayE_out (.inr HK.out) (by omega), HB2.out _⟩
            case measure => simp [intOf]; omega
      · have e1 : (x.k != 1) = true := by simp; omega
        have e2 : (x.k != 2) = true := by simp; omega
        have HK := Lib.hid hk
        clear hk
        go_wp2
        go_ret
        exact ⟨by rw [HF.out, drop_cons HX.out, mayE_bad (fun h => HK.out (.inl h)) (fun h => HK.out (.inr h))]; rfl, HB.out.alloc HB.out.size _⟩
    · go_wp2
      go_ret
      exact ⟨by rw [HF.out, drop_end hlt]; rfl, hB⟩

end Go.Proofs.Ytgdmgeihgkbjaaa
