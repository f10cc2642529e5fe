/- Scans of a history for a name's step. -/
import Derived.Test.YtgdmgeihgkbjaaaLib
namespace Go.Proofs.Ytgdmgeihgkbjaaa
open Go.RowKit

def hit (k : Int) (n : Nm) (x : Sn) : Bool := decide (x.k = k) && decide (x.n = n)
def firstAt (k : Int) (n : Nm) : List Sn → Nat → Int
  | [], _ => -1
  | x :: r, i => if hit k n x then i else firstAt k n r (i + 1)

set_option maxHeartbeats 1000000 in
theorem first_any (l : List Sn) (v : Value) (k : Int) (n : Nm) (w : World) (hl : l.length ≤ 100000) (hv : Sns w.heap.size w v l) :
    Calls Try.prog 62 #[v, .int .i8 k, .agg #[.int .i64 n.s, .int .i64 n.i, .int .i64 n.t]] w
      fun e w' => e = .returned (.int .i64 (firstAt k n l 0)) ∧ Below w.heap.size w w' := by
  obtain ⟨a, cap, rfl, hn, ha⟩ := hv
  have HN := Lib.hid hn
  have HA := Lib.hid ha
  clear hn ha
  go_enter Try.func62, Try.ntmps62
  go_wp2
  go_loopw [7] (fun i wr => ∃ q : Nat, q ≤ l.length ∧ i = .int .i64 q ∧ firstAt k n l 0 = firstAt k n (l.drop q) q ∧ (∃ m, wr = (w.alloc (.cells #[.int .i64 n.s, .int .i64 n.i, .int .i64 n.t] 34)).drewN m)) (fun i _ => l.length - (intOf i).toNat)
  case atStart => exact ⟨0, Nat.zero_le _, rfl, rfl, 0, rfl⟩
  case round =>
    obtain ⟨q, hq, rfl, hF, m, rfl⟩ := hrel
    have HF := Lib.hid hF
    clear hF
    by_cases hlt : q < l.length
    · obtain ⟨x, hx⟩ : ∃ x, l[q]? = some x := ⟨_, List.getElem?_eq_getElem hlt⟩
      obtain ⟨b, off, rfl, hb, hr⟩ := rows_some HN.out HA.out hlt
      obtain ⟨c0, c1, c2, c3, _⟩ := hr.sn hx
      have HX := Lib.hid hx
      clear hr hx
      by_cases hk : x.k = k
      · have hk' : (x.k == k) = true := by simpa using hk
        have hen := eql_nm x.n n
        by_cases hn : x.n = n
        · have hn' : decide (x.n = n) = true := by simpa using hn
          go_wp2
          go_quiet (fail)
          go_wp2
          go_ret
          exact ⟨by rw [HF.out, drop_cons HX.out]; simp [firstAt, hit, hk, hn], Below.drewN' (Below.drewN' (below_alloc1 _) _) _⟩
        · have hn' : decide (x.n = n) = false := by simpa using hn
          go_wp2
          go_quiet (fail)
          go_wp2
          go_roundw
          case rel => exact ⟨q + 1, by omega, by go_num, by rw [HF.out, drop_cons HX.out]; simp [firstAt, hit, hn], _, rfl⟩
          case measure => simp [intOf]; omega
      · have hk' : (x.k == k) = false := by simpa using hk
        go_wp2
        go_quiet (fail)
        go_wp2
        go_roundw
        case rel => exact ⟨q + 1, by omega, by go_num, by rw [HF.out, drop_cons HX.out]; simp [firstAt, hit, hk], _, rfl⟩
        case measure => simp [intOf]; omega
    · go_wp2
      go_ret
      exact ⟨by rw [HF.out, drop_end hlt]; rfl, Below.drewN' (below_alloc1 _) _⟩

end Go.Proofs.Ytgdmgeihgkbjaaa
