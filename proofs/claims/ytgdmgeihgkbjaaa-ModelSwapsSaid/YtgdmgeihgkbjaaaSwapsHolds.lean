/- Proved: the law ModelSwaps of layer 26 returns true for every state of the blocks and every two rows of steps, and leaves the arguments as they were; conditions: none. -/
import Derived.Test.YtgdmgeihgkbjaaaRows
import Derived.Test.YtgdmgeihgkbjaaaSwaps
import Derived.Test.YtgdmgeihgkbjaaaOpen
namespace Go.Proofs.Ytgdmgeihgkbjaaa
open Go.ChangeShapes Go.WideShapes Go.ChangeAt Go.RowKit

theorem swaps_any (x y : List Sn) (vx vy : Value) (s : List V8) (hs : s.length = 32) (w : World) (sx : Sns w.heap.size w vx x) (sy : Sns w.heap.size w vy y) :
    Calls Try.prog 4 #[.agg (stArr s), vx, vy] w fun e w' => e = .returned (.bool true) ∧ Below w.heap.size w w' := by
  by_cases hx : 100 < x.length
  · exact swaps_long x y vx vy s w sx sy (.inl hx)
  · by_cases hy : 100 < y.length
    · exact swaps_long x y vx vy s w sx sy (.inr hy)
    · by_cases hm : mayE x 0 = 0
      · exact swaps_ok x y vx vy s hs w sx sy hx hy hm
      · exact swaps_err x y vx vy s hs w sx sy hx hy hm

set_option maxRecDepth 100000 in
theorem modelSwaps_lifted (os : Os) (started : os.Started) (H : Type) (enc : TypeId × Value → H) :
    ReturnsInHanded {} Try.checked os 4 .any (Rows.modelSwapsSpec.pre6 enc Try.prog Try.f4 Rows.modelSwapsRow.domain false) (Rows.modelSwapsSpec.post enc Try.prog Try.f4 false true false false) := by
  refine returnsInHanded_of_change (C := Try.checked) Try.own started (by kernel_rfl) Try.func4
    (ChangeSpec.witness6 (enc := enc) (C := Try.checked) false ⟨#[], #[.agg (stArr zst), .slice none 0 0, .slice none 0 0], []⟩ 8 (by kernel_rfl) (by kernel_rfl) (by kernel_rfl) (by kernel_rfl)) ?_
  intro W base args ds gs before hval0 hW hcnd _
  have hval : ∀ (j : Nat) t v, Try.f4.params[j]? = some t → args[j]? = some v → Value.okWide Try.prog W .any base t v := hval0
  have hW' := hW
  obtain ⟨p, q, hA0, hV, rfl, hfz, hnd⟩ := hW
  have hA : DataW.TrodAll enc Try.prog W 0 (fun _ => true) true Try.f4.params.toList args.toList ds p := hA0
  rw [Try.params4] at hA hval
  obtain ⟨v0, vs0, d0, ds0, p0, q0, hargs, rfl, rfl, h0, r0⟩ := trodAll_cons hA
  obtain ⟨v1, vs1, d1, ds1, p1, q1, rfl, rfl, rfl, h1, r1⟩ := trodAll_cons r0
  obtain ⟨v2, vs2, d2, ds2, p2, q2, rfl, rfl, rfl, h2, r2⟩ := trodAll_cons r1
  obtain ⟨rfl, rfl, rfl⟩ := trodAll_nil r2
  obtain rfl : args = #[v0, v1, v2] := by cases args; simp_all
  obtain ⟨rfl, rfl⟩ := trodVars_none hV
  have k0 := h0
  have k1 := h1
  have k2 := h2
  obtain ⟨s, hs, rfl⟩ := open_st (hval 0 24 v0 rfl rfl) h0
  obtain ⟨x, hx⟩ := open_sns (okWide_slice Try.underlying25 (hval 1 25 v1 rfl rfl)) h1
  obtain ⟨y, hy⟩ := open_sns (okWide_slice Try.underlying25 (hval 2 25 v2 rfl rfl)) h2
  clear hA0 hval0
  refine (swaps_any x y v1 v2 s hs W hx hy).mono fun e W' ⟨he, bel⟩ => ?_
  subst he
  exact ⟨_, rfl, _, _, _, [], _, [], hW', trodAll_mk1 (shut_bool Try.underlying4 _), (trodAll_cons_mk (Below.trod Try.laidOut (by kernel_rfl) (of_decide_eq_true (by kernel_rfl)) k0 bel (trod_lts k0)) (trodAll_cons_mk (Below.trod Try.laidOut (by kernel_rfl) (of_decide_eq_true (by kernel_rfl)) k1 bel (trod_lts k1)) (trodAll_cons_mk (Below.trod Try.laidOut (by kernel_rfl) (of_decide_eq_true (by kernel_rfl)) k2 bel (trod_lts k2)) trodAll_mk0))), rfl, bel.frame _, fun h => by cases h⟩

theorem modelSwaps_holds : Rows.ModelSwapsSaid :=
  OpenClaim.holds_of_wide 4 Try.f4 rfl rfl rfl rfl rfl rfl rfl ⟨rfl, rfl, rfl, rfl, rfl⟩ rfl rfl rfl rfl rfl (by kernel_rfl) Try.func4 (by kernel_rfl)
    (of_decide_eq_true (by kernel_rfl)) (by unfold Func.isWrapper; first | (rw [if_pos (by decide +kernel)]; kernel_rfl) | (rw [if_neg (by decide +kernel)]; exact ⟨rfl, rfl⟩))
    (fun os started H enc _ => modelSwaps_lifted os started H enc)

#print axioms modelSwaps_holds
end Go.Proofs.Ytgdmgeihgkbjaaa
