/- Proved: the law WitnessSpoils of layer 32 returns true for every history, time and value, where what comes in is of bulk at most 1048576, and leaves the arguments as they were. -/
import Derived.Test.YtgdmgeihgkbjaaaRows
import Derived.Test.YtgdmgeihgkbjaaaSpoils
import Derived.Test.YtgdmgeihgkbjaaaOpen2
import Derived.JoinedCond
namespace Go.Proofs.Ytgdmgeihgkbjaaa
open Go.ChangeShapes Go.WideShapes Go.ChangeAt Go.RowKit

section
variable {H : Type}

theorem bk_one (d : DataW H) : 1 ≤ Rows.uptoBulk d := by
  cases d with
  | lit l => cases l <;> simp [Rows.uptoBulk]
  | nil => simp [Rows.uptoBulk]
  | ptr d => simp [Rows.uptoBulk]
  | slice elems spare => simp [Rows.uptoBulk]
  | agg parts => simp [Rows.uptoBulk]
  | iface t d => simp [Rows.uptoBulk]
  | map entries => simp [Rows.uptoBulk]
  | held h => simp [Rows.uptoBulk]

theorem bk_mul {k : Nat} : ∀ {l : List (DataW H)}, (∀ d ∈ l, k ≤ Rows.uptoBulk d) → l.length * k ≤ Rows.uptoBulkAll l
  | [], _ => by simp [Rows.uptoBulkAll]
  | d :: r, h => by
    have h1 := h d (List.mem_cons_self ..)
    have h2 := bk_mul (l := r) fun x hx => h x (List.mem_cons_of_mem _ hx)
    simp only [Rows.uptoBulkAll, List.length_cons, Nat.succ_mul]
    omega

theorem bk_len (l : List (DataW H)) : l.length ≤ Rows.uptoBulkAll l := by
  have := bk_mul (k := 1) (l := l) fun d _ => bk_one d
  omega

variable {enc : TypeId × Value → H} {w : World} {base : Nat} {spare : Nat → Bool} {held : Bool} {fuel : Nat} {cs : List Value} {x : DataW H × List MemPlace}

/-- a step's bulk: its block's eight letters alone are nine -/
theorem bk_sn (h : DataW.trod enc Try.prog w base spare held fuel 36 cs = some x) : 13 ≤ Rows.uptoBulk x.1 := by
  obtain ⟨xs, m, rfl, rfl, hl, hx, hi⟩ := DataW.trod_struct Try.underlying36 h
  have h3 : DataW.trod enc Try.prog w base spare held m 23 ((cs.drop 5).take (Try.prog.cellsOf 23)) = xs[3]? := hi 3 _ rfl
  match xs, hx with
  | [y0, y1, y2, y3, y4], _ =>
    obtain ⟨ys, m', rfl, e, _, hy, _⟩ := DataW.trod_array Try.underlying23 h3
    have h8 : ys.length = 8 := hy
    simp only [List.map_cons, List.map_nil, Rows.uptoBulk, Rows.uptoBulkAll]
    have e0 := bk_one y0.1
    have e1 := bk_one y1.1
    have e2 := bk_one y2.1
    have e4 := bk_one y4.1
    have e3 : 9 ≤ Rows.uptoBulk y3.1 := by
      rw [e]
      have := bk_len (ys.map (·.1))
      rw [List.length_map, h8] at this
      simp only [Rows.uptoBulk]
      omega
    omega

/-- a history opened: as many steps as its reading names -/
theorem open_snsB {v : Value} {d : DataW H} {p : List MemPlace} (hv : ∃ a n c, v = .slice a n c) (h : DataW.Trod enc Try.prog w base spare held 25 v d p) : ∃ l : List Sn, Sns w.heap.size w v l ∧ l.length * 13 ≤ Rows.uptoBulk d := by
  obtain ⟨l, hl⟩ := open_sns hv h
  refine ⟨l, hl, ?_⟩
  obtain ⟨fuel, hf⟩ := h
  obtain ⟨a', c', rfl, _⟩ := id hl
  rcases Go.Deep.open_slice Try.underlying25 (by simpa [Value.cells] using hf) with ⟨hcs, hd⟩ | ⟨ad, len, cap, m, k, D, Pl, hcs, _, _, _, hm, hd, hx⟩
  · have e0 : l.length = 0 := by
      injection hcs with h1 _
      injection h1
    omega
  · have e0 : l.length = len := by
      injection hcs with h1 _
      injection h1
    have hd' : d = .slice ((List.range len).map D) ((List.range (m - len)).map fun j => D (len + j)) := (Prod.mk.inj hd).1
    have hlm : len ≤ m := by rw [hm]; split <;> omega
    have := bk_mul (k := 13) (l := (List.range len).map D) (by
      intro y hy
      obtain ⟨i, hi, rfl⟩ := List.mem_map.1 hy
      obtain ⟨cs', _, h2⟩ := hx i (by have := List.mem_range.1 hi; omega)
      exact bk_sn h2)
    rw [hd', e0]
    rw [List.length_map, List.length_range] at this
    simp only [Rows.uptoBulk]
    omega

theorem bk_first {d : DataW H} {ds : List (DataW H)} (h : Rows.uptoSmall H (d :: ds) = true) : Rows.uptoBulk d ≤ 1048576 := by
  have h : Rows.uptoBulkAll (d :: ds) ≤ 1048576 := of_decide_eq_true h
  simp only [Rows.uptoBulkAll] at h
  omega
end

set_option maxRecDepth 100000 in
theorem witnessSpoilsUpto_lifted (os : Os) (started : os.Started) (H : Type) (enc : TypeId × Value → H) (F : Stop.Interp) :
    ReturnsInHanded {} Try.checked os 10 .any ((Rows.OpenSpec.upto Rows.witnessSpoilsSpec).pre6 enc Try.prog Try.f10 Rows.witnessSpoilsUptoRow.domain false) (((Rows.OpenSpec.upto Rows.witnessSpoilsSpec).at F).post enc Try.prog Try.f10 false true false false) := by
  refine returnsInHanded_of_cond (C := Try.checked) (s := Rows.OpenSpec.upto Rows.witnessSpoilsSpec) (k := Rows.uptoSmall) rfl Try.own started (by kernel_rfl) Try.func10
    (OpenSpec.witness (enc := enc) (C := Try.checked) (s := Rows.OpenSpec.upto Rows.witnessSpoilsSpec) (k := Rows.uptoSmall) rfl false ⟨#[], #[.slice none 0 0, .int .i64 0, .agg #[.int .u8 0, .int .u8 0, .int .u8 0, .int .u8 0, .int .u8 0, .int .u8 0, .int .u8 0, .int .u8 0]], []⟩ 8 (by kernel_rfl) (by kernel_rfl) (by kernel_rfl)
      (x := ([.nil, .lit (.int .i64 0), .agg [.lit (.int .u8 0), .lit (.int .u8 0), .lit (.int .u8 0), .lit (.int .u8 0), .lit (.int .u8 0), .lit (.int .u8 0), .lit (.int .u8 0), .lit (.int .u8 0)]], [], [])) (by kernel_rfl) rfl (by kernel_rfl)) ?_
  intro W base args ds gs before hval0 hW _ hk _
  have hval : ∀ (j : Nat) t v, Try.f10.params[j]? = some t → args[j]? = some v → Value.okWide Try.prog W .any base t v := hval0
  have hW' := hW
  obtain ⟨p, q, hA0, hV, rfl, hfz, hnd⟩ := hW
  have hA : DataW.TrodAll enc Try.prog W 0 (fun _ => true) true Try.f10.params.toList args.toList ds p := hA0
  rw [Try.params10] at hA hval
  obtain ⟨v0, vs0, d0, ds0, p0, q0, hargs, rfl, rfl, h0, r0⟩ := trodAll_cons hA
  obtain ⟨v1, vs1, d1, ds1, p1, q1, rfl, rfl, rfl, h1, r1⟩ := trodAll_cons r0
  obtain ⟨v2, vs2, d2, ds2, p2, q2, rfl, rfl, rfl, h2, r2⟩ := trodAll_cons r1
  obtain ⟨rfl, rfl, rfl⟩ := trodAll_nil r2
  obtain rfl : args = #[v0, v1, v2] := by cases args; simp_all
  obtain ⟨rfl, rfl⟩ := trodVars_none hV
  have k0 := h0
  have k1 := h1
  have k2 := h2
  obtain ⟨x0, hx0, hb0⟩ := open_snsB (okWide_slice Try.underlying25 (hval 0 25 v0 rfl rfl)) h0
  obtain ⟨x1, rfl, _, _, _⟩ := open_int Try.underlying3 (hval 1 3 v1 rfl rfl) h1
  obtain ⟨x2, rfl⟩ := open_v8 (hval 2 23 v2 rfl rfl) h2
  clear hA0 hval0
  have hlen : x0.length ≤ 100000 := by
    have := bk_first hk
    omega
  refine (spoils_any x0 v0 x1 x2 W hlen hx0).mono fun e W' ⟨he, bel⟩ => ?_
  subst he
  exact ⟨_, rfl, _, _, _, [], _, [], hW', trodAll_mk1 (shut_bool Try.underlying4 _), (trodAll_cons_mk (Below.trod Try.laidOut (by kernel_rfl) (of_decide_eq_true (by kernel_rfl)) k0 bel (trod_lts k0)) (trodAll_cons_mk (Below.trod Try.laidOut (by kernel_rfl) (of_decide_eq_true (by kernel_rfl)) k1 bel (trod_lts k1)) (trodAll_cons_mk (Below.trod Try.laidOut (by kernel_rfl) (of_decide_eq_true (by kernel_rfl)) k2 bel (trod_lts k2)) trodAll_mk0))), rfl, bel.frame _, fun h => by cases h⟩

theorem witnessSpoilsUpto_holds : Rows.WitnessSpoilsUptoSaid :=
  OpenClaim.holds_of_cond 10 Try.f10 rfl rfl rfl rfl rfl rfl rfl ⟨rfl, rfl, rfl, rfl, rfl⟩ rfl rfl rfl rfl rfl (by kernel_rfl) Try.func10 (by kernel_rfl)
    (of_decide_eq_true (by kernel_rfl)) (by unfold Func.isWrapper; first | (rw [if_pos (by decide +kernel)]; kernel_rfl) | (rw [if_neg (by decide +kernel)]; exact ⟨rfl, rfl⟩))
    (fun os started H enc _ F => witnessSpoilsUpto_lifted os started H enc F)

#print axioms witnessSpoilsUpto_holds
end Go.Proofs.Ytgdmgeihgkbjaaa
