/- 'slices.Clone' of a history, 'order.Until' -/
import Derived.Test.YtgdmgeihgkbjaaaTime
namespace Go.Proofs.Ytgdmgeihgkbjaaa
open Go.RowKit Go.Shelf

set_option maxRecDepth 20000

theorem info36 : (Try.prog.info? 36).map (fun i => (i.zero, i.size, i.bytes)) = some (some (.agg #[.int .i8 0, .int .i64 0, .int .i64 0, .int .i64 0, .int .i64 0, .int .u8 0, .int .u8 0, .int .u8 0, .int .u8 0, .int .u8 0, .int .u8 0, .int .u8 0, .int .u8 0, .int .i64 0]), 14, 56) := by kernel_rfl

theorem flat_one (l : List Sn) : ∀ u ∈ l.flatMap Sn.cells, u.oneCell' = true := by
  intro u hu
  obtain ⟨x, _, hx⟩ := List.mem_flatMap.1 hu
  exact x.cells_one u hx

theorem flat_div {α : Type} {f : α → List Value} {k : Nat} (hk : ∀ x, (f x).length = k) (l : List α) {j : Nat} {u : Value} (h : (l.flatMap f)[j]? = some u) : ∃ i x jj, l[i]? = some x ∧ (f x)[jj]? = some u ∧ j = i * k + jj := by
  have hj := (List.getElem?_eq_some_iff.1 h).1
  rw [flat_length hk] at hj
  have k0 : 0 < k := by
    rcases Nat.eq_zero_or_pos k with e | e
    · subst e; simp at hj
    · exact e
  have hi : j / k < l.length := by rw [Nat.div_lt_iff_lt_mul k0]; exact hj
  have e := flat_get hk l (j / k) l[j / k] (by simp) (j % k) (Nat.mod_lt _ k0)
  rw [Nat.div_add_mod' j k, h] at e
  exact ⟨j / k, l[j / k], j % k, by simp, e.symm, (Nat.div_add_mod' j k).symm⟩

/-- The cells of a slice, as the append law asks for them. -/
theorem rows_cells {α : Type} {f : α → List Value} {k : Nat} (hk : ∀ x, (f x).length = k) {w : World} {b off : Nat} {l : List α} (h : RowsAt f k w b off l) : ∀ j u, (l.flatMap f)[j]? = some u → w.cell? ((⟨b, off, none⟩ : Addr).add j) = some u := by
  intro j u hu
  obtain ⟨i, x, jj, h1, h2, rfl⟩ := flat_div hk l hu
  have := h i x h1 jj u h2
  have e : (⟨b, off, none⟩ : Addr).add (i * k + jj) = ⟨b, off + (i * k + jj), none⟩ := by unfold Addr.add; split <;> simp_all
  rw [e, ← Nat.add_assoc]
  exact this

theorem clone_any (l : List Sn) (a : Option Addr) (cap : Nat) (w : World) (hl : l.length ≤ 100000) (hv : Sns w.heap.size w (.slice a l.length cap) l) :
    Calls Try.prog 55 #[.slice a l.length cap] w fun e w' => (∃ v', e = .returned v' ∧ w'.ownsRow w.heap.size 36 14 v' l.length (l.flatMap Sn.cells)) ∧ Below w.heap.size w w' := by
  obtain ⟨i0, hi, hz0, hz1, hz2⟩ := info_parts info36
  obtain ⟨a', cap', hav, hn, ha⟩ := hv
  cases hav
  cases a with
  | none =>
    obtain ⟨rfl, rfl⟩ := hn rfl
    clear hn ha
    have hz := fun (w : World) (n c : Nat) => Lib.run_eql_slice_nil (P := Try.prog) w 25 36 none n c 0 0 Try.underlying25
    go_enter Try.func55, Try.ntmps55
    go_wp2
    go_ret
    exact ⟨⟨_, rfl, World.ownsRow_nil _ _ _ _⟩, Below.refl _ _⟩
  | some ad =>
    have hcells : ∀ j u, (l.flatMap Sn.cells)[j]? = some u → (w.alloc (.cells #[] 36)).cell? (ad.add j) = some u := by
      cases l with
      | nil => intro j u h; simp at h
      | cons x r =>
        obtain ⟨b, off, s⟩ := ad
        obtain ⟨rfl, hb, hr⟩ := ha b off s rfl (by simp)
        intro j u hu
        have := rows_cells (fun x => Sn.cells_length x) (hr.below hb (below_alloc1 (.cells #[] 36))) j u hu
        exact this
    have hmade : (w.alloc (.cells #[] 36)).ownsRow w.heap.size 36 14 (.slice (some ⟨w.heap.size, 0, none⟩) 0 0) 0 [] := World.ownsRow_made w #[] 0 (Nat.le_refl _) (by unfold maxLen; omega) rfl
    have HC := Lib.hid hcells
    have HM := Lib.hid hmade
    have hfl : (l.flatMap Sn.cells).length = l.length * 14 := flat_length (fun x => Sn.cells_length x) l
    have HFL := Lib.hid hfl
    clear hn ha hcells hmade hfl
    have hz := fun (w : World) (n c : Nat) => Lib.run_eql_slice_nil (P := Try.prog) w 25 36 (some ad) n c 0 0 Try.underlying25
    go_enter Try.func55, Try.ntmps55
    go_wp2_with (at_builtin; refine wpList_append_own _ rfl (.tmp 5) (.tmp 6) 25 rfl w.heap.size 36 i0 _ 14 56 Try.underlying25 hi hz0 hz1 hz2 rfl (by decide) (.slice (some ⟨w.heap.size, 0, none⟩) 0 0) 0 [] rfl HM.out ad l.length cap (l.flatMap Sn.cells) rfl HFL.out HC.out (flat_one l) (by unfold maxLen; omega) (by omega) (by simp) ?_; intro v' w1 hown1 hg1 _)
    have hown2 : w1.ownsRow w.heap.size 36 14 v' l.length (l.flatMap Sn.cells) := by simpa using hown1
    have HO := Lib.hid hown2
    have HG := Lib.hid hg1
    clear hown1 hown2 hg1
    go_wp2_with fail
    go_ret
    exact ⟨⟨_, rfl, HO.out⟩, ((Below.refl _ _).alloc (Nat.le_refl _) _).grown HG.out (by simp) (fun k e => by cases e; exact Nat.le_refl _)⟩

def untilN (n : Int) (len : Nat) : Nat := (min (max n 0) len).toNat

theorem untilN_le (n : Int) (len : Nat) : untilN n len ≤ len := by unfold untilN; omega

theorem sns_take {B : Nat} {w : World} {a : Option Addr} {cap : Nat} {l : List Sn} (h : Sns B w (.slice a l.length cap) l) (m : Nat) (hm : m ≤ l.length) : Sns B w (.slice a (l.take m).length cap) (l.take m) := by
  obtain ⟨a', cap', hav, hn, ha⟩ := h
  cases hav
  refine ⟨a, cap, rfl, fun e => ?_, fun b off s e hpos => ?_⟩
  · obtain ⟨h1, h2⟩ := hn e
    exact ⟨by rw [h1]; simp, h2⟩
  · rw [List.length_take] at hpos
    obtain ⟨h1, h2, h3⟩ := ha b off s e (by omega)
    refine ⟨h1, h2, fun i x hx j c hc => h3 i x ?_ j c hc⟩
    rw [List.getElem?_take] at hx
    split at hx
    · exact hx
    · cases hx

set_option maxHeartbeats 1000000 in
theorem until_any (l : List Sn) (a : Option Addr) (cap : Nat) (n : Int) (w : World) (hl : l.length ≤ 100000) (hv : Sns w.heap.size w (.slice a l.length cap) l) (hcap : l.length ≤ cap) :
    Calls Try.prog 26 #[.slice a l.length cap, .int .i64 n] w fun e w' => (∃ v', e = .returned v' ∧ w'.ownsRow w.heap.size 36 14 v' (l.take (untilN n l.length)).length ((l.take (untilN n l.length)).flatMap Sn.cells)) ∧ Below w.heap.size w w' := by
  have hc := clone_any (l.take (untilN n l.length)) a cap w (by rw [List.length_take]; omega) (sns_take hv _ (untilN_le n l.length))
  have hlen : (l.take (untilN n l.length)).length = untilN n l.length := by rw [List.length_take]; have := untilN_le n l.length; omega
  rw [hlen] at hc ⊢
  have HC := Lib.hid hc
  have hnil : a = none → cap = 0 := by
    obtain ⟨a', cap', hav, hn, _⟩ := hv
    cases hav
    exact fun e => (hn e).2
  clear hc hlen hv
  go_enter Try.func26, Try.ntmps26
  go_wp2_with fail
  refine HC.out.mono ?_
  rintro e w1 ⟨⟨v', rfl, ho⟩, hb⟩
  have HO := Lib.hid ho
  have HB := Lib.hid hb
  clear ho hb
  go_wp2_with fail
  go_ret
  exact ⟨⟨_, rfl, HO.out⟩, HB.out⟩

end Go.Proofs.Ytgdmgeihgkbjaaa
