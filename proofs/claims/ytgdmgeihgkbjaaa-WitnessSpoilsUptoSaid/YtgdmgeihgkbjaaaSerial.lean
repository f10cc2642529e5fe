/- 'cashboxlaw32.WitnessSerial' -/
import Derived.Test.YtgdmgeihgkbjaaaPd
namespace Go.Proofs.Ytgdmgeihgkbjaaa
open Go.RowKit Go.Shelf

theorem st_new24 (w : World) (s : List V8) (hs : s.length = 32) : (storeVar 24 ⟨w.heap.size, 0, none⟩ (.agg (stArr s))).run Try.prog (w.alloc (.cells (stArr st0) 24)) = .ok () (w.alloc (.cells (stArr s) 24)) := by
  have h := st_all (w := w.alloc (.cells (stArr st0) 24)) s (heap_alloc_new w _) (by decide) hs
  rwa [World.setRow_alloc_new] at h

theorem st_new68 (w : World) (ks : List Int) (hk : ks.length = 5) : (storeVar 68 ⟨w.heap.size, 0, none⟩ (.agg (kdA ks))).run Try.prog (w.alloc (.cells (kdA kd0) 68)) = .ok () (w.alloc (.cells (kdA ks) 68)) := by
  have h := st_kd (w := w.alloc (.cells (kdA kd0) 68)) ks (heap_alloc_new w _) (by decide) hk
  rwa [World.setRow_alloc_new] at h

theorem repP_length (l : List Sn) : (repP l).1.length = 32 := by
  have : ∀ (ns : List Nm) (s : List V8 × Bool), (ns.foldl (repName l) s).1.length = s.1.length := by
    intro ns
    induction ns with
    | nil => intro s; rfl
    | cons n ns ih => intro s; rw [List.foldl_cons, ih, repName_length]
  unfold repP
  rw [this]
  decide

set_option maxRecDepth 100000 in
set_option maxHeartbeats 4000000 in
theorem serial_bad (l : List Sn) (v : Value) (w : World) (hv : Sns w.heap.size w v l) (hb : 300 < l.length) : Calls Try.prog 12 #[v] w fun e w' => e = .returned (.bool true) ∧ Below w.heap.size w w' := by
  obtain ⟨a, cap, rfl, _, _⟩ := hv
  go_enter Try.func12, Try.ntmps12
  go_wp2_with fail
  refine (wakes32_any _).mono ?_
  rintro e w' ⟨rfl, bel⟩
  go_wp2_with fail
  go_ret
  exact ⟨rfl, bel⟩

set_option maxRecDepth 100000 in
set_option maxHeartbeats 8000000 in
theorem serial_go (l : List Sn) (v : Value) (w : World) (hv : Sns w.heap.size w v l) (hb : l.length ≤ 300) (s : List V8) (ok some : Bool) (er : Int) (n nr : Nat) (ks : List Int) (ft : Ft) (hs : s.length = 32) (hks : ks.length = 5) (hn : n ≤ 10000000000)
    (h38 : ∀ w1, Sns w1.heap.size w1 v l → Calls Try.prog 38 #[v] w1 fun e w' => e = .returned (.tuple #[.agg (stArr s), .bool ok, .int .i64 er]) ∧ Below w1.heap.size w1 w')
    (h29 : ∀ w1, Sns w1.heap.size w1 v l → Calls Try.prog 29 #[v] w1 fun e w' => (∃ a c, e = .returned (.tuple #[.slice a n c, .int .i64 er])) ∧ Below w1.heap.size w1 w')
    (h36 : ∀ w1, Sns w1.heap.size w1 v l → Calls Try.prog 36 #[v] w1 fun e w' => e = .returned (.tuple #[.agg (ftArr ft), .bool some]) ∧ Below w1.heap.size w1 w')
    (h39 : ∀ w1, Sns w1.heap.size w1 v l → Calls Try.prog 39 #[v] w1 fun e w' => e = .returned (.tuple #[.int .i64 (nr : Int), .int .i64 (n : Int), .agg (kdA ks), .int .i64 er]) ∧ Below w1.heap.size w1 w')
    (hlaw : (er ≠ 0 ∨ ok = decide (n = 0)) ∧ some = decide (0 < n)) :
    Calls Try.prog 12 #[v] w fun e w' => e = .returned (.bool true) ∧ Below w.heap.size w w' := by
  have HV := Lib.hid hv
  obtain ⟨a, cap, rfl, _, _⟩ := hv
  have H38 := Lib.hid h38
  have H29 := Lib.hid h29
  have H36 := Lib.hid h36
  have H39 := Lib.hid h39
  clear h38 h29 h36 h39
  go_enter Try.func12, Try.ntmps12
  go_wp2_with fail
  refine (H38.out w HV.out).mono ?_
  rintro e w2 ⟨rfl, b2⟩
  have hb3 : Below w.heap.size w (w2.alloc (.cells (stArr s) 24)) := b2.alloc b2.size _
  have HS := Lib.hid (st_new24 w2 s hs)
  obtain ⟨w3, hw3⟩ : ∃ w3, w2.alloc (.cells (stArr s) 24) = w3 := ⟨_, rfl⟩
  rw [hw3] at hb3
  have HW3 := Lib.hid hw3
  have HB3 := Lib.hid hb3
  clear b2 hw3 hb3
  go_wp2_with (rw [zero24s]; refine wpList_store rfl 24 (.tmp 3) (.tmp 21) rfl ⟨w2.heap.size, 0, none⟩ rfl (.agg (stArr s)) rfl HS.out ?_; rw [HW3.out])
  refine (H29.out w3 ((HV.out.below HB3.out).mono HB3.out.size)).mono ?_
  rintro e w4 ⟨⟨fa, fc, rfl⟩, b4⟩
  have HB4 := Lib.hid (HB3.out.trans (b4.mono HB3.out.size))
  clear b4
  go_wp2_with fail
  refine (H36.out w4 ((HV.out.below HB4.out).mono HB4.out.size)).mono ?_
  rintro e w5 ⟨rfl, b5⟩
  have hb6 : Below w.heap.size w (w5.alloc (.cells (ftArr ft) 59)) := (HB4.out.trans (b5.mono HB4.out.size)).alloc (Nat.le_trans HB4.out.size b5.size) _
  obtain ⟨w6, hw6⟩ : ∃ w6, w5.alloc (.cells (ftArr ft) 59) = w6 := ⟨_, rfl⟩
  rw [hw6] at hb6
  have HW6 := Lib.hid hw6
  have HB6 := Lib.hid hb6
  clear b5 hw6 hb6
  go_wp2_with (refine wpList_store rfl 59 (.tmp 8) (.tmp 32) rfl ⟨w5.heap.size, 0, none⟩ rfl (.agg (ftArr ft)) rfl (st_ft w5 ft) ?_; rw [HW6.out])
  refine (H39.out w6 ((HV.out.below HB6.out).mono HB6.out.size)).mono ?_
  rintro e w7 ⟨rfl, b7⟩
  have hb8 : Below w.heap.size w (w7.alloc (.cells (kdA ks) 68)) := (HB6.out.trans (b7.mono HB6.out.size)).alloc (Nat.le_trans HB6.out.size b7.size) _
  have HS8 := Lib.hid (st_new68 w7 ks hks)
  obtain ⟨w8, hw8⟩ : ∃ w8, w7.alloc (.cells (kdA ks) 68) = w8 := ⟨_, rfl⟩
  rw [hw8] at hb8
  have HW8 := Lib.hid hw8
  have HB8 := Lib.hid hb8
  clear b7 hw8 hb8
  obtain ⟨hl1, rfl⟩ := hlaw
  have e_er : (er == er) = true := by simp
  have e_n : ((n : Int) == (n : Int)) = true := by simp
  have e_p : decide ((0 : Int) < (n : Int)) = decide (0 < n) := by simp
  have fin : ∀ w9, Below w8.heap.size w8 w9 → Below w.heap.size w w9 := fun w9 h => HB8.out.trans (h.mono HB8.out.size)
  by_cases he : er = 0
  · have e_e : (er != 0) = false := by simp [he]
    have hok : ok = decide (n = 0) := by rcases hl1 with h | h; exact absurd he h; exact h
    subst hok
    clear hl1 he
    by_cases hz : n = 0
    · subst hz
      go_wp2_with (refine wpList_store rfl 68 (.tmp 12) (.tmp 39) rfl ⟨w7.heap.size, 0, none⟩ rfl (.agg (kdA ks)) rfl HS8.out ?_; rw [HW8.out])
      refine (wakes32_any _).mono ?_
      rintro e w9 ⟨rfl, b9⟩
      go_wp2_with fail
      go_ret
      exact ⟨rfl, fin _ b9⟩
    · have e_z : ((n : Int) == 0) = false := by simp; omega
      have e_z2 : decide (n = 0) = false := by simp [hz]
      have e_z3 : decide (0 < n) = true := by simp; omega
      rw [e_z2, e_z3]
      rw [e_z3] at e_p
      clear hz
      go_wp2_with (refine wpList_store rfl 68 (.tmp 12) (.tmp 39) rfl ⟨w7.heap.size, 0, none⟩ rfl (.agg (kdA ks)) rfl HS8.out ?_; rw [HW8.out])
      refine (wakes32_any _).mono ?_
      rintro e w9 ⟨rfl, b9⟩
      go_wp2_with fail
      go_ret
      exact ⟨rfl, fin _ b9⟩
  · have e_e : (er != 0) = true := by simp [he]
    clear hl1 he
    by_cases hz : n = 0
    · subst hz
      go_wp2_with (refine wpList_store rfl 68 (.tmp 12) (.tmp 39) rfl ⟨w7.heap.size, 0, none⟩ rfl (.agg (kdA ks)) rfl HS8.out ?_; rw [HW8.out])
      refine (wakes32_any _).mono ?_
      rintro e w9 ⟨rfl, b9⟩
      go_wp2_with fail
      go_ret
      exact ⟨rfl, fin _ b9⟩
    · have e_z : ((n : Int) == 0) = false := by simp; omega
      have e_z3 : decide (0 < n) = true := by simp; omega
      rw [e_z3]
      rw [e_z3] at e_p
      clear hz
      go_wp2_with (refine wpList_store rfl 68 (.tmp 12) (.tmp 39) rfl ⟨w7.heap.size, 0, none⟩ rfl (.agg (kdA ks)) rfl HS8.out ?_; rw [HW8.out])
      refine (wakes32_any _).mono ?_
      rintro e w9 ⟨rfl, b9⟩
      go_wp2_with fail
      go_ret
      exact ⟨rfl, fin _ b9⟩

theorem serial_any (l : List Sn) (v : Value) (w : World) (hv : Sns w.heap.size w v l) : Calls Try.prog 12 #[v] w fun e w' => e = .returned (.bool true) ∧ Below w.heap.size w w' := by
  by_cases hb : 300 < l.length
  · exact serial_bad l v w hv hb
  · have hl : l.length ≤ 100000 := by omega
    cases hm : mayP l with
    | false =>
      have hf : firstP l = (ftz, false) := by simp [firstP, hm]
      refine serial_go l v w hv (by omega) st0 false false 2 0 0 kd0 ftz (by decide) (by decide) (by omega) (fun w1 h1 => replay38_no l v w1 hl h1 hm) (fun w1 h1 => (wrong_err l v w1 hl h1 hm).mono fun e w' h => ⟨⟨none, 0, h.1⟩, h.2⟩) (fun w1 h1 => ?_) (fun w1 h1 => count_err l v w1 hl h1 hm) ⟨.inl (by decide), by decide⟩
      have := firstF_any l v w1 hl h1
      rw [hf] at this
      exact this
    | true =>
      have hwl : (wrongP l).length ≤ 10000000000 := Nat.le_trans (List.length_filter_le _ _) (reads_length hl)
      have h38 : ∀ w1, Sns w1.heap.size w1 v l → Calls Try.prog 38 #[v] w1 fun e w' => e = .returned (.tuple #[.agg (stArr (repP l).1), .bool (repP l).2, .int .i64 0]) ∧ Below w1.heap.size w1 w' := fun w1 h1 => replay38_ok l v w1 hl h1 hm
      have hser : (repP l).2 = decide ((wrongP l).length = 0) := by
        rw [serial_law]
        cases wrongP l <;> simp
      have hfst : (firstP l).2 = decide (0 < (wrongP l).length) := by
        simp only [firstP, hm, if_true]
        cases wrongP l <;> simp
      exact serial_go l v w hv (by omega) (repP l).1 (repP l).2 (firstP l).2 0 (wrongP l).length (readsP l).length (kdP (wrongP l)) (firstP l).1 (repP_length l) (kdP_length _) hwl h38 (fun w1 h1 => (wrong_ok l v w1 hl h1 hm).mono fun e w' ⟨a, c, h, _, h2⟩ => ⟨⟨a, c, h⟩, h2⟩) (fun w1 h1 => firstF_any l v w1 hl h1) (fun w1 h1 => count_ok l v w1 hl h1 hm) ⟨.inr hser, hfst⟩

end Go.Proofs.Ytgdmgeihgkbjaaa
