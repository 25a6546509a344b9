/- clevislaw07.SpaceMany: the walk. -/
import Derived.Test.YtepnaalgobhcdaaSpO
namespace Go.Proofs.Ytepnaalgobhcdaa
open Go.RowKit Spm

def ManyRes (w : World) (e : Ending) (w' : World) : Prop := e = .returned (.bool true) ∧ Below w.heap.size w w'

set_option maxHeartbeats 1000000 in
set_option maxRecDepth 100000 in
theorem many_else (w : World) (n m : Nat) (h : n < 1 ∨ 8194 < n ∨ m < 1 ∨ 8192 < m) : Calls Try.prog 5 #[.int .u64 n, .int .u64 m] w (ManyRes w) := by
  have HK : Hid (∀ W : World, Calls Try.prog 23 #[] W fun e w' => e = .returned (.bool true) ∧ Below W.heap.size W w') := known_any
  by_cases c1 : (n : Int) < 1
  · clear h
    go_enter Try.func5, Try.ntmps5
    go_wp2_with (go_at_call 23; refine (HK.out _).mono ?_; rintro e w9 ⟨rfl, h1⟩; have B9 := Lib.hid h1; clear h1)
    go_ret
    exact ⟨rfl, B9.out⟩
  by_cases c2 : (8194 : Int) < n
  · clear h
    go_enter Try.func5, Try.ntmps5
    go_wp2_with (go_at_call 23; refine (HK.out _).mono ?_; rintro e w9 ⟨rfl, h1⟩; have B9 := Lib.hid h1; clear h1)
    go_ret
    exact ⟨rfl, B9.out⟩
  by_cases c3 : (m : Int) < 1
  · clear h
    go_enter Try.func5, Try.ntmps5
    go_wp2_with (go_at_call 23; refine (HK.out _).mono ?_; rintro e w9 ⟨rfl, h1⟩; have B9 := Lib.hid h1; clear h1)
    go_ret
    exact ⟨rfl, B9.out⟩
  have c4 : (8192 : Int) < m := by omega
  clear h
  go_enter Try.func5, Try.ntmps5
  go_wp2_with (go_at_call 23; refine (HK.out _).mono ?_; rintro e w9 ⟨rfl, h1⟩; have B9 := Lib.hid h1; clear h1)
  go_ret
  exact ⟨rfl, B9.out⟩

set_option maxHeartbeats 1000000 in
set_option maxRecDepth 100000 in
theorem many_over (w : World) (n m : Nat) (h1 : 8192 < n) (h2 : n ≤ 8194) (h3 : 1 ≤ m) (h4 : m ≤ 8192) : Calls Try.prog 5 #[.int .u64 n, .int .u64 m] w (ManyRes w) := by
  have HK : Hid (∀ W : World, Calls Try.prog 23 #[] W fun e w' => e = .returned (.bool true) ∧ Below W.heap.size W w') := known_any
  have HN : Hid (∀ W : World, Calls Try.prog 24 #[] W fun e w' => e = .returned (.pointer (some ⟨W.heap.size + 1, 0, none⟩)) ∧ SpIn w' (W.heap.size + 1) [] (newF W) ∧ Below W.heap.size W w' ∧ w'.heap.size = W.heap.size + 2) := new_any
  obtain ⟨e1, e2⟩ := many1_no h1 h2
  have e4 : ([] : List Pg).length = 0 := rfl
  have HM1 : Hid (∀ (W : World) (b : Nat) (F : Nat → Prop), SpIn W b [] F → Calls Try.prog 25 #[.pointer (some ⟨b, 0, none⟩), .int .u64 0, .int .u64 ((n : Int) * 4096), .int .i64 1] W fun e w' => e = .returned (.int .i64 11) ∧ SpIn w' b [] (grow F W w') ∧ Chg F W w') := fun W b F h => by
    have := map_any W b [] F h 0 (n * 4096) (by decide) 1
    rw [show ((n * 4096 : Nat) : Int) = (n : Int) * 4096 by omega] at this
    refine this.mono ?_
    rintro e w' ⟨rfl, h1, h2⟩
    rw [e2] at h1
    rw [e1]; exact ⟨rfl, h1, h2⟩
  have HP : Hid (∀ (W : World) (b : Nat) (F : Nat → Prop), SpIn W b [] F → Calls Try.prog 26 #[.pointer (some ⟨b, 0, none⟩)] W fun e w' => e = .returned (.int .i64 0) ∧ W = w') := fun W b F h => by
    refine (pages_any W b [] F h).mono ?_
    rintro e w' ⟨rfl, h1⟩
    rw [e4]; exact ⟨rfl, h1⟩
  have c1 : ¬ (n : Int) < 1 := by omega
  have c2 : ¬ (8194 : Int) < n := by omega
  have c3 : ¬ (m : Int) < 1 := by omega
  have c4 : ¬ (8192 : Int) < m := by omega
  have c5 : (8192 : Int) < n := by omega
  clear e1 e2 e4 h1 h2 h3 h4
  go_enter Try.func5, Try.ntmps5
  go_wp2_with (first
      | (go_at_call 24; refine (HN.out _).mono ?_; rintro e w1 ⟨rfl, h1, h2, h3⟩; have H1 := Lib.hid h1; have B1 := Lib.hid h2; clear h1 h2 h3)
      | (go_at_call 25; refine (HM1.out _ _ _ H1.out).mono ?_; rintro e w2 ⟨rfl, h1, h2⟩; have H2 := Lib.hid h1; have C2 := Lib.hid h2; clear h1 h2)
      | (go_at_call 26; refine (HP.out _ _ _ H2.out).mono ?_; rintro e _ ⟨rfl, rfl⟩)
      | (go_at_call 23; refine (HK.out _).mono ?_; rintro e w9 ⟨rfl, h1⟩; have B9 := Lib.hid h1; clear h1))
  go_ret
  refine ⟨rfl, ?_⟩
  have f1 : ∀ k, newF w k → w.heap.size ≤ k := fun k hk => hk.1
  have s1 := B1.out.size
  have b2 := C2.out.below f1 s1
  have s2 := b2.size
  exact (B1.out.trans b2).trans (below_le B9.out (by omega))

set_option maxHeartbeats 1000000 in
set_option maxRecDepth 100000 in
theorem many_second (w : World) (n m : Nat) (h1 : 1 ≤ n) (h2 : n ≤ 8192) (h3 : 1 ≤ m) (h4 : m ≤ 8192) (h5 : 8192 < n + m) : Calls Try.prog 5 #[.int .u64 n, .int .u64 m] w (ManyRes w) := by
  have HK : Hid (∀ W : World, Calls Try.prog 23 #[] W fun e w' => e = .returned (.bool true) ∧ Below W.heap.size W w') := known_any
  have HN : Hid (∀ W : World, Calls Try.prog 24 #[] W fun e w' => e = .returned (.pointer (some ⟨W.heap.size + 1, 0, none⟩)) ∧ SpIn w' (W.heap.size + 1) [] (newF W) ∧ Below W.heap.size W w' ∧ w'.heap.size = W.heap.size + 2) := new_any
  obtain ⟨e1, e2⟩ := many1 h1 h2
  have e3 := many2 h2 h3 h4
  have e4 := many2_len h2 h3 h4
  rw [if_pos (by omega)] at e3 e4
  have HM1 : Hid (∀ (W : World) (b : Nat) (F : Nat → Prop), SpIn W b [] F → Calls Try.prog 25 #[.pointer (some ⟨b, 0, none⟩), .int .u64 0, .int .u64 ((n : Int) * 4096), .int .i64 1] W fun e w' => e = .returned (.int .i64 0) ∧ SpIn w' b (mapIn [] 0 n 1) (grow F W w') ∧ Chg F W w') := fun W b F h => by
    have := map_any W b [] F h 0 (n * 4096) (by decide) 1
    rw [show ((n * 4096 : Nat) : Int) = (n : Int) * 4096 by omega] at this
    refine this.mono ?_
    rintro e w' ⟨rfl, h1, h2⟩
    rw [e2] at h1
    rw [e1]; exact ⟨rfl, h1, h2⟩
  have HM2 : Hid (∀ (W : World) (b : Nat) (F : Nat → Prop), SpIn W b (mapIn [] 0 n 1) F → Calls Try.prog 25 #[.pointer (some ⟨b, 0, none⟩), .int .u64 1099511627776, .int .u64 ((m : Int) * 4096), .int .i64 2] W fun e w' => e = .returned (.int .i64 11) ∧ SpIn w' b (mapM (mapIn [] 0 n 1) 1099511627776 (m * 4096) 2) (grow F W w') ∧ Chg F W w') := fun W b F h => by
    have := map_any W b (mapIn [] 0 n 1) F h 1099511627776 (m * 4096) (by decide) 2
    rw [show ((m * 4096 : Nat) : Int) = (m : Int) * 4096 by omega] at this
    refine this.mono ?_
    rintro e w' ⟨rfl, h1, h2⟩
    rw [e3]; exact ⟨rfl, h1, h2⟩
  have HP : Hid (∀ (W : World) (b : Nat) (F : Nat → Prop), SpIn W b (mapM (mapIn [] 0 n 1) 1099511627776 (m * 4096) 2) F → Calls Try.prog 26 #[.pointer (some ⟨b, 0, none⟩)] W fun e w' => e = .returned (.int .i64 n) ∧ W = w') := fun W b F h => by
    refine (pages_any W b (mapM (mapIn [] 0 n 1) 1099511627776 (m * 4096) 2) F h).mono ?_
    rintro e w' ⟨rfl, h1⟩
    rw [e4]; exact ⟨rfl, h1⟩
  have c1 : ¬ (n : Int) < 1 := by omega
  have c2 : ¬ (8194 : Int) < n := by omega
  have c3 : ¬ (m : Int) < 1 := by omega
  have c4 : ¬ (8192 : Int) < m := by omega
  have c5 : ¬ (8192 : Int) < n := by omega
  have c6 : (8192 : Int) < (n : Int) + (m : Int) := by omega
  clear e1 e2 e3 e4 h1 h2 h3 h4 h5
  go_enter Try.func5, Try.ntmps5
  go_wp2_with (first
      | (go_at_call 24; refine (HN.out _).mono ?_; rintro e w1 ⟨rfl, h1, h2, h3⟩; have H1 := Lib.hid h1; have B1 := Lib.hid h2; clear h1 h2 h3)
      | (go_at_call 25; have HX := H2.out; refine (HM2.out _ _ _ HX).mono ?_; rintro e w3 ⟨rfl, h1, h2⟩; have H3 := Lib.hid h1; have C3 := Lib.hid h2; clear h1 h2 HX)
      | (go_at_call 25; refine (HM1.out _ _ _ H1.out).mono ?_; rintro e w2 ⟨rfl, h1, h2⟩; have H2 := Lib.hid h1; have C2 := Lib.hid h2; clear h1 h2)
      | (go_at_call 26; refine (HP.out _ _ _ H3.out).mono ?_; rintro e _ ⟨rfl, rfl⟩)
      | (go_at_call 23; refine (HK.out _).mono ?_; rintro e w9 ⟨rfl, h1⟩; have B9 := Lib.hid h1; clear h1))
  go_ret
  refine ⟨rfl, ?_⟩
  have f1 : ∀ k, newF w k → w.heap.size ≤ k := fun k hk => hk.1
  have s1 := B1.out.size
  have b2 := C2.out.below f1 s1
  have s2 := b2.size
  have f2 := grow_below (w := w1) (w' := w2) f1 s1
  have b3 := C3.out.below f2 (by omega)
  have s3 := b3.size
  exact ((B1.out.trans b2).trans b3).trans (below_le B9.out (by omega))

set_option maxHeartbeats 1000000 in
set_option maxRecDepth 100000 in
theorem many_both (w : World) (n m : Nat) (h1 : 1 ≤ n) (h2 : n ≤ 8192) (h3 : 1 ≤ m) (h4 : m ≤ 8192) (h5 : n + m ≤ 8192) : Calls Try.prog 5 #[.int .u64 n, .int .u64 m] w (ManyRes w) := by
  have HK : Hid (∀ W : World, Calls Try.prog 23 #[] W fun e w' => e = .returned (.bool true) ∧ Below W.heap.size W w') := known_any
  have HN : Hid (∀ W : World, Calls Try.prog 24 #[] W fun e w' => e = .returned (.pointer (some ⟨W.heap.size + 1, 0, none⟩)) ∧ SpIn w' (W.heap.size + 1) [] (newF W) ∧ Below W.heap.size W w' ∧ w'.heap.size = W.heap.size + 2) := new_any
  obtain ⟨e1, e2⟩ := many1 h1 h2
  have e3 := many2 h2 h3 h4
  have e4 := many2_len h2 h3 h4
  rw [if_neg (by omega)] at e3 e4
  have HM1 : Hid (∀ (W : World) (b : Nat) (F : Nat → Prop), SpIn W b [] F → Calls Try.prog 25 #[.pointer (some ⟨b, 0, none⟩), .int .u64 0, .int .u64 ((n : Int) * 4096), .int .i64 1] W fun e w' => e = .returned (.int .i64 0) ∧ SpIn w' b (mapIn [] 0 n 1) (grow F W w') ∧ Chg F W w') := fun W b F h => by
    have := map_any W b [] F h 0 (n * 4096) (by decide) 1
    rw [show ((n * 4096 : Nat) : Int) = (n : Int) * 4096 by omega] at this
    refine this.mono ?_
    rintro e w' ⟨rfl, h1, h2⟩
    rw [e2] at h1
    rw [e1]; exact ⟨rfl, h1, h2⟩
  have HM2 : Hid (∀ (W : World) (b : Nat) (F : Nat → Prop), SpIn W b (mapIn [] 0 n 1) F → Calls Try.prog 25 #[.pointer (some ⟨b, 0, none⟩), .int .u64 1099511627776, .int .u64 ((m : Int) * 4096), .int .i64 2] W fun e w' => e = .returned (.int .i64 0) ∧ SpIn w' b (mapM (mapIn [] 0 n 1) 1099511627776 (m * 4096) 2) (grow F W w') ∧ Chg F W w') := fun W b F h => by
    have := map_any W b (mapIn [] 0 n 1) F h 1099511627776 (m * 4096) (by decide) 2
    rw [show ((m * 4096 : Nat) : Int) = (m : Int) * 4096 by omega] at this
    refine this.mono ?_
    rintro e w' ⟨rfl, h1, h2⟩
    rw [e3]; exact ⟨rfl, h1, h2⟩
  have HP : Hid (∀ (W : World) (b : Nat) (F : Nat → Prop), SpIn W b (mapM (mapIn [] 0 n 1) 1099511627776 (m * 4096) 2) F → Calls Try.prog 26 #[.pointer (some ⟨b, 0, none⟩)] W fun e w' => e = .returned (.int .i64 ((n : Int) + (m : Int))) ∧ W = w') := fun W b F h => by
    refine (pages_any W b (mapM (mapIn [] 0 n 1) 1099511627776 (m * 4096) 2) F h).mono ?_
    rintro e w' ⟨rfl, h1⟩
    rw [e4]; exact ⟨rfl, h1⟩
  have c1 : ¬ (n : Int) < 1 := by omega
  have c2 : ¬ (8194 : Int) < n := by omega
  have c3 : ¬ (m : Int) < 1 := by omega
  have c4 : ¬ (8192 : Int) < m := by omega
  have c5 : ¬ (8192 : Int) < n := by omega
  have c6 : ¬ (8192 : Int) < (n : Int) + (m : Int) := by omega
  clear e1 e2 e3 e4 h1 h2 h3 h4 h5
  go_enter Try.func5, Try.ntmps5
  go_wp2_with (first
      | (go_at_call 24; refine (HN.out _).mono ?_; rintro e w1 ⟨rfl, h1, h2, h3⟩; have H1 := Lib.hid h1; have B1 := Lib.hid h2; clear h1 h2 h3)
      | (go_at_call 25; have HX := H2.out; refine (HM2.out _ _ _ HX).mono ?_; rintro e w3 ⟨rfl, h1, h2⟩; have H3 := Lib.hid h1; have C3 := Lib.hid h2; clear h1 h2 HX)
      | (go_at_call 25; refine (HM1.out _ _ _ H1.out).mono ?_; rintro e w2 ⟨rfl, h1, h2⟩; have H2 := Lib.hid h1; have C2 := Lib.hid h2; clear h1 h2)
      | (go_at_call 26; refine (HP.out _ _ _ H3.out).mono ?_; rintro e _ ⟨rfl, rfl⟩)
      | (go_at_call 23; refine (HK.out _).mono ?_; rintro e w9 ⟨rfl, h1⟩; have B9 := Lib.hid h1; clear h1))
  go_ret
  refine ⟨rfl, ?_⟩
  have f1 : ∀ k, newF w k → w.heap.size ≤ k := fun k hk => hk.1
  have s1 := B1.out.size
  have b2 := C2.out.below f1 s1
  have s2 := b2.size
  have f2 := grow_below (w := w1) (w' := w2) f1 s1
  have b3 := C3.out.below f2 (by omega)
  have s3 := b3.size
  exact ((B1.out.trans b2).trans b3).trans (below_le B9.out (by omega))

theorem many_any (w : World) (n m : Nat) : Calls Try.prog 5 #[.int .u64 n, .int .u64 m] w (ManyRes w) := by
  by_cases c1 : n < 1
  · exact many_else w n m (.inl c1)
  by_cases c2 : 8194 < n
  · exact many_else w n m (.inr (.inl c2))
  by_cases c3 : m < 1
  · exact many_else w n m (.inr (.inr (.inl c3)))
  by_cases c4 : 8192 < m
  · exact many_else w n m (.inr (.inr (.inr c4)))
  by_cases c5 : 8192 < n
  · exact many_over w n m c5 (by omega) (by omega) (by omega)
  by_cases c6 : 8192 < n + m
  · exact many_second w n m (by omega) (by omega) (by omega) (by omega) c6
  · exact many_both w n m (by omega) (by omega) (by omega) (by omega) (by omega)
end Go.Proofs.Ytepnaalgobhcdaa
