/- *Space.Map lays pages of noughts as 'mapM' does, or says why not. -/
import Derived.Test.YtepnaalgobhcdaaSpD
import Derived.WalkSpells
namespace Go.Proofs.Ytepnaalgobhcdaa
open Go.RowKit Spm

theorem free_any (w : World) (b : Nat) (M : List Pg) (F : Nat → Prop) (h : SpIn w b M F) (a n : Nat) (ha : a < 18446744073709551616) :
    Calls Try.prog 41 #[.pointer (some ⟨b, 0, none⟩), .int .u64 a, .int .u64 n] w fun e w' => e = .returned (.bool (freeB M a n)) ∧ Below w.heap.size w w' := by
  by_cases h0 : n = 0
  · have e : freeB M a n = true := by simp [freeB, h0]
    rw [e]
    subst h0
    go_enter Try.func41, Try.ntmps41
    go_wp2_with fail
    go_ret
    exact ⟨rfl, Below.refl _ _⟩
  · have hz : (n == 0) = false := by simpa using h0
    cases hin : inB a n with
    | true =>
      have e : freeB M a n = M.all fun p => !clash (fst a) (lst a n) p := by simp [freeB, hz, hin]
      rw [e]
      exact free_in w b M F h a n (by omega) hin
    | false =>
      have e : freeB M a n = false := by simp [freeB, hz, hin]
      have HI1 : Hid (Calls Try.prog 64 #[.int .u64 a, .int .u64 n] w fun e w' => e = .returned (.bool false) ∧ w = w') := by
        have := in_any w a n ha; rw [hin] at this; exact this
      rw [e]
      have hz' : ((n : Int) == 0) = false := by simp; omega
      clear e hin h
      go_enter Try.func41, Try.ntmps41
      go_wp2_with (go_at_call 64; refine HI1.out.mono ?_; rintro e _ ⟨rfl, rfl⟩)
      go_ret
      exact ⟨rfl, Below.refl _ _⟩

theorem info140 : (Try.prog.info? 140).map (fun i => (i.zero, i.size)) = some (some (.agg (bytesArr noughts)), 4096) := by kernel_rfl
theorem zero140 (w : World) : (zeroValue 140).run Try.prog w = .ok (.agg (bytesArr noughts)) w := by
  obtain ⟨i, hi, hz⟩ := Option.map_eq_some_iff.1 info140
  simp only [Prod.mk.injEq] at hz
  simp [zeroValue, typeInfo, hi, hz.1]
section
variable {ops : Array Oper} {rest : List Oper} {o : Oper} {a : Act} {w : World} {Q : Exit → Act → World → Prop}
/-- 'new([4096]byte)'. -/
theorem wpList_newpage (hg : o.guard = none) (ho : o.op = .alloc 140) (h : wpList Try.prog ops Q rest (a.put o.dst (.pointer (some ⟨w.heap.size, 0, none⟩))) (w.alloc (.cells (bytesArr noughts) 140))) : wpList Try.prog ops Q (o :: rest) a w := by
  refine wpList_plain hg fun K' hK' => ?_
  unfold Oper.wp
  have hr : (Instr.alloc 140 true (.tuple #[])).run Try.prog w = .ok (.pointer (some ⟨w.heap.size, 0, none⟩)) (w.alloc (.cells (bytesArr noughts) 140)) := by
    simp only [Instr.alloc, Sem.run_bind, zero140, Result.andThen_ok]
    rfl
  simp only [execOp, ho, Sem.run_bind, hr, Result.andThen_ok, Sem.run_pure]
  exact hK' _ _ h
end

/-- The space while pages are laid: those of M, and j new ones from f on. -/
structure MapSt (w : World) (b : Nat) (M : List Pg) (F : Nat → Prop) (f j : Nat) (prot : Int) (wr : World) : Prop where
  chg : Chg F w wr
  own : ∃ mb A, wr.heap[b]? = some (.cells #[.map (some mb)] 78 (0, 0)) ∧ Pages wr mb A (mapIn M f j prot) (grow F w wr) ∧ F mb ∧ ∀ p ∈ mapIn M f j prot, A p.num < wr.heap.size

theorem MapSt.start {w : World} {b : Nat} {M : List Pg} {F : Nat → Prop} (h : SpIn w b M F) (f : Nat) (prot : Int) : MapSt w b M F f 0 prot w := by
  have hOk := h.ok
  obtain ⟨_, ⟨mb, A, h2, h3⟩, h4, h5⟩ := h
  refine ⟨Chg.refl _ _, mb, A, h2, ?_, h3.fmap, ?_⟩
  · rw [mapIn_zero hOk]
    exact ⟨h3.map, .inl h3.fmap, fun p hp => ⟨.inl (h3.page p hp).1, (h3.page p hp).2⟩, h3.apart⟩
  · rw [mapIn_zero hOk]
    exact fun p hp => lt_of_block (h3.page p hp).2
end Go.Proofs.Ytepnaalgobhcdaa
