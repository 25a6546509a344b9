/- The reference's Free. -/
import Derived.Test.YtepnaalgobhcdaaRfA
namespace Go.Proofs.Ytepnaalgobhcdaa
open Go.RowKit Spm

theorem clash_iff {a n : Nat} (h0 : 0 < n) {p : Pg} : clash (fst a) (lst a n) p = (decide (p.num * 4096 < a + n) && decide (a < p.num * 4096 + 4096)) := by
  unfold clash fst lst
  rw [Bool.eq_iff_iff]
  simp
  omega
theorem all_take {α : Type} {M : List α} {q : α → Bool} {i : Nat} {p : α} (hi : M[i]? = some p) (h : (M.take i).all q = true) (hq : q p = true) : (M.take (i + 1)).all q = true := by
  rw [List.take_add_one, hi, List.all_append, h]; simp [hq]

set_option maxHeartbeats 1000000 in
set_option maxRecDepth 100000 in
theorem rfree_in (w : World) (b : Nat) (M : List Pg) (F : Nat → Prop) (h : RfIn w b M F) (a n : Nat) (h0 : 0 < n) (hin : inB a n = true) :
    Calls Try.prog 72 #[.pointer (some ⟨b, 0, none⟩), .int .u64 a, .int .u64 n] w fun e w' => e = .returned (.bool (M.all fun p => !clash (fst a) (lst a n) p)) ∧ w = w' := by
  obtain ⟨hok, ⟨aA, cA, aB, cB, aP, cP, A, C, hb, hp⟩, _, _⟩ := h
  have cb : w.cell? ⟨b, 0, none⟩ = some (.slice aA M.length cA) := by simp [World.cell?, hb, rfCells]
  have hrow := hp.ats
  have hlen := hok.few
  have HOK := Lib.hid hok
  have HROW := Lib.hid hrow
  have hcap := hrow.cap
  have hz : ((n : Int) == 0) = false := by simp; omega
  have HI1 : Hid (Calls Try.prog 87 #[.int .u64 a, .int .u64 n] w fun e w' => e = .returned (.bool true) ∧ w = w') := by
    have := rin_any w a n (by unfold inB at hin; simp at hin; omega); rw [hin] at this; exact this
  have hab : a + n ≤ 140737488355328 := by unfold inB at hin; simp at hin; exact hin.2
  have HC : Hid (∀ p, clash (fst a) (lst a n) p = (decide (p.num * 4096 < a + n) && decide (a < p.num * 4096 + 4096))) := fun p => clash_iff h0
  clear hb hp hrow hok hin
  obtain ⟨q, hq⟩ : ∃ q : Pg → Bool, q = fun p => !clash (fst a) (lst a n) p := ⟨_, rfl⟩
  rw [← hq]
  have HQ : Hid (∀ p, q p = !(decide (p.num * 4096 < a + n) && decide (a < p.num * 4096 + 4096))) := fun p => by rw [hq]; show (!clash _ _ p) = _; rw [HC.out]
  clear hq HC
  go_enter Try.func72, Try.ntmps72
  go_wp2_with (go_at_call 87; refine HI1.out.mono ?_; rintro e _ ⟨rfl, rfl⟩)
  go_loop [7] (fun t => ∃ i : Nat, i ≤ M.length ∧ t = .int .i64 i ∧ Hid ((M.take i).all q = true)) (fun t => M.length - (intOf t).toNat)
  case atStart => exact ⟨0, Nat.zero_le _, rfl, rfl⟩
  case round =>
    obtain ⟨i, hi, rfl, HI⟩ := hrel
    by_cases hlt : i < M.length
    · obtain ⟨g, rfl, _, hcell⟩ := HROW.out.get (by omega)
      obtain ⟨p, hpi⟩ : ∃ p, M[i]? = some p := ⟨M[i], List.getElem?_eq_getElem hlt⟩
      have hpm := List.mem_of_getElem? hpi
      have hpb := (HOK.out.pages p hpm).1
      have hc := hcell i (.int .u64 ((p.num * 4096 : Nat) : Int)) (by unfold atVals; rw [List.getElem?_map, hpi]; rfl)
      have hqp := HQ.out p
      obtain ⟨at_, hat⟩ : ∃ at_, at_ = p.num * 4096 := ⟨_, rfl⟩
      rw [← hat] at hc hqp
      have hatb : at_ < 140737488355328 := by omega
      by_cases h1 : at_ < a + n
      · by_cases h2 : a < at_ + 4096
        · have e : M.all q = false := List.all_eq_false.2 ⟨p, hpm, by rw [hqp]; simp [h1, h2]⟩
          have E := Lib.hid e
          have i1 : (at_ : Int) < (a : Int) + (n : Int) := by omega
          have i2 : (a : Int) < (at_ : Int) + 4096 := by omega
          clear e hcell hpi hat hpb h1 h2 hqp hpm
          go_wp2_with fail
          go_ret
          exact ⟨by rw [E.out]; rfl, rfl⟩
        · have HS : Hid ((M.take (i + 1)).all q = true) := all_take hpi HI.out (by rw [hqp]; simp [h2])
          have i1 : (at_ : Int) < (a : Int) + (n : Int) := by omega
          have i2 : ¬ (a : Int) < (at_ : Int) + 4096 := by omega
          clear hcell hpi hat hpb h1 h2 hqp hpm
          go_wp2_with fail
          go_round
          case rel => exact ⟨i + 1, by omega, by go_num, HS.out⟩
          case measure => simp [intOf]; omega
      · have HS : Hid ((M.take (i + 1)).all q = true) := all_take hpi HI.out (by rw [hqp]; simp [h1])
        have i1 : ¬ (at_ : Int) < (a : Int) + (n : Int) := by omega
        clear hcell hpi hat hpb h1 hqp hpm
        go_wp2_with fail
        go_round
        case rel => exact ⟨i + 1, by omega, by go_num, HS.out⟩
        case measure => simp [intOf]; omega
    · have e : M.all q = true := by
        have := HI.out
        rwa [List.take_of_length_le (by omega)] at this
      have E := Lib.hid e
      clear e
      go_wp2_with fail
      go_ret
      exact ⟨by rw [E.out]; rfl, rfl⟩

set_option maxRecDepth 100000 in
theorem rfree_any (w : World) (b : Nat) (M : List Pg) (F : Nat → Prop) (h : RfIn w b M F) (a n : Nat) (ha : a < 18446744073709551616) :
    Calls Try.prog 72 #[.pointer (some ⟨b, 0, none⟩), .int .u64 a, .int .u64 n] w fun e w' => e = .returned (.bool (freeB M a n)) ∧ w = w' := by
  by_cases h0 : n = 0
  · have e : freeB M a n = true := by simp [freeB, h0]
    rw [e]
    subst h0
    go_enter Try.func72, Try.ntmps72
    go_wp2_with fail
    go_ret
    exact ⟨rfl, rfl⟩
  · have hz : (n == 0) = false := by simpa using h0
    cases hin : inB a n with
    | true =>
      have e : freeB M a n = M.all fun p => !clash (fst a) (lst a n) p := by simp [freeB, hz, hin]
      rw [e]
      exact rfree_in w b M F h a n (by omega) hin
    | false =>
      have e : freeB M a n = false := by simp [freeB, hz, hin]
      have HI1 : Hid (Calls Try.prog 87 #[.int .u64 a, .int .u64 n] w fun e w' => e = .returned (.bool false) ∧ w = w') := by
        have := rin_any w a n ha; rw [hin] at this; exact this
      rw [e]
      have hz' : ((n : Int) == 0) = false := by simp; omega
      clear e hin h
      go_enter Try.func72, Try.ntmps72
      go_wp2_with (go_at_call 87; refine HI1.out.mono ?_; rintro e _ ⟨rfl, rfl⟩)
      go_ret
      exact ⟨rfl, rfl⟩
end Go.Proofs.Ytepnaalgobhcdaa
