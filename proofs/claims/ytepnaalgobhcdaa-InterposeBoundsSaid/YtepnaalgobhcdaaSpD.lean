/- *Space.Free: no page clashes with the bytes asked for, whatever order the map is gone through in. -/
import Derived.Test.YtepnaalgobhcdaaSpC
namespace Go.Proofs.Ytepnaalgobhcdaa
open Go.RowKit Spm

def optVal (c : Option (Nat × Int)) : Value := (c.map pgVal).getD pgZero
theorem pgElem_opt {v : Value} {y : DataW Unit × List MemPlace} (h : pgElem v = some y) : ∃ c, v = optVal c := by
  obtain ⟨d, ps⟩ := y
  rcases pgElem_cases h with ⟨p, rfl, _⟩ | ⟨rfl, _⟩
  · exact ⟨some p, rfl⟩
  · exact ⟨none, rfl⟩
theorem key_cases {kv : Value} {kl : Lit} (h : keyOf Try.prog 32 kv = some kl) : ∃ n : Nat, n < 18446744073709551616 ∧ kv = .int .u64 (n : Int) ∧ kl = key n := by
  obtain ⟨x, rfl, rfl, hw⟩ := Maps.keyOf_int_inv Try.underlying32 h
  have hb := bounds_u64 hw
  have e : ((x.toNat : Nat) : Int) = x := by omega
  refine ⟨x.toNat, by omega, ?_, ?_⟩
  · rw [e]
  · unfold key; rw [e]

/-- What is still to come of a map that is gone through, and that none of what has come clashes. -/
structure FreeSt (w0 : World) (D : DataW Unit) (mb r c f e : Nat) (cnt : Nat) (wr : World) : Prop where
  below : Below w0.heap.size w0 wr
  it : ∃ left, wr.ranges Try.prog 32 pgElem mb r c D left cnt ∧ (∀ z, left z = true → Maps.has D z = true) ∧ ∀ n : Nat, Maps.has D (key n) = true → left (key n) = false → ¬ (f ≤ n ∧ n < e)

theorem has_page {M : List Pg} {A : Nat → Nat} {D : DataW Unit}
    (hf : ∀ n, n < 18446744073709551616 → (pgFn M A n = none → Maps.has D (key n) = false) ∧ ∀ p, pgFn M A n = some p → Maps.has D (key n) = true ∧ ∀ z, D.atKey (key n) z = pgData p) (hM : Ok M) (n : Nat) (hn : n < 18446744073709551616) :
    Maps.has D (key n) = true ↔ ∃ p ∈ M, p.num = n := by
  constructor
  · intro h
    cases hp : pg M n with
    | none => rw [(hf n hn).1 (by unfold pgFn; rw [hp]; rfl)] at h; cases h
    | some p => exact ⟨p, pg_mem hp⟩
  · rintro ⟨p, hp, rfl⟩
    exact ((hf p.num hn).2 (A p.num, p.prot) (by unfold pgFn; rw [pg_of_mem hM hp]; rfl)).1

set_option maxHeartbeats 400000 in
set_option maxRecDepth 100000 in
theorem free_in (w : World) (b : Nat) (M : List Pg) (F : Nat → Prop) (h : SpIn w b M F) (a n : Nat) (h0 : 0 < n) (hin : inB a n = true) :
    Calls Try.prog 41 #[.pointer (some ⟨b, 0, none⟩), .int .u64 a, .int .u64 n] w fun e w' => e = .returned (.bool (M.all fun p => !clash (fst a) (lst a n) p)) ∧ Below w.heap.size w w' := by
  have hOk := h.ok
  obtain ⟨_, ⟨mb, A, hb, hp⟩, _, _⟩ := h
  obtain ⟨⟨D, hown, hsz, hf⟩, _, _, _⟩ := hp
  have cb := cell_of_one hb
  have hz : ((n : Int) == 0) = false := by simp; omega
  have HOWN := Lib.hid hown
  have HF := Lib.hid hf
  have HOK := Lib.hid hOk
  have HB := Lib.hid hb
  have hbs := lt_of_block hb
  have HI1 : Hid (Calls Try.prog 64 #[.int .u64 a, .int .u64 n] w fun e w' => e = .returned (.bool true) ∧ w = w') := by
    have := in_any w a n (by unfold inB at hin; simp at hin; omega); rw [hin] at this; exact this
  have HN := Lib.hid (numbers_any w a n h0 hin)
  clear hin hown hsz hf hOk hb
  go_enter Try.func41, Try.ntmps41
  go_wp2_with (first
    | (go_at_call 64; refine HI1.out.mono ?_; rintro e _ ⟨rfl, rfl⟩)
    | (go_at_call 65; refine HN.out.mono ?_; rintro e _ ⟨rfl, rfl⟩)
    | (at_range; refine wpList_range_own _ rfl _ 76 rfl 32 142 law76 Try.underlying76 pgElem mb M.length D rfl HOWN.out ?_; intro w0 hrg0 hg0 hs0))
  go_frame
  have hst : FreeSt w D mb w.heap.size M.length (a / 4096) ((a + n - 1) / 4096 + 1) (Maps.size D) w0 :=
    ⟨⟨hg0.os, hg0.tape, hg0.output, hg0.size, fun k hk => hg0.block k hk (by simp)⟩, Maps.has D, hrg0, fun _ h => h, fun n h1 h2 => by rw [h1] at h2; cases h2⟩
  have HST := Lib.hid hst
  clear hst hrg0 hg0 hs0
  go_loopw [9] (fun _ wr => ∃ cnt, Hid (FreeSt w D mb w.heap.size M.length (a / 4096) ((a + n - 1) / 4096 + 1) cnt wr)) (fun _ wr => wr.rangeLeft mb w.heap.size)
  case atStart => exact ⟨_, HST.out⟩
  case round =>
    obtain ⟨cnt, HR⟩ := hrel
    obtain ⟨left, hrg, hl1, hl2⟩ := HR.out.it
    have HRG := Lib.hid hrg
    have HL1 := Lib.hid hl1
    have HL2 := Lib.hid hl2
    clear hrg hl1 hl2
    go_wp2_with (at_next; refine wpList_next_ranges _ rfl _ rfl 32 law76 pgElem (fun n : Int => .int .u64 n) optVal (fun kv kl hk => by obtain ⟨x, rfl, _⟩ := Maps.keyOf_int_inv Try.underlying32 hk; exact ⟨x, rfl⟩) (fun v y hv => pgElem_opt hv) mb w.heap.size M.length D left cnt rfl HRG.out ?_ ?_)
    · intro hc0 hl0
      have e : (M.all fun p => !clash (fst a) (lst a n) p) = true := List.all_eq_true.2 fun p hp => by
        have hh := (has_page HF.out HOK.out p.num (by have := (HOK.out.pages p hp).1; omega)).2 ⟨p, hp, rfl⟩
        have := HL2.out p.num hh (hl0 _)
        unfold clash fst lst
        simp
        omega
      have E := Lib.hid e
      clear e hl0
      go_wp2_with fail
      go_ret
      exact ⟨by rw [E.out]; rfl, HR.out.below⟩
    · intro x c kl yd yp w1 cnt1 hkey hlk hv hat hrg1 hlt hg1 hs1 hen
      obtain ⟨nx, hnx, e1, rfl⟩ := key_cases hkey
      obtain rfl : x = (nx : Int) := by simpa using e1
      have hh := HL1.out _ hlk
      have HRG1 := Lib.hid hrg1
      have HHAS := Lib.hid ((has_page HF.out HOK.out nx hnx).1 hh)
      have B1 : Hid (Below w.heap.size w w1) := HR.out.below.grown hg1 HR.out.below.size (fun k e => by cases e; exact Nat.le_refl _)
      clear e1 hkey hlk hv hat hrg1 hg1 hs1 hh
      by_cases hcl : a / 4096 ≤ nx ∧ nx < (a + n - 1) / 4096 + 1
      · have e : (M.all fun p => !clash (fst a) (lst a n) p) = false := by
          obtain ⟨p, hp, rfl⟩ := HHAS.out
          refine List.all_eq_false.2 ⟨p, hp, ?_⟩
          unfold clash fst lst
          simp
          omega
        have E := Lib.hid e
        have i1 : ((a / 4096 : Nat) : Int) ≤ (nx : Int) := by omega
        have i2 : (nx : Int) < (((a + n - 1 : Nat) : Int) / 4096 + 1) := by omega
        clear e hcl
        go_wp2_with fail
        go_ret
        exact ⟨by rw [E.out]; rfl, B1.out⟩
      · have HCL := Lib.hid hcl
        have hrel2 : FreeSt w D mb w.heap.size M.length (a / 4096) ((a + n - 1) / 4096 + 1) cnt1 w1 :=
          ⟨B1.out, _, HRG1.out, fun z hz => HL1.out z (by simp at hz; exact hz.1), fun k h1 h2 => by
            by_cases e : k = nx
            · subst e; exact HCL.out
            · refine HL2.out k h1 ?_
              have : (key k).sameKey (key nx) = false := Maps.sameKey_ne (key_ne e)
              simpa [this] using h2⟩
        have HREL := Lib.hid hrel2
        clear hrel2
        by_cases hlo : a / 4096 ≤ nx
        · have i1 : ((a / 4096 : Nat) : Int) ≤ (nx : Int) := by omega
          have i2 : ¬ (nx : Int) < (((a + n - 1 : Nat) : Int) / 4096 + 1) := by omega
          clear hcl
          go_wp2_with fail
          go_roundw
          case rel => exact ⟨cnt1, HREL.out⟩
          case measure => rw [HRG1.out.left_eq, HRG.out.left_eq]; exact hlt
        · have i1 : ¬ ((a / 4096 : Nat) : Int) ≤ (nx : Int) := by omega
          clear hcl
          go_wp2_with fail
          go_roundw
          case rel => exact ⟨cnt1, HREL.out⟩
          case measure => rw [HRG1.out.left_eq, HRG.out.left_eq]; exact hlt
end Go.Proofs.Ytepnaalgobhcdaa
