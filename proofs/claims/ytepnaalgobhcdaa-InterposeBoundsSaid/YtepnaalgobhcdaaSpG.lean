/- *Space.look: which bytes are there, and of which protection. -/
import Derived.Test.YtepnaalgobhcdaaSpF
namespace Go.Proofs.Ytepnaalgobhcdaa
open Go.RowKit Spm

section
variable {ops : Array Oper} {rest : List Oper} {o : Oper} {a : Act} {w : World} {Q : Exit → Act → World → Prop}
theorem wpList_page_some (hg : o.guard = none) (m x : Operand) (hop : o.op = Op.lookup 76 m x true) (b : Nat) {f : Nat → Option (Nat × Int)} {c : Nat} (h : PgMap w b f c) (hm : a.eval m = .map (some b)) (n : Nat) (hn : n < 18446744073709551616) (hx : a.eval x = .int .u64 (n : Int)) (p : Nat × Int) (hf : f n = some p)
    (hK : wpList Try.prog ops Q rest (a.put o.dst (.tuple #[.agg #[.pointer (some ⟨p.1, 0, none⟩), .int .i64 p.2], .bool true])) w) : wpList Try.prog ops Q (o :: rest) a w :=
  wpList_page_ok hg m x hop b h hm n hn hx (by rw [hf]; exact hK)
theorem wpList_page_miss (hg : o.guard = none) (m x : Operand) (hop : o.op = Op.lookup 76 m x true) (b : Nat) {f : Nat → Option (Nat × Int)} {c : Nat} (h : PgMap w b f c) (hm : a.eval m = .map (some b)) (n : Nat) (hn : n < 18446744073709551616) (hx : a.eval x = .int .u64 (n : Int)) (hf : f n = none)
    (hK : wpList Try.prog ops Q rest (a.put o.dst (.tuple #[.agg #[.pointer none, .int .i64 0], .bool false])) w) : wpList Try.prog ops Q (o :: rest) a w :=
  wpList_page_ok hg m x hop b h hm n hn hx (by rw [hf]; exact hK)
end

theorem and_prot {P r : Int} (hP : 1 ≤ P ∧ P ≤ 7) (hr : r = 0 ∨ r = 1 ∨ r = 2) : (bits .and .i64 P r != r) = !hasP P r := by
  have : P = 1 ∨ P = 2 ∨ P = 3 ∨ P = 4 ∨ P = 5 ∨ P = 6 ∨ P = 7 := by omega
  rcases this with rfl | rfl | rfl | rfl | rfl | rfl | rfl <;> rcases hr with rfl | rfl | rfl <;> decide

def lackVal (M : List Pg) (f i : Nat) (r : Int) : Int := if lacks M f i r then 19 else 0
theorem lacks_step {M : List Pg} {f i : Nat} {r : Int} {p : Pg} (hi : f ≤ i) (hp : pg M i = some p) : lacks M f (i + 1) r = (lacks M f i r || !hasP p.prot r) := by
  unfold lacks
  rw [show i + 1 - f = (i - f) + 1 by omega, List.range_succ, List.any_append]
  simp [show f + (i - f) = i by omega, hp]
theorem missing_step {M : List Pg} {f i : Nat} {p : Pg} (hi : f ≤ i) (hp : pg M i = some p) : missing M f (i + 1) = missing M f i := by
  unfold missing
  rw [show i + 1 - f = (i - f) + 1 by omega, List.range_succ, List.any_append]
  simp [show f + (i - f) = i by omega, hp]
theorem missing_zero (M : List Pg) (f : Nat) : missing M f f = false := by simp [missing]
theorem lacks_zero (M : List Pg) (f : Nat) (r : Int) : lacks M f f r = false := by simp [lacks]

def lookVal (M : List Pg) (f e : Nat) (r : Int) : Int := if missing M f e then 4 else if lacks M f e r then 19 else 0
def LookRes (w : World) (er : Int) (e : Ending) (w' : World) : Prop := e = .returned (.int .i64 er) ∧ Below w.heap.size w w'

set_option maxHeartbeats 2000000 in
set_option maxRecDepth 100000 in
theorem look_any (w : World) (b : Nat) (M : List Pg) (F : Nat → Prop) (h : SpIn w b M F) (a n : Nat) (ha : a < 18446744073709551616) (r : Int) (hr : r = 0 ∨ r = 1 ∨ r = 2) :
    Calls Try.prog 75 #[.pointer (some ⟨b, 0, none⟩), .int .u64 a, .int .u64 n, .int .i64 r] w (LookRes w (lookErr M a n r)) := by
  have HR0 := Lib.hid hr
  clear hr
  by_cases h0 : n = 0
  · have e : lookErr M a n r = 0 := by simp [lookErr, h0]
    rw [e]
    subst h0
    clear h e
    go_enter Try.func75, Try.ntmps75
    go_wp2_with fail
    go_ret
    exact ⟨rfl, Below.refl _ _⟩
  · have hz : ((n : Int) == 0) = false := by simp; exact h0
    cases hin : inB a n with
    | false =>
      have HI1 : Hid (Calls Try.prog 64 #[.int .u64 a, .int .u64 n] w fun e w' => e = .returned (.bool false) ∧ w = w') := by
        have := in_any w a n ha; rw [hin] at this; exact this
      have e : lookErr M a n r = 4 := by simp [lookErr, h0, hin]
      rw [e]
      clear h e hin
      go_enter Try.func75, Try.ntmps75
      go_wp2_with (go_at_call 64; refine HI1.out.mono ?_; rintro e _ ⟨rfl, rfl⟩)
      go_ret
      exact ⟨rfl, Below.refl _ _⟩
    | true =>
      have HI1 : Hid (Calls Try.prog 64 #[.int .u64 a, .int .u64 n] w fun e w' => e = .returned (.bool true) ∧ w = w') := by
        have := in_any w a n ha; rw [hin] at this; exact this
      have e0 : lookErr M a n r = lookVal M (fst a) (lst a n) r := by unfold lookErr lookVal; rw [if_neg h0, if_neg (by simp [hin])]
      rw [e0]
      have HN : Hid (∀ W, Calls Try.prog 65 #[.int .u64 a, .int .u64 n] W fun e w' => e = .returned (.tuple #[.int .u64 (fst a), .int .u64 (lst a n)]) ∧ W = w') := fun W => numbers_any W a n (by omega) hin
      have hfl : fst a < lst a n := by unfold fst lst; omega
      have hle : lst a n ≤ 34359738368 := by simp [inB] at hin; unfold lst; omega
      generalize fst a = f at *
      generalize lst a n = en at *
      obtain ⟨mb, A, hb, hp⟩ := h.own
      have cb := cell_of_one hb
      have HP := Lib.hid hp.map
      have hlen := h.ok.few
      have HOK := Lib.hid h.ok
      have HB := Lib.hid hb
      have hbl := lt_of_block hb
      clear h hb hp e0 hin ha h0
      by_cases hbig : M.length < en - f
      · have e1 : missing M f en = true := by
          cases hm : missing M f en with
          | true => rfl
          | false => have := present_le hm; omega
        have e2 : lookVal M f en r = 4 := by unfold lookVal; rw [if_pos e1]
        rw [e2]
        have i1 : (M.length : Int) < (en : Int) - (f : Int) := by omega
        clear e1 e2 hbig
        go_enter Try.func75, Try.ntmps75
        go_wp2_with (first
          | (go_at_call 64; refine HI1.out.mono ?_; rintro e _ ⟨rfl, rfl⟩)
          | (go_at_call 65; refine (HN.out _).mono ?_; rintro e _ ⟨rfl, rfl⟩)
          | (refine wpList_pages_len rfl (.tmp 38) rfl mb HP.out rfl ?_))
        go_ret
        exact ⟨rfl, Below.refl _ _⟩
      · have i1 : ¬ (M.length : Int) < (en : Int) - (f : Int) := by omega
        clear hbig
        go_enter Try.func75, Try.ntmps75
        go_wp2_with (first
          | (go_at_call 64; refine HI1.out.mono ?_; rintro e _ ⟨rfl, rfl⟩)
          | (go_at_call 65; refine (HN.out _).mono ?_; rintro e _ ⟨rfl, rfl⟩)
          | (refine wpList_pages_len rfl (.tmp 38) rfl mb HP.out rfl ?_))
        clear i1 HI1 HN
        go_loopw [11, 12] (fun ev t wr => ∃ i : Nat, f ≤ i ∧ i ≤ en ∧ t = .int .u64 i ∧ ev = .int .i64 (lackVal M f i r) ∧ Hid (missing M f i = false) ∧ Hid (Below w.heap.size w wr)) (fun _ t _ => en - (intOf t).toNat)
        case atStart => exact ⟨f, Nat.le_refl _, Nat.le_of_lt hfl, rfl, by unfold lackVal; rw [lacks_zero]; rfl, missing_zero M f, Below.refl _ _⟩
        case round =>
          obtain ⟨i, hi1, hi2, rfl, rfl, HM, HBW⟩ := hrel
          by_cases hlt : i < en
          · have cb2 := cell_keep cb HBW.out
            have HP2 := Lib.hid (HP.out.kept (HBW.out.block mb HP.out.lt))
            cases hpi : pg M i with
            | none =>
              have hf : pgFn M A i = none := by unfold pgFn; rw [hpi]; rfl
              have HF := Lib.hid hf
              have HMT := Lib.hid (missing_true hi1 hlt hpi)
              clear hf hpi cb
              go_wp2_with (refine wpList_page_miss rfl (.tmp 52) (.tmp 53) rfl mb HP2.out rfl i (by omega) rfl HF.out ?_)
              go_ret
              exact ⟨by unfold lookVal; rw [HMT.out]; rfl, (HBW.out.alloc HBW.out.size _)⟩
            | some p =>
              have hf : pgFn M A i = some (A i, p.prot) := by unfold pgFn; rw [hpi]; rfl
              have hpp := HOK.out.pages p (pg_mem hpi).1
              have HF := Lib.hid hf
              have HLS := Lib.hid (lacks_step (r := r) hi1 hpi)
              have HMS := Lib.hid (missing_step hi1 hpi)
              have hand := and_prot ⟨hpp.2.1, hpp.2.2.1⟩ HR0.out
              cases hhp : hasP p.prot r with
              | true =>
                have HHP := Lib.hid hhp
                rw [hhp] at hand
                clear hf hpi hpp hhp cb
                go_wp2_with (refine wpList_page_some rfl (.tmp 52) (.tmp 53) rfl mb HP2.out rfl i (by omega) rfl _ HF.out ?_)
                go_roundw
                case rel => exact ⟨i + 1, by omega, by omega, by go_num, by unfold lackVal; rw [HLS.out, HHP.out]; simp, by show missing M f (i + 1) = false; rw [HMS.out]; exact HM.out, HBW.out.alloc HBW.out.size _⟩
                case measure => simp [intOf]; omega
              | false =>
                have HHP := Lib.hid hhp
                rw [hhp] at hand
                clear hf hpi hpp hhp cb
                go_wp2_with (refine wpList_page_some rfl (.tmp 52) (.tmp 53) rfl mb HP2.out rfl i (by omega) rfl _ HF.out ?_)
                go_roundw
                case rel => exact ⟨i + 1, by omega, by omega, by go_num, by unfold lackVal; rw [HLS.out, HHP.out]; simp, by show missing M f (i + 1) = false; rw [HMS.out]; exact HM.out, HBW.out.alloc HBW.out.size _⟩
                case measure => simp [intOf]; omega
          · obtain rfl : i = en := by omega
            go_wp2_with fail
            go_ret
            refine ⟨?_, HBW.out⟩
            unfold lookVal
            rw [HM.out]
            rfl
end Go.Proofs.Ytepnaalgobhcdaa
