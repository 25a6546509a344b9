/- *Space.Write, Fill: bytes written where they are there. -/
import Derived.Test.YtepnaalgobhcdaaSpH
namespace Go.Proofs.Ytepnaalgobhcdaa
open Go.RowKit Spm

def SrcIn (w : World) (F : Nat → Prop) (ad : Option Addr) (bs : List UInt8) : Prop := 0 < bs.length → ∃ sb so, ad = some ⟨sb, so, none⟩ ∧ BytesIn w sb so bs ∧ ¬ F sb ∧ sb < w.heap.size
def WriteRes (w : World) (b : Nat) (M : List Pg) (F : Nat → Prop) (a : Nat) (bs : List UInt8) (r : Int) (e : Ending) (w' : World) : Prop :=
  e = .returned (.int .i64 (lookErr M a bs.length r)) ∧ SpIn w' b (writeM M a bs r) F ∧ Chg F w w'

set_option maxRecDepth 100000 in
theorem put_zero (w : World) (p : Value) (a : Nat) (ad : Option Addr) (c : Nat) :
    Calls Try.prog 76 #[p, .int .u64 a, .slice ad 0 c] w fun e w' => e = .returned (.tuple #[]) ∧ w' = w := by
  go_enter Try.func76, Try.ntmps76
  go_wp2_with fail
  refine wp_loop_rounds 1 ?_
  rw [rounds_succ]
  go_wp2_with fail
  go_end0
  exact ⟨rfl, rfl⟩

theorem put_after {w : World} {b : Nat} {M : List Pg} {F : Nat → Prop} (h : SpIn w b M F) {a : Nat} (_ha : a < 18446744073709551616) {bs : List UInt8} {ad : Option Addr} {c : Nat} (hbs : SrcIn w F ad bs) (hc : bs.length ≤ c) (hcm : c ≤ 9223372036854775807) {r : Int}
    {w1 : World} (hb : Below w.heap.size w w1) (he : lookErr M a bs.length r = 0) :
    Calls Try.prog 76 #[.pointer (some ⟨b, 0, none⟩), .int .u64 a, .slice ad bs.length c] w1 fun e w' => e = .returned (.tuple #[]) ∧ WriteRes w b M F a bs r (.returned (.int .i64 0)) w' := by
  have hwm : writeM M a bs r = wrAll M a bs := by unfold writeM; rw [if_pos he]
  by_cases h0 : bs.length = 0
  · obtain rfl : bs = [] := List.eq_nil_of_length_eq_zero h0
    refine (put_zero w1 _ a ad c).mono ?_
    rintro e w' ⟨rfl, rfl⟩
    refine ⟨rfl, by rw [he], ?_, Chg.of_below hb⟩
    rw [hwm]
    exact h.keepB hb
  · obtain ⟨sb, so, rfl, h1, h2, h3⟩ := hbs (by omega)
    have hx : inB a bs.length = true ∧ missing M (fst a) (lst a bs.length) = false := by
      unfold lookErr at he
      rw [if_neg h0] at he
      cases hi : inB a bs.length with
      | false => rw [hi] at he; cases he
      | true =>
        rw [hi, if_neg (by decide)] at he
        cases hm : missing M (fst a) (lst a bs.length) with
        | false => exact ⟨rfl, rfl⟩
        | true => rw [hm] at he; cases he
    have hin : a + bs.length ≤ 140737488355328 := by have := hx.1; simp [inB] at this; exact this.2
    refine (put_any w1 b M F (h.keepB hb) a bs sb so c (h1.keep (hb.block sb h3)) h2 (Nat.lt_of_lt_of_le h3 hb.size) hc hcm hin hx.2).mono ?_
    rintro e w' ⟨rfl, hp⟩
    refine ⟨rfl, by rw [he], ?_, ?_⟩
    · have := hp.sp
      rw [List.take_length] at this
      rw [hwm]; exact this
    · exact (Chg.of_below hb).trans (hp.chg.mono fun k _ hk => .inl hk)

set_option maxHeartbeats 1000000 in
set_option maxRecDepth 100000 in
theorem write_any (w : World) (b : Nat) (M : List Pg) (F : Nat → Prop) (h : SpIn w b M F) (a : Nat) (ha : a < 18446744073709551616) (bs : List UInt8) (ad : Option Addr) (c : Nat) (hbs : SrcIn w F ad bs) (hc : bs.length ≤ c) (hcm : c ≤ 9223372036854775807) :
    Calls Try.prog 38 #[.pointer (some ⟨b, 0, none⟩), .int .u64 a, .slice ad bs.length c] w (WriteRes w b M F a bs 2) := by
  have HL : Hid (Calls Try.prog 75 #[.pointer (some ⟨b, 0, none⟩), .int .u64 a, .int .u64 bs.length, .int .i64 2] w (LookRes w (lookErr M a bs.length 2))) := look_any w b M F h a bs.length ha 2 (by decide)
  have hput : ∀ w1, Below w.heap.size w w1 → lookErr M a bs.length 2 = 0 → Calls Try.prog 76 #[.pointer (some ⟨b, 0, none⟩), .int .u64 a, .slice ad bs.length c] w1 fun e w' => e = .returned (.tuple #[]) ∧ WriteRes w b M F a bs 2 (.returned (.int .i64 0)) w' :=
    fun w1 hb he => put_after h ha hbs hc hcm hb he
  have HPUT := Lib.hid hput
  by_cases he : lookErr M a bs.length 2 = 0
  · have HE := Lib.hid he
    rw [he] at HL
    clear h hbs hput he
    go_enter Try.func38, Try.ntmps38
    go_wp2_with (first
      | (go_at_call 75; refine HL.out.mono ?_; rintro e w1 ⟨rfl, hb1⟩; have HB1 := Lib.hid hb1; clear hb1)
      | (go_at_call 76; refine (HPUT.out _ HB1.out HE.out).mono ?_; rintro e w2 ⟨rfl, hr2⟩; have HR2 := Lib.hid hr2; clear hr2))
    go_ret
    exact HR2.out
  · have hres : ∀ w1, Below w.heap.size w w1 → WriteRes w b M F a bs 2 (.returned (.int .i64 (lookErr M a bs.length 2))) w1 := fun w1 hb => ⟨rfl, by unfold writeM; rw [if_neg he]; exact h.keepB hb, Chg.of_below hb⟩
    have HRES := Lib.hid hres
    generalize lookErr M a bs.length 2 = er at *
    have i1 : ((er : Int) != 0) = true := by rw [bne_iff_ne]; exact he
    clear h hbs hput he hres HPUT
    go_enter Try.func38, Try.ntmps38
    go_wp2_with (go_at_call 75; refine HL.out.mono ?_; rintro e w1 ⟨rfl, hb1⟩; have HB1 := Lib.hid hb1; clear hb1)
    go_ret
    exact HRES.out _ HB1.out

set_option maxHeartbeats 1000000 in
set_option maxRecDepth 100000 in
theorem fill_any (w : World) (b : Nat) (M : List Pg) (F : Nat → Prop) (h : SpIn w b M F) (a : Nat) (ha : a < 18446744073709551616) (bs : List UInt8) (ad : Option Addr) (c : Nat) (hbs : SrcIn w F ad bs) (hc : bs.length ≤ c) (hcm : c ≤ 9223372036854775807) :
    Calls Try.prog 37 #[.pointer (some ⟨b, 0, none⟩), .int .u64 a, .slice ad bs.length c] w (WriteRes w b M F a bs 0) := by
  have HL : Hid (Calls Try.prog 75 #[.pointer (some ⟨b, 0, none⟩), .int .u64 a, .int .u64 bs.length, .int .i64 0] w (LookRes w (lookErr M a bs.length 0))) := look_any w b M F h a bs.length ha 0 (by decide)
  have hput : ∀ w1, Below w.heap.size w w1 → lookErr M a bs.length 0 = 0 → Calls Try.prog 76 #[.pointer (some ⟨b, 0, none⟩), .int .u64 a, .slice ad bs.length c] w1 fun e w' => e = .returned (.tuple #[]) ∧ WriteRes w b M F a bs 0 (.returned (.int .i64 0)) w' :=
    fun w1 hb he => put_after h ha hbs hc hcm hb he
  have HPUT := Lib.hid hput
  by_cases he : lookErr M a bs.length 0 = 0
  · have HE := Lib.hid he
    rw [he] at HL
    clear h hbs hput he
    go_enter Try.func37, Try.ntmps37
    go_wp2_with (first
      | (go_at_call 75; refine HL.out.mono ?_; rintro e w1 ⟨rfl, hb1⟩; have HB1 := Lib.hid hb1; clear hb1)
      | (go_at_call 76; refine (HPUT.out _ HB1.out HE.out).mono ?_; rintro e w2 ⟨rfl, hr2⟩; have HR2 := Lib.hid hr2; clear hr2))
    go_ret
    exact HR2.out
  · have hres : ∀ w1, Below w.heap.size w w1 → WriteRes w b M F a bs 0 (.returned (.int .i64 (lookErr M a bs.length 0))) w1 := fun w1 hb => ⟨rfl, by unfold writeM; rw [if_neg he]; exact h.keepB hb, Chg.of_below hb⟩
    have HRES := Lib.hid hres
    generalize lookErr M a bs.length 0 = er at *
    have i1 : ((er : Int) != 0) = true := by rw [bne_iff_ne]; exact he
    clear h hbs hput he hres HPUT
    go_enter Try.func37, Try.ntmps37
    go_wp2_with (go_at_call 75; refine HL.out.mono ?_; rintro e w1 ⟨rfl, hb1⟩; have HB1 := Lib.hid hb1; clear hb1)
    go_ret
    exact HRES.out _ HB1.out
end Go.Proofs.Ytepnaalgobhcdaa
