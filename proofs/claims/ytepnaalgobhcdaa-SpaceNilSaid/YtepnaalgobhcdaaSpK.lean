/- *Space.Word: eight bytes as one number. -/
import Derived.Test.YtepnaalgobhcdaaSpJ
import Derived.Laws.Bits64b
namespace Go.Proofs.Ytepnaalgobhcdaa
open Go.RowKit Spm

theorem ReadRes.no {w : World} {M : List Pg} {a n : Nat} {er : Int} (he : readErr M a n = er) (h0 : er ≠ 0) {w' : World} (hb : Below w.heap.size w w') : ReadRes w M a n (.returned (.tuple #[.slice none 0 0, .int .i64 er])) w' :=
  ⟨_, by rw [he], hb, fun _ => rfl, fun h => absurd (he.symm.trans h) h0⟩

set_option maxHeartbeats 1000000 in
set_option maxRecDepth 100000 in
theorem read_any (w : World) (b : Nat) (M : List Pg) (F : Nat → Prop) (h : SpIn w b M F) (a n : Nat) (ha : a < 18446744073709551616) :
    Calls Try.prog 35 #[.pointer (some ⟨b, 0, none⟩), .int .u64 a, .int .u64 n] w (ReadRes w M a n) := by
  by_cases he : readErr M a n = 0
  · exact read_good w b M F h a n ha he
  · by_cases hbig : 1048576 < n
    · have HR := Lib.hid (ReadRes.no (w := w) (M := M) (a := a) (n := n) (er := 4) (by unfold readErr; rw [if_pos hbig]) (by decide) (Below.refl _ w))
      have i1 : (1048576 : Int) < (n : Int) := by omega
      clear h he hbig
      go_enter Try.func35, Try.ntmps35
      go_wp2_with fail
      go_ret2
      exact HR.out
    · have e : readErr M a n = lookErr M a n 1 := by unfold readErr; rw [if_neg hbig]
      have HL : Hid (Calls Try.prog 75 #[.pointer (some ⟨b, 0, none⟩), .int .u64 a, .int .u64 n, .int .i64 1] w (LookRes w (readErr M a n))) := by
        have := look_any w b M F h a n ha 1 (by decide); rw [← e] at this; exact this
      have hres : ∀ w', Below w.heap.size w w' → ReadRes w M a n (.returned (.tuple #[.slice none 0 0, .int .i64 (readErr M a n)])) w' := fun w' hb => ReadRes.no rfl he hb
      have HR := Lib.hid hres
      generalize readErr M a n = er at *
      have i1 : ¬ (1048576 : Int) < (n : Int) := by omega
      have i2 : ((er : Int) != 0) = true := by rw [bne_iff_ne]; exact he
      clear h he hbig hres e
      go_enter Try.func35, Try.ntmps35
      go_wp2_with (go_at_call 75; refine HL.out.mono ?_; rintro e w1 ⟨rfl, hb1⟩; have HB1 := Lib.hid hb1; clear hb1)
      go_ret2
      exact HR.out _ HB1.out

def wordOf : List UInt8 → Nat
  | [] => 0
  | x :: xs => x.toNat + 256 * wordOf xs
theorem wordOf_lt : ∀ bs : List UInt8, wordOf bs < 256 ^ bs.length
  | [] => by simp [wordOf]
  | x :: xs => by
    have h1 := wordOf_lt xs
    have h2 : x.toNat < 256 := x.toNat_lt
    unfold wordOf
    rw [List.length_cons, Nat.pow_succ]
    omega
theorem wordOf_append (bs : List UInt8) (x : UInt8) : wordOf (bs ++ [x]) = wordOf bs + x.toNat * 256 ^ bs.length := by
  induction bs with
  | nil => simp [wordOf]
  | cons y bs ih =>
    rw [List.cons_append, wordOf, ih, wordOf, List.length_cons, Nat.pow_succ]
    rw [Nat.mul_add, ← Nat.mul_assoc, Nat.mul_comm 256 x.toNat, Nat.mul_assoc, Nat.mul_comm 256, Nat.add_assoc, Nat.mul_comm 256 (256 ^ bs.length)]
theorem or_add {w x i : Nat} (hw : w < 2 ^ (8 * i)) : w ||| x * 2 ^ (8 * i) = w + x * 2 ^ (8 * i) := by
  rw [Nat.or_comm, Nat.mul_comm x, ← Nat.two_pow_add_eq_or_of_lt hw, Nat.add_comm]

theorem pow256 (i : Nat) : 2 ^ (8 * i) = 256 ^ i := by rw [Nat.pow_mul]
theorem wrap_u64_id {n : Nat} (h : n < 18446744073709551616) : IntKind.u64.wrap (n : Int) = (n : Int) := by
  rw [show IntKind.u64.wrap (n : Int) = ((n : Int) % 18446744073709551616) from rfl]; omega
theorem shl_or {acc xn i : Nat} (hi : i < 8) (hx : xn < 256) (ha : acc < 256 ^ i) : bits .or .u64 (acc : Int) (IntKind.u64.wrap ((xn : Int) * 2 ^ (8 * i))) = ((acc + xn * 256 ^ i : Nat) : Int) := by
  have h1 : 256 ^ i ≤ 256 ^ 7 := Nat.pow_le_pow_right (by omega) (by omega)
  have h2 : xn * 256 ^ i ≤ 255 * 256 ^ 7 := Nat.mul_le_mul (by omega) h1
  have h3 : acc < 18446744073709551616 := by omega
  have h4 : xn * 256 ^ i < 18446744073709551616 := by omega
  have e : ((xn : Int) * 2 ^ (8 * i)) = ((xn * 256 ^ i : Nat) : Int) := by rw [← pow256]; push_cast; rfl
  rw [e, wrap_u64_id h4, bits_or_u64_nat _ _ h3 h4, ← pow256, or_add (by rw [pow256]; exact ha)]

def WordRes (w : World) (M : List Pg) (a : Nat) (e : Ending) (w' : World) : Prop :=
  e = .returned (.tuple #[.int .u64 (if readErr M a 8 = 0 then wordOf (readAll M a 8) else 0 : Nat), .int .i64 (readErr M a 8)]) ∧ Below w.heap.size w w'

theorem row_cell {w : World} {base : Nat} {k : Nat} {bs : List UInt8} {ad : Option Addr} {cp : Nat} (h : w.ownsRow base 5 1 (.slice ad k cp) k (bvs bs)) {i : Nat} (hi : i < k) : ∃ g, ad = some ⟨g, 0, none⟩ ∧ w.cell? ⟨g, i, none⟩ = some (byteVal (bs.getD i 0)) := by
  obtain ⟨h1, h2⟩ := h
  rcases h2 with ⟨h2, h3⟩ | ⟨g, cap, cur, h2, h3, h4, h5, h6, h7, h8⟩
  · omega
  · cases h2
    refine ⟨g, rfl, ?_⟩
    simp only [World.cell?, h4]
    have hl : bs.length = k := by simpa [bvs] using h1
    have : (cur.toList.take (k * 1))[i]? = (bvs bs)[i]? := by rw [h8]
    rw [List.getElem?_take, if_pos (by omega)] at this
    rw [← Array.getElem?_toList, this]
    unfold bvs
    rw [List.getElem?_map, List.getElem?_eq_getElem (by omega)]
    simp [List.getD_eq_getElem?_getD, List.getElem?_eq_getElem (show i < bs.length by omega)]

set_option maxHeartbeats 1000000 in
set_option maxRecDepth 100000 in
theorem word_any (w : World) (b : Nat) (M : List Pg) (F : Nat → Prop) (h : SpIn w b M F) (a : Nat) (ha : a < 18446744073709551616) :
    Calls Try.prog 36 #[.pointer (some ⟨b, 0, none⟩), .int .u64 a] w (WordRes w M a) := by
  have HR : Hid (Calls Try.prog 35 #[.pointer (some ⟨b, 0, none⟩), .int .u64 a, .int .u64 8] w (ReadRes w M a 8)) := read_any w b M F h a 8 ha
  clear h
  by_cases he : readErr M a 8 = 0
  · go_enter Try.func36, Try.ntmps36
    have HE := Lib.hid he
    clear he
    go_wp2_with (go_at_call 35; refine HR.out.mono ?_; rintro e w1 ⟨v, rfl, hb1, h1, h2⟩; have HO := Lib.hid (h2 HE.out); have HB1 := Lib.hid hb1; rw [HE.out]; obtain ⟨ad, cp, rfl⟩ := ownsRow_shape HO.out; clear hb1 h1 h2)
    obtain ⟨bs, hbs⟩ : ∃ bs, bs = readAll M a 8 := ⟨_, rfl⟩
    have hlen : bs.length = 8 := by rw [hbs]; exact readAll_length M a 8
    have HLEN := Lib.hid hlen
    have HBS := Lib.hid hbs
    rw [← hbs] at HO
    clear hbs hlen
    go_loopw [8, 19] (fun v t wr => ∃ i : Nat, i ≤ 8 ∧ t = .int .i64 i ∧ v = .int .u64 (wordOf (bs.take i)) ∧ Hid (w1 = wr)) (fun _ t _ => 8 - (intOf t).toNat)
    case atStart => exact ⟨0, by omega, rfl, rfl, rfl⟩
    case round =>
      obtain ⟨i, hi, rfl, rfl, HW⟩ := hrel
      obtain rfl := HW.out
      by_cases hlt : i < 8
      · obtain ⟨g, rfl, hcell⟩ := row_cell HO.out hlt
        obtain ⟨x, hx⟩ : ∃ x, x = bs.getD i 0 := ⟨_, rfl⟩
        obtain ⟨acc, hacc⟩ : ∃ acc, acc = wordOf (bs.take i) := ⟨_, rfl⟩
        have hxl : x.toNat < 256 := x.toNat_lt
        have hal : acc < 256 ^ i := by
          have := wordOf_lt (bs.take i)
          rw [List.length_take, Nat.min_eq_left (by have := HLEN.out; omega), ← hacc] at this; exact this
        have hnew : wordOf (bs.take (i + 1)) = acc + x.toNat * 256 ^ i := by
          have := HLEN.out
          rw [List.take_add_one, List.getElem?_eq_getElem (by omega), Option.toList_some, wordOf_append, List.length_take, Nat.min_eq_left (by omega), ← hacc, hx]
          simp [List.getD_eq_getElem?_getD, List.getElem?_eq_getElem (show i < bs.length by omega)]
        rw [← hx] at hcell
        unfold byteVal at hcell
        rw [← hacc]
        have HSO := Lib.hid (shl_or hlt hxl hal)
        have HNEW := Lib.hid hnew
        generalize x.toNat = xn at *
        clear hx hacc hnew hal
        go_wp2_with fail
        refine ⟨⟨i + 1, by omega, by go_num, ?_, trivial⟩, by simp [intOf]; omega⟩
        rw [HNEW.out, HSO.out]
      · obtain rfl : i = 8 := by omega
        have e : bs.take 8 = bs := by rw [← HLEN.out]; exact List.take_length
        rw [e]
        have HFIN : Hid (WordRes w M a (.returned (.tuple #[.int .u64 (wordOf bs), .int .i64 0])) w1) := ⟨by rw [HE.out, HBS.out]; rfl, HB1.out⟩
        go_wp2_with fail
        go_ret2
        exact HFIN.out
  · have hfin : ∀ w1, Below w.heap.size w w1 → WordRes w M a (.returned (.tuple #[.int .u64 0, .int .i64 (readErr M a 8)])) w1 := fun w1 hb => ⟨by rw [if_neg he]; rfl, hb⟩
    have HFIN := Lib.hid hfin
    have HR2 : Hid (Calls Try.prog 35 #[.pointer (some ⟨b, 0, none⟩), .int .u64 a, .int .u64 8] w fun e w' => e = .returned (.tuple #[.slice none 0 0, .int .i64 (readErr M a 8)]) ∧ Below w.heap.size w w') := by
      refine HR.out.mono ?_
      rintro e w1 ⟨v, rfl, hb1, h1, h2⟩
      rw [h1 he]; exact ⟨rfl, hb1⟩
    generalize readErr M a 8 = er at *
    clear HR hfin he
    go_enter Try.func36, Try.ntmps36
    go_wp2_with (go_at_call 35; refine HR2.out.mono ?_; rintro e w1 ⟨rfl, hb1⟩; have HB1 := Lib.hid hb1; clear hb1)
    refine wp_loop_rounds 1 ?_
    rw [rounds_succ]
    go_wp2_with fail
    go_ret2
    exact HFIN.out _ HB1.out
end Go.Proofs.Ytepnaalgobhcdaa
