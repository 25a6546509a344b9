/- interpose.word, order.number: up to eight bytes as one number. -/
import Derived.Test.YtepnaalgobhcdaaSpO
namespace Go.Proofs.Ytepnaalgobhcdaa
open Go.RowKit Spm

set_option maxHeartbeats 1000000 in
set_option maxRecDepth 100000 in
theorem word81_any (w : World) (g off c : Nat) (bs : List UInt8) (hbs : BytesIn w g off bs) (h8 : bs.length ≤ 8) :
    Calls Try.prog 81 #[.slice (some ⟨g, off, none⟩) bs.length c] w fun e w' => e = .returned (.int .u64 (wordOf bs)) ∧ w = w' := by
  have HBS := Lib.hid hbs
  clear hbs
  go_enter Try.func81, Try.ntmps81
  go_wp2_with fail
  go_loop [2, 7] (fun v t => ∃ i : Nat, i ≤ bs.length ∧ t = .int .i64 i ∧ v = .int .u64 (wordOf (bs.take i))) (fun _ t => bs.length - (intOf t).toNat)
  case atStart => exact ⟨0, by omega, rfl, rfl⟩
  case round =>
    obtain ⟨i, hi, rfl, rfl⟩ := hrel
    by_cases hlt : i < bs.length
    · have hcell := HBS.out i hlt
      obtain ⟨x, hx⟩ : ∃ x, x = bs.getD i 0 := ⟨_, rfl⟩
      obtain ⟨acc, hacc⟩ : ∃ acc, acc = wordOf (bs.take i) := ⟨_, rfl⟩
      have hxl : x.toNat < 256 := x.toNat_lt
      have hal : acc < 256 ^ i := by
        have := wordOf_lt (bs.take i)
        rw [List.length_take, Nat.min_eq_left (by omega), ← hacc] at this; exact this
      have hnew : wordOf (bs.take (i + 1)) = acc + x.toNat * 256 ^ i := by
        rw [List.take_add_one, List.getElem?_eq_getElem (by omega), Option.toList_some, wordOf_append, List.length_take, Nat.min_eq_left (by omega), ← hacc, hx]
        simp [List.getD_eq_getElem?_getD, List.getElem?_eq_getElem (show i < bs.length by omega)]
      rw [← hx] at hcell
      unfold byteVal at hcell
      rw [← hacc]
      have HSO := Lib.hid (shl_or (show i < 8 by omega) hxl hal)
      have HNEW := Lib.hid hnew
      generalize x.toNat = xn at *
      clear hx hacc hnew hal
      go_wp2_with fail
      go_round
      case rel => exact ⟨i + 1, by omega, by go_num, by rw [HNEW.out, HSO.out]⟩
      case measure => simp [intOf]; omega
    · obtain rfl : i = bs.length := by omega
      have e : bs.take bs.length = bs := List.take_length
      rw [e]
      go_wp2_with fail
      go_ret
      exact ⟨rfl, rfl⟩
end Go.Proofs.Ytepnaalgobhcdaa
