/- Are there few images? The answer is yes only where there are no more than asked. -/
import Derived.Test.YtepnaalgobhcdaaOrdF
namespace Go.Proofs.Ytepnaalgobhcdaa
open Go.RowKit Clv

def FewRes (w : World) (n : Nat) (most : Int) (e : Ending) (w' : World) : Prop := ∃ bv : Bool, e = .returned (.bool bv) ∧ (bv = true → (n : Int) ≤ most) ∧ w = w'

set_option maxHeartbeats 400000 in
set_option maxRecDepth 100000 in
theorem few_any (w : World) (la : Option Addr) (lc : Nat) (l : List ImgM) (hI : Imgs w la lc l) (most : Int) :
    Calls Try.prog 16 #[.slice la l.length lc, .int .i64 most] w (FewRes w l.length most) := by
  obtain ⟨hlc, hlm, hs⟩ := hI
  unfold maxLen at hlm
  have HI := Lib.hid hs
  clear hs
  go_enter Try.func16, Try.ntmps16
  go_wp2_with fail
  go_loop [5] (fun t => ∃ k : Nat, k ≤ l.length ∧ t = .int .i64 k) (fun t => l.length - (intOf t).toNat)
  case atStart => exact ⟨0, Nat.zero_le _, rfl⟩
  case round =>
    obtain ⟨k, hk, rfl⟩ := hrel
    by_cases hlt : k < l.length
    · obtain ⟨b, o, hla, cs, hcs, hx⟩ := HI.out k hlt
      rw [hla]
      obtain ⟨da, dc, hd26, hdl, hdm, _⟩ := hx.deps
      obtain ⟨sa, sc, hs5, hsl, hsm, hsegs⟩ := hx.segs
      unfold maxLen at hdm hsm
      have c26 := hcs 26 _ hd26
      have c5 := hcs 5 _ hs5
      generalize hxx : l.getD k ⟨0, [], [], []⟩ = x at *
      have HS := Lib.hid hsegs
      clear hx hcs hd26 hs5 hla hsegs hxx
      by_cases h1 : 100 < x.deps.length
      · go_wp2_with fail
        go_ret
        exact ⟨false, rfl, by simp, rfl⟩
      · by_cases h2 : 4 < x.segs.length
        · go_wp2_with fail
          go_ret
          exact ⟨false, rfl, by simp, rfl⟩
        · go_wp2_with fail
          go_loop [6] (fun t => ∃ j : Nat, j ≤ x.segs.length ∧ t = .int .i64 j) (fun t => x.segs.length - (intOf t).toNat)
          case atStart => exact ⟨0, Nat.zero_le _, rfl⟩
          case round =>
            obtain ⟨j, hj, rfl⟩ := hrel
            by_cases hlt2 : j < x.segs.length
            · obtain ⟨b3, o3, hsa, nm, a3, c3, _, _, _, _, hq1, hq2, hc3, _⟩ := HS.out j hlt2
              rw [hsa] at c5
              have d6 := hc3 6 _ rfl
              unfold maxLen at hq2
              generalize (x.segs.getD j ⟨0, 0, 0, 0, 0, []⟩).secs = ss at *
              clear hc3 hsa
              by_cases h3 : 5 < ss.length
              · go_wp2_with fail
                go_ret
                exact ⟨false, rfl, by simp, rfl⟩
              · go_wp2_with fail
                go_round
                case rel => exact ⟨j + 1, by omega, by go_num⟩
                case measure => simp [intOf]; omega
            · go_wp2_with fail
              go_round
              case rel => exact ⟨k + 1, by omega, by go_num⟩
              case measure => simp [intOf]; omega
    · go_wp2_with fail
      go_ret
      exact ⟨_, rfl, by simp, rfl⟩
end Go.Proofs.Ytepnaalgobhcdaa
