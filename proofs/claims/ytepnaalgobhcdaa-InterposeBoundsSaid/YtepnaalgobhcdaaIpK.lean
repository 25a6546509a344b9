/- The memories of clevislaw21's InterposeBounds and known: plain mathematics. -/
import Derived.Test.YtepnaalgobhcdaaIpJ
import Derived.Test.YtepnaalgobhcdaaTwB
namespace Go.Proofs.Ytepnaalgobhcdaa
open Go.RowKit Spm

def bM1 : List Pg := mapM [] 4096 327680 3
def bM : List Pg := mapM bM1 819200 4096 2
theorem b1 : mapErr [] 4096 327680 3 = 0 := by decide +kernel
theorem bM1_eq : bM1 = mapIn [] 1 80 3 := by unfold bM1 mapM; rw [if_pos b1]; rfl
theorem b2 : mapErr bM1 819200 4096 2 = 0 := by rw [bM1_eq]; decide +kernel
theorem bM_eq : bM = mapIn (mapIn [] 1 80 3) 200 1 2 := by unfold bM mapM; rw [if_pos b2, bM1_eq]; rfl
theorem bM_pg (n : Nat) (h1 : 1 ≤ n) (h2 : n < 81) : pg bM n = some ⟨n, 3, noughts⟩ := by
  rw [bM_eq, pg_mapIn, if_neg (by omega), pg_mapIn, if_pos (by omega)]
theorem rep_getD (n k : Nat) : (List.replicate n (0 : UInt8)).getD k 0 = 0 := by simp only [List.getD_eq_getElem?_getD, List.getElem?_replicate]; split <;> rfl
theorem bM_zero (a : Nat) (h1 : 4096 ≤ a) (h2 : a < 331776) : byteAt bM a = 0 := by
  unfold byteAt
  rw [bM_pg _ (by omega) (by omega)]
  exact rep_getD 4096 _
theorem bM_read (a : Nat) (h1 : 4096 ≤ a) (h2 : a + 16 ≤ 331776) : readErr bM a 16 = 0 := by
  unfold readErr lookErr
  rw [if_neg (by decide), if_neg (by decide)]
  have e1 : inB a 16 = true := by simp [inB]; omega
  rw [if_neg (by simp [e1])]
  have e2 : missing bM (fst a) (lst a 16) = false := by
    unfold missing
    rw [List.any_eq_false]
    intro i hi
    have := List.mem_range.1 hi
    unfold fst lst at *
    rw [bM_pg _ (by omega) (by omega)]; simp
  have e3 : lacks bM (fst a) (lst a 16) 1 = false := by
    unfold lacks
    rw [List.any_eq_false]
    intro i hi
    have := List.mem_range.1 hi
    unfold fst lst at *
    rw [bM_pg _ (by omega) (by omega)]
    show ¬ (!hasP 3 1) = true
    decide
  rw [e2, e3]; rfl
theorem bM_pair (a : Nat) (h1 : 4096 ≤ a) (h2 : a + 16 ≤ 331776) : pairAt bM a = (0, 0) := by
  have e : readAll bM a 16 = List.replicate 16 0 := by
    apply List.ext_getElem
    · simp [readAll]
    · intro j h3 h4
      simp only [readAll, List.getElem_map, List.getElem_range, List.getElem_replicate]
      have : j < 16 := by simpa using h4
      exact bM_zero _ (by omega) (by omega)
  unfold pairAt
  rw [e]; decide
theorem bM_run : ∀ j, j ≤ 20000 → secRun bM 4096 0 j = (0, [])
  | 0, _ => rfl
  | j + 1, h => by
    have ih := bM_run j (by omega)
    have ea : secAddr 4096 0 (16 * j) = 4096 + 16 * j := by unfold secAddr; omega
    unfold secRun
    rw [ih, ea, bM_read _ (by omega) (by omega), bM_pair _ (by omega) (by omega)]
    simp
theorem pOf_one {M : List Pg} {s a n q : Nat} {r : List (Nat × Nat)} (h1 : n % 16 = 0) (hq : n / 16 = q) (h2 : q ≤ 20000) (hr : secRun M a s q = (0, r)) : pOf M (s, [(a, n)]) = ⟨q, r, 0⟩ := by
  unfold pOf pFold
  simp only [List.foldl_cons, List.foldl_nil]
  unfold pStep
  simp only [hq, hr, h1]
  rw [if_neg (by simp), if_neg (by simp), if_neg (by omega), if_neg (by simp)]
  simp
theorem bM_twenty : pOf bM (0, [(4096, 320000)]) = ⟨20000, [], 0⟩ := pOf_one (by omega) (by omega) (Nat.le_refl _) (bM_run 20000 (Nat.le_refl _))
theorem pOf_nil (M : List Pg) (s : Nat) : pOf M (s, []) = ⟨0, [], 0⟩ := rfl
theorem tm1 : tMap bM [(0, []), (0, [(4096, 17)])] = ⟨[], 1, 9⟩ := rfl
theorem tm2 : tMap bM [(0, [(4096, 320000)]), (0, [(4096, 320016)])] = ⟨[], 1, 11⟩ := by
  have e : (pOf bM (0, [(4096, 320016)])).err = 11 := rfl
  unfold tMap
  simp only [List.length_cons, List.length_nil, Nat.reduceAdd, tRun, List.getD_cons_zero, List.getD_cons_succ]
  unfold tStep
  rw [bM_twenty, e]
  simp
theorem tm3e : lookErr bM 331768 16 1 = 4 := by rw [bM_eq]; decide +kernel
theorem tm4e : lookErr bM 819200 16 1 = 19 := by rw [bM_eq]; decide +kernel
theorem one_err {M : List Pg} {s a e : Nat} {er : Int} (ha : e = (a + s) % 18446744073709551616) (h : readErr M e 16 = er) (h0 : er ≠ 0) : (pOf M (s, [(a, 16)])).err = er := by
  unfold pOf pFold
  simp only [List.foldl_cons, List.foldl_nil]
  unfold pStep
  have e2 : secAddr a s (16 * 0) = e := by unfold secAddr; omega
  have : secRun M a s (16 / 16) = (er, []) := by
    show secRun M a s (0 + 1) = _
    unfold secRun
    rw [e2, h]; simp [secRun, h0]
  rw [this]
  simp [h0]
theorem tm3 : tMap bM [(0, []), (0, []), (0, [(331768, 16)])] = ⟨[], 2, 4⟩ := by
  have e : (pOf bM (0, [(331768, 16)])).err = 4 := one_err (e := 331768) (by decide) (by unfold readErr; rw [if_neg (by decide)]; exact tm3e) (by decide)
  unfold tMap
  simp only [List.length_cons, List.length_nil, Nat.reduceAdd, tRun, List.getD_cons_zero, List.getD_cons_succ]
  unfold tStep
  rw [pOf_nil, e]
  simp
theorem tm4 : tMap bM [(0, [(819200, 16)])] = ⟨[], 0, 19⟩ := by
  have e : (pOf bM (0, [(819200, 16)])).err = 19 := one_err (e := 819200) (by decide) (by unfold readErr; rw [if_neg (by decide)]; exact tm4e) (by decide)
  unfold tMap
  simp only [List.length_cons, List.length_nil, Nat.reduceAdd, tRun, List.getD_cons_zero]
  unfold tStep
  rw [e]
  simp
theorem tm5 (M : List Pg) : tMap M [] = ⟨[], 0, 0⟩ := rfl

/-! ### known -/
def k21bytes : List UInt8 := [0, 7, 0, 0, 0, 0, 0, 0, 0, 5, 0, 0, 0, 0, 0, 0, 0, 8, 0, 0, 0, 0, 0, 0, 0, 5, 0, 0, 0, 0, 0, 0, 0, 9, 0, 0, 0, 0, 0, 0, 0, 6, 0, 0, 0, 0, 0, 0]
def k21 : List RngM := [⟨65536, 1, 3, k21bytes⟩]
def k21Im : List Im := [(0, []), (65536, [(0, 16)]), (0, [(65552, 32)])]
theorem k21_ok : memOk k21 = true := by decide +kernel
theorem k21_tab : (tMap (memM k21) k21Im).tab = [(1280, 1792, 1), (1536, 2304, 2)] ∧ (tMap (memM k21) k21Im).at_ = 0 ∧ (tMap (memM k21) k21Im).err = 0 := by decide +kernel
end Go.Proofs.Ytepnaalgobhcdaa
