/- The memory of InterposeFirst: plain mathematics. -/
import Derived.Test.YtepnaalgobhcdaaBnD
namespace Go.Proofs.Ytepnaalgobhcdaa
open Go.RowKit Spm

def wM (ws : List Nat) : Nat → List Pg
  | 0 => kM
  | k + 1 => wrAll (wM ws k) (4096 + 8 * k) (bytesOf (ws.getD k 0))
theorem wM_alike (ws : List Nat) : ∀ k, Spm.Alike kM (wM ws k)
  | 0 => rfl
  | k + 1 => (wrAll_alike _ (wM ws k) _).trans (wM_alike ws k)
theorem kM_pg (n : Nat) : pg kM n = if 1 ≤ n ∧ n < 3 then some ⟨n, 3, noughts⟩ else none := by
  rw [kM_eq, pg_mapIn]
  by_cases h : 1 ≤ n ∧ n < 1 + 2
  · rw [if_pos h, if_pos (by omega)]
  · rw [if_neg h, if_neg (by omega)]; rfl
theorem wM_pg (ws : List Nat) (k n : Nat) (h : 1 ≤ n ∧ n < 3) : (pg (wM ws k) n).isSome = true := by
  have h1 := Spm.pg_alike_none (wM_alike ws k) n
  rw [← Option.not_isNone, h1, kM_pg, if_pos h]; rfl
theorem kM_zero (a : Nat) : byteAt kM a = 0 := by
  unfold byteAt
  rw [kM_pg]
  by_cases h : 1 ≤ a / 4096 ∧ a / 4096 < 3
  · rw [if_pos h]; exact rep_getD 4096 _
  · rw [if_neg h]
theorem wM_byte (ws : List Nat) : ∀ k, k ≤ 6 → ∀ n, byteAt (wM ws k) n = if 4096 ≤ n ∧ n < 4096 + 8 * k then (bytesOf (ws.getD ((n - 4096) / 8) 0)).getD ((n - 4096) % 8) 0 else 0
  | 0, _, n => by rw [if_neg (by omega)]; exact kM_zero n
  | k + 1, hk, n => by
    have ih := wM_byte ws k (by omega)
    have hM : ∀ p ∈ wM ws k, p.bytes.length = 4096 := fun p hp => (((wM_alike ws k).ok kM_ok).pages p hp).2.2.2
    have hp : ∀ i, i < (bytesOf (ws.getD k 0)).length → (pg (wM ws k) ((4096 + 8 * k + i) / 4096)).isSome = true := fun i hi => by
      rw [bytesOf_length] at hi
      exact wM_pg ws k _ (by omega)
    show byteAt (wrAll (wM ws k) (4096 + 8 * k) (bytesOf (ws.getD k 0))) n = _
    rw [Spm.byteAt_wrAll _ _ _ hM hp, ih, bytesOf_length]
    by_cases h1 : 4096 + 8 * k ≤ n ∧ n < 4096 + 8 * k + 8
    · rw [if_pos h1, if_pos (by omega), show (n - 4096) / 8 = k by omega, show (n - 4096) % 8 = n - (4096 + 8 * k) by omega]
    · rw [if_neg h1]
      by_cases h2 : 4096 ≤ n ∧ n < 4096 + 8 * k
      · rw [if_pos h2, if_pos (by omega)]
      · rw [if_neg h2, if_neg (by omega)]
theorem wM_word (ws : List Nat) (i : Nat) (hi : i < 6) : (List.range 8).map (fun j => byteAt (wM ws 6) (4096 + 8 * i + j)) = bytesOf (ws.getD i 0) := by
  apply List.ext_getElem?
  intro j
  by_cases hj : j < 8
  · rw [List.getElem?_map, List.getElem?_range hj, Option.map_some, wM_byte ws 6 (Nat.le_refl _), if_pos (by omega), show (4096 + 8 * i + j - 4096) / 8 = i by omega, show (4096 + 8 * i + j - 4096) % 8 = j by omega, List.getD_eq_getElem?_getD, bytesOf_get hj]; rfl
  · rw [List.getElem?_eq_none (by simp; omega), List.getElem?_eq_none (by rw [bytesOf_length]; omega)]
theorem pairAt_of {M : List Pg} {a x y : Nat} (h1 : (List.range 8).map (fun j => byteAt M (a + j)) = bytesOf x) (h2 : (List.range 8).map (fun j => byteAt M (a + 8 + j)) = bytesOf y) (hx : x < 18446744073709551616) (hy : y < 18446744073709551616) : pairAt M a = (x, y) := by
  have e1 : (readAll M a 16).take 8 = bytesOf x := by
    rw [← h1]; unfold readAll; rw [← List.map_take]; rfl
  have e2 : (readAll M a 16).drop 8 = bytesOf y := by
    rw [← h2]
    apply List.ext_getElem?
    intro j
    unfold readAll
    by_cases hj : j < 8
    · rw [List.getElem?_drop, List.getElem?_map, List.getElem?_range (by omega), List.getElem?_map, List.getElem?_range hj, Option.map_some, Option.map_some, show a + (8 + j) = a + 8 + j by omega]
    · rw [List.getElem?_eq_none (by simp; omega), List.getElem?_eq_none (by simp; omega)]
  unfold pairAt
  rw [e1, e2, wordOf_bytesOf hx, wordOf_bytesOf hy]
def fW (x0 x1 x2 x3 : Nat) : List Nat := [x0, x2, x1, x2, x0, x3]
section
variable {x0 x1 x2 x3 : Nat} (h0 : x0 < 18446744073709551616) (h1 : x1 < 18446744073709551616) (h2 : x2 < 18446744073709551616) (h3 : x3 < 18446744073709551616)
abbrev fM (x0 x1 x2 x3 : Nat) : List Pg := wM (fW x0 x1 x2 x3) 6
include h0 h2 in
theorem fp0 : pairAt (fM x0 x1 x2 x3) 4096 = (x0, x2) := pairAt_of (wM_word _ 0 (by decide)) (wM_word _ 1 (by decide)) h0 h2
include h1 h2 in
theorem fp1 : pairAt (fM x0 x1 x2 x3) 4112 = (x1, x2) := pairAt_of (wM_word _ 2 (by decide)) (wM_word _ 3 (by decide)) h1 h2
include h0 h3 in
theorem fp2 : pairAt (fM x0 x1 x2 x3) 4128 = (x0, x3) := pairAt_of (wM_word _ 4 (by decide)) (wM_word _ 5 (by decide)) h0 h3
theorem fp3 : pairAt (fM x0 x1 x2 x3) 8192 = (0, 0) := by
  have e : readAll (fM x0 x1 x2 x3) 8192 16 = List.replicate 16 0 := by
    apply List.ext_getElem
    · simp [readAll]
    · intro j h3 h4
      simp only [readAll, List.getElem_map, List.getElem_range, List.getElem_replicate]
      rw [wM_byte _ 6 (Nat.le_refl _), if_neg (by omega)]
  unfold pairAt
  rw [e]; decide
end
theorem fr (x0 x1 x2 x3 a : Nat) (h : readErr kM a 16 = 0) : readErr (fM x0 x1 x2 x3) a 16 = 0 := by rw [Spm.readErr_alike (wM_alike _ 6)]; exact h
theorem kr1 : readErr kM 4096 16 = 0 := by rw [kM_eq]; decide +kernel
theorem kr2 : readErr kM 4112 16 = 0 := by rw [kM_eq]; decide +kernel
theorem kr3 : readErr kM 4128 16 = 0 := by rw [kM_eq]; decide +kernel
theorem kr4 : readErr kM 8192 16 = 0 := by rw [kM_eq]; decide +kernel
/-- One round more of a section. -/
theorem secRun_more {M : List Pg} {a s j e : Nat} {r : List (Nat × Nat)} {p : Nat × Nat} (hr : secRun M a s j = (0, r)) (he : e = secAddr a s (16 * j)) (h1 : readErr M e 16 = 0) (h2 : pairAt M e = p) : secRun M a s (j + 1) = (0, if p.1 ≠ 0 ∧ p.2 ≠ 0 then r ++ [p] else r) := by
  have h := secRun_next (M := M) (addr := a) (slide := s) (j := j) (a := e) (by rw [hr]) he
  rw [h, if_neg (by rw [h1]; simp), h2, hr]
  split <;> rfl
theorem pOf_pair {M : List Pg} {s a e : Nat} {p : Nat × Nat} (he : e = secAddr a s (16 * 0)) (h1 : readErr M e 16 = 0) (h2 : pairAt M e = p) : pOf M (s, [(a, 16)]) = ⟨1, if p.1 ≠ 0 ∧ p.2 ≠ 0 then [p] else [], 0⟩ := by
  have := pOf_one (M := M) (s := s) (a := a) (n := 16) (q := 1) (by decide) (by decide) (by decide) (secRun_more (j := 0) rfl he h1 h2)
  rw [this]; simp
theorem tStep_ok {M : List Pg} {j m : Nat} {p : Im} {T : Tab} {out : List (Nat × Nat)} (h : pOf M p = ⟨m, out, 0⟩) : tStep M j p ⟨T, 0, 0⟩ = ⟨tadd T j out, 0, 0⟩ := by
  unfold tStep
  rw [h, if_neg (by simp), if_neg (by simp)]
section
variable {x0 x1 x2 x3 : Nat} (h0 : x0 < 18446744073709551616) (h1 : x1 < 18446744073709551616) (h2 : x2 < 18446744073709551616) (h3 : x3 < 18446744073709551616) (n0 : x0 ≠ 0) (n1 : x1 ≠ 0) (n2 : x2 ≠ 0) (n3 : x3 ≠ 0) (n23 : x2 ≠ x3)
theorem tMap4 (M : List Pg) (a b c d : Im) : tMap M [a, b, c, d] = tStep M 3 d (tStep M 2 c (tStep M 1 b (tStep M 0 a ⟨[], 0, 0⟩))) := rfl
theorem tMap2 (M : List Pg) (a b : Im) : tMap M [a, b] = tStep M 1 b (tStep M 0 a ⟨[], 0, 0⟩) := rfl
def fI1 : List Im := [(0, [(4096, 16)]), (4112, [(0, 16)]), (0, [(8192, 16)]), (0, [(4128, 16)])]
def fI2 : List Im := [(0, [(4112, 16)]), (0, [(4096, 48)])]
include h0 h1 h2 h3 n0 n1 n2 n3 n23
theorem fT1 : tMap (fM x0 x1 x2 x3) fI1 = ⟨[(x2, x0, 0), (x3, x0, 3)], 0, 0⟩ := by
  have q0 := pOf_pair (s := 0) (a := 4096) (by decide) (fr x0 x1 x2 x3 _ kr1) (fp0 h0 h2)
  have q1 := pOf_pair (s := 4112) (a := 0) (by decide) (fr x0 x1 x2 x3 _ kr2) (fp1 h1 h2)
  have q2 := pOf_pair (s := 0) (a := 8192) (by decide) (fr x0 x1 x2 x3 _ kr4) fp3
  have q3 := pOf_pair (s := 0) (a := 4128) (by decide) (fr x0 x1 x2 x3 _ kr3) (fp2 h0 h3)
  rw [if_pos ⟨n0, n2⟩] at q0
  rw [if_pos ⟨n1, n2⟩] at q1
  rw [if_neg (by simp)] at q2
  rw [if_pos ⟨n0, n3⟩] at q3
  rw [fI1, tMap4, tStep_ok q0, tStep_ok q1, tStep_ok q2, tStep_ok q3]
  simp [tadd, tput, tget, n23]
theorem fT2 : tMap (fM x0 x1 x2 x3) fI2 = ⟨[(x2, x1, 0), (x3, x0, 1)], 0, 0⟩ := by
  have q0 := pOf_pair (s := 0) (a := 4112) (by decide) (fr x0 x1 x2 x3 _ kr2) (fp1 h1 h2)
  rw [if_pos ⟨n1, n2⟩] at q0
  have r1 := secRun_more (M := fM x0 x1 x2 x3) (a := 4096) (s := 0) (j := 0) rfl (e := 4096) (by decide) (fr x0 x1 x2 x3 _ kr1) (fp0 h0 h2)
  rw [if_pos ⟨n0, n2⟩] at r1
  have r2 := secRun_more r1 (e := 4112) (by decide) (fr x0 x1 x2 x3 _ kr2) (fp1 h1 h2)
  rw [if_pos ⟨n1, n2⟩] at r2
  have r3 := secRun_more r2 (e := 4128) (by decide) (fr x0 x1 x2 x3 _ kr3) (fp2 h0 h3)
  rw [if_pos ⟨n0, n3⟩] at r3
  have q1 := pOf_one (M := fM x0 x1 x2 x3) (s := 0) (a := 4096) (n := 48) (q := 3) (by decide) (by decide) (by decide) r3
  rw [fI2, tMap2, tStep_ok q0, tStep_ok q1]
  simp [tadd, tput, tget, n23]
end
end Go.Proofs.Ytepnaalgobhcdaa
