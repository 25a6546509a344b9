/- Plain laws of pages: what is read of what was written; how many pages there are. -/
import Derived.Test.YtepnaalgobhcdaaSpL
namespace Go.Proofs.Ytepnaalgobhcdaa
open Spm

theorem Spm.find_map (M : List Pg) (n : Nat) : (pg M n).map (fun p => (p.num, p.prot, p.bytes.length)) = (M.map fun p => (p.num, p.prot, p.bytes.length)).find? fun t => t.1 == n := by
  unfold pg
  rw [List.find?_map]
  rfl
theorem Spm.pg_alike {M M' : List Pg} (h : Spm.Alike M M') (n : Nat) : (pg M' n).map (fun p => (p.num, p.prot, p.bytes.length)) = (pg M n).map fun p => (p.num, p.prot, p.bytes.length) := by
  rw [Spm.find_map, Spm.find_map, h]
theorem Spm.pg_alike_none {M M' : List Pg} (h : Spm.Alike M M') (n : Nat) : (pg M' n).isNone = (pg M n).isNone := by
  have := congrArg Option.isNone (Spm.pg_alike h n)
  simpa using this
theorem Spm.lookErr_alike {M M' : List Pg} (h : Spm.Alike M M') (a n : Nat) (r : Int) : lookErr M' a n r = lookErr M a n r := by
  have h1 : ∀ f e, missing M' f e = missing M f e := fun f e => by
    unfold missing
    congr 1
    funext i
    exact Spm.pg_alike_none h _
  have h2 : ∀ f e, lacks M' f e r = lacks M f e r := fun f e => by
    unfold lacks
    congr 1
    funext i
    have := Spm.pg_alike h (f + i)
    cases h3 : pg M' (f + i) <;> cases h4 : pg M (f + i) <;> rw [h3, h4] at this <;> simp at this
    show (!hasP _ r) = !hasP _ r
    rw [this.2.1]
  unfold lookErr
  rw [h1, h2]
theorem Spm.readErr_alike {M M' : List Pg} (h : Spm.Alike M M') (a n : Nat) : readErr M' a n = readErr M a n := by
  unfold readErr; rw [Spm.lookErr_alike h]

theorem Spm.byteAt_wr1 {M : List Pg} (hM : ∀ p ∈ M, p.bytes.length = 4096) {a : Nat} (x : UInt8) (hp : (pg M (a / 4096)).isSome = true) (c : Nat) : byteAt (wr1 M a x) c = if c = a then x else byteAt M c := by
  unfold byteAt
  rw [pg_wr1]
  by_cases e : c / 4096 = a / 4096
  · rw [e]
    obtain ⟨p, hpp⟩ := Option.isSome_iff_exists.1 hp
    have hl := hM p (pg_mem hpp).1
    rw [hpp]
    simp only [Option.map_some, if_true]
    by_cases h : c = a
    · subst h
      rw [if_pos rfl, List.getD_eq_getElem?_getD, List.getElem?_set_self (by omega)]; rfl
    · rw [if_neg h, List.getD_eq_getElem?_getD, List.getElem?_set_ne (by omega), ← List.getD_eq_getElem?_getD]
  · rw [if_neg (fun h => e (by rw [h]))]
    cases pg M (c / 4096) with
    | none => rfl
    | some p => simp only [Option.map_some, if_neg e]
theorem Spm.byteAt_wrAll (bs : List UInt8) : ∀ (M : List Pg) (a : Nat), (∀ p ∈ M, p.bytes.length = 4096) → (∀ k, k < bs.length → (pg M ((a + k) / 4096)).isSome = true) → ∀ c, byteAt (wrAll M a bs) c = if a ≤ c ∧ c < a + bs.length then bs.getD (c - a) 0 else byteAt M c := by
  induction bs with
  | nil => intro M a _ _ c; rw [if_neg (by simp)]; rfl
  | cons x bs ih =>
    intro M a hM hp c
    have hal : Spm.Alike M (wr1 M a x) := wr1_alike M a x
    have h1 : ∀ p ∈ wr1 M a x, p.bytes.length = 4096 := fun p hp => by
      unfold wr1 at hp
      obtain ⟨q, hq, rfl⟩ := List.mem_map.1 hp
      have := hM q hq
      split <;> simpa using this
    have h2 : ∀ k, k < bs.length → (pg (wr1 M a x) ((a + 1 + k) / 4096)).isSome = true := fun k hk => by
      have h3 := hp (k + 1) (by simpa using hk)
      rw [← Option.not_isNone, Spm.pg_alike_none hal, Option.not_isNone, show a + 1 + k = a + (k + 1) by omega]
      exact h3
    rw [wrAll, ih _ _ h1 h2 c, Spm.byteAt_wr1 hM x (show (pg M (a / 4096)).isSome = true from hp 0 (by simp)) c]
    simp only [List.length_cons]
    by_cases e : c = a
    · subst e
      rw [if_neg (by omega), if_pos rfl, if_pos (by omega), Nat.sub_self]; rfl
    · by_cases e2 : a + 1 ≤ c ∧ c < a + 1 + bs.length
      · rw [if_pos e2, if_pos (by omega), show c - a = (c - (a + 1)) + 1 by omega]; rfl
      · rw [if_neg e2, if_neg e, if_neg (by omega)]
theorem Spm.readAll_wrAll {M : List Pg} (hM : Ok M) {a : Nat} {bs : List UInt8} (h : missing M (fst a) (lst a bs.length) = false) : readAll (wrAll M a bs) a bs.length = bs := by
  have hp : ∀ k, k < bs.length → (pg M ((a + k) / 4096)).isSome = true := fun k hk => by
    obtain ⟨p, hp⟩ := missing_false h (n := (a + k) / 4096) (by unfold fst; omega) (by unfold lst; omega)
    rw [hp]; rfl
  unfold readAll
  apply List.ext_getElem?
  intro i
  by_cases hi : i < bs.length
  · rw [List.getElem?_map, List.getElem?_range hi, Option.map_some, Spm.byteAt_wrAll bs M a (fun p hp => (hM.pages p hp).2.2.2) hp, if_pos (by omega), Nat.add_sub_cancel_left, List.getD_eq_getElem?_getD, List.getElem?_eq_getElem hi]; rfl
  · rw [List.getElem?_eq_none (by simp; omega), List.getElem?_eq_none (by omega)]

theorem wordOf_bytes (v : Nat) : ∀ i, wordOf ((List.range i).map fun j => UInt8.ofNat (v / 256 ^ j)) = v % 256 ^ i
  | 0 => by simp [wordOf, Nat.mod_one]
  | i + 1 => by
    rw [List.range_succ, List.map_append, List.map_cons, List.map_nil, wordOf_append, wordOf_bytes v i, List.length_map, List.length_range, UInt8.toNat_ofNat']
    have := Nat.mod_mul (x := v) (a := 256 ^ i) (b := 256)
    rw [show 256 ^ (i + 1) = 256 ^ i * 256 from Nat.pow_succ _ _, this, Nat.mul_comm (256 ^ i)]
theorem wordOf_bytesOf {v : Nat} (h : v < 18446744073709551616) : wordOf (bytesOf v) = v := by
  unfold bytesOf
  rw [wordOf_bytes]; omega

/-! ### SpaceMany -/
theorem many1 {n : Nat} (h1 : 1 ≤ n) (h2 : n ≤ 8192) : mapErr [] 0 (n * 4096) 1 = 0 ∧ mapM [] 0 (n * 4096) 1 = mapIn [] 0 n 1 := by
  have e : mapErr [] 0 (n * 4096) 1 = 0 := by
    unfold mapErr
    rw [if_neg (by simp [badArg]; omega), if_neg (by simp [inB]; omega), if_neg (by simp [freeB, inB]; omega), if_neg (by simp; omega)]
  refine ⟨e, ?_⟩
  unfold mapM
  rw [if_pos e]
  congr 1
  omega
theorem many1_no {n : Nat} (h2 : 8192 < n) (h3 : n ≤ 8194) : mapErr [] 0 (n * 4096) 1 = 11 ∧ mapM [] 0 (n * 4096) 1 = [] := by
  have e : mapErr [] 0 (n * 4096) 1 = 11 := by
    unfold mapErr
    rw [if_neg (by simp [badArg]; omega), if_neg (by simp [inB]; omega), if_neg (by simp [freeB, inB]; omega), if_pos (by simp; omega)]
  refine ⟨e, ?_⟩
  unfold mapM
  rw [if_neg (by rw [e]; decide)]
theorem many2 {n m : Nat} (h2 : n ≤ 8192) (h3 : 1 ≤ m) (h4 : m ≤ 8192) : mapErr (mapIn [] 0 n 1) 1099511627776 (m * 4096) 2 = if 8192 - n < m then 11 else 0 := by
  unfold mapErr
  rw [if_neg (by simp [badArg]; omega), if_neg (by simp [inB]; omega), if_neg ?_, mapIn_length]
  · simp only [List.length_nil, Nat.zero_add, Nat.mul_div_cancel m (show 0 < 4096 by decide)]
  · simp only [Bool.not_eq_false]
    unfold freeB
    simp only [Bool.or_eq_true, Bool.and_eq_true]
    refine .inr ⟨by simp [inB]; omega, List.all_eq_true.2 fun p hp => ?_⟩
    rcases mem_mapIn hp with h | h
    · cases h
    · have := (newPages_num h).2.1
      have h2 : ¬ fst 1099511627776 ≤ p.num := by unfold fst; omega
      simp [clash, h2]
theorem many2_len {n m : Nat} (h2 : n ≤ 8192) (h3 : 1 ≤ m) (h4 : m ≤ 8192) : (mapM (mapIn [] 0 n 1) 1099511627776 (m * 4096) 2).length = if 8192 - n < m then n else n + m := by
  unfold mapM
  rw [many2 h2 h3 h4]
  by_cases h : 8192 - n < m
  · rw [if_pos h, if_neg (by decide), if_pos h, mapIn_length]; simp
  · rw [if_neg h, if_pos rfl, if_neg h, mapIn_length, mapIn_length]; simp
end Go.Proofs.Ytepnaalgobhcdaa
