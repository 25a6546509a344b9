/- The memory of OrderKinds: plain mathematics. -/
import Derived.Test.YtepnaalgobhcdaaOkA
namespace Go.Proofs.Ytepnaalgobhcdaa
open Go.RowKit Go.Shelf Spm Clv

def kA (p : Nat) : List Pg := mapIn [] (p + 1) 1 5
def kC (p : Nat) : List Pg := mapIn (kA p) (p + 2) 1 3
def kW (p f : Nat) : List Pg := wrAll (kC p) (8192 + 4096 * p) (bytesOf (4096 + 4096 * p + f))
def kX (p f : Nat) : List Pg := wrAll (kW p f) (8200 + 4096 * p) (bytesOf f)
section
variable {p : Nat} (hp : p < 1073741824)
include hp
theorem kA_err : mapErr [] (4096 + 4096 * p) 4096 5 = 0 := by
  unfold mapErr
  rw [if_neg (by simp [badArg] <;> omega), if_neg (by simp [inB]; omega), if_neg (by simp [freeB, inB]; omega), if_neg (by simp)]
theorem kA_eq : mapM [] (4096 + 4096 * p) 4096 5 = kA p := by
  unfold mapM
  rw [if_pos (kA_err hp)]
  unfold kA fst
  congr 1
  omega
theorem kC_err : mapErr (kA p) (8192 + 4096 * p) 4096 3 = 0 := by
  unfold mapErr
  rw [if_neg (by simp [badArg] <;> omega), if_neg (by simp [inB]; omega), if_neg ?_, if_neg]
  · unfold kA; rw [mapIn_length]; simp
  · simp only [Bool.not_eq_false]
    unfold freeB
    simp only [Bool.or_eq_true, Bool.and_eq_true]
    refine .inr ⟨by simp [inB]; omega, List.all_eq_true.2 fun q hq => ?_⟩
    rcases mem_mapIn hq with h | h
    · cases h
    · have := (newPages_num h).2.1
      have h2 : ¬ fst (8192 + 4096 * p) ≤ q.num := by unfold fst; omega
      simp [clash, h2]
theorem kC_eq : mapM (kA p) (8192 + 4096 * p) 4096 3 = kC p := by
  unfold mapM
  rw [if_pos (kC_err hp)]
  unfold kC fst
  congr 1
  omega
end
theorem kC_pg (p n : Nat) : pg (kC p) n = if n = p + 2 then some ⟨n, 3, noughts⟩ else if n = p + 1 then some ⟨n, 5, noughts⟩ else none := by
  unfold kC kA
  rw [pg_mapIn, pg_mapIn]
  by_cases h : n = p + 2
  · rw [if_pos (by omega), if_pos h]
  · rw [if_neg (by omega), if_neg h]
    by_cases h2 : n = p + 1
    · rw [if_pos (by omega), if_pos h2]
    · rw [if_neg (by omega), if_neg h2]; rfl
theorem kC_len (p : Nat) : ∀ q ∈ kC p, q.bytes.length = 4096 := by
  intro q hq
  have e : noughts.length = 4096 := List.length_replicate ..
  rcases mem_mapIn hq with h | h
  · rcases mem_mapIn h with h | h
    · cases h
    · rw [(newPages_num h).2.2.2, e]
  · rw [(newPages_num h).2.2.2, e]
theorem kC_look (p a n : Nat) (r : Int) (hr : hasP 3 r = true) (hp : p < 1073741824) (h0 : 0 < n) (h1 : 8192 + 4096 * p ≤ a) (h2 : a + n ≤ 12288 + 4096 * p) : lookErr (kC p) a n r = 0 := by
  unfold lookErr
  rw [if_neg (by omega)]
  have e1 : inB a n = true := by simp [inB]; omega
  rw [if_neg (by simp [e1])]
  have e2 : missing (kC p) (fst a) (lst a n) = false := by
    unfold missing
    rw [List.any_eq_false]
    intro i hi
    have := List.mem_range.1 hi
    unfold fst lst at *
    rw [kC_pg, if_pos (by omega)]; simp
  have e3 : lacks (kC p) (fst a) (lst a n) r = false := by
    unfold lacks
    rw [List.any_eq_false]
    intro i hi
    have := List.mem_range.1 hi
    unfold fst lst at *
    rw [kC_pg, if_pos (by omega)]
    show ¬ (!hasP 3 r) = true
    rw [hr]; decide
  rw [e2, e3]; rfl
theorem kX_alike (p f : Nat) : Spm.Alike (kC p) (kX p f) := (wrAll_alike _ (kW p f) _).trans (wrAll_alike _ (kC p) _)
theorem kW_alike (p f : Nat) : Spm.Alike (kC p) (kW p f) := wrAll_alike _ (kC p) _
theorem kX_read (p f a n : Nat) (hp : p < 1073741824) (h0 : 0 < n) (h1 : 8192 + 4096 * p ≤ a) (h2 : a + n ≤ 12288 + 4096 * p) : readErr (kX p f) a n = 0 := by
  rw [Spm.readErr_alike (kX_alike p f)]
  unfold readErr
  rw [if_neg (by omega)]
  exact kC_look p a n 1 (by decide) hp h0 h1 h2
theorem execAt_alike {M M' : List Pg} (h : Spm.Alike M M') (a : Nat) : execAt M' a = execAt M a := by
  have := Spm.pg_alike h (a / 4096)
  unfold execAt
  cases h1 : pg M' (a / 4096) <;> cases h2 : pg M (a / 4096) <;> rw [h1, h2] at this <;> simp at this
  simp only [this.2.1]
theorem kX_exec (p f a : Nat) (h1 : 4096 + 4096 * p ≤ a) (h2 : a < 8192 + 4096 * p) : execAt (kX p f) a = true := by
  rw [execAt_alike (kX_alike p f)]
  unfold execAt
  rw [kC_pg, if_neg (by omega), if_pos (by omega)]; rfl
theorem kW_len (p f : Nat) : ∀ q ∈ kW p f, q.bytes.length = 4096 := by
  intro q hq
  have h := kW_alike p f
  have hm : (q.num, q.prot, q.bytes.length) ∈ (kW p f).map fun p => (p.num, p.prot, p.bytes.length) := List.mem_map.2 ⟨q, hq, rfl⟩
  rw [h] at hm
  obtain ⟨r, hr, e⟩ := List.mem_map.1 hm
  have := kC_len p r hr
  simp only [Prod.mk.injEq] at e
  omega
theorem kX_byte (p f c : Nat) (h1 : 8192 + 4096 * p ≤ c) (h2 : c < 8208 + 4096 * p) : byteAt (kX p f) c = if c < 8200 + 4096 * p then (bytesOf (4096 + 4096 * p + f)).getD (c - (8192 + 4096 * p)) 0 else (bytesOf f).getD (c - (8200 + 4096 * p)) 0 := by
  have hs : ∀ i, (pg (kC p) ((8192 + 4096 * p + i) / 4096)).isSome = true ∨ 4096 ≤ i := fun i => by
    by_cases hi : i < 4096
    · left; rw [kC_pg, if_pos (by omega)]; rfl
    · right; omega
  unfold kX
  rw [Spm.byteAt_wrAll _ _ _ (kW_len p f) (fun k hk => ?_), bytesOf_length]
  · by_cases h : c < 8200 + 4096 * p
    · rw [if_neg (by omega), if_pos h]
      unfold kW
      rw [Spm.byteAt_wrAll _ _ _ (kC_len p) (fun k hk => ?_), bytesOf_length, if_pos (by omega)]
      rw [bytesOf_length] at hk
      exact (hs k).resolve_right (by omega)
    · rw [if_pos (by omega), if_neg h]
  · rw [bytesOf_length] at hk
    rw [← Option.not_isNone, Spm.pg_alike_none (kW_alike p f), Option.not_isNone, show 8200 + 4096 * p + k = 8192 + 4096 * p + (8 + k) by omega]
    exact (hs (8 + k)).resolve_right (by omega)
theorem kX_at (p f : Nat) (hf : 4096 + 4096 * p + f < 18446744073709551616) : wordOf (readAll (kX p f) (8192 + 4096 * p) 8) = 4096 + 4096 * p + f := by
  have e : readAll (kX p f) (8192 + 4096 * p) 8 = bytesOf (4096 + 4096 * p + f) := by
    apply List.ext_getElem?
    intro j
    unfold readAll
    by_cases hj : j < 8
    · rw [List.getElem?_map, List.getElem?_range hj, Option.map_some, kX_byte _ _ _ (by omega) (by omega), if_pos (by omega), Nat.add_sub_cancel_left, List.getD_eq_getElem?_getD, bytesOf_get hj]; rfl
    · rw [List.getElem?_eq_none (by simp; omega), List.getElem?_eq_none (by rw [bytesOf_length]; omega)]
  rw [e, wordOf_bytesOf hf]
theorem kX_lo (p f : Nat) (hf : f < 4096) : wordOf (readAll (kX p f) (8200 + 4096 * p) 4) = f := by
  have e : readAll (kX p f) (8200 + 4096 * p) 4 = (List.range 4).map fun j => UInt8.ofNat (f / 256 ^ j) := by
    apply List.ext_getElem?
    intro j
    unfold readAll
    by_cases hj : j < 4
    · rw [List.getElem?_map, List.getElem?_range hj, Option.map_some, kX_byte _ _ _ (by omega) (by omega), if_neg (by omega), Nat.add_sub_cancel_left, List.getD_eq_getElem?_getD, bytesOf_get (by omega), List.getElem?_map, List.getElem?_range hj]; rfl
    · rw [List.getElem?_eq_none (by simp; omega), List.getElem?_eq_none (by simp; omega)]
  rw [e, wordOf_bytes]
  omega
theorem kX_hi (p f : Nat) (hf : f < 4096) : wordOf (readAll (kX p f) (8204 + 4096 * p) 4) = 0 := by
  have e : readAll (kX p f) (8204 + 4096 * p) 4 = List.replicate 4 0 := by
    apply List.ext_getElem?
    intro j
    unfold readAll
    by_cases hj : j < 4
    · have e2 : f / 256 ^ (4 + j) = 0 := Nat.div_eq_of_lt (Nat.lt_of_lt_of_le hf (Nat.le_trans (by decide : 4096 ≤ 256 ^ 4) (Nat.pow_le_pow_right (by decide) (by omega))))
      rw [List.getElem?_map, List.getElem?_range hj, Option.map_some, kX_byte _ _ _ (by omega) (by omega), if_neg (by omega), show 8204 + 4096 * p + j - (8200 + 4096 * p) = 4 + j by omega, List.getD_eq_getElem?_getD, bytesOf_get (by omega), e2, List.getElem?_replicate, if_pos hj]; rfl
    · rw [List.getElem?_eq_none (by simp; omega), List.getElem?_eq_none (by simp; omega)]
  rw [e, wordOf_zero]
section
variable {p f : Nat} (hp : p < 1073741824) (hf : f < 4096)
include hp hf
theorem kr_a : oRun (kX p f) 8192 (4096 * p) 8 0 1 = (0, [4096 + 4096 * p + f]) := by
  have ea : 8192 + 4096 * p = secAddr 8192 (4096 * p) (8 * 0) := by unfold secAddr; omega
  rw [oRun_next (j := 0) rfl ea, kX_read _ _ _ _ hp (by omega) (by omega) (by omega), kX_at _ _ (by omega), if_neg (by simp),
    show (4096 + 4096 * p + f + 0) % 18446744073709551616 = 4096 + 4096 * p + f by omega, kX_exec _ _ _ (by omega) (by omega), if_pos rfl]
  rfl
theorem kr_b : oRun (kX p f) 8200 (4096 * p) 4 ((4096 + 4096 * p) % 18446744073709551616) 1 = (0, [4096 + 4096 * p + f]) := by
  have ea : 8200 + 4096 * p = secAddr 8200 (4096 * p) (4 * 0) := by unfold secAddr; omega
  rw [oRun_next (j := 0) rfl ea, kX_read _ _ _ _ hp (by omega) (by omega) (by omega), kX_lo _ _ hf, if_neg (by simp),
    show (f + (4096 + 4096 * p) % 18446744073709551616) % 18446744073709551616 = 4096 + 4096 * p + f by omega, kX_exec _ _ _ (by omega) (by omega), if_pos rfl]
  rfl
theorem kr_c : oRun (kX p f) 8200 (4096 * p) 4 ((4096 + 4096 * p) % 18446744073709551616) 2 = (0, [4096 + 4096 * p + f, 4096 + 4096 * p]) := by
  have ea : 8204 + 4096 * p = secAddr 8200 (4096 * p) (4 * 1) := by unfold secAddr; omega
  have hb := kr_b hp hf
  rw [oRun_next (j := 1) (by rw [hb]) ea, hb, kX_read _ _ _ _ hp (by omega) (by omega) (by omega), kX_hi _ _ hf, if_neg (by simp),
    show (0 + (4096 + 4096 * p) % 18446744073709551616) % 18446744073709551616 = 4096 + 4096 * p by omega, kX_exec _ _ _ (by omega) (by omega), if_pos rfl]
  rfl
theorem ko_a : oOf (kX p f) (oneO 9 8192 8 (4096 * p) (by decide) (by decide)) = ⟨[4096 + 4096 * p + f], 0⟩ := by
  rw [one_run (by decide) rfl rfl (q := 1) (by decide) (by decide) (by decide) (kr_a hp hf)]; rfl
theorem ko_b : oOf (kX p f) (oneO 22 8200 4 (4096 * p) (by decide) (by decide)) = ⟨[4096 + 4096 * p + f], 0⟩ := by
  rw [one_run (by decide) rfl rfl (q := 1) (by decide) (by decide) (by decide) (kr_b hp hf)]; rfl
theorem ko_c : oOf (kX p f) (oneO 22 8200 8 (4096 * p) (by decide) (by decide)) = ⟨[4096 + 4096 * p + f, 4096 + 4096 * p], 0⟩ := by
  rw [one_run (by decide) rfl rfl (q := 2) (by decide) (by decide) (by decide) (kr_c hp hf)]; rfl
end
end Go.Proofs.Ytepnaalgobhcdaa
