/- Memory as pages in rising order: what each operation does to it. Plain mathematics, no program. -/
namespace Go.Proofs.Ytepnaalgobhcdaa.Spm

structure Pg where
  num : Nat
  prot : Int
  bytes : List UInt8

def pg (M : List Pg) (n : Nat) : Option Pg := M.find? fun p => p.num == n
def byteAt (M : List Pg) (a : Nat) : UInt8 := match pg M (a / 4096) with
  | some p => p.bytes.getD (a % 4096) 0
  | none => 0

structure Ok (M : List Pg) : Prop where
  sorted : M.Pairwise fun p q => p.num < q.num
  pages : ∀ p ∈ M, p.num < 34359738368 ∧ 1 ≤ p.prot ∧ p.prot ≤ 7 ∧ p.bytes.length = 4096
  few : M.length ≤ 8192

/-- Do bytes from an address on stand below the greatest one? -/
def inB (a n : Nat) : Bool := decide (a ≤ 140737488355328) && decide (a + n ≤ 140737488355328)
def fst (a : Nat) : Nat := a / 4096
def lst (a n : Nat) : Nat := (a + n - 1) / 4096 + 1
def clash (f e : Nat) (p : Pg) : Bool := decide (f ≤ p.num) && decide (p.num < e)
def freeB (M : List Pg) (a n : Nat) : Bool := n == 0 || (inB a n && M.all fun p => !clash (fst a) (lst a n) p)
def badArg (a n : Nat) (prot : Int) : Bool := a % 4096 != 0 || n % 4096 != 0 || n == 0 || decide (prot < 1) || decide (7 < prot)
def mapErr (M : List Pg) (a n : Nat) (prot : Int) : Int :=
  if badArg a n prot then 2 else if inB a n = false then 4 else if freeB M a n = false then 21 else if 8192 - M.length < n / 4096 then 11 else 0
def noughts : List UInt8 := List.replicate 4096 0
def newPages (f k : Nat) (prot : Int) : List Pg := (List.range k).map fun i => ⟨f + i, prot, noughts⟩
def mapIn (M : List Pg) (f k : Nat) (prot : Int) : List Pg := M.filter (fun p => decide (p.num < f)) ++ newPages f k prot ++ M.filter fun p => decide (f ≤ p.num)
def mapM (M : List Pg) (a n : Nat) (prot : Int) : List Pg := if mapErr M a n prot = 0 then mapIn M (fst a) (n / 4096) prot else M

theorem pg_mem {M : List Pg} {n : Nat} {p : Pg} (h : pg M n = some p) : p ∈ M ∧ p.num = n := by
  unfold pg at h
  exact ⟨List.mem_of_find?_eq_some h, by simpa using List.find?_some h⟩
theorem pg_none {M : List Pg} {n : Nat} : pg M n = none ↔ ∀ p ∈ M, p.num ≠ n := by
  unfold pg; simp [List.find?_eq_none]
theorem pg_append (A B : List Pg) (n : Nat) : pg (A ++ B) n = (pg A n).or (pg B n) := by unfold pg; rw [List.find?_append]
theorem pg_filter {M : List Pg} {q : Nat → Bool} {n : Nat} : pg (M.filter fun p => q p.num) n = if q n then pg M n else none := by
  induction M with
  | nil => simp [pg]
  | cons x M ih =>
    unfold pg at ih ⊢
    by_cases hx : x.num = n
    · subst hx
      by_cases hq : q x.num = true
      · simp [hq]
      · simp only [Bool.not_eq_true] at hq
        simp [hq] at ih ⊢
        exact ih
    · by_cases hq : q x.num = true
      · simp [hq, hx, ih]
      · simp only [Bool.not_eq_true] at hq
        simp [hq, hx, ih]
theorem ok_unique {M : List Pg} (h : Ok M) {p q : Pg} (hp : p ∈ M) (hq : q ∈ M) (e : p.num = q.num) : p = q := by
  have := h.sorted
  clear h
  induction M with
  | nil => cases hp
  | cons x M ih =>
    obtain ⟨h1, h2⟩ := List.pairwise_cons.1 this
    rcases List.mem_cons.1 hp with rfl | hp' <;> rcases List.mem_cons.1 hq with rfl | hq'
    · rfl
    · have := h1 q hq'; omega
    · have := h1 p hp'; omega
    · exact ih hp' hq' h2
theorem pg_of_mem {M : List Pg} (h : Ok M) {p : Pg} (hp : p ∈ M) : pg M p.num = some p := by
  cases hq : pg M p.num with
  | none => exact absurd rfl (pg_none.1 hq p hp)
  | some q => obtain ⟨h1, h2⟩ := pg_mem hq; rw [ok_unique h hp h1 h2.symm]

theorem newPages_zero (f : Nat) (prot : Int) : newPages f 0 prot = [] := rfl
theorem newPages_succ (f k : Nat) (prot : Int) : newPages f (k + 1) prot = newPages f k prot ++ [⟨f + k, prot, noughts⟩] := by unfold newPages; rw [List.range_succ, List.map_append]; rfl
theorem newPages_num {f k : Nat} {prot : Int} {p : Pg} (h : p ∈ newPages f k prot) : f ≤ p.num ∧ p.num < f + k ∧ p.prot = prot ∧ p.bytes = noughts := by
  unfold newPages at h
  obtain ⟨i, hi, rfl⟩ := List.mem_map.1 h
  have := List.mem_range.1 hi
  exact ⟨Nat.le_add_right _ _, by show f + i < f + k; omega, rfl, rfl⟩
theorem pg_newPages (f k : Nat) (prot : Int) (n : Nat) : pg (newPages f k prot) n = if f ≤ n ∧ n < f + k then some ⟨n, prot, noughts⟩ else none := by
  induction k with
  | zero => rw [newPages_zero, if_neg (by omega)]; rfl
  | succ k ih =>
    rw [newPages_succ, pg_append, ih]
    by_cases h : f ≤ n ∧ n < f + k
    · rw [if_pos h, if_pos (by omega)]; rfl
    · rw [if_neg h]
      by_cases e : n = f + k
      · subst e; rw [if_pos (by omega)]; simp [pg]
      · rw [if_neg (by omega)]; simp [pg]; omega
/-- A range of pages that are not there. -/
def Clear (M : List Pg) (f k : Nat) : Prop := ∀ p ∈ M, ¬ (f ≤ p.num ∧ p.num < f + k)
theorem pg_mapIn {M : List Pg} {f k : Nat} {prot : Int} (n : Nat) : pg (mapIn M f k prot) n = if f ≤ n ∧ n < f + k then some ⟨n, prot, noughts⟩ else pg M n := by
  unfold mapIn
  rw [pg_append, pg_append, pg_newPages, pg_filter (q := fun x => decide (x < f)), pg_filter (q := fun x => decide (f ≤ x))]
  by_cases h : f ≤ n ∧ n < f + k
  · rw [if_pos h, if_neg (by simp; omega)]; simp [h]
  · rw [if_neg h, if_neg h]
    by_cases h1 : n < f
    · simp only [h1, decide_true, if_true, Option.or_none]
      rw [if_neg (by simp; omega)]; simp
    · simp [h1, show f ≤ n by omega]
theorem mapIn_zero {M : List Pg} (h : Ok M) (f : Nat) (prot : Int) : mapIn M f 0 prot = M := by
  unfold mapIn
  rw [newPages_zero, List.append_nil]
  have := h.sorted
  clear h
  induction M with
  | nil => rfl
  | cons x M ih =>
    obtain ⟨h1, h2⟩ := List.pairwise_cons.1 this
    by_cases hx : x.num < f
    · rw [List.filter_cons_of_pos (by simpa using hx), List.filter_cons_of_neg (by simp; omega), List.cons_append, ih h2]
    · rw [List.filter_cons_of_neg (by simp; omega), List.filter_cons_of_pos (by simp; omega)]
      have e1 : M.filter (fun p => decide (p.num < f)) = [] := List.filter_eq_nil_iff.2 fun p hp => by have := h1 p hp; simp; omega
      have e2 : M.filter (fun p => decide (f ≤ p.num)) = M := List.filter_eq_self.2 fun p hp => by have := h1 p hp; simp; omega
      rw [e1, e2]; rfl
theorem filter_split (M : List Pg) (f : Nat) : (M.filter fun p => decide (p.num < f)).length + (M.filter fun p => decide (f ≤ p.num)).length = M.length := by
  induction M with
  | nil => rfl
  | cons x M ih =>
    by_cases hx : x.num < f
    · rw [List.filter_cons_of_pos (by simpa using hx), List.filter_cons_of_neg (by simp; omega)]; simp only [List.length_cons]; omega
    · rw [List.filter_cons_of_neg (by simp; omega), List.filter_cons_of_pos (by simp; omega)]; simp only [List.length_cons]; omega
theorem mapIn_length (M : List Pg) (f k : Nat) (prot : Int) : (mapIn M f k prot).length = M.length + k := by
  unfold mapIn
  have := filter_split M f
  simp only [List.length_append, newPages, List.length_map, List.length_range]
  omega
theorem mem_mapIn {M : List Pg} {f k : Nat} {prot : Int} {p : Pg} : p ∈ mapIn M f k prot → p ∈ M ∨ p ∈ newPages f k prot := by
  unfold mapIn
  simp only [List.mem_append, List.mem_filter]
  rintro ((⟨h, _⟩ | h) | ⟨h, _⟩)
  · exact .inl h
  · exact .inr h
  · exact .inl h
theorem mapIn_ok {M : List Pg} (h : Ok M) {f k : Nat} {prot : Int} (hc : Clear M f k) (hb : f + k ≤ 34359738368) (hp : 1 ≤ prot ∧ prot ≤ 7) (hl : M.length + k ≤ 8192) : Ok (mapIn M f k prot) := by
  refine ⟨?_, fun p hm => ?_, by rw [mapIn_length]; exact hl⟩
  · unfold mapIn
    have hnew : (newPages f k prot).Pairwise fun p q => p.num < q.num := by
      unfold newPages
      rw [List.pairwise_map]
      exact List.pairwise_lt_range.imp fun h => by simpa using h
    refine List.pairwise_append.2 ⟨List.pairwise_append.2 ⟨h.sorted.filter _, hnew, fun p h1 q h2 => ?_⟩, h.sorted.filter _, fun p h1 q h2 => ?_⟩
    · have a1 : p.num < f := by simpa using (List.mem_filter.1 h1).2
      have a2 := (newPages_num h2).1
      omega
    · have a2 : f ≤ q.num := by simpa using (List.mem_filter.1 h2).2
      rcases List.mem_append.1 h1 with h1 | h1
      · have a1 : p.num < f := by simpa using (List.mem_filter.1 h1).2
        omega
      · have a1 := (newPages_num h1).2.1
        have := hc q (List.mem_filter.1 h2).1
        omega
  · rcases mem_mapIn hm with hm | hm
    · exact h.pages p hm
    · obtain ⟨a1, a2, a3, a4⟩ := newPages_num hm
      refine ⟨by omega, by rw [a3]; exact hp.1, by rw [a3]; exact hp.2, by rw [a4]; exact List.length_replicate⟩
theorem Clear.of_free {M : List Pg} {a n : Nat} (h : freeB M a n = true) (h0 : 0 < n) (ha : a % 4096 = 0) (hn : n % 4096 = 0) : Clear M (fst a) (n / 4096) := by
  intro p hp hcl
  have hf : M.all (fun p => !clash (fst a) (lst a n) p) = true := by
    unfold freeB at h
    simp only [Bool.or_eq_true, Bool.and_eq_true] at h
    rcases h with h | h
    · simp at h; omega
    · exact h.2
  have := List.all_eq_true.1 hf p hp
  unfold clash fst lst at this
  unfold fst at hcl
  simp at this
  rcases this with h | h
  · omega
  · omega
theorem mapM_ok {M : List Pg} (h : Ok M) (a n : Nat) (prot : Int) : Ok (mapM M a n prot) := by
  unfold mapM
  by_cases he : mapErr M a n prot = 0
  · rw [if_pos he]
    unfold mapErr at he
    by_cases h1 : badArg a n prot = true
    · rw [if_pos h1] at he; cases he
    rw [if_neg h1] at he
    by_cases h2 : inB a n = false
    · rw [if_pos h2] at he; cases he
    rw [if_neg h2] at he
    by_cases h3 : freeB M a n = false
    · rw [if_pos h3] at he; cases he
    rw [if_neg h3] at he
    by_cases h4 : 8192 - M.length < n / 4096
    · rw [if_pos h4] at he; cases he
    simp [badArg] at h1
    simp [inB] at h2
    have hf := h.few
    exact mapIn_ok h (Clear.of_free (by simpa using h3) (by omega) h1.1.1.1.1 h1.1.1.1.2) (by unfold fst; omega) (by omega) (by omega)
  · rw [if_neg he]; exact h

/-! ### Which bytes are there -/
def hasP (P r : Int) : Bool := (P.toNat &&& r.toNat) == r.toNat
def missing (M : List Pg) (f e : Nat) : Bool := (List.range (e - f)).any fun i => (pg M (f + i)).isNone
def lacks (M : List Pg) (f e : Nat) (r : Int) : Bool := (List.range (e - f)).any fun i => match pg M (f + i) with
  | some p => !hasP p.prot r
  | none => false
def lookErr (M : List Pg) (a n : Nat) (r : Int) : Int :=
  if n = 0 then 0 else if inB a n = false then 4 else if missing M (fst a) (lst a n) then 4 else if lacks M (fst a) (lst a n) r then 19 else 0

theorem missing_false {M : List Pg} {f e : Nat} (h : missing M f e = false) {n : Nat} (h1 : f ≤ n) (h2 : n < e) : ∃ p, pg M n = some p := by
  unfold missing at h
  have := List.any_eq_false.1 h (n - f) (List.mem_range.2 (by omega))
  rw [show f + (n - f) = n by omega] at this
  cases hp : pg M n with
  | none => rw [hp] at this; simp at this
  | some p => exact ⟨p, rfl⟩
theorem missing_true {M : List Pg} {f e n : Nat} (h1 : f ≤ n) (h2 : n < e) (h : pg M n = none) : missing M f e = true := by
  unfold missing
  refine List.any_eq_true.2 ⟨n - f, List.mem_range.2 (by omega), ?_⟩
  rw [show f + (n - f) = n by omega, h]; rfl
theorem sub_length (l m : List Nat) (hnd : l.Nodup) (hs : ∀ x ∈ l, x ∈ m) : l.length ≤ m.length := by
  induction l generalizing m with
  | nil => simp
  | cons x l ih =>
    obtain ⟨h1, h2⟩ := List.nodup_cons.1 hnd
    have hx : x ∈ m := hs x (by simp)
    have := ih (m.erase x) h2 (fun y hy => (List.mem_erase_of_ne (fun (e : y = x) => h1 (by rw [← e]; exact hy))).2 (hs y (by simp [hy])))
    rw [List.length_erase_of_mem hx] at this
    have := List.length_pos_of_mem hx
    simp only [List.length_cons]
    omega

/-- As many pages as there are numbers asked for, if all are there. -/
theorem present_le {M : List Pg} {f e : Nat} (h : missing M f e = false) : e - f ≤ M.length := by
  have hs : ∀ x ∈ (List.range (e - f)).map (f + ·), x ∈ M.map (·.num) := by
    intro x hx
    obtain ⟨i, hi, rfl⟩ := List.mem_map.1 hx
    have hi' := List.mem_range.1 hi
    obtain ⟨p, hp⟩ := missing_false h (n := f + i) (by omega) (by omega)
    obtain ⟨h1, h2⟩ := pg_mem hp
    exact List.mem_map.2 ⟨p, h1, h2⟩
  have hnd : ((List.range (e - f)).map (f + ·)).Nodup := by
    rw [List.nodup_iff_pairwise_ne, List.pairwise_map]
    exact List.nodup_range.imp fun h => by omega
  have := sub_length ((List.range (e - f)).map (f + ·)) (M.map (·.num)) hnd hs
  simpa using this

/-! ### What is written -/
def wr1 (M : List Pg) (a : Nat) (x : UInt8) : List Pg := M.map fun p => if p.num = a / 4096 then { p with bytes := p.bytes.set (a % 4096) x } else p
def wrAll (M : List Pg) (a : Nat) : List UInt8 → List Pg
  | [] => M
  | x :: xs => wrAll (wr1 M a x) (a + 1) xs
def readAll (M : List Pg) (a n : Nat) : List UInt8 := (List.range n).map fun k => byteAt M (a + k)
def readErr (M : List Pg) (a n : Nat) : Int := if 1048576 < n then 4 else lookErr M a n 1
def writeM (M : List Pg) (a : Nat) (bs : List UInt8) (r : Int) : List Pg := if lookErr M a bs.length r = 0 then wrAll M a bs else M

/-- Pages whose bytes alone have turned. -/
def Alike (M M' : List Pg) : Prop := M'.map (fun p => (p.num, p.prot, p.bytes.length)) = M.map fun p => (p.num, p.prot, p.bytes.length)
theorem wr1_alike (M : List Pg) (a : Nat) (x : UInt8) : Alike M (wr1 M a x) := by
  unfold Alike wr1
  rw [List.map_map]
  refine List.map_congr_left fun p _ => ?_
  simp only [Function.comp]
  split <;> simp
theorem wrAll_alike (bs : List UInt8) : ∀ (M : List Pg) (a : Nat), Alike M (wrAll M a bs) := by
  induction bs with
  | nil => intro M a; rfl
  | cons x bs ih => intro M a; exact (ih (wr1 M a x) (a + 1)).trans (wr1_alike M a x)
theorem Alike.length {M M' : List Pg} (h : Alike M M') : M'.length = M.length := by simpa using congrArg List.length h
theorem Alike.ok {M M' : List Pg} (h : Alike M M') (hM : Ok M) : Ok M' := by
  have hn : M'.map (·.num) = M.map (·.num) := by
    have := congrArg (List.map (fun t : Nat × Int × Nat => t.1)) h
    rw [List.map_map, List.map_map] at this
    exact this
  refine ⟨?_, fun p hp => ?_, by rw [h.length]; exact hM.few⟩
  · have h1 : (M.map (·.num)).Pairwise (· < ·) := List.pairwise_map.2 hM.sorted
    rw [← hn] at h1
    exact List.pairwise_map.1 h1
  · have : (p.num, p.prot, p.bytes.length) ∈ M'.map fun p => (p.num, p.prot, p.bytes.length) := List.mem_map.2 ⟨p, hp, rfl⟩
    rw [h] at this
    obtain ⟨q, hq, e⟩ := List.mem_map.1 this
    simp only [Prod.mk.injEq] at e
    have := hM.pages q hq
    rw [e.1, e.2.1, e.2.2] at this
    exact this
theorem pg_wr1 (M : List Pg) (a : Nat) (x : UInt8) (n : Nat) : pg (wr1 M a x) n = (pg M n).map fun p => if n = a / 4096 then { p with bytes := p.bytes.set (a % 4096) x } else p := by
  unfold pg wr1
  induction M with
  | nil => rfl
  | cons p M ih =>
    rw [List.map_cons, List.find?_cons, List.find?_cons]
    by_cases hp : p.num = n
    · subst hp
      by_cases he : p.num = a / 4096
      · simp [he]
      · simp [he]
    · have h1 : ((if p.num = a / 4096 then { p with bytes := p.bytes.set (a % 4096) x } else p).num == n) = false := by split <;> simpa using hp
      have h2 : (p.num == n) = false := by simpa using hp
      rw [h1, h2]
      exact ih
theorem wrAll_append (bs cs : List UInt8) : ∀ (M : List Pg) (a : Nat), wrAll M a (bs ++ cs) = wrAll (wrAll M a bs) (a + bs.length) cs := by
  induction bs with
  | nil => intro M a; rfl
  | cons x bs ih => intro M a; rw [List.cons_append, wrAll, ih, wrAll, List.length_cons]; congr 1; omega
def splice (l : List UInt8) (o : Nat) (bs : List UInt8) : List UInt8 := l.take o ++ bs ++ l.drop (o + bs.length)
theorem splice_nil (l : List UInt8) (o : Nat) : splice l o [] = l := by simp [splice]
theorem splice_cons (l : List UInt8) (o : Nat) (x : UInt8) (bs : List UInt8) (h : o < l.length) : splice (l.set o x) (o + 1) bs = splice l o (x :: bs) := by
  unfold splice
  apply List.ext_getElem?
  intro i
  simp only [List.getElem?_append, List.length_append, List.length_take, List.length_set, List.length_cons, List.getElem?_take, List.getElem?_set, List.getElem?_drop]
  have m1 : min (o + 1) l.length = o + 1 := by omega
  have m2 : min o l.length = o := by omega
  rw [m1, m2]
  by_cases h1 : i < o
  · rw [if_pos (by omega), if_pos (by omega), if_pos (by omega), if_neg (by omega), if_pos (by omega), if_pos (by omega), if_pos (by omega)]
  · by_cases h2 : i = o
    · subst h2
      rw [if_pos (by omega), if_pos (by omega), if_pos (by omega), if_pos rfl, if_pos h, if_pos (by omega), if_neg (by omega), Nat.sub_self]; rfl
    · by_cases h3 : i < o + 1 + bs.length
      · rw [if_pos (by omega), if_neg (by omega), if_pos (by omega), if_neg (by omega), show i - o = (i - (o + 1)) + 1 by omega]; rfl
      · rw [if_neg (by omega), if_neg (by omega), if_neg (by omega)]
        congr 1; omega
/-- What is written within one page, at once. -/
theorem wrAll_chunk (bs : List UInt8) : ∀ (M : List Pg) (a : Nat), (∀ p ∈ M, p.bytes.length = 4096) → a % 4096 + bs.length ≤ 4096 →
    wrAll M a bs = M.map fun p => if p.num = a / 4096 then { p with bytes := splice p.bytes (a % 4096) bs } else p := by
  induction bs with
  | nil =>
    intro M a _ _
    show M = _
    rw [List.map_congr_left (g := id)]
    · simp
    · intro p _; split
      · simp only [splice_nil, id]
      · rfl
  | cons x bs ih =>
    intro M a hM hl
    simp only [List.length_cons] at hl
    cases bs with
    | nil =>
      show wr1 M a x = _
      unfold wr1
      refine List.map_congr_left fun p hp => ?_
      split
      · rw [← splice_cons _ _ _ _ (by rw [hM p hp]; omega), splice_nil]
      · rfl
    | cons y bs =>
      simp only [List.length_cons] at hl
      have e1 : (a + 1) / 4096 = a / 4096 := by omega
      have e2 : (a + 1) % 4096 = a % 4096 + 1 := by omega
      rw [wrAll, ih (wr1 M a x) (a + 1) (fun p hp => by
        unfold wr1 at hp
        obtain ⟨q, hq, rfl⟩ := List.mem_map.1 hp
        have := hM q hq
        split <;> simpa using this) (by rw [e2]; simp only [List.length_cons]; omega)]
      unfold wr1
      rw [List.map_map, e1, e2]
      refine List.map_congr_left fun p hp => ?_
      simp only [Function.comp]
      by_cases h : p.num = a / 4096
      · simp only [h, if_true]
        rw [splice_cons _ _ _ _ (by rw [hM p hp]; omega)]
      · simp only [h, if_false]
theorem readAll_add (M : List Pg) (a k m : Nat) : readAll M a (k + m) = readAll M a k ++ readAll M (a + k) m := by
  unfold readAll
  rw [List.range_add, List.map_append, List.map_map]
  congr 1
  refine List.map_congr_left fun i _ => ?_
  simp only [Function.comp, Nat.add_assoc]
theorem readAll_chunk {M : List Pg} {a m : Nat} {p : Pg} (hp : pg M (a / 4096) = some p) (hl : p.bytes.length = 4096) (h : a % 4096 + m ≤ 4096) : readAll M a m = (p.bytes.drop (a % 4096)).take m := by
  apply List.ext_getElem?
  intro i
  unfold readAll
  by_cases hi : i < m
  · have e1 : (a + i) / 4096 = a / 4096 := by omega
    have e2 : (a + i) % 4096 = a % 4096 + i := by omega
    rw [List.getElem?_map, List.getElem?_range hi, List.getElem?_take, if_pos hi, List.getElem?_drop]
    simp only [Option.map_some, byteAt, e1, hp, e2]
    rw [List.getD_eq_getElem?_getD, List.getElem?_eq_getElem (by omega)]; rfl
  · rw [List.getElem?_eq_none (by simp; omega), List.getElem?_eq_none (by simp; omega)]
theorem readAll_length (M : List Pg) (a n : Nat) : (readAll M a n).length = n := by simp [readAll]
end Go.Proofs.Ytepnaalgobhcdaa.Spm
