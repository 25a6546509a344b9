/- Images as a slide and pairs of address and size; Pairs over them; the table of Map: plain mathematics. -/
import Derived.Test.YtepnaalgobhcdaaIpE
namespace Go.Proofs.Ytepnaalgobhcdaa
open Go.RowKit Go.Shelf Spm
attribute [local go_sem] Oper.semAt_some

/-- An image as Pairs reads it: its slide; address and size of each section of pairs. -/
abbrev Im := Nat × List (Nat × Nat)
def ImP (w : World) (cs : Array Value) (p : Im) : Prop :=
  cs.size = 27 ∧ cs.all (·.oneCell') = true ∧ cs[25]? = some (.int .u64 p.1) ∧ ∃ (L : List (List SecC)) (a : Option Addr) (c : Nat), SegsC w a L ∧ cs[5]? = some (.slice a L.length c) ∧ (L.length ≤ c ∧ c ≤ maxLen) ∧ (want L.flatten).map ps = p.2
theorem ImP.keep {w w' : World} {cs : Array Value} {p : Im} (h : ImP w cs p) (hb : Below w.heap.size w w') : ImP w' cs p := by
  obtain ⟨h1, h0, h2, L, a, c, h3, h4⟩ := h
  exact ⟨h1, h0, h2, L, a, c, h3.keep hb, h4⟩
def ImPAt (w : World) (p : Im) (b off : Nat) : Prop := ∃ cs, CellsAt w b off cs ∧ ImP w cs p
theorem ImPAt.keep {w w' : World} {p : Im} {b off : Nat} (h : ImPAt w p b off) (hb : Below w.heap.size w w') : ImPAt w' p b off := by
  obtain ⟨cs, h1, h2⟩ := h
  exact ⟨cs, h1.keep hb, h2.keep hb⟩
/-- A slice of images. -/
def ImsP (w : World) (a : Option Addr) (l : List Im) : Prop := SliceOf a l.length 27 fun j => ImPAt w (l.getD j (0, []))
theorem ImsP.keep {w w' : World} {a : Option Addr} {l : List Im} (h : ImsP w a l) (hb : Below w.heap.size w w') : ImsP w' a l := h.mono fun _ _ _ _ h => h.keep hb
theorem ImsP.nil (w : World) (a : Option Addr) : ImsP w a [] := fun j hj => absurd hj (Nat.not_lt_zero j)
def pOf (M : List Pg) (p : Im) : PSt := pFold M p.1 p.2
theorem pairs_im (w : World) (b : Nat) (M : List Pg) (F : Nat → Prop) (h : SpIn w b M F) (cs : Array Value) (p : Im) (hp : ImP w cs p) :
    Calls Try.prog 46 #[.pointer (some ⟨b, 0, none⟩), .agg cs] w (PairsRes w (pOf M p).err (pOf M p).out) := by
  obtain ⟨h1, _, h2, L, a, c, h3, h4, h5, h6⟩ := hp
  have := pairs_any w b M F h cs ⟨p.1, [], [], []⟩ h1 h2 L a c h3 h4 h5
  unfold pst at this
  rw [h6] at this
  exact this

/-! ### The table: which address goes where, and of which image -/
abbrev Tab := List (Nat × Nat × Nat)
def tget (T : Tab) (k : Nat) : Option (Nat × Nat) := (T.find? fun x => x.1 == k).map (·.2)
/-- A pair (to, from): kept if its key is new. -/
def tput (T : Tab) (i : Nat) (p : Nat × Nat) : Tab := if (tget T p.2).isSome then T else T ++ [(p.2, p.1, i)]
def tadd (T : Tab) (i : Nat) (l : List (Nat × Nat)) : Tab := l.foldl (fun T p => tput T i p) T
theorem tadd_snoc (T : Tab) (i : Nat) (l : List (Nat × Nat)) (p : Nat × Nat) : tadd T i (l ++ [p]) = tput (tadd T i l) i p := by simp [tadd]
theorem tput_len (T : Tab) (i : Nat) (p : Nat × Nat) : (tput T i p).length ≤ T.length + 1 := by
  unfold tput; split <;> simp
theorem tadd_len (T : Tab) (i : Nat) (l : List (Nat × Nat)) : (tadd T i l).length ≤ T.length + l.length := by
  refine snoc_induction (p := fun l => (tadd T i l).length ≤ T.length + l.length) (by simp [tadd]) (fun l x ih => ?_) l
  show (tadd T i (l ++ [x])).length ≤ T.length + (l ++ [x]).length
  rw [tadd_snoc]
  have := tput_len (tadd T i l) i x
  simp only [List.length_append, List.length_singleton]
  omega
theorem tget_put_new (T : Tab) (i : Nat) (p : Nat × Nat) (h : tget T p.2 = none) (k : Nat) : tget (tput T i p) k = if k = p.2 then some (p.1, i) else tget T k := by
  unfold tput
  rw [h, if_neg (by simp)]
  unfold tget at h ⊢
  rw [List.find?_append]
  by_cases e : k = p.2
  · subst e
    rw [if_pos rfl]
    have : T.find? (fun x => x.1 == p.2) = none := by simpa using h
    rw [this]; simp
  · rw [if_neg e]
    have : ([(p.2, p.1, i)] : Tab).find? (fun x => x.1 == k) = none := by
      have e2 : (p.2 == k) = false := by simp; exact fun h => e h.symm
      simp [List.find?, e2]
    rw [this]; simp
structure TSt where
  tab : Tab
  at_ : Nat
  err : Int
def tStep (M : List Pg) (j : Nat) (p : Im) (s : TSt) : TSt :=
  if s.err ≠ 0 then s else if (pOf M p).err ≠ 0 then ⟨[], j, (pOf M p).err⟩ else ⟨tadd s.tab j (pOf M p).out, 0, 0⟩
def tRun (M : List Pg) (l : List Im) : Nat → TSt
  | 0 => ⟨[], 0, 0⟩
  | j + 1 => tStep M j (l.getD j (0, [])) (tRun M l j)
def tMap (M : List Pg) (l : List Im) : TSt := tRun M l l.length
theorem tRun_stuck {M : List Pg} {l : List Im} {j k : Nat} (h : (tRun M l j).err ≠ 0) (hk : j ≤ k) : tRun M l k = tRun M l j := by
  induction k with
  | zero => obtain rfl : j = 0 := by omega
            rfl
  | succ k ih =>
    by_cases e : j = k + 1
    · rw [e]
    · rw [tRun, ih (by omega)]
      unfold tStep; rw [if_pos h]
theorem tRun_at {M : List Pg} {l : List Im} {j : Nat} (h : (tRun M l j).err = 0) : (tRun M l j).at_ = 0 := by
  cases j with
  | zero => rfl
  | succ j =>
    rw [tRun] at h ⊢
    revert h
    unfold tStep
    split
    · exact fun h' => absurd h' ‹_›
    · split
      · exact fun h' => absurd h' ‹_›
      · exact fun _ => rfl
theorem tRun_len {M : List Pg} {l : List Im} : ∀ j, (tRun M l j).tab.length ≤ 20000 * j
  | 0 => by simp [tRun]
  | j + 1 => by
    have h := tRun_len (M := M) (l := l) j
    rw [tRun]
    unfold tStep
    split
    · omega
    · split
      · simp
      · have h2 := tadd_len (tRun M l j).tab j (pOf M (l.getD j (0, []))).out
        have h3 := pFold_bound M (l.getD j (0, [])).1 (l.getD j (0, [])).2
        unfold pOf at h2 ⊢
        simp only
        omega
def tSwap (T : Tab) (i a : Nat) : Nat := match tget T a with
  | some (to, im) => if im = i then a else to
  | none => a
end Go.Proofs.Ytepnaalgobhcdaa
