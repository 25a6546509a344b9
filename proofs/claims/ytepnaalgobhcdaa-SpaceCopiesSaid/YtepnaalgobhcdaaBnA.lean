/- A depth-first order over a graph of numbers: each number once, an edge's end ahead of its start unless it comes back; and reachability by repeated sweeps. Plain mathematics, no program. The ground of the proofs of this seat: how the images, segments and sections that a law is handed lie in memory, and small laws of the walk. An image's dependency that is upward: what both texts answer. What images lead to as a graph of numbers, and how the state of a walk over it lies in memory. The closure of order.Run goes on from an image just as 'visit' does. order.Run gives the order that 'runOut' gives. Memory as pages in rising order: what each operation does to it. Plain mathematics, no program. The bounds of memory: what 'in' and 'numbers' answer. A map from page numbers to pages, told as a function: what each operation on it does. A space in memory: what lies where, and that it stays while other blocks turn. *Space.Free, New, Pages. *Space.Free: no page clashes with the bytes asked for, whatever order the map is gone through in. *Space.Map lays pages of noughts as 'mapM' does, or says why not. *Space.Map: the walk. *Space.look: which bytes are there, and of which protection. *Space.put writes bytes that are there, page by page, as 'wrAll' does. *Space.Write, Fill: bytes written where they are there. *Space.Read: the bytes that are there, page by page. *Space.Word: eight bytes as one number. *Space.SetWord, Prot. Plain laws of pages: what is read of what was written; how many pages there are. clevislaw07.known, SpaceMany. -/
import Derived.Test.YtepnaalgobhcdaaChecked
import Derived.WalkKit
import Derived.ProofKit
import Derived.Lib.Hide
import Derived.Laws.EntriesVeiled
import Derived.Maps.AppendAt
import Derived.Maps.OwnSet
import Derived.Maps.RangeWalk
import Derived.OpenShut
import Derived.WalkSpells
import Derived.Laws.CopyOwn
import Derived.Laws.Bits64b
namespace Go.Proofs.Ytepnaalgobhcdaa.Clv

structure St where
  begun : List Bool
  out : List Nat

/-- One visit, with fuel. -/
def visit (g : Nat → List Nat) : Nat → Nat → St → St
  | 0, _, s => s
  | f + 1, i, s =>
    let s1 := (g i).foldl (fun s d => if s.begun.getD d false then s else visit g f d s) ⟨s.begun.set i true, s.out⟩
    ⟨s1.begun, s1.out ++ [i]⟩

def stepV (g : Nat → List Nat) (f : Nat) (s : St) (d : Nat) : St := if s.begun.getD d false then s else visit g f d s

def startSt (n : Nat) : St := ⟨List.replicate n false, []⟩
def runTo (g : Nat → List Nat) (n k : Nat) : St := (List.range k).foldl (stepV g n) (startSt n)
def runOut (g : Nat → List Nat) (n : Nat) : List Nat := (runTo g n n).out

theorem visit_succ (g : Nat → List Nat) (f i : Nat) (s : St) :
    visit g (f + 1) i s = ⟨((g i).foldl (stepV g f) ⟨s.begun.set i true, s.out⟩).begun, ((g i).foldl (stepV g f) ⟨s.begun.set i true, s.out⟩).out ++ [i]⟩ := rfl

theorem runTo_succ (g : Nat → List Nat) (n k : Nat) : runTo g n (k + 1) = stepV g n (runTo g n k) k := by
  unfold runTo; rw [List.range_succ, List.foldl_append]; rfl

/-- How many have not been begun. -/
def left (s : St) : Nat := s.begun.count false

/-- b is reached from a by one edge or more: it lies in whatever holds the ends of a's edges and of its own members' edges. -/
structure Path (g : Nat → List Nat) (a b : Nat) : Prop where
  ind : ∀ T : Nat → Prop, (∀ x, x ∈ g a → T x) → (∀ x y, T x → y ∈ g x → T y) → T b
theorem Path.one {g : Nat → List Nat} {a b : Nat} (h : b ∈ g a) : Path g a b := ⟨fun _ h1 _ => h1 b h⟩
theorem Path.snoc {g : Nat → List Nat} {a b c : Nat} (h : Path g a b) (k : c ∈ g b) : Path g a c := ⟨fun T h1 h2 => h2 b c (h.ind T h1 h2) k⟩

def isB (s : St) (x : Nat) : Prop := s.begun.getD x false = true

theorem isB_lt {s : St} {x : Nat} (h : isB s x) : x < s.begun.length := by
  rcases Nat.lt_or_ge x s.begun.length with h' | h'
  · exact h'
  · simp [isB, List.getD, List.getElem?_eq_none h'] at h

theorem getD_set (l : List Bool) (i x : Nat) (b : Bool) (hi : i < l.length) : (l.set i b).getD x false = if i = x then b else l.getD x false := by
  simp only [List.getD_eq_getElem?_getD, List.getElem?_set]
  by_cases h : i = x
  · subst h; simp [hi]
  · simp [h]

theorem count_set (l : List Bool) (i : Nat) (hi : i < l.length) (h : l.getD i false = false) : (l.set i true).count false + 1 = l.count false := by
  induction l generalizing i with
  | nil => simp at hi
  | cons a l ih =>
    cases i with
    | zero => simp [List.getD] at h; subst h; simp
    | succ i =>
      have := ih i (by simpa using hi) (by simpa [List.getD] using h)
      simp only [List.set_cons_succ, List.count_cons]
      omega

structure Inv (g : Nat → List Nat) (n : Nat) (s : St) : Prop where
  len : s.begun.length = n
  nodup : s.out.Nodup
  sub : ∀ x ∈ s.out, isB s x
  good : ∀ p x q, s.out = p ++ x :: q → ∀ d ∈ g x, d ∈ p ∨ Path g d x
  closed : ∀ x ∈ s.out, ∀ d ∈ g x, isB s d

def Act (g : Nat → List Nat) (i : Nat) (s : St) : Prop := ∀ a, isB s a → a ∉ s.out → Path g a i

/-- What a step does to a state, seen from outside: what was begun stays; the order grows at its end; nothing new is left open; what is new is reached from i. -/
structure Went (g : Nat → List Nat) (n i : Nat) (s s' : St) : Prop where
  inv : Inv g n s'
  grows : ∃ new, s'.out = s.out ++ new
  mono : ∀ x, isB s x → isB s' x
  shut : ∀ x, isB s' x → x ∉ s'.out → isB s x ∧ x ∉ s.out
  from_ : ∀ x, isB s' x → isB s x ∨ x = i ∨ Path g i x
  left_le : left s' ≤ left s
  stays : ∀ x, isB s x → x ∉ s.out → x ∉ s'.out

theorem Went.refl {g : Nat → List Nat} {n i : Nat} {s : St} (h : Inv g n s) : Went g n i s s :=
  ⟨h, ⟨[], by simp⟩, fun _ h => h, fun _ h k => ⟨h, k⟩, fun _ h => .inl h, Nat.le_refl _, fun _ _ h => h⟩

theorem Path.trans {g : Nat → List Nat} {a b c : Nat} (h : Path g a b) (k : Path g b c) : Path g a c := by
  exact k.ind (fun x => Path g a x) (fun _ h' => .snoc h h') (fun _ _ ih h' => .snoc ih h')

theorem mem_of_grows {s s' : St} (h : ∃ new, s'.out = s.out ++ new) {x : Nat} (hx : x ∈ s.out) : x ∈ s'.out := by
  obtain ⟨new, e⟩ := h; rw [e]; exact List.mem_append_left _ hx

/-- The loop over what i leads to, given that each visit with fuel f goes as it must. -/
theorem fold_went {g : Nat → List Nat} {n f i : Nat} (hg : ∀ i, ∀ d ∈ g i, d < n)
    (ih : ∀ (d : Nat) (s : St), d < n → Inv g n s → ¬ isB s d → Act g d s → left s ≤ f → Went g n d s (visit g f d s) ∧ d ∈ (visit g f d s).out)
    (ds : List Nat) (hds : ∀ d ∈ ds, d ∈ g i) :
    ∀ s : St, Inv g n s → isB s i → i ∉ s.out → (∀ a, isB s a → a ∉ s.out → a = i ∨ Path g a i) → left s ≤ f →
      Went g n i s (ds.foldl (stepV g f) s) ∧ (∀ d ∈ ds, d ∈ (ds.foldl (stepV g f) s).out ∨ Path g d i) ∧ (∀ d ∈ ds, isB (ds.foldl (stepV g f) s) d) ∧ i ∉ (ds.foldl (stepV g f) s).out := by
  induction ds with
  | nil => intro s hI _ hno _ _; exact ⟨Went.refl hI, by simp, by simp, hno⟩
  | cons d ds IH =>
    intro s hI hb hno hact hl
    have hd : d ∈ g i := hds d (by simp)
    have hstep : Went g n i s (stepV g f s d) ∧ (d ∈ (stepV g f s d).out ∨ Path g d i) ∧ isB (stepV g f s d) d ∧ i ∉ (stepV g f s d).out := by
      unfold stepV
      by_cases hbd : s.begun.getD d false = true
      · rw [if_pos hbd]
        refine ⟨Went.refl hI, ?_, hbd, hno⟩
        by_cases ho : d ∈ s.out
        · exact .inl ho
        · rcases hact d hbd ho with rfl | h
          · exact .inr (.one hd)
          · exact .inr h
      · rw [if_neg hbd]
        have hA : Act g d s := fun a ha hao => by
          rcases hact a ha hao with rfl | h
          · exact .one hd
          · exact .snoc h hd
        obtain ⟨w, hm⟩ := ih d s (hg i d hd) hI hbd hA hl
        refine ⟨⟨w.inv, w.grows, w.mono, w.shut, fun x hx => ?_, w.left_le, w.stays⟩, .inl hm, w.inv.sub d hm, fun hi => ?_⟩
        · rcases w.from_ x hx with h | rfl | h
          · exact .inl h
          · exact .inr (.inr (.one hd))
          · exact .inr (.inr (Path.trans (.one hd) h))
        · exact w.stays i hb hno hi
    obtain ⟨w1, h1, h2, h3⟩ := hstep
    have hact' : ∀ a, isB (stepV g f s d) a → a ∉ (stepV g f s d).out → a = i ∨ Path g a i := fun a ha hao => by
      obtain ⟨p, q⟩ := w1.shut a ha hao
      exact hact a p q
    obtain ⟨w2, k1, k2, k3⟩ := IH (fun x hx => hds x (by simp [hx])) (stepV g f s d) w1.inv (w1.mono i hb) h3 hact' (Nat.le_trans w1.left_le hl)
    rw [List.foldl_cons]
    refine ⟨⟨w2.inv, ?_, fun x hx => w2.mono x (w1.mono x hx), fun x hx ho => ?_, fun x hx => ?_, Nat.le_trans w2.left_le w1.left_le, fun x hx ho => w2.stays x (w1.mono x hx) (w1.stays x hx ho)⟩, ?_, ?_, k3⟩
    · obtain ⟨a, ea⟩ := w1.grows
      obtain ⟨b, eb⟩ := w2.grows
      exact ⟨a ++ b, by rw [eb, ea, List.append_assoc]⟩
    · obtain ⟨p, q⟩ := w2.shut x hx ho
      exact w1.shut x p q
    · rcases w2.from_ x hx with h | h | h
      · exact w1.from_ x h
      · exact .inr (.inl h)
      · exact .inr (.inr h)
    · intro x hx
      rcases List.mem_cons.1 hx with rfl | hx
      · rcases h1 with h | h
        · exact .inl (mem_of_grows w2.grows h)
        · exact .inr h
      · exact k1 x hx
    · intro x hx
      rcases List.mem_cons.1 hx with rfl | hx
      · exact w2.mono _ h2
      · exact k2 x hx

theorem left_mark {s : St} {i : Nat} (hi : i < s.begun.length) (hb : ¬ isB s i) : left ⟨s.begun.set i true, s.out⟩ + 1 = left s :=
  count_set _ _ hi (by simpa [isB] using hb)

theorem isB_mark {s : St} {i x : Nat} (hi : i < s.begun.length) : isB ⟨s.begun.set i true, s.out⟩ x ↔ i = x ∨ isB s x := by
  unfold isB
  simp only [getD_set _ _ _ _ hi]
  by_cases h : i = x <;> simp [h]

theorem split_snoc {α : Type} {l p q : List α} {x y : α} (h : l ++ [y] = p ++ x :: q) : (l = p ∧ y = x ∧ q = []) ∨ ∃ q', q = q' ++ [y] ∧ l = p ++ x :: q' := by
  rcases List.eq_nil_or_concat q with rfl | ⟨q', z, rfl⟩
  · left
    have := List.append_inj' h (by simp)
    obtain ⟨h1, h2⟩ := this
    exact ⟨h1, by simpa using h2, rfl⟩
  · right
    have h' : l ++ [y] = (p ++ x :: q') ++ [z] := by simpa using h
    have := List.append_inj' h' (by simp)
    obtain ⟨h1, h2⟩ := this
    exact ⟨q', by simp at h2; rw [h2]; simp, h1⟩

theorem visit_went {g : Nat → List Nat} {n : Nat} (hg : ∀ i, ∀ d ∈ g i, d < n) (f : Nat) :
    ∀ (i : Nat) (s : St), i < n → Inv g n s → ¬ isB s i → Act g i s → left s ≤ f → Went g n i s (visit g f i s) ∧ i ∈ (visit g f i s).out := by
  induction f with
  | zero =>
    intro i s hi hI hb _ hl
    have := left_mark (s := s) (i := i) (by rw [hI.len]; exact hi) hb
    omega
  | succ f ih =>
    intro i s hi hI hb hA hl
    have hi' : i < s.begun.length := by rw [hI.len]; exact hi
    have hno : i ∉ s.out := fun h => hb (hI.sub i h)
    have hI0 : Inv g n ⟨s.begun.set i true, s.out⟩ :=
      ⟨by simp [hI.len], hI.nodup, fun x hx => (isB_mark hi').2 (.inr (hI.sub x hx)), hI.good, fun x hx d hd => (isB_mark hi').2 (.inr (hI.closed x hx d hd))⟩
    obtain ⟨w, k1, k2, k3⟩ := fold_went (i := i) hg ih (g i) (fun _ h => h) ⟨s.begun.set i true, s.out⟩ hI0 ((isB_mark hi').2 (.inl rfl)) hno (by
      intro a ha hao
      rcases (isB_mark hi').1 ha with rfl | h
      · exact .inl rfl
      · exact .inr (hA a h hao)) (by have := left_mark hi' hb; omega)
    rw [visit_succ]
    generalize (g i).foldl (stepV g f) ⟨s.begun.set i true, s.out⟩ = s1 at w k1 k2 k3 ⊢
    have hbi : isB s1 i := w.mono i ((isB_mark hi').2 (.inl rfl))
    refine ⟨⟨⟨w.inv.len, ?_, ?_, ?_, ?_⟩, ?_, ?_, ?_, ?_, ?_, ?_⟩, by simp⟩
    · exact List.nodup_append.2 ⟨w.inv.nodup, by simp, fun a ha b hb e => by simp at hb; subst hb; subst e; exact k3 ha⟩
    · intro x hx
      rcases List.mem_append.1 hx with h | h
      · exact w.inv.sub x h
      · simp at h; subst h; exact hbi
    · intro p x q e d hd
      rcases split_snoc e with ⟨rfl, rfl, _⟩ | ⟨q', rfl, e'⟩
      · exact k1 d hd
      · exact w.inv.good p x q' e' d hd
    · intro x hx d hd
      rcases List.mem_append.1 hx with h | h
      · exact w.inv.closed x h d hd
      · simp at h; subst h; exact k2 d hd
    · obtain ⟨new, e⟩ := w.grows
      exact ⟨new ++ [i], by simp only [] at e ⊢; rw [e, List.append_assoc]⟩
    · exact fun x hx => w.mono x ((isB_mark hi').2 (.inr hx))
    · intro x hx ho
      simp only [List.mem_append, List.mem_singleton, not_or] at ho
      obtain ⟨p, q⟩ := w.shut x hx ho.1
      rcases (isB_mark hi').1 p with h | h
      · exact absurd h.symm ho.2
      · exact ⟨h, q⟩
    · intro x hx
      rcases w.from_ x hx with h | h | h
      · rcases (isB_mark hi').1 h with h | h
        · exact .inr (.inl h.symm)
        · exact .inl h
      · exact .inr (.inl h)
      · exact .inr (.inr h)
    · have := w.left_le
      have := left_mark hi' hb
      have e : left ⟨s1.begun, s1.out ++ [i]⟩ = left s1 := rfl
      omega
    · intro x hx ho h
      rcases List.mem_append.1 h with h | h
      · exact w.stays x ((isB_mark hi').2 (.inr hx)) ho h
      · simp at h; subst h; exact hb hx

/-- Nothing is left open between two visits of the outer loop. -/
structure Top (g : Nat → List Nat) (n k : Nat) (s : St) : Prop where
  inv : Inv g n s
  done : ∀ x, isB s x → x ∈ s.out
  upto : ∀ x, x < k → x ∈ s.out

theorem start_top (g : Nat → List Nat) (n : Nat) : Top g n 0 (startSt n) := by
  have hb : ∀ x, ¬ isB (startSt n) x := fun x h => by
    have hx := isB_lt h
    simp [startSt] at hx
    simp [isB, startSt, List.getD, hx] at h
  exact ⟨⟨by simp [startSt], by simp [startSt], by simp [startSt], by simp [startSt], by simp [startSt]⟩, fun x h => absurd h (hb x), fun x h => absurd h (Nat.not_lt_zero _)⟩

theorem left_le_len (s : St) : left s ≤ s.begun.length := List.count_le_length

theorem step_top {g : Nat → List Nat} {n k : Nat} (hg : ∀ i, ∀ d ∈ g i, d < n) (hk : k < n) {s : St} (h : Top g n k s) :
    Top g n (k + 1) (stepV g n s k) ∧ Went g n k s (stepV g n s k) := by
  unfold stepV
  by_cases hb : s.begun.getD k false = true
  · rw [if_pos hb]
    exact ⟨⟨h.inv, h.done, fun x hx => by
      rcases Nat.lt_succ_iff_lt_or_eq.1 hx with hx | rfl
      · exact h.upto x hx
      · exact h.done _ hb⟩, Went.refl h.inv⟩
  · rw [if_neg hb]
    obtain ⟨w, hm⟩ := visit_went hg n k s hk h.inv hb (fun a ha hao => absurd (h.done a ha) hao) (by rw [← h.inv.len]; exact left_le_len s)
    refine ⟨⟨w.inv, fun x hx => ?_, fun x hx => ?_⟩, w⟩
    · by_cases ho : x ∈ (visit g n k s).out
      · exact ho
      · obtain ⟨p, q⟩ := w.shut x hx ho
        exact absurd (h.done x p) q
    · rcases Nat.lt_succ_iff_lt_or_eq.1 hx with hx | rfl
      · exact mem_of_grows w.grows (h.upto x hx)
      · exact hm

theorem runTo_top {g : Nat → List Nat} {n : Nat} (hg : ∀ i, ∀ d ∈ g i, d < n) : ∀ k, k ≤ n → Top g n k (runTo g n k)
  | 0, _ => start_top g n
  | k + 1, hk => by
    rw [runTo_succ]
    exact (step_top hg (by omega) (runTo_top hg k (by omega))).1

theorem runTo_grows {g : Nat → List Nat} {n : Nat} (hg : ∀ i, ∀ d ∈ g i, d < n) {j : Nat} : ∀ k, j ≤ k → k ≤ n → ∃ new, (runTo g n k).out = (runTo g n j).out ++ new := by
  intro k
  induction k with
  | zero => intro h _; obtain rfl : j = 0 := by omega
            exact ⟨[], by simp⟩
  | succ k ih =>
    intro h hk
    rcases Nat.lt_or_ge k j with h' | h'
    · obtain rfl : j = k + 1 := by omega
      exact ⟨[], by simp⟩
    · obtain ⟨a, ea⟩ := ih h' (by omega)
      rw [runTo_succ]
      obtain ⟨b, eb⟩ := (step_top hg (show k < n by omega) (runTo_top hg k (by omega))).2.grows
      exact ⟨a ++ b, by rw [eb, ea, List.append_assoc]⟩

section
variable {g : Nat → List Nat} {n : Nat} (hg : ∀ i, ∀ d ∈ g i, d < n)
include hg

theorem runOut_nodup : (runOut g n).Nodup := (runTo_top hg n (Nat.le_refl _)).inv.nodup
theorem runOut_mem (x : Nat) : x ∈ runOut g n ↔ x < n := by
  have h := runTo_top hg n (Nat.le_refl _)
  exact ⟨fun hx => by have := isB_lt (h.inv.sub x hx); rwa [h.inv.len] at this, fun hx => h.upto x hx⟩
theorem runOut_perm : (runOut g n).Perm (List.range n) :=
  (List.perm_ext_iff_of_nodup (runOut_nodup hg) List.nodup_range).2 (fun x => by rw [runOut_mem hg, List.mem_range])
theorem runOut_length : (runOut g n).length = n := by rw [(runOut_perm hg).length_eq, List.length_range]
theorem runOut_good {p q : List Nat} {x d : Nat} (e : runOut g n = p ++ x :: q) (hd : d ∈ g x) (hn : ¬ Path g d x) : d ∈ p :=
  ((runTo_top hg n (Nat.le_refl _)).inv.good p x q e d hd).resolve_right hn

/-- What stands ahead of 0 is reached from 0; what stands behind it is not. -/
theorem runOut_zero (hn : 0 < n) : ∃ p q, runOut g n = p ++ 0 :: q ∧ (∀ x ∈ p, Path g 0 x) ∧ ∀ x ∈ q, ¬ Path g 0 x := by
  have hb0 : ¬ isB (startSt n) 0 := fun h => by simp [isB, startSt, List.getD, hn] at h
  have e1 : runTo g n 1 = visit g n 0 (startSt n) := by
    rw [runTo_succ]
    show stepV g n (startSt n) 0 = _
    unfold stepV
    rw [if_neg (by simpa [isB] using hb0)]
  have hT := start_top g n
  obtain ⟨w, _⟩ := visit_went hg n 0 (startSt n) hn hT.inv hb0 (fun a ha hao => absurd (hT.done a ha) hao) (by have := left_le_len (startSt n); rw [hT.inv.len] at this; exact this)
  have h1 := runTo_top hg 1 hn
  obtain ⟨m, rfl⟩ : ∃ m, n = m + 1 := ⟨n - 1, by omega⟩
  have eo : (runTo g (m + 1) 1).out = ((g 0).foldl (stepV g m) ⟨(startSt (m + 1)).begun.set 0 true, (startSt (m + 1)).out⟩).out ++ [0] := by rw [e1, visit_succ]
  generalize ((g 0).foldl (stepV g m) ⟨(startSt (m + 1)).begun.set 0 true, (startSt (m + 1)).out⟩).out = p at eo
  obtain ⟨new, en⟩ := runTo_grows hg (j := 1) (m + 1) hn (Nat.le_refl _)
  have enod := runOut_nodup hg
  have eall : runOut g (m + 1) = p ++ 0 :: new := by
    show (runTo g (m + 1) (m + 1)).out = _
    rw [en, eo]; simp
  rw [eall] at enod
  have enod' := List.nodup_append.1 enod
  refine ⟨p, new, eall, fun x hx => ?_, fun x hx hP => ?_⟩
  · have hxo : x ∈ (runTo g (m + 1) 1).out := by rw [eo]; simp [hx]
    have hxb := h1.inv.sub x hxo
    rw [e1] at hxb
    rcases w.from_ x hxb with h | h | h
    · exact absurd (hT.done x h) (by simp [startSt])
    · exact absurd h (enod'.2.2 x hx 0 (by simp))
    · exact h
  · -- all that is reached from 0 is out already
    have hall : ∀ y, Path g 0 y → y ∈ (runTo g (m + 1) 1).out := by
      intro y hy
      exact hy.ind (fun x => x ∈ (runTo g (m + 1) 1).out) (fun _ h => h1.done _ (h1.inv.closed 0 (h1.upto 0 (by omega)) _ h)) (fun _ _ ih h => h1.done _ (h1.inv.closed _ ih _ h))
    have := hall x hP
    rw [eo] at this
    have hnd : (p ++ [0] ++ new).Nodup := by simpa using enod
    exact (List.nodup_append.1 hnd).2.2 x this x hx rfl
end

/-! ### Reachability by sweeps -/

/-- One place's turn of a sweep. -/
def sweepAt (g : Nat → List Nat) (i : Nat) (o : List Bool) (k : Nat) : List Bool :=
  if k ≠ i ∧ o.getD k false = false then o else (g k).foldl (fun o d => o.set d true) o
def sweep (g : Nat → List Nat) (n i : Nat) (o : List Bool) : List Bool := (List.range n).foldl (sweepAt g i) o
def sweeps (g : Nat → List Nat) (n i : Nat) : Nat → List Bool
  | 0 => List.replicate n false
  | m + 1 => sweep g n i (sweeps g n i m)
def reach (g : Nat → List Nat) (n i : Nat) : List Bool := sweeps g n i (n + 1)

def On (o : List Bool) (x : Nat) : Prop := o.getD x false = true

theorem lt_of_on {o : List Bool} {n x : Nat} (hl : o.length = n) (h : On o x) : x < n := by
  rcases Nat.lt_or_ge x n with h' | h'
  · exact h'
  · exfalso
    unfold On at h
    rw [List.getD_eq_getElem?_getD, List.getElem?_eq_none (by omega)] at h
    cases h

theorem on_set {o : List Bool} {d x : Nat} (hd : d < o.length) : On (o.set d true) x ↔ d = x ∨ On o x := by
  unfold On
  rw [getD_set _ _ _ _ hd]
  by_cases h : d = x <;> simp [h]

theorem fold_set_len (ds : List Nat) : ∀ o : List Bool, (ds.foldl (fun o d => o.set d true) o).length = o.length := by
  induction ds with
  | nil => intro o; rfl
  | cons d ds ih => intro o; rw [List.foldl_cons, ih]; simp

theorem fold_set_on (ds : List Nat) : ∀ o : List Bool, (∀ d ∈ ds, d < o.length) → ∀ x, On (ds.foldl (fun o d => o.set d true) o) x ↔ x ∈ ds ∨ On o x := by
  induction ds with
  | nil => intro o _ x; simp
  | cons d ds ih =>
    intro o h x
    rw [List.foldl_cons, ih _ (fun y hy => by simpa using h y (by simp [hy])), on_set (h d (by simp)), List.mem_cons]
    constructor
    · rintro (h | h | h)
      · exact .inl (.inr h)
      · exact .inl (.inl h.symm)
      · exact .inr h
    · rintro ((h | h) | h)
      · exact .inr (.inl h.symm)
      · exact .inl h
      · exact .inr (.inr h)

section
variable {g : Nat → List Nat} {n : Nat} (hg : ∀ i, ∀ d ∈ g i, d < n) (i : Nat)
include hg

structure Swept (k : Nat) (o o' : List Bool) : Prop where
  len : o'.length = n
  mono : ∀ x, On o x → On o' x
  full : ∀ y, y < k → (y = i ∨ On o y) → ∀ d ∈ g y, On o' d
  sound : (∀ x, On o x → Path g i x) → ∀ x, On o' x → Path g i x

theorem sweep_to (o : List Bool) (ho : o.length = n) : ∀ k, k ≤ n → Swept (g := g) (n := n) i k o ((List.range k).foldl (sweepAt g i) o) := by
  intro k
  induction k with
  | zero => intro _; exact ⟨ho, fun _ h => h, fun y hy => absurd hy (Nat.not_lt_zero _), fun h => h⟩
  | succ k ih =>
    intro hk
    have h := ih (by omega)
    rw [List.range_succ, List.foldl_append, List.foldl_cons, List.foldl_nil]
    generalize (List.range k).foldl (sweepAt g i) o = o1 at h ⊢
    unfold sweepAt
    by_cases hc : k ≠ i ∧ o1.getD k false = false
    · rw [if_pos hc]
      refine ⟨h.len, h.mono, fun y hy hyo d hd => ?_, h.sound⟩
      rcases Nat.lt_succ_iff_lt_or_eq.1 hy with hy | rfl
      · exact h.full y hy hyo d hd
      · rcases hyo with e | e
        · exact absurd e hc.1
        · have h' := h.mono _ e
          unfold On at h'
          rw [hc.2] at h'
          cases h'
    · rw [if_neg hc]
      have hlt : ∀ d ∈ g k, d < o1.length := fun d hd => by rw [h.len]; exact hg k d hd
      refine ⟨by rw [fold_set_len, h.len], fun x hx => (fold_set_on _ _ hlt x).2 (.inr (h.mono x hx)), fun y hy hyo d hd => ?_, fun hs x hx => ?_⟩
      · rcases Nat.lt_succ_iff_lt_or_eq.1 hy with hy | rfl
        · exact (fold_set_on _ _ hlt d).2 (.inr (h.full y hy hyo d hd))
        · exact (fold_set_on _ _ hlt d).2 (.inl hd)
      · rcases (fold_set_on _ _ hlt x).1 hx with hx | hx
        · by_cases e : k = i
          · exact e ▸ .one hx
          · have hk' : On o1 k := by
              unfold On
              cases hv : o1.getD k false with
              | true => rfl
              | false => exact absurd ⟨e, hv⟩ hc
            exact .snoc (h.sound hs k hk') hx
        · exact h.sound hs x hx

theorem sweep_is (o : List Bool) (ho : o.length = n) : Swept (g := g) (n := n) i n o (sweep g n i o) := sweep_to hg i o ho n (Nat.le_refl _)

theorem sweeps_len : ∀ m, (sweeps g n i m).length = n
  | 0 => by simp [sweeps]
  | m + 1 => (sweep_is hg i _ (sweeps_len m)).len

theorem sweeps_sound : ∀ m x, On (sweeps g n i m) x → Path g i x
  | 0, x, h => by
    unfold On sweeps at h
    by_cases hx : x < n <;> simp [List.getD, hx] at h
  | m + 1, x, h => (sweep_is hg i _ (sweeps_len hg i m)).sound (sweeps_sound m) x h

omit hg in
theorem count_lt {o o' : List Bool} (hl : o'.length = o.length) (hm : ∀ x, On o x → On o' x) : o.count true ≤ o'.count true ∧ (o.count true = o'.count true → o = o') := by
  induction o generalizing o' with
  | nil => cases o' with
    | nil => simp
    | cons => simp at hl
  | cons a o ih =>
    cases o' with
    | nil => simp at hl
    | cons b o' =>
      have h0 := hm 0
      have hr := ih (o' := o') (by simpa using hl) (fun x hx => by have := hm (x + 1); simpa [On, List.getD] using this (by simpa [On, List.getD] using hx))
      simp only [On, List.getD_cons_zero] at h0
      cases a <;> cases b <;> simp_all
      omega

/-- Each sweep marks one more, or nothing is left to mark. -/
theorem sweeps_count : ∀ m, sweeps g n i (m + 1) = sweeps g n i m ∨ m < (sweeps g n i (m + 1)).count true
  | 0 => by
    have h := sweep_is hg i _ (sweeps_len hg i 0)
    have hc := count_lt (by rw [h.len, sweeps_len hg i 0]) h.mono
    by_cases e : (sweeps g n i 0).count true = (sweep g n i (sweeps g n i 0)).count true
    · exact .inl (hc.2 e).symm
    · right
      show 0 < (sweep g n i (sweeps g n i 0)).count true
      omega
  | m + 1 => by
    have h := sweep_is hg i _ (sweeps_len hg i (m + 1))
    have hc := count_lt (by rw [h.len, sweeps_len hg i (m + 1)]) h.mono
    by_cases e : (sweeps g n i (m + 1)).count true = (sweep g n i (sweeps g n i (m + 1))).count true
    · exact .inl (hc.2 e).symm
    · right
      show m + 1 < (sweep g n i (sweeps g n i (m + 1))).count true
      rcases sweeps_count m with h' | h'
      · exfalso
        apply e
        show _ = (sweep g n i (sweeps g n i (m + 1))).count true
        rw [h']
        exact congrArg (·.count true) (show sweeps g n i m = sweep g n i (sweeps g n i m) from h'.symm)
      · omega

theorem sweeps_still : sweeps g n i (n + 1) = sweeps g n i n := by
  rcases sweeps_count hg i n with h | h
  · exact h
  · have := List.count_le_length (a := true) (l := sweeps g n i (n + 1))
    rw [sweeps_len hg i] at this
    omega

theorem reach_on (hi : i < n) (x : Nat) : On (reach g n i) x ↔ Path g i x := by
  refine ⟨sweeps_sound hg i _ x, fun h => ?_⟩
  have hf := (sweep_is hg i _ (sweeps_len hg i n)).full
  have e : sweep g n i (sweeps g n i n) = sweeps g n i n := sweeps_still hg i
  have er : reach g n i = sweeps g n i n := e
  rw [er]
  rw [e] at hf
  exact h.ind (fun x => On (sweeps g n i n) x) (fun _ h => hf i hi (.inl rfl) _ h) (fun _ _ hb h => hf _ (lt_of_on (sweeps_len hg i n) hb) (.inr hb) _ h)
end

/-- What is left and what is out never grow together. -/
theorem visit_room (g : Nat → List Nat) (n : Nat) (hg : ∀ i, ∀ d ∈ g i, d < n) (f : Nat) : ∀ (i : Nat) (s : St), i < n → s.begun.length = n → ¬ isB s i → left s ≤ f →
    (visit g f i s).begun.length = n ∧ (visit g f i s).out.length + left (visit g f i s) ≤ s.out.length + left s ∧ left (visit g f i s) + 1 ≤ left s := by
  induction f with
  | zero =>
    intro i s hi hl hb hf
    have := left_mark (s := s) (i := i) (by omega) hb
    omega
  | succ f ih =>
    intro i s hi hl hb hf
    have hm := left_mark (s := s) (i := i) (by omega) hb
    have hfold : ∀ (ds : List Nat), (∀ d ∈ ds, d < n) → ∀ t : St, t.begun.length = n → left t ≤ f →
        (ds.foldl (stepV g f) t).begun.length = n ∧ (ds.foldl (stepV g f) t).out.length + left (ds.foldl (stepV g f) t) ≤ t.out.length + left t ∧ left (ds.foldl (stepV g f) t) ≤ left t := by
      intro ds
      induction ds with
      | nil => intro _ t ht _; exact ⟨ht, Nat.le_refl _, Nat.le_refl _⟩
      | cons d ds IH =>
        intro hds t ht htf
        have h1 : (stepV g f t d).begun.length = n ∧ (stepV g f t d).out.length + left (stepV g f t d) ≤ t.out.length + left t ∧ left (stepV g f t d) ≤ left t := by
          unfold stepV
          by_cases hbd : t.begun.getD d false = true
          · rw [if_pos hbd]; exact ⟨ht, Nat.le_refl _, Nat.le_refl _⟩
          · rw [if_neg hbd]
            obtain ⟨a, b, c⟩ := ih d t (hds d (by simp)) ht hbd htf
            exact ⟨a, b, by omega⟩
        obtain ⟨a, b, c⟩ := h1
        obtain ⟨a', b', c'⟩ := IH (fun x hx => hds x (by simp [hx])) (stepV g f t d) a (by omega)
        exact ⟨a', by rw [List.foldl_cons]; omega, by rw [List.foldl_cons]; omega⟩
    obtain ⟨a, b, c⟩ := hfold (g i) (hg i) ⟨s.begun.set i true, s.out⟩ (by simpa using hl) (by omega)
    rw [visit_succ]
    generalize (g i).foldl (stepV g f) ⟨s.begun.set i true, s.out⟩ = s1 at a b c ⊢
    have e : left ⟨s1.begun, s1.out ++ [i]⟩ = left s1 := rfl
    have e2 : (⟨s.begun.set i true, s.out⟩ : St).out.length = s.out.length := rfl
    refine ⟨a, ?_, ?_⟩
    · rw [e]; simp only [List.length_append, List.length_cons, List.length_nil]; omega
    · omega
theorem step_room (g : Nat → List Nat) (n : Nat) (hg : ∀ i, ∀ d ∈ g i, d < n) (f : Nat) (d : Nat) (s : St) (hd : d < n) (hl : s.begun.length = n) (hf : left s ≤ f) :
    (stepV g f s d).begun.length = n ∧ (stepV g f s d).out.length + left (stepV g f s d) ≤ s.out.length + left s ∧ left (stepV g f s d) ≤ left s := by
  unfold stepV
  by_cases hbd : s.begun.getD d false = true
  · rw [if_pos hbd]; exact ⟨hl, Nat.le_refl _, Nat.le_refl _⟩
  · rw [if_neg hbd]
    obtain ⟨a, b, c⟩ := visit_room g n hg f d s hd hl hbd hf
    exact ⟨a, b, by omega⟩
theorem fold_room (g : Nat → List Nat) (n : Nat) (hg : ∀ i, ∀ d ∈ g i, d < n) (f : Nat) (ds : List Nat) : (∀ d ∈ ds, d < n) → ∀ t : St, t.begun.length = n → left t ≤ f →
    (ds.foldl (stepV g f) t).begun.length = n ∧ (ds.foldl (stepV g f) t).out.length + left (ds.foldl (stepV g f) t) ≤ t.out.length + left t ∧ left (ds.foldl (stepV g f) t) ≤ left t := by
  induction ds with
  | nil => intro _ t ht _; exact ⟨ht, Nat.le_refl _, Nat.le_refl _⟩
  | cons d ds IH =>
    intro hds t ht htf
    obtain ⟨a, b, c⟩ := step_room g n hg f d t (hds d (by simp)) ht htf
    obtain ⟨a', b', c'⟩ := IH (fun x hx => hds x (by simp [hx])) (stepV g f t d) a (by omega)
    exact ⟨a', by rw [List.foldl_cons]; omega, by rw [List.foldl_cons]; omega⟩
end Go.Proofs.Ytepnaalgobhcdaa.Clv
namespace Go.Proofs.Ytepnaalgobhcdaa
open Go.RowKit

/-! ### A section, a segment, an image as plain data -/
structure SecM where
  addr : Nat
  size : Nat
  kind : Int
structure SegM where
  addr : Nat
  fsize : Nat
  off : Nat
  size : Nat
  prot : Int
  secs : List SecM
structure ImgM where
  slide : Nat
  deps : List Int
  ups : List Int
  segs : List SegM

/-- The cells from (b, off) on hold these values. -/
def CellsAt (w : World) (b off : Nat) (cs : Array Value) : Prop := ∀ j v, cs[j]? = some v → w.cell? ⟨b, off + j, none⟩ = some v

/-- A slice of n elements of so many cells, of each of which something holds. -/
def SliceOf (a : Option Addr) (n sz : Nat) (R : Nat → Nat → Nat → Prop) : Prop := ∀ j, j < n → ∃ b o, a = some ⟨b, o, none⟩ ∧ R j b (o + j * sz)

def SecAt (w : World) (x : SecM) (b off : Nat) : Prop :=
  ∃ (n s : ByteArray) (o : Int), x.addr < 18446744073709551616 ∧ x.size < 18446744073709551616 ∧
    CellsAt w b off #[.string n, .string s, .int .u64 x.addr, .int .u64 x.size, .int .u64 o, .int .i64 x.kind]
def SegAt (w : World) (x : SegM) (b off : Nat) : Prop :=
  ∃ (n : ByteArray) (a : Option Addr) (c : Nat), x.addr < 18446744073709551616 ∧ x.size < 18446744073709551616 ∧ x.off < 18446744073709551616 ∧ x.fsize < 18446744073709551616 ∧ x.secs.length ≤ c ∧ c ≤ maxLen ∧
    CellsAt w b off #[.string n, .int .u64 x.addr, .int .u64 x.size, .int .u64 x.off, .int .u64 x.fsize, .int .i64 x.prot, .slice a x.secs.length c] ∧
    SliceOf a x.secs.length 6 fun j => SecAt w (x.secs.getD j ⟨0, 0, 0⟩)
def DepAt (w : World) (k : Int) (b off : Nat) : Prop := w.cell? ⟨b, off + 1, none⟩ = some (.int .i64 k)
def IntAt (w : World) (k : Int) (b off : Nat) : Prop := w.cell? ⟨b, off, none⟩ = some (.int .i64 k) ∧ -9223372036854775808 ≤ k ∧ k ≤ 9223372036854775807

/-- The 27 cells of an image that was loaded. -/
structure ImgCells (w : World) (x : ImgM) (cs : Array Value) : Prop where
  size : cs.size = 27
  slideb : x.slide < 18446744073709551616
  segs : ∃ a c, cs[5]? = some (.slice a x.segs.length c) ∧ x.segs.length ≤ c ∧ c ≤ maxLen ∧ SliceOf a x.segs.length 7 fun j => SegAt w (x.segs.getD j ⟨0, 0, 0, 0, 0, []⟩)
  ups : ∃ a c, cs[6]? = some (.slice a x.ups.length c) ∧ x.ups.length ≤ c ∧ c ≤ maxLen ∧ SliceOf a x.ups.length 2 fun j => DepAt w (x.ups.getD j 0)
  slide : cs[25]? = some (.int .u64 x.slide)
  deps : ∃ a c, cs[26]? = some (.slice a x.deps.length c) ∧ x.deps.length ≤ c ∧ c ≤ maxLen ∧ SliceOf a x.deps.length 1 fun j => IntAt w (x.deps.getD j 0)
def ImgAt (w : World) (x : ImgM) (b off : Nat) : Prop := ∃ cs, CellsAt w b off cs ∧ ImgCells w x cs
/-- A slice of images. -/
def Imgs (w : World) (a : Option Addr) (c : Nat) (l : List ImgM) : Prop := l.length ≤ c ∧ c ≤ maxLen ∧ SliceOf a l.length 27 fun j => ImgAt w (l.getD j ⟨0, [], [], []⟩)

/-! ### What is below stays -/
theorem CellsAt.below {w w' : World} {B b off : Nat} {cs : Array Value} (h : CellsAt w b off cs) (hb : Below B w w') (hlt : cs.size ≠ 0 → b < B) : CellsAt w' b off cs := fun j v hj => by
  have hb' : b < B := hlt (by intro e; simp [Array.getElem?_eq_none (show cs.size ≤ j by omega)] at hj)
  rw [hb.cell (p := ⟨b, off + j, none⟩) hb']
  exact h j v hj
theorem CellsAt.lt {w : World} {b off : Nat} {cs : Array Value} (h : CellsAt w b off cs) (hs : cs.size ≠ 0) : b < w.heap.size := by
  have h0 := h 0 cs[0] (by simp)
  exact block_lt_of_cell h0
theorem SliceOf.mono {a : Option Addr} {n sz : Nat} {R R' : Nat → Nat → Nat → Prop} (h : SliceOf a n sz R) (hr : ∀ j b o, j < n → R j b o → R' j b o) : SliceOf a n sz R' := fun j hj => by
  obtain ⟨b, o, e, r⟩ := h j hj
  exact ⟨b, o, e, hr j b _ hj r⟩
theorem SliceOf.get {a : Option Addr} {n sz : Nat} {R : Nat → Nat → Nat → Prop} (h : SliceOf a n sz R) (hn : 0 < n) : ∃ b o, a = some ⟨b, o, none⟩ ∧ ∀ j, j < n → R j b (o + j * sz) := by
  obtain ⟨b, o, rfl, _⟩ := h 0 hn
  refine ⟨b, o, rfl, fun j hj => ?_⟩
  obtain ⟨b', o', e, r⟩ := h j hj
  cases e
  exact r
theorem CellsAt.keep {w w' : World} {b off : Nat} {cs : Array Value} (h : CellsAt w b off cs) (hb : Below w.heap.size w w') : CellsAt w' b off cs := h.below hb h.lt
theorem SecAt.keep {w w' : World} {x : SecM} {b off : Nat} (h : SecAt w x b off) (hb : Below w.heap.size w w') : SecAt w' x b off := by
  obtain ⟨n, s, o, h1, h2, hc⟩ := h
  exact ⟨n, s, o, h1, h2, hc.keep hb⟩
theorem SegAt.keep {w w' : World} {x : SegM} {b off : Nat} (h : SegAt w x b off) (hb : Below w.heap.size w w') : SegAt w' x b off := by
  obtain ⟨n, a, c, h1, h2, h3, h4, h5, h6, hc, hs⟩ := h
  exact ⟨n, a, c, h1, h2, h3, h4, h5, h6, hc.keep hb, hs.mono fun _ _ _ _ h => h.keep hb⟩
theorem cell_keep {w w' : World} {p : Addr} {v : Value} (h : w.cell? p = some v) (hb : Below w.heap.size w w') : w'.cell? p = some v :=
  (hb.cell (block_lt_of_cell h)).trans h
theorem ImgCells.keep {w w' : World} {x : ImgM} {cs : Array Value} (h : ImgCells w x cs) (hb : Below w.heap.size w w') : ImgCells w' x cs := by
  obtain ⟨h1, h2, ⟨a3, c3, e3, l3, m3, s3⟩, ⟨a4, c4, e4, l4, m4, s4⟩, h5, ⟨a6, c6, e6, l6, m6, s6⟩⟩ := h
  exact ⟨h1, h2, ⟨a3, c3, e3, l3, m3, s3.mono fun _ _ _ _ h => h.keep hb⟩, ⟨a4, c4, e4, l4, m4, s4.mono fun _ _ _ _ h => cell_keep h hb⟩, h5, ⟨a6, c6, e6, l6, m6, s6.mono fun _ _ _ _ h => ⟨cell_keep h.1 hb, h.2⟩⟩⟩
theorem ImgAt.keep {w w' : World} {x : ImgM} {b off : Nat} (h : ImgAt w x b off) (hb : Below w.heap.size w w') : ImgAt w' x b off := by
  obtain ⟨cs, h1, h2⟩ := h
  exact ⟨cs, h1.keep hb, h2.keep hb⟩
theorem Imgs.keep {w w' : World} {a : Option Addr} {c : Nat} {l : List ImgM} (h : Imgs w a c l) (hb : Below w.heap.size w w') : Imgs w' a c l :=
  ⟨h.1, h.2.1, h.2.2.mono fun _ _ _ _ h => h.keep hb⟩

/-! ### Laws of the walk -/
section
variable {P : Program} {ops : Array Oper} {rest : List Oper} {o : Oper} {a : Act} {w w' : World} {Q : Exit → Act → World → Prop}
theorem wpList_run (hw : Region.wanted o (yielded ops a.tmps) = true) (v : Value) (hr : (execOp a.eval o).run P w = .ok (.value v) w') (h : wpList P ops Q rest (a.put o.dst v) w') : wpList P ops Q (o :: rest) a w := by
  refine wpList_step fun K hK => ?_
  rw [if_pos hw]
  unfold Oper.wp
  rw [hr]
  exact hK _ _ h
theorem run_loadVar_cells (b off : Nat) (ty : TypeId) (cs : Array Value) (d : TypeDesc) (hc : CellsAt w b off cs)
    (hu : P.underlying ty = some d) (hd : (match d with | .struct _ | .array _ _ => true | _ => false) = true) (hi : (P.info? ty).map (·.size) = some cs.size) :
    (loadVar ty ⟨b, off, none⟩).run P w = .ok (.agg cs) w := by
  have hl : (loadCells ⟨b, off, none⟩ cs.toList.length).run P w = .ok cs.toList.toArray w :=
    run_loadCells_list (P := P) w ⟨b, off, none⟩ cs.toList (fun j v hv => by
      have hadd : (⟨b, off, none⟩ : Addr).add j = ⟨b, off + j, none⟩ := by unfold Addr.add; split <;> simp_all
      rw [hadd]
      exact hc j v (by simpa using hv))
  cases hq : P.info? ty with
  | none => simp [hq] at hi
  | some i =>
    have hs : i.size = cs.size := by simpa [hq] using hi
    have hagg : (isAgg ty).run P w = .ok true w := by
      unfold isAgg
      rw [Sem.run_bind, run_underlying hu w]
      cases d <;> simp_all
    simp only [Array.length_toList, Array.toArray_toList] at hl
    simp [loadVar, Sem.run_bind, hagg, sizeOf, typeInfo, hq, hs, hl]
/-- A whole struct stored over a block of its size: the world behind it is told by what it holds. -/
theorem wpList_store_whole (hgd : o.guard = none) (ty : TypeId) (x y : Operand) (ho : o.op = .store ty x y)
    (g : Nat) (cells : Array Value) (hx : a.eval x = .pointer (some ⟨g, 0, none⟩)) (hy : a.eval y = .agg cells)
    (t : TypeId) (old : Array Value) (hg : w.heap[g]? = some (.cells old t (0, 0))) (hi : (P.info? ty).map (·.size) = some cells.size)
    (hold : old.size = cells.size) (h1 : cells.all (·.oneCell') = true)
    (h : ∀ w', w'.heap[g]? = some (.cells cells t (0, 0)) → w.grownBy w' (some g) → w'.heap.size = w.heap.size → wpList P ops Q rest (a.put o.dst undef) w') : wpList P ops Q (o :: rest) a w :=
  wpList_store_row hgd ty x y ho g cells hx hy t old hg hi hold h1
    (h _ (setRow_heap w g old cells t (0, 0) hg) ⟨rfl, rfl, rfl, by simp [World.setRow], fun k _ hk => setRow_other w g k cells (fun e => hk (by rw [e]))⟩ (by simp [World.setRow]))
/-- A whole struct or array read out of the middle of a block. -/
theorem wpList_load_agg (ty : TypeId) (x : Operand) (ho : o.op = .load ty x) (hw : Region.wanted o (yielded ops a.tmps) = true) (b off : Nat) (hx : a.eval x = .pointer (some ⟨b, off, none⟩)) (cs : Array Value) (d : TypeDesc) (hc : CellsAt w b off cs)
    (hu : P.underlying ty = some d) (hd : (match d with | .struct _ | .array _ _ => true | _ => false) = true) (hi : (P.info? ty).map (·.size) = some cs.size)
    (h : wpList P ops Q rest (a.put o.dst (.agg cs)) w) : wpList P ops Q (o :: rest) a w := by
  refine wpList_run hw (.agg cs) ?_ h
  unfold execOp
  simp only [ho, hx, Instr.loadAt, Instr.sureAddr, Sem.run_bind, Sem.run_pure, Result.andThen_ok, run_loadVar_cells b off ty cs d hc hu hd hi]
end
theorem ownsRow_succ {W : World} {base : Nat} {e : TypeId} {size : Nat} {v : Value} {k : Nat} {xs : List Value} (h : W.ownsRow base e size v (k + 1) xs) : ∃ g cap, v = .slice (some ⟨g, 0, none⟩) (k + 1) cap := by
  rcases h.2 with ⟨_, h0⟩ | ⟨g, cap, _, rfl, _⟩
  · omega
  · exact ⟨g, cap, rfl⟩
theorem Try.info3 : (Try.prog.info? 3).map (fun i => (i.zero, i.size, i.bytes)) = some (some (.int .i64 0), 1, 8) := by kernel_rfl
theorem hp_new (w : World) (o : Obj) (k : Nat) (h : k = w.heap.size) : (w.alloc o).heap[k]? = some o := by subst h; exact heap_alloc_new w o
theorem hp_old (w : World) (o : Obj) (k : Nat) (h : k < w.heap.size) : (w.alloc o).heap[k]? = w.heap[k]? := Below.heap_alloc w o k h
theorem size38 : (Try.prog.info? 38).map (·.size) = some 27 := by kernel_rfl
end Go.Proofs.Ytepnaalgobhcdaa
namespace Go.Proofs.Ytepnaalgobhcdaa
open Go.RowKit

/-- Is the k-th dependency one upward? -/
def upB (x : ImgM) (k : Nat) : Bool := decide (k < x.ups.length) && (x.ups.getD k 0 == 4)

theorem upB_no {x : ImgM} {k : Nat} (h : x.ups.length ≤ k) : upB x k = false := by simp [upB]; omega
theorem upB_yes {x : ImgM} {k : Nat} (h : k < x.ups.length) : upB x k = (x.ups.getD k 0 == 4) := by simp [upB, h]

theorem upward_no (cs : Array Value) (k : Nat) (a : Option Addr) (n c : Nat) (hcs : cs[6]? = some (.slice a n c)) (w : World) (hk : n ≤ k) :
    Calls Try.prog 62 #[.agg cs, .int .i64 k] w fun e w' => e = .returned (.bool false) ∧ Below w.heap.size w w' := by
  have h1 : decide ((k : Int) < (n : Int)) = false := by simp; omega
  go_enter Try.func62, Try.ntmps62
  go_wp2_with fail
  go_ret
  exact ⟨rfl, (Below.refl _ _).alloc (Nat.le_refl _) _⟩
theorem upward_yes (cs : Array Value) (k : Nat) (b off : Nat) (n c : Nat) (hcs : cs[6]? = some (.slice (some ⟨b, off, none⟩) n c)) (w : World) (z : Int) (hk : k < n)
    (hz : w.cell? ⟨b, off + k * 2 + 1, none⟩ = some (.int .i64 z)) :
    Calls Try.prog 62 #[.agg cs, .int .i64 k] w fun e w' => e = .returned (.bool (z == 4)) ∧ Below w.heap.size w w' := by
  have h1 : decide ((k : Int) < (n : Int)) = true := by simp; omega
  have hb : b < w.heap.size := block_lt_of_cell hz
  go_enter Try.func62, Try.ntmps62
  go_wp2_with fail
  go_ret
  exact ⟨rfl, (Below.refl _ _).alloc (Nat.le_refl _) _⟩
theorem Upward_no (cs : Array Value) (k : Nat) (a : Option Addr) (n c : Nat) (hcs : cs[6]? = some (.slice a n c)) (w : World) (hk : n ≤ k) :
    Calls Try.prog 21 #[.agg cs, .int .i64 k] w fun e w' => e = .returned (.bool false) ∧ Below w.heap.size w w' := by
  have h1 : decide ((k : Int) < (n : Int)) = false := by simp; omega
  go_enter Try.func21, Try.ntmps21
  go_wp2_with fail
  go_ret
  exact ⟨rfl, (Below.refl _ _).alloc (Nat.le_refl _) _⟩
theorem Upward_yes (cs : Array Value) (k : Nat) (b off : Nat) (n c : Nat) (hcs : cs[6]? = some (.slice (some ⟨b, off, none⟩) n c)) (w : World) (z : Int) (hk : k < n)
    (hz : w.cell? ⟨b, off + k * 2 + 1, none⟩ = some (.int .i64 z)) :
    Calls Try.prog 21 #[.agg cs, .int .i64 k] w fun e w' => e = .returned (.bool (z == 4)) ∧ Below w.heap.size w w' := by
  have h1 : decide ((k : Int) < (n : Int)) = true := by simp; omega
  have hb : b < w.heap.size := block_lt_of_cell hz
  go_enter Try.func21, Try.ntmps21
  go_wp2_with fail
  go_ret
  exact ⟨rfl, (Below.refl _ _).alloc (Nat.le_refl _) _⟩
theorem upward_any (x : ImgM) (cs : Array Value) (w : World) (h : ImgCells w x cs) (k : Nat) :
    Calls Try.prog 62 #[.agg cs, .int .i64 k] w fun e w' => e = .returned (.bool (upB x k)) ∧ Below w.heap.size w w' := by
  obtain ⟨a, c, hcs, _, _, hs⟩ := h.ups
  by_cases hk : k < x.ups.length
  · obtain ⟨b, o, rfl, hz⟩ := hs k hk
    rw [upB_yes hk]
    exact upward_yes cs k b o _ c hcs w _ hk hz
  · rw [upB_no (by omega)]
    exact upward_no cs k a _ c hcs w (by omega)
theorem Upward_any (x : ImgM) (cs : Array Value) (w : World) (h : ImgCells w x cs) (k : Nat) :
    Calls Try.prog 21 #[.agg cs, .int .i64 k] w fun e w' => e = .returned (.bool (upB x k)) ∧ Below w.heap.size w w' := by
  obtain ⟨a, c, hcs, _, _, hs⟩ := h.ups
  by_cases hk : k < x.ups.length
  · obtain ⟨b, o, rfl, hz⟩ := hs k hk
    rw [upB_yes hk]
    exact Upward_yes cs k b o _ c hcs w _ hk hz
  · rw [upB_no (by omega)]
    exact Upward_no cs k a _ c hcs w (by omega)
end Go.Proofs.Ytepnaalgobhcdaa
namespace Go.Proofs.Ytepnaalgobhcdaa
open Go.RowKit Clv

def img0 : ImgM := ⟨0, [], [], []⟩
/-- Does the walk follow dependency k? -/
def okDep (n : Nat) (x : ImgM) (k : Nat) : Bool := !upB x k && decide (0 ≤ x.deps.getD k 0) && decide (x.deps.getD k 0 < n)
def edgesTo (n : Nat) (x : ImgM) (k : Nat) : List Nat := ((List.range k).filter (okDep n x)).map fun j => (x.deps.getD j 0).toNat
def gOf (l : List ImgM) (i : Nat) : List Nat := edgesTo l.length (l.getD i img0) (l.getD i img0).deps.length

theorem okDep_up {n : Nat} {x : ImgM} {k : Nat} (h : upB x k = true) : okDep n x k = false := by simp [okDep, h]
theorem okDep_neg {n : Nat} {x : ImgM} {k : Nat} {d : Int} (hd : x.deps.getD k 0 = d) (h : d < 0) : okDep n x k = false := by unfold okDep; rw [hd]; simp; omega
theorem okDep_big {n : Nat} {x : ImgM} {k : Nat} {d : Int} (hd : x.deps.getD k 0 = d) (h : (n : Int) ≤ d) : okDep n x k = false := by unfold okDep; rw [hd]; simp; omega
theorem okDep_of {n : Nat} {x : ImgM} {k : Nat} {d : Nat} (hu : upB x k = false) (hd : x.deps.getD k 0 = d) (h : d < n) : okDep n x k = true := by unfold okDep; rw [hd, hu]; simp; omega
theorem stepV_yes {g : Nat → List Nat} {f d : Nat} {s : St} (h : s.begun.getD d false = true) : stepV g f s d = s := by unfold stepV; rw [if_pos h]
theorem stepV_no {g : Nat → List Nat} {f d : Nat} {s : St} (h : s.begun.getD d false = false) : stepV g f s d = visit g f d s := by unfold stepV; rw [if_neg (by rw [h]; simp)]
theorem edgesTo_zero (n : Nat) (x : ImgM) : edgesTo n x 0 = [] := rfl
theorem edgesTo_yes {n : Nat} {x : ImgM} {k : Nat} (h : okDep n x k = true) : edgesTo n x (k + 1) = edgesTo n x k ++ [(x.deps.getD k 0).toNat] := by
  unfold edgesTo; rw [List.range_succ, List.filter_append]; simp [h]
theorem edgesTo_no {n : Nat} {x : ImgM} {k : Nat} (h : okDep n x k = false) : edgesTo n x (k + 1) = edgesTo n x k := by
  unfold edgesTo; rw [List.range_succ, List.filter_append]; simp [h]
theorem fold_no {n : Nat} {x : ImgM} {k f : Nat} {g : Nat → List Nat} {s sk : St} (h : okDep n x k = false) (hs : (edgesTo n x k).foldl (stepV g f) s = sk) : (edgesTo n x (k + 1)).foldl (stepV g f) s = sk := by rw [edgesTo_no h, hs]
theorem fold_yes {n : Nat} {x : ImgM} {k f d : Nat} {g : Nat → List Nat} {s sk : St} (h : okDep n x k = true) (hd : x.deps.getD k 0 = (d : Int)) (hs : (edgesTo n x k).foldl (stepV g f) s = sk) : (edgesTo n x (k + 1)).foldl (stepV g f) s = stepV g f sk d := by
  rw [edgesTo_yes h, List.foldl_append, hs, hd]; rfl
theorem edgesTo_lt {n : Nat} {x : ImgM} {k : Nat} : ∀ d ∈ edgesTo n x k, d < n := by
  intro d hd
  unfold edgesTo at hd
  obtain ⟨j, hj, rfl⟩ := List.mem_map.1 hd
  have := (List.mem_filter.1 hj).2
  simp [okDep] at this
  have e : x.deps[j]?.getD 0 = x.deps.getD j 0 := by simp
  omega
theorem gOf_lt (l : List ImgM) : ∀ i, ∀ d ∈ gOf l i, d < l.length := fun _ _ h => edgesTo_lt _ h

theorem below_grown {w w' : World} (h : Below w.heap.size w w') : w.grownBy w' none := ⟨h.os, h.tape, h.output, h.size, fun k hk _ => h.block k hk⟩
theorem keep_heap {w w' : World} (h : Below w.heap.size w w') {b : Nat} {o : Obj} (hb : w.heap[b]? = some o) : w'.heap[b]? = some o :=
  (h.block b (lt_of_block hb)).trans hb

def bools (l : List Bool) : Array Value := (l.map Value.bool).toArray
def nums (l : List Nat) : List Value := l.map fun (x : Nat) => Value.int .i64 (x : Int)
theorem bools_set (l : List Bool) (i : Nat) (b : Bool) : (bools l).setIfInBounds i (.bool b) = bools (l.set i b) := by
  simp [bools, List.map_set]
theorem bools_get {l : List Bool} {i : Nat} (h : i < l.length) : (bools l)[i]? = some (.bool (l.getD i false)) := by
  simp [bools, h]
theorem bools_size (l : List Bool) : (bools l).size = l.length := by simp [bools]

def onFn (B : Nat) : Value := .func (.func 61) #[] #[.pointer (some ⟨B + 3, 0, none⟩), .pointer (some ⟨B, 0, none⟩), .pointer (some ⟨B + 4, 0, none⟩), .pointer (some ⟨B + 1, 0, none⟩)]
/-- The blocks of a call of order.Run. -/
structure OrdSt (w0 : World) (la : Option Addr) (lc n : Nat) (s : St) (wr : World) : Prop where
  l : wr.heap[w0.heap.size]? = some (.cells #[.slice la n lc] 22 (0, 0))
  begunv : wr.heap[w0.heap.size + 3]? = some (.cells #[.slice (some ⟨w0.heap.size + 2, 0, none⟩) n n] 40 (0, 0))
  begun : wr.heap[w0.heap.size + 2]? = some (.cells (bools s.begun) 4 (0, 0))
  onv : wr.heap[w0.heap.size + 4]? = some (.cells #[onFn w0.heap.size] 130 (0, 0))
  out : ∃ v, wr.heap[w0.heap.size + 1]? = some (.cells #[v] 25 (0, 0)) ∧ wr.ownsRow (w0.heap.size + 5) 3 1 v s.out.length (nums s.out)
  below : Below w0.heap.size w0 wr
  len : s.begun.length = n

theorem OrdSt.keep {w0 : World} {la : Option Addr} {lc n : Nat} {s : St} {wr w1 : World} (h : OrdSt w0 la lc n s wr) (hb : Below wr.heap.size wr w1) : OrdSt w0 la lc n s w1 := by
  obtain ⟨h1, h2, h3, h4, ⟨v, h5, h6⟩, h7, h8⟩ := h
  exact ⟨keep_heap hb h1, keep_heap hb h2, keep_heap hb h3, keep_heap hb h4, ⟨v, keep_heap hb h5, h6.kept (below_grown hb) (by
    rcases h6.2 with ⟨rfl, _⟩ | ⟨g, cap, cur, rfl, _⟩ <;> simp [Value.ownBlock])⟩, h7.trans (hb.mono h7.size), h8⟩
theorem OrdSt.mark {w0 : World} {la : Option Addr} {lc n : Nat} {s : St} {wr : World} (h : OrdSt w0 la lc n s wr) (i : Nat) :
    OrdSt w0 la lc n ⟨s.begun.set i true, s.out⟩ (wr.setCell ⟨w0.heap.size + 2, i, none⟩ (.bool true)) := by
  obtain ⟨h1, h2, h3, h4, ⟨v, h5, h6⟩, h7, h8⟩ := h
  have ho : ∀ (k : Nat) (o : Obj), k ≠ w0.heap.size + 2 → wr.heap[k]? = some o → (wr.setCell ⟨w0.heap.size + 2, i, none⟩ (.bool true)).heap[k]? = some o := fun k o hk hh => by
    rw [heap_setCell_other _ _ _ _ hk]; exact hh
  refine ⟨ho _ _ (by omega) h1, ho _ _ (by omega) h2, ?_, ho _ _ (by omega) h4, ⟨v, ho _ _ (by omega) h5, ?_⟩, h7.setCell (by simp) _, by simpa using h8⟩
  · rw [heap_setCell_same _ _ _ _ _ _ h3, bools_set]
  · exact ownsRow_setCell_below h6 (by simp) _
/-- A one-cell variable lies as it lay behind an append onto a row of the call's own. -/
theorem var_grown {wr w1 : World} {B0 b : Nat} {v : Value} {n : Nat} {xs : List Value} {e : TypeId} {sz : Nat} {o o' : Obj} (hv : wr.heap[b]? = some o) (hb : b < B0) (ho : wr.ownsRow B0 e sz v n xs) (hg : (wr.alloc o').grownBy w1 v.ownBlock) : w1.heap[b]? = some o := by
  have hl := lt_of_block hv
  rw [hg.block b (by simp; omega) (fun e => by have := ho.lt b e.symm; omega), Below.heap_alloc _ _ _ hl]
  exact hv
theorem OrdSt.push {w0 : World} {la : Option Addr} {lc n : Nat} {s : St} {wr w1 : World} {v v' : Value} {i : Nat} (h : OrdSt w0 la lc n s wr)
    (hv : wr.heap[w0.heap.size + 1]? = some (.cells #[v] 25 (0, 0))) (ho : wr.ownsRow (w0.heap.size + 5) 3 1 v s.out.length (nums s.out))
    (hg : (wr.alloc (.cells #[.int .i64 i] 3)).grownBy w1 v.ownBlock) (ho' : w1.ownsRow (w0.heap.size + 5) 3 1 v' (s.out.length + 1) (nums s.out ++ [.int .i64 i])) :
    OrdSt w0 la lc n ⟨s.begun, s.out ++ [i]⟩ (w1.setCell ⟨w0.heap.size + 1, 0, none⟩ v') := by
  obtain ⟨h1, h2, h3, h4, _, h7, h8⟩ := h
  have hne : ∀ k, k < w0.heap.size + 5 → some k ≠ v.ownBlock := fun k hk e => by have := ho.lt k e.symm; omega
  have hk : ∀ (k : Nat) (o : Obj), k < w0.heap.size + 5 → wr.heap[k]? = some o → w1.heap[k]? = some o := fun k o hlt hh => by
    have hl := lt_of_block hh
    rw [hg.block k (by simp; omega) (hne k hlt), Below.heap_alloc _ _ _ hl]
    exact hh
  have hs : ∀ (k : Nat) (o : Obj), k ≠ w0.heap.size + 1 → k < w0.heap.size + 5 → wr.heap[k]? = some o → (w1.setCell ⟨w0.heap.size + 1, 0, none⟩ v').heap[k]? = some o := fun k o hk' hlt hh => by
    rw [heap_setCell_other _ _ _ _ hk']; exact hk k o hlt hh
  refine ⟨hs _ _ (by omega) (by omega) h1, hs _ _ (by omega) (by omega) h2, hs _ _ (by omega) (by omega) h3, hs _ _ (by omega) (by omega) h4, ⟨v', one_setCell (hk _ _ (by omega) hv), ?_⟩, ?_, h8⟩
  · have := ownsRow_setCell_below (a := ⟨w0.heap.size + 1, 0, none⟩) ho' (by simp) v'
    simpa [nums] using this
  · exact ((h7.alloc h7.size _).grown hg (by simp; have := h7.size; omega) (fun k e => by have := ho.lt k e; omega)).setCell (by simp) _
theorem begun_cell {w0 : World} {la : Option Addr} {lc n : Nat} {s : St} {wr : World} (h : OrdSt w0 la lc n s wr) {d : Nat} (hd : d < n) {b : Bool} (hb : s.begun.getD d false = b) :
    wr.cell? ⟨w0.heap.size + 2, d, none⟩ = some (.bool b) := by
  simp only [World.cell?, h.begun]; rw [← hb]; exact bools_get (by rw [h.len]; exact hd)
end Go.Proofs.Ytepnaalgobhcdaa
namespace Go.Proofs.Ytepnaalgobhcdaa
open Go.RowKit Clv

set_option maxHeartbeats 400000 in
set_option maxRecDepth 100000 in
theorem on_any (w0 : World) (la : Option Addr) (lc : Nat) (l : List ImgM) (hI : Imgs w0 la lc l) (hn : l.length ≤ 1000) (f : Nat) :
    ∀ (i : Nat) (s : St) (wr : World), i < l.length → OrdSt w0 la lc l.length s wr → ¬ isB s i → left s ≤ f → s.out.length + left s ≤ l.length →
      Calls Try.prog 61 #[.int .i64 i, .pointer (some ⟨w0.heap.size + 3, 0, none⟩), .pointer (some ⟨w0.heap.size, 0, none⟩), .pointer (some ⟨w0.heap.size + 4, 0, none⟩), .pointer (some ⟨w0.heap.size + 1, 0, none⟩)] wr
        fun e w' => e = .returned (.tuple #[]) ∧ OrdSt w0 la lc l.length (visit (gOf l) f i s) w' := by
  induction f with
  | zero =>
    intro i s wr hi hs hb hl _
    have := left_mark (s := s) (i := i) (by rw [hs.len]; exact hi) hb
    omega
  | succ f ih =>
    intro i s wr hi hs hb hl hroom
    obtain ⟨b, o, hla, cs, hcs, hx⟩ := hI.2.2 i hi
    obtain ⟨da, dc, hd26, hdl, hdm, hdeps⟩ := hx.deps
    subst hla
    unfold maxLen at hdm
    have hbl : b < w0.heap.size := hcs.lt (by rw [hx.size]; omega)
    have hs1 := hs.mark i
    have hm := left_mark (s := s) (i := i) (by rw [hs.len]; exact hi) hb
    generalize hx0 : l.getD i ⟨0, [], [], []⟩ = x at *
    have e0 : edgesTo l.length x x.deps.length = gOf l i := by unfold gOf img0; rw [hx0]
    have hv := visit_succ (gOf l) f i s
    rw [← e0] at hv
    have HV := Lib.hid hv
    have HI := Lib.hid hI
    have IH := Lib.hid ih
    clear hv e0 hx0 hI ih
    generalize hw1 : wr.setCell ⟨w0.heap.size + 2, i, none⟩ (.bool true) = wr1 at *
    have c0 : wr1.cell? ⟨w0.heap.size, 0, none⟩ = some (.slice (some ⟨b, o, none⟩) l.length lc) := cell_of_one hs1.l
    have c26 : wr1.cell? ⟨b, o + i * 27 + 26, none⟩ = some (.slice da x.deps.length dc) := (hs1.below.cell (p := ⟨b, _, none⟩) hbl).trans (hcs 26 _ hd26)
    have b0 : wr.cell? ⟨w0.heap.size + 3, 0, none⟩ = some (.slice (some ⟨w0.heap.size + 2, 0, none⟩) l.length l.length) := cell_of_one hs.begunv
    have b1 : wr.cell? ⟨w0.heap.size + 2, i, none⟩ = some (.bool (s.begun.getD i false)) := by simp only [World.cell?, hs.begun]; rw [bools_get (by rw [hs.len]; exact hi)]; rfl
    have b2 : wr.frozen? ⟨w0.heap.size + 2, i, none⟩ = false := frozen_of_row _ _ _ _ _ hs.begun
    have HS := Lib.hid hs
    have HS1 := Lib.hid hs1
    have HX := Lib.hid hx
    have HD := Lib.hid hdeps
    have HC := Lib.hid hcs
    have HB := Lib.hid hb
    have HM := Lib.hid hm
    clear hs hs1 hx hdeps hcs hb hd26 hm
    go_enter Try.func61, Try.ntmps61
    go_wp2_with fail
    go_loopw [17] (fun t wr => ∃ k : Nat, k ≤ x.deps.length ∧ t = .int .i64 k ∧ Hid (OrdSt w0 (some ⟨b, o, none⟩) lc l.length ((edgesTo l.length x k).foldl (stepV (gOf l) f) ⟨s.begun.set i true, s.out⟩) wr))
      (fun t _ => x.deps.length - (intOf t).toNat)
    case atStart => exact ⟨0, Nat.zero_le _, rfl, HS1.out⟩
    case round =>
      obtain ⟨k, hk, rfl, HR⟩ := hrel
      have hr := HR.out
      have hroomk := fold_room (gOf l) l.length (gOf_lt l) f (edgesTo l.length x k) edgesTo_lt ⟨s.begun.set i true, s.out⟩ (by have := HS.out.len; simpa using this) (by have := HM.out; omega)
      generalize hsk : (edgesTo l.length x k).foldl (stepV (gOf l) f) ⟨s.begun.set i true, s.out⟩ = sk at *
      have HSK := Lib.hid hsk
      have HRK := Lib.hid hroomk
      clear hsk hroomk
      by_cases hlt : k < x.deps.length
      · obtain ⟨db, dof, hda, hdc, hd1, hd2⟩ := HD.out k hlt
        rw [hda]
        rw [Nat.mul_one] at hdc
        have hdb : db < w0.heap.size := block_lt_of_cell hdc
        have c_d := (hr.below.cell (p := ⟨db, dof + k, none⟩) hdb).trans hdc
        have c_l : wr.cell? ⟨w0.heap.size, 0, none⟩ = some (.slice (some ⟨b, o, none⟩) l.length lc) := cell_of_one hr.l
        have hcw : CellsAt wr b (o + i * 27) cs := HC.out.below hr.below (fun _ => hbl)
        have HXW := Lib.hid (HX.out.keep hr.below)
        have HCW := Lib.hid hcw
        have HS38 := Lib.hid HX.out.size
        generalize hdk : x.deps.getD k 0 = d at *
        have HDK := Lib.hid hdk
        clear hdk hcw hr hda hdc
        cases hu : upB x k with
        | true =>
          have HU : Hid (Calls Try.prog 62 #[.agg cs, .int .i64 k] wr fun e w' => e = .returned (.bool true) ∧ Below wr.heap.size wr w') := by
            have := upward_any x cs wr HXW.out k
            rw [hu] at this; exact this
          have HOK := Lib.hid (okDep_up (n := l.length) hu)
          clear hu
          go_wp2_with (first
            | (refine wpList_load_agg 38 _ rfl rfl b (o + i * 27) rfl cs _ HCW.out Try.underlying38 rfl (by rw [HS38.out]; kernel_rfl) ?_)
            | (go_at_call 62; refine HU.out.mono ?_; rintro e w1 ⟨rfl, hb1⟩))
          go_roundw
          case rel => exact ⟨k + 1, by omega, by go_num, by rw [fold_no HOK.out HSK.out]; exact HR.out.keep hb1⟩
          case measure => simp [intOf]; omega
        | false =>
          have HU : Hid (Calls Try.prog 62 #[.agg cs, .int .i64 k] wr fun e w' => e = .returned (.bool false) ∧ Below wr.heap.size wr w') := by
            have := upward_any x cs wr HXW.out k
            rw [hu] at this; exact this
          have HUP := Lib.hid hu
          clear hu
          by_cases hneg : d < 0
          · have HOK := Lib.hid (okDep_neg (n := l.length) HDK.out hneg)
            go_wp2_with (first
              | (refine wpList_load_agg 38 _ rfl rfl b (o + i * 27) rfl cs _ HCW.out Try.underlying38 rfl (by rw [HS38.out]; kernel_rfl) ?_)
              | (go_at_call 62; refine HU.out.mono ?_; rintro e w1 ⟨rfl, hb1⟩))
            go_roundw
            case rel => exact ⟨k + 1, by omega, by go_num, by rw [fold_no HOK.out HSK.out]; exact HR.out.keep hb1⟩
            case measure => simp [intOf]; omega
          · by_cases hbig : (l.length : Int) ≤ d
            · have HOK := Lib.hid (okDep_big (n := l.length) HDK.out hbig)
              go_wp2_with (first
                | (refine wpList_load_agg 38 _ rfl rfl b (o + i * 27) rfl cs _ HCW.out Try.underlying38 rfl (by rw [HS38.out]; kernel_rfl) ?_)
                | (go_at_call 62; refine HU.out.mono ?_; rintro e w1 ⟨rfl, hb1⟩; have hr1 := Lib.hid (HR.out.keep hb1); have d0 := cell_of_one hr1.out.l))
              go_roundw
              case rel => exact ⟨k + 1, by omega, by go_num, by rw [fold_no HOK.out HSK.out]; exact HR.out.keep hb1⟩
              case measure => simp [intOf]; omega
            · obtain ⟨dn, rfl⟩ := Int.eq_ofNat_of_zero_le (show 0 ≤ d by omega)
              have hdn : dn < l.length := by omega
              have HOK := Lib.hid (okDep_of (n := l.length) HUP.out HDK.out hdn)
              cases hbg : sk.begun.getD dn false with
              | true =>
                have HBG := Lib.hid hbg
                clear hbg
                go_wp2_with (first
                  | (refine wpList_load_agg 38 _ rfl rfl b (o + i * 27) rfl cs _ HCW.out Try.underlying38 rfl (by rw [HS38.out]; kernel_rfl) ?_)
                  | (go_at_call 62; refine HU.out.mono ?_; rintro e w1 ⟨rfl, hb1⟩; have hr1 := Lib.hid (HR.out.keep hb1); have d0 := cell_of_one hr1.out.l; have d1 := cell_of_one hr1.out.begunv; have d2 := begun_cell hr1.out hdn HBG.out))
                go_roundw
                case rel => exact ⟨k + 1, by omega, by go_num, by rw [fold_yes HOK.out HDK.out HSK.out, stepV_yes HBG.out]; exact HR.out.keep hb1⟩
                case measure => simp [intOf]; omega
              | false =>
                have HBG := Lib.hid hbg
                have HNB : Hid (¬ isB sk dn) := by show ¬ isB sk dn; unfold isB; rw [hbg]; simp
                clear hbg
                have HL1 : Hid (left sk ≤ f ∧ sk.out.length + left sk ≤ l.length) := by
                  have := HRK.out.2.1; have := HRK.out.2.2; have := HM.out; have e : (⟨s.begun.set i true, s.out⟩ : St).out.length = s.out.length := rfl
                  exact ⟨by omega, by omega⟩
                go_wp2_with (first
                  | (refine wpList_load_agg 38 _ rfl rfl b (o + i * 27) rfl cs _ HCW.out Try.underlying38 rfl (by rw [HS38.out]; kernel_rfl) ?_)
                  | (go_at_call 62; refine HU.out.mono ?_; rintro e w1 ⟨rfl, hb1⟩; have hr1 := Lib.hid (HR.out.keep hb1); have d0 := cell_of_one hr1.out.l; have d1 := cell_of_one hr1.out.begunv; have d2 := begun_cell hr1.out hdn HBG.out; have d3 := cell_of_one hr1.out.onv; unfold onFn at d3)
                  | (go_at_call 61; refine (IH.out dn sk _ hdn hr1.out HNB.out HL1.out.1 HL1.out.2).mono ?_; rintro e w2 ⟨rfl, hr2⟩; have HR2 := Lib.hid hr2; clear hr2))
                go_roundw
                case rel => exact ⟨k + 1, by omega, by go_num, by rw [fold_yes HOK.out HDK.out HSK.out, stepV_no HBG.out]; exact HR2.out⟩
                case measure => simp [intOf]; omega
      · obtain ⟨v, hv1, hown⟩ := hr.out
        have cv : wr.cell? ⟨w0.heap.size + 1, 0, none⟩ = some v := cell_of_one hv1
        obtain ⟨i0, hi0, hz0, hz1, hz2⟩ := info_parts Try.info3
        have hsz : w0.heap.size + 5 ≤ wr.heap.size := by have := lt_of_block hr.onv; omega
        have hlen : sk.out.length ≤ 1000 := by have := HRK.out.2.1; have := HM.out; have e : (⟨s.begun.set i true, s.out⟩ : St).out.length = s.out.length := rfl; omega
        clear hr
        go_wp2_with (first
          | (at_builtin; refine wpList_append_own _ rfl _ _ 25 rfl (w0.heap.size + 5) 3 i0 (.int .i64 0) 1 8 Try.underlying25 hi0 hz0 hz1 hz2 rfl (by decide) _ _ _ rfl (hown.alloc _) ⟨wr.heap.size, 0, none⟩ 1 1 [.int .i64 i] rfl rfl (cell_one_new _ _ _) (by simp [Value.oneCell']) (by unfold maxLen; omega) (by omega) (by simp; omega) ?_; intro v' w1 hown' hgrow _; obtain ⟨g', cap', rfl⟩ := ownsRow_succ hown'; have hq1 := var_grown hv1 (by omega) hown hgrow; have cq := cell_of_one hq1; have fq := free_of_one hq1))
        go_end0
        refine ⟨rfl, ?_⟩
        rw [HV.out]
        obtain rfl : k = x.deps.length := by omega
        rw [HSK.out]
        exact HR.out.push hv1 hown hgrow hown'
end Go.Proofs.Ytepnaalgobhcdaa
namespace Go.Proofs.Ytepnaalgobhcdaa
open Go.RowKit Clv

/-- The call hands back a slice of its own that holds these numbers, and has turned nothing that was there. -/
def NumsRes (w : World) (os : List Nat) (e : Ending) (w' : World) : Prop := ∃ v, e = .returned v ∧ w'.ownsRow w.heap.size 3 1 v os.length (nums os) ∧ Below w.heap.size w w'

theorem run_make_rowN {P : Program} (t e : TypeId) (i : TypeInfo) (z : Value) (ht : P.underlying t = some (.slice e)) (hi : P.info? e = some i) (hz : i.zero = some z)
    (kl kc : IntKind) (n c : Nat) (hnc : n ≤ c) (hbytes : i.bytes * c ≤ 281474976710656) (h63 : c ≤ 9223372036854775807) (w : World) :
    (Instr.makeSlice t (.int kl (n : Int)) (.int kc (c : Int))).run P w = .ok (.slice (some ⟨w.heap.size, 0, none⟩) n c) (w.alloc (.cells (madeCells z.cells (c * i.size)) e)) := by
  have hb : (i.bytes : Int) * (c : Int) ≤ 281474976710656 := by
    have h : ((i.bytes * c : Nat) : Int) ≤ 281474976710656 := by omega
    rwa [Int.natCast_mul] at h
  have hr := run_make (P := P) w t e i z ht hi hz kl kc n c (by omega) (by omega) hb (by omega)
  simp only [Int.toNat_natCast] at hr
  exact hr
theorem Try.info4 : (Try.prog.info? 4).map (fun i => (i.zero, i.size, i.bytes)) = some (some (.bool false), 1, 1) := by kernel_rfl
theorem made_one (v : Value) (n : Nat) : madeCells #[v] n = Array.replicate n v := by
  apply Array.ext
  · simp [madeCells]
  · intro i h1 h2
    simp [madeCells, Nat.mod_one]
theorem made_bools (n : Nat) : madeCells (Value.cells (.bool false)) (n * 1) = bools (List.replicate n false) := by
  rw [Nat.mul_one]
  show madeCells #[Value.bool false] n = _
  rw [made_one]
  simp [bools]
theorem make_bools (n : Nat) (hn : n ≤ 1000000) (w : World) : (Instr.makeSlice 40 (.int .i64 (n : Int)) (.int .i64 (n : Int))).run Try.prog w = .ok (.slice (some ⟨w.heap.size, 0, none⟩) n n) (w.alloc (.cells (bools (List.replicate n false)) 4)) := by
  obtain ⟨i, hi, hz, hs, hb⟩ := info_parts Try.info4
  have := run_make_rowN (P := Try.prog) 40 4 i (.bool false) Try.underlying40 hi hz .i64 .i64 n n (Nat.le_refl _) (by rw [hb]; omega) (by omega) w
  rw [hs, made_bools] at this
  exact this

theorem room_run (l : List ImgM) (k : Nat) (hk : k ≤ l.length) : (runTo (gOf l) l.length k).out.length + left (runTo (gOf l) l.length k) ≤ l.length := by
  have hs : left (startSt l.length) = l.length := by simp [left, startSt]
  have := fold_room (gOf l) l.length (gOf_lt l) l.length (List.range k) (fun d hd => by have := List.mem_range.1 hd; omega) (startSt l.length) (by simp [startSt]) (by omega)
  have e : (startSt l.length).out.length = 0 := rfl
  show ((List.range k).foldl (stepV (gOf l) l.length) (startSt l.length)).out.length + left ((List.range k).foldl (stepV (gOf l) l.length) (startSt l.length)) ≤ _
  omega
theorem ownsRow_shape {W : World} {base : Nat} {e : TypeId} {size : Nat} {v : Value} {k : Nat} {xs : List Value} (h : W.ownsRow base e size v k xs) : ∃ a cap, v = .slice a k cap := by
  rcases h.2 with ⟨rfl, rfl⟩ | ⟨g, cap, _, rfl, _⟩
  · exact ⟨_, _, rfl⟩
  · exact ⟨_, cap, rfl⟩

theorem ownsRow_base {W : World} {base base' : Nat} {e : TypeId} {size : Nat} {v : Value} {k : Nat} {xs : List Value} (h : W.ownsRow base e size v k xs) (hb : base' ≤ base) : W.ownsRow base' e size v k xs := by
  refine ⟨h.1, ?_⟩
  rcases h.2 with h | ⟨g, cap, cur, h1, h2, r⟩
  · exact .inl h
  · exact .inr ⟨g, cap, cur, h1, by omega, r⟩

theorem startSt_ord {w wr : World} {la : Option Addr} {lc n : Nat} (h1 : wr.heap[w.heap.size]? = some (.cells #[.slice la n lc] 22 (0, 0)))
    (h2 : wr.heap[w.heap.size + 1]? = some (.cells #[.slice none 0 0] 25 (0, 0))) (h3 : wr.heap[w.heap.size + 2]? = some (.cells (bools (List.replicate n false)) 4 (0, 0)))
    (h4 : wr.heap[w.heap.size + 3]? = some (.cells #[.slice (some ⟨w.heap.size + 2, 0, none⟩) n n] 40 (0, 0))) (h5 : wr.heap[w.heap.size + 4]? = some (.cells #[onFn w.heap.size] 130 (0, 0)))
    (hb : Below w.heap.size w wr) : OrdSt w la lc n (startSt n) wr :=
  ⟨h1, h4, h3, h5, ⟨_, h2, World.ownsRow_nil _ _ _ _⟩, hb, by simp [startSt]⟩

set_option maxHeartbeats 400000 in
set_option maxRecDepth 100000 in
theorem run_any (w : World) (la : Option Addr) (lc : Nat) (l : List ImgM) (hI : Imgs w la lc l) (hn : l.length ≤ 1000) :
    Calls Try.prog 18 #[.slice la l.length lc] w (NumsRes w (runOut (gOf l) l.length)) := by
  have hmk := make_bools l.length (by omega)
  have HI := Lib.hid hI
  clear hI
  go_enter Try.func18, Try.ntmps18
  go_wp2_with fail
  simp only [Nat.add_assoc, Nat.reduceAdd]
  go_loopw [12] (fun t wr => ∃ k : Nat, k ≤ l.length ∧ t = .int .i64 k ∧ Hid (OrdSt w la lc l.length (runTo (gOf l) l.length k) wr)) (fun t _ => l.length - (intOf t).toNat)
  case atStart =>
    refine ⟨0, Nat.zero_le _, rfl, startSt_ord ?_ ?_ ?_ ?_ ?_ ?_⟩
    case refine_6 => exact (((((Below.refl _ w).alloc (Nat.le_refl _) _).alloc (by simp only [World.size_alloc]; omega) _).alloc (by simp only [World.size_alloc]; omega) _).alloc (by simp only [World.size_alloc]; omega) _).alloc (by simp only [World.size_alloc]; omega) _
    all_goals (simp (disch := ((try simp only [World.size_alloc]); first | done | omega)) only [hp_old, hp_new])
    rfl
  case round =>
    obtain ⟨k, hk, rfl, HR⟩ := hrel
    have c_b := cell_of_one HR.out.begunv
    have c_o := cell_of_one HR.out.onv
    unfold onFn at c_o
    by_cases hlt : k < l.length
    · have HT := Lib.hid (runTo_top (gOf_lt l) k hk)
      cases hbg : (runTo (gOf l) l.length k).begun.getD k false with
      | true =>
        have HBG := Lib.hid hbg
        clear hbg
        have c_k := begun_cell HR.out hlt HBG.out
        go_wp2_with fail
        go_roundw
        case rel => exact ⟨k + 1, by omega, by go_num, by rw [runTo_succ, stepV_yes HBG.out]; exact HR.out⟩
        case measure => simp [intOf]; omega
      | false =>
        have HBG := Lib.hid hbg
        clear hbg
        have c_k := begun_cell HR.out hlt HBG.out
        have HC := Lib.hid (on_any w la lc l HI.out hn l.length k _ wr hlt HR.out (by unfold isB; rw [HBG.out]; simp) (by have := left_le_len (runTo (gOf l) l.length k); rw [HT.out.inv.len] at this; exact this) (room_run l k hk))
        go_wp2_with (go_at_call 61; refine HC.out.mono ?_; rintro e w2 ⟨rfl, hr2⟩; have HR2 := Lib.hid hr2; clear hr2)
        go_roundw
        case rel => exact ⟨k + 1, by omega, by go_num, by rw [runTo_succ, stepV_no HBG.out]; exact HR2.out⟩
        case measure => simp [intOf]; omega
    · obtain ⟨v, hv1, hown⟩ := HR.out.out
      obtain rfl : k = l.length := by omega
      obtain ⟨va, vc, rfl⟩ := ownsRow_shape hown
      have cv := cell_of_one hv1
      have fv := free_of_one hv1
      go_wp2_with fail
      have hq := one_setCell (u := .slice va (runTo (gOf l) l.length l.length).out.length vc) hv1
      have cq := cell_of_one hq
      refine bodyPost_ret (v := .slice va (runTo (gOf l) l.length l.length).out.length vc) (by simp [results, Try.results18, go_sem, cq]) rfl ?_
      refine ⟨_, rfl, ?_, ?_⟩
      · have := ownsRow_setCell_below (a := ⟨w.heap.size + 1, 0, none⟩) hown (by simp) (.slice va (runTo (gOf l) l.length l.length).out.length vc)
        exact ownsRow_base this (by omega)
      · exact HR.out.below.setCell (by simp) _
end Go.Proofs.Ytepnaalgobhcdaa
namespace Go.Proofs.Ytepnaalgobhcdaa.Spm

structure Pg where
  num : Nat
  prot : Int
  bytes : List UInt8

def pg (M : List Pg) (n : Nat) : Option Pg := M.find? fun p => p.num == n
def byteAt (M : List Pg) (a : Nat) : UInt8 := match pg M (a / 4096) with
  | some p => p.bytes.getD (a % 4096) 0
  | none => 0

structure Ok (M : List Pg) : Prop where
  sorted : M.Pairwise fun p q => p.num < q.num
  pages : ∀ p ∈ M, p.num < 34359738368 ∧ 1 ≤ p.prot ∧ p.prot ≤ 7 ∧ p.bytes.length = 4096
  few : M.length ≤ 8192

/-- Do bytes from an address on stand below the greatest one? -/
def inB (a n : Nat) : Bool := decide (a ≤ 140737488355328) && decide (a + n ≤ 140737488355328)
def fst (a : Nat) : Nat := a / 4096
def lst (a n : Nat) : Nat := (a + n - 1) / 4096 + 1
def clash (f e : Nat) (p : Pg) : Bool := decide (f ≤ p.num) && decide (p.num < e)
def freeB (M : List Pg) (a n : Nat) : Bool := n == 0 || (inB a n && M.all fun p => !clash (fst a) (lst a n) p)
def badArg (a n : Nat) (prot : Int) : Bool := a % 4096 != 0 || n % 4096 != 0 || n == 0 || decide (prot < 1) || decide (7 < prot)
def mapErr (M : List Pg) (a n : Nat) (prot : Int) : Int :=
  if badArg a n prot then 2 else if inB a n = false then 4 else if freeB M a n = false then 21 else if 8192 - M.length < n / 4096 then 11 else 0
def noughts : List UInt8 := List.replicate 4096 0
def newPages (f k : Nat) (prot : Int) : List Pg := (List.range k).map fun i => ⟨f + i, prot, noughts⟩
def mapIn (M : List Pg) (f k : Nat) (prot : Int) : List Pg := M.filter (fun p => decide (p.num < f)) ++ newPages f k prot ++ M.filter fun p => decide (f ≤ p.num)
def mapM (M : List Pg) (a n : Nat) (prot : Int) : List Pg := if mapErr M a n prot = 0 then mapIn M (fst a) (n / 4096) prot else M

theorem pg_mem {M : List Pg} {n : Nat} {p : Pg} (h : pg M n = some p) : p ∈ M ∧ p.num = n := by
  unfold pg at h
  exact ⟨List.mem_of_find?_eq_some h, by simpa using List.find?_some h⟩
theorem pg_none {M : List Pg} {n : Nat} : pg M n = none ↔ ∀ p ∈ M, p.num ≠ n := by
  unfold pg; simp [List.find?_eq_none]
theorem pg_append (A B : List Pg) (n : Nat) : pg (A ++ B) n = (pg A n).or (pg B n) := by unfold pg; rw [List.find?_append]
theorem pg_filter {M : List Pg} {q : Nat → Bool} {n : Nat} : pg (M.filter fun p => q p.num) n = if q n then pg M n else none := by
  induction M with
  | nil => simp [pg]
  | cons x M ih =>
    unfold pg at ih ⊢
    by_cases hx : x.num = n
    · subst hx
      by_cases hq : q x.num = true
      · simp [hq]
      · simp only [Bool.not_eq_true] at hq
        simp [hq] at ih ⊢
        exact ih
    · by_cases hq : q x.num = true
      · simp [hq, hx, ih]
      · simp only [Bool.not_eq_true] at hq
        simp [hq, hx, ih]
theorem ok_unique {M : List Pg} (h : Ok M) {p q : Pg} (hp : p ∈ M) (hq : q ∈ M) (e : p.num = q.num) : p = q := by
  have := h.sorted
  clear h
  induction M with
  | nil => cases hp
  | cons x M ih =>
    obtain ⟨h1, h2⟩ := List.pairwise_cons.1 this
    rcases List.mem_cons.1 hp with rfl | hp' <;> rcases List.mem_cons.1 hq with rfl | hq'
    · rfl
    · have := h1 q hq'; omega
    · have := h1 p hp'; omega
    · exact ih hp' hq' h2
theorem pg_of_mem {M : List Pg} (h : Ok M) {p : Pg} (hp : p ∈ M) : pg M p.num = some p := by
  cases hq : pg M p.num with
  | none => exact absurd rfl (pg_none.1 hq p hp)
  | some q => obtain ⟨h1, h2⟩ := pg_mem hq; rw [ok_unique h hp h1 h2.symm]

theorem newPages_zero (f : Nat) (prot : Int) : newPages f 0 prot = [] := rfl
theorem newPages_succ (f k : Nat) (prot : Int) : newPages f (k + 1) prot = newPages f k prot ++ [⟨f + k, prot, noughts⟩] := by unfold newPages; rw [List.range_succ, List.map_append]; rfl
theorem newPages_num {f k : Nat} {prot : Int} {p : Pg} (h : p ∈ newPages f k prot) : f ≤ p.num ∧ p.num < f + k ∧ p.prot = prot ∧ p.bytes = noughts := by
  unfold newPages at h
  obtain ⟨i, hi, rfl⟩ := List.mem_map.1 h
  have := List.mem_range.1 hi
  exact ⟨Nat.le_add_right _ _, by show f + i < f + k; omega, rfl, rfl⟩
theorem pg_newPages (f k : Nat) (prot : Int) (n : Nat) : pg (newPages f k prot) n = if f ≤ n ∧ n < f + k then some ⟨n, prot, noughts⟩ else none := by
  induction k with
  | zero => rw [newPages_zero, if_neg (by omega)]; rfl
  | succ k ih =>
    rw [newPages_succ, pg_append, ih]
    by_cases h : f ≤ n ∧ n < f + k
    · rw [if_pos h, if_pos (by omega)]; rfl
    · rw [if_neg h]
      by_cases e : n = f + k
      · subst e; rw [if_pos (by omega)]; simp [pg]
      · rw [if_neg (by omega)]; simp [pg]; omega
/-- A range of pages that are not there. -/
def Clear (M : List Pg) (f k : Nat) : Prop := ∀ p ∈ M, ¬ (f ≤ p.num ∧ p.num < f + k)
theorem pg_mapIn {M : List Pg} {f k : Nat} {prot : Int} (n : Nat) : pg (mapIn M f k prot) n = if f ≤ n ∧ n < f + k then some ⟨n, prot, noughts⟩ else pg M n := by
  unfold mapIn
  rw [pg_append, pg_append, pg_newPages, pg_filter (q := fun x => decide (x < f)), pg_filter (q := fun x => decide (f ≤ x))]
  by_cases h : f ≤ n ∧ n < f + k
  · rw [if_pos h, if_neg (by simp; omega)]; simp [h]
  · rw [if_neg h, if_neg h]
    by_cases h1 : n < f
    · simp only [h1, decide_true, if_true, Option.or_none]
      rw [if_neg (by simp; omega)]; simp
    · simp [h1, show f ≤ n by omega]
theorem mapIn_zero {M : List Pg} (h : Ok M) (f : Nat) (prot : Int) : mapIn M f 0 prot = M := by
  unfold mapIn
  rw [newPages_zero, List.append_nil]
  have := h.sorted
  clear h
  induction M with
  | nil => rfl
  | cons x M ih =>
    obtain ⟨h1, h2⟩ := List.pairwise_cons.1 this
    by_cases hx : x.num < f
    · rw [List.filter_cons_of_pos (by simpa using hx), List.filter_cons_of_neg (by simp; omega), List.cons_append, ih h2]
    · rw [List.filter_cons_of_neg (by simp; omega), List.filter_cons_of_pos (by simp; omega)]
      have e1 : M.filter (fun p => decide (p.num < f)) = [] := List.filter_eq_nil_iff.2 fun p hp => by have := h1 p hp; simp; omega
      have e2 : M.filter (fun p => decide (f ≤ p.num)) = M := List.filter_eq_self.2 fun p hp => by have := h1 p hp; simp; omega
      rw [e1, e2]; rfl
theorem filter_split (M : List Pg) (f : Nat) : (M.filter fun p => decide (p.num < f)).length + (M.filter fun p => decide (f ≤ p.num)).length = M.length := by
  induction M with
  | nil => rfl
  | cons x M ih =>
    by_cases hx : x.num < f
    · rw [List.filter_cons_of_pos (by simpa using hx), List.filter_cons_of_neg (by simp; omega)]; simp only [List.length_cons]; omega
    · rw [List.filter_cons_of_neg (by simp; omega), List.filter_cons_of_pos (by simp; omega)]; simp only [List.length_cons]; omega
theorem mapIn_length (M : List Pg) (f k : Nat) (prot : Int) : (mapIn M f k prot).length = M.length + k := by
  unfold mapIn
  have := filter_split M f
  simp only [List.length_append, newPages, List.length_map, List.length_range]
  omega
theorem mem_mapIn {M : List Pg} {f k : Nat} {prot : Int} {p : Pg} : p ∈ mapIn M f k prot → p ∈ M ∨ p ∈ newPages f k prot := by
  unfold mapIn
  simp only [List.mem_append, List.mem_filter]
  rintro ((⟨h, _⟩ | h) | ⟨h, _⟩)
  · exact .inl h
  · exact .inr h
  · exact .inl h
theorem mapIn_ok {M : List Pg} (h : Ok M) {f k : Nat} {prot : Int} (hc : Clear M f k) (hb : f + k ≤ 34359738368) (hp : 1 ≤ prot ∧ prot ≤ 7) (hl : M.length + k ≤ 8192) : Ok (mapIn M f k prot) := by
  refine ⟨?_, fun p hm => ?_, by rw [mapIn_length]; exact hl⟩
  · unfold mapIn
    have hnew : (newPages f k prot).Pairwise fun p q => p.num < q.num := by
      unfold newPages
      rw [List.pairwise_map]
      exact List.pairwise_lt_range.imp fun h => by simpa using h
    refine List.pairwise_append.2 ⟨List.pairwise_append.2 ⟨h.sorted.filter _, hnew, fun p h1 q h2 => ?_⟩, h.sorted.filter _, fun p h1 q h2 => ?_⟩
    · have a1 : p.num < f := by simpa using (List.mem_filter.1 h1).2
      have a2 := (newPages_num h2).1
      omega
    · have a2 : f ≤ q.num := by simpa using (List.mem_filter.1 h2).2
      rcases List.mem_append.1 h1 with h1 | h1
      · have a1 : p.num < f := by simpa using (List.mem_filter.1 h1).2
        omega
      · have a1 := (newPages_num h1).2.1
        have := hc q (List.mem_filter.1 h2).1
        omega
  · rcases mem_mapIn hm with hm | hm
    · exact h.pages p hm
    · obtain ⟨a1, a2, a3, a4⟩ := newPages_num hm
      refine ⟨by omega, by rw [a3]; exact hp.1, by rw [a3]; exact hp.2, by rw [a4]; exact List.length_replicate⟩
theorem Clear.of_free {M : List Pg} {a n : Nat} (h : freeB M a n = true) (h0 : 0 < n) (ha : a % 4096 = 0) (hn : n % 4096 = 0) : Clear M (fst a) (n / 4096) := by
  intro p hp hcl
  have hf : M.all (fun p => !clash (fst a) (lst a n) p) = true := by
    unfold freeB at h
    simp only [Bool.or_eq_true, Bool.and_eq_true] at h
    rcases h with h | h
    · simp at h; omega
    · exact h.2
  have := List.all_eq_true.1 hf p hp
  unfold clash fst lst at this
  unfold fst at hcl
  simp at this
  rcases this with h | h
  · omega
  · omega
theorem mapM_ok {M : List Pg} (h : Ok M) (a n : Nat) (prot : Int) : Ok (mapM M a n prot) := by
  unfold mapM
  by_cases he : mapErr M a n prot = 0
  · rw [if_pos he]
    unfold mapErr at he
    by_cases h1 : badArg a n prot = true
    · rw [if_pos h1] at he; cases he
    rw [if_neg h1] at he
    by_cases h2 : inB a n = false
    · rw [if_pos h2] at he; cases he
    rw [if_neg h2] at he
    by_cases h3 : freeB M a n = false
    · rw [if_pos h3] at he; cases he
    rw [if_neg h3] at he
    by_cases h4 : 8192 - M.length < n / 4096
    · rw [if_pos h4] at he; cases he
    simp [badArg] at h1
    simp [inB] at h2
    have hf := h.few
    exact mapIn_ok h (Clear.of_free (by simpa using h3) (by omega) h1.1.1.1.1 h1.1.1.1.2) (by unfold fst; omega) (by omega) (by omega)
  · rw [if_neg he]; exact h

/-! ### Which bytes are there -/
def hasP (P r : Int) : Bool := (P.toNat &&& r.toNat) == r.toNat
def missing (M : List Pg) (f e : Nat) : Bool := (List.range (e - f)).any fun i => (pg M (f + i)).isNone
def lacks (M : List Pg) (f e : Nat) (r : Int) : Bool := (List.range (e - f)).any fun i => match pg M (f + i) with
  | some p => !hasP p.prot r
  | none => false
def lookErr (M : List Pg) (a n : Nat) (r : Int) : Int :=
  if n = 0 then 0 else if inB a n = false then 4 else if missing M (fst a) (lst a n) then 4 else if lacks M (fst a) (lst a n) r then 19 else 0

theorem missing_false {M : List Pg} {f e : Nat} (h : missing M f e = false) {n : Nat} (h1 : f ≤ n) (h2 : n < e) : ∃ p, pg M n = some p := by
  unfold missing at h
  have := List.any_eq_false.1 h (n - f) (List.mem_range.2 (by omega))
  rw [show f + (n - f) = n by omega] at this
  cases hp : pg M n with
  | none => rw [hp] at this; simp at this
  | some p => exact ⟨p, rfl⟩
theorem missing_true {M : List Pg} {f e n : Nat} (h1 : f ≤ n) (h2 : n < e) (h : pg M n = none) : missing M f e = true := by
  unfold missing
  refine List.any_eq_true.2 ⟨n - f, List.mem_range.2 (by omega), ?_⟩
  rw [show f + (n - f) = n by omega, h]; rfl
theorem sub_length (l m : List Nat) (hnd : l.Nodup) (hs : ∀ x ∈ l, x ∈ m) : l.length ≤ m.length := by
  induction l generalizing m with
  | nil => simp
  | cons x l ih =>
    obtain ⟨h1, h2⟩ := List.nodup_cons.1 hnd
    have hx : x ∈ m := hs x (by simp)
    have := ih (m.erase x) h2 (fun y hy => (List.mem_erase_of_ne (fun (e : y = x) => h1 (by rw [← e]; exact hy))).2 (hs y (by simp [hy])))
    rw [List.length_erase_of_mem hx] at this
    have := List.length_pos_of_mem hx
    simp only [List.length_cons]
    omega

/-- As many pages as there are numbers asked for, if all are there. -/
theorem present_le {M : List Pg} {f e : Nat} (h : missing M f e = false) : e - f ≤ M.length := by
  have hs : ∀ x ∈ (List.range (e - f)).map (f + ·), x ∈ M.map (·.num) := by
    intro x hx
    obtain ⟨i, hi, rfl⟩ := List.mem_map.1 hx
    have hi' := List.mem_range.1 hi
    obtain ⟨p, hp⟩ := missing_false h (n := f + i) (by omega) (by omega)
    obtain ⟨h1, h2⟩ := pg_mem hp
    exact List.mem_map.2 ⟨p, h1, h2⟩
  have hnd : ((List.range (e - f)).map (f + ·)).Nodup := by
    rw [List.nodup_iff_pairwise_ne, List.pairwise_map]
    exact List.nodup_range.imp fun h => by omega
  have := sub_length ((List.range (e - f)).map (f + ·)) (M.map (·.num)) hnd hs
  simpa using this

/-! ### What is written -/
def wr1 (M : List Pg) (a : Nat) (x : UInt8) : List Pg := M.map fun p => if p.num = a / 4096 then { p with bytes := p.bytes.set (a % 4096) x } else p
def wrAll (M : List Pg) (a : Nat) : List UInt8 → List Pg
  | [] => M
  | x :: xs => wrAll (wr1 M a x) (a + 1) xs
def readAll (M : List Pg) (a n : Nat) : List UInt8 := (List.range n).map fun k => byteAt M (a + k)
def readErr (M : List Pg) (a n : Nat) : Int := if 1048576 < n then 4 else lookErr M a n 1
def writeM (M : List Pg) (a : Nat) (bs : List UInt8) (r : Int) : List Pg := if lookErr M a bs.length r = 0 then wrAll M a bs else M

/-- Pages whose bytes alone have turned. -/
def Alike (M M' : List Pg) : Prop := M'.map (fun p => (p.num, p.prot, p.bytes.length)) = M.map fun p => (p.num, p.prot, p.bytes.length)
theorem wr1_alike (M : List Pg) (a : Nat) (x : UInt8) : Alike M (wr1 M a x) := by
  unfold Alike wr1
  rw [List.map_map]
  refine List.map_congr_left fun p _ => ?_
  simp only [Function.comp]
  split <;> simp
theorem wrAll_alike (bs : List UInt8) : ∀ (M : List Pg) (a : Nat), Alike M (wrAll M a bs) := by
  induction bs with
  | nil => intro M a; rfl
  | cons x bs ih => intro M a; exact (ih (wr1 M a x) (a + 1)).trans (wr1_alike M a x)
theorem Alike.length {M M' : List Pg} (h : Alike M M') : M'.length = M.length := by simpa using congrArg List.length h
theorem Alike.ok {M M' : List Pg} (h : Alike M M') (hM : Ok M) : Ok M' := by
  have hn : M'.map (·.num) = M.map (·.num) := by
    have := congrArg (List.map (fun t : Nat × Int × Nat => t.1)) h
    rw [List.map_map, List.map_map] at this
    exact this
  refine ⟨?_, fun p hp => ?_, by rw [h.length]; exact hM.few⟩
  · have h1 : (M.map (·.num)).Pairwise (· < ·) := List.pairwise_map.2 hM.sorted
    rw [← hn] at h1
    exact List.pairwise_map.1 h1
  · have : (p.num, p.prot, p.bytes.length) ∈ M'.map fun p => (p.num, p.prot, p.bytes.length) := List.mem_map.2 ⟨p, hp, rfl⟩
    rw [h] at this
    obtain ⟨q, hq, e⟩ := List.mem_map.1 this
    simp only [Prod.mk.injEq] at e
    have := hM.pages q hq
    rw [e.1, e.2.1, e.2.2] at this
    exact this
theorem pg_wr1 (M : List Pg) (a : Nat) (x : UInt8) (n : Nat) : pg (wr1 M a x) n = (pg M n).map fun p => if n = a / 4096 then { p with bytes := p.bytes.set (a % 4096) x } else p := by
  unfold pg wr1
  induction M with
  | nil => rfl
  | cons p M ih =>
    rw [List.map_cons, List.find?_cons, List.find?_cons]
    by_cases hp : p.num = n
    · subst hp
      by_cases he : p.num = a / 4096
      · simp [he]
      · simp [he]
    · have h1 : ((if p.num = a / 4096 then { p with bytes := p.bytes.set (a % 4096) x } else p).num == n) = false := by split <;> simpa using hp
      have h2 : (p.num == n) = false := by simpa using hp
      rw [h1, h2]
      exact ih
theorem wrAll_append (bs cs : List UInt8) : ∀ (M : List Pg) (a : Nat), wrAll M a (bs ++ cs) = wrAll (wrAll M a bs) (a + bs.length) cs := by
  induction bs with
  | nil => intro M a; rfl
  | cons x bs ih => intro M a; rw [List.cons_append, wrAll, ih, wrAll, List.length_cons]; congr 1; omega
def splice (l : List UInt8) (o : Nat) (bs : List UInt8) : List UInt8 := l.take o ++ bs ++ l.drop (o + bs.length)
theorem splice_nil (l : List UInt8) (o : Nat) : splice l o [] = l := by simp [splice]
theorem splice_cons (l : List UInt8) (o : Nat) (x : UInt8) (bs : List UInt8) (h : o < l.length) : splice (l.set o x) (o + 1) bs = splice l o (x :: bs) := by
  unfold splice
  apply List.ext_getElem?
  intro i
  simp only [List.getElem?_append, List.length_append, List.length_take, List.length_set, List.length_cons, List.getElem?_take, List.getElem?_set, List.getElem?_drop]
  have m1 : min (o + 1) l.length = o + 1 := by omega
  have m2 : min o l.length = o := by omega
  rw [m1, m2]
  by_cases h1 : i < o
  · rw [if_pos (by omega), if_pos (by omega), if_pos (by omega), if_neg (by omega), if_pos (by omega), if_pos (by omega), if_pos (by omega)]
  · by_cases h2 : i = o
    · subst h2
      rw [if_pos (by omega), if_pos (by omega), if_pos (by omega), if_pos rfl, if_pos h, if_pos (by omega), if_neg (by omega), Nat.sub_self]; rfl
    · by_cases h3 : i < o + 1 + bs.length
      · rw [if_pos (by omega), if_neg (by omega), if_pos (by omega), if_neg (by omega), show i - o = (i - (o + 1)) + 1 by omega]; rfl
      · rw [if_neg (by omega), if_neg (by omega), if_neg (by omega)]
        congr 1; omega
/-- What is written within one page, at once. -/
theorem wrAll_chunk (bs : List UInt8) : ∀ (M : List Pg) (a : Nat), (∀ p ∈ M, p.bytes.length = 4096) → a % 4096 + bs.length ≤ 4096 →
    wrAll M a bs = M.map fun p => if p.num = a / 4096 then { p with bytes := splice p.bytes (a % 4096) bs } else p := by
  induction bs with
  | nil =>
    intro M a _ _
    show M = _
    rw [List.map_congr_left (g := id)]
    · simp
    · intro p _; split
      · simp only [splice_nil, id]
      · rfl
  | cons x bs ih =>
    intro M a hM hl
    simp only [List.length_cons] at hl
    cases bs with
    | nil =>
      show wr1 M a x = _
      unfold wr1
      refine List.map_congr_left fun p hp => ?_
      split
      · rw [← splice_cons _ _ _ _ (by rw [hM p hp]; omega), splice_nil]
      · rfl
    | cons y bs =>
      simp only [List.length_cons] at hl
      have e1 : (a + 1) / 4096 = a / 4096 := by omega
      have e2 : (a + 1) % 4096 = a % 4096 + 1 := by omega
      rw [wrAll, ih (wr1 M a x) (a + 1) (fun p hp => by
        unfold wr1 at hp
        obtain ⟨q, hq, rfl⟩ := List.mem_map.1 hp
        have := hM q hq
        split <;> simpa using this) (by rw [e2]; simp only [List.length_cons]; omega)]
      unfold wr1
      rw [List.map_map, e1, e2]
      refine List.map_congr_left fun p hp => ?_
      simp only [Function.comp]
      by_cases h : p.num = a / 4096
      · simp only [h, if_true]
        rw [splice_cons _ _ _ _ (by rw [hM p hp]; omega)]
      · simp only [h, if_false]
theorem readAll_add (M : List Pg) (a k m : Nat) : readAll M a (k + m) = readAll M a k ++ readAll M (a + k) m := by
  unfold readAll
  rw [List.range_add, List.map_append, List.map_map]
  congr 1
  refine List.map_congr_left fun i _ => ?_
  simp only [Function.comp, Nat.add_assoc]
theorem readAll_chunk {M : List Pg} {a m : Nat} {p : Pg} (hp : pg M (a / 4096) = some p) (hl : p.bytes.length = 4096) (h : a % 4096 + m ≤ 4096) : readAll M a m = (p.bytes.drop (a % 4096)).take m := by
  apply List.ext_getElem?
  intro i
  unfold readAll
  by_cases hi : i < m
  · have e1 : (a + i) / 4096 = a / 4096 := by omega
    have e2 : (a + i) % 4096 = a % 4096 + i := by omega
    rw [List.getElem?_map, List.getElem?_range hi, List.getElem?_take, if_pos hi, List.getElem?_drop]
    simp only [Option.map_some, byteAt, e1, hp, e2]
    rw [List.getD_eq_getElem?_getD, List.getElem?_eq_getElem (by omega)]; rfl
  · rw [List.getElem?_eq_none (by simp; omega), List.getElem?_eq_none (by simp; omega)]
theorem readAll_length (M : List Pg) (a n : Nat) : (readAll M a n).length = n := by simp [readAll]
end Go.Proofs.Ytepnaalgobhcdaa.Spm
namespace Go.Proofs.Ytepnaalgobhcdaa
open Go.RowKit Spm

set_option maxRecDepth 100000 in
theorem in_any (w : World) (a n : Nat) (ha : a < 18446744073709551616) :
    Calls Try.prog 64 #[.int .u64 a, .int .u64 n] w fun e w' => e = .returned (.bool (inB a n)) ∧ w = w' := by
  by_cases h1 : a ≤ 140737488355328
  · have e : inB a n = decide ((n : Int) ≤ 140737488355328 - (a : Int)) := by
      unfold inB; rw [Bool.eq_iff_iff]; simp; omega
    have E := Lib.hid e
    clear e
    have h2 : (a : Int) ≤ 140737488355328 := by omega
    go_enter Try.func64, Try.ntmps64
    go_wp2_with fail
    go_ret
    exact ⟨by rw [E.out]; rfl, rfl⟩
  · have e : inB a n = false := by unfold inB; simp; omega
    have E := Lib.hid e
    have h2 : ¬ (a : Int) ≤ 140737488355328 := by omega
    clear e h1
    go_enter Try.func64, Try.ntmps64
    go_wp2_with fail
    go_ret
    exact ⟨by rw [E.out]; rfl, rfl⟩

set_option maxRecDepth 100000 in
theorem numbers_any (w : World) (a n : Nat) (h0 : 0 < n) (h : inB a n = true) :
    Calls Try.prog 65 #[.int .u64 a, .int .u64 n] w fun e w' => e = .returned (.tuple #[.int .u64 (a / 4096 : Nat), .int .u64 ((a + n - 1) / 4096 + 1 : Nat)]) ∧ w = w' := by
  have hb : a + n ≤ 140737488355328 := by unfold inB at h; simp at h; exact h.2
  have hz : ((n : Int) == 0) = false := by simp; omega
  clear h
  go_enter Try.func65, Try.ntmps65
  go_wp2_with fail
  go_ret2
  have e1 : ((a / 4096 : Nat) : Int) = (a : Int) / 4096 := by omega
  have e2 : (((a + n - 1) / 4096 + 1 : Nat) : Int) = ((a : Int) + n - 1) / 4096 + 1 := by omega
  exact ⟨by rw [e1, e2]; rfl, rfl⟩
end Go.Proofs.Ytepnaalgobhcdaa
namespace Go.Proofs.Ytepnaalgobhcdaa
open Go.RowKit Spm
open Go.Maps (Keyed)

/-- How a page reads: its block's number and its protection; the zero page. -/
def pgElem (v : Value) : Option (DataW Unit × List MemPlace) := match v with
  | .agg cs => match cs.toList with
    | [.pointer (some a), .int .i64 pr] => if a = ⟨a.block, 0, none⟩ then some (.agg [.lit (.int .u64 a.block), .lit (.int .i64 pr)], []) else none
    | [.pointer none, .int .i64 pr] => if pr = 0 then some (.nil, []) else none
    | _ => none
  | _ => none
def pgVal (p : Nat × Int) : Value := .agg #[.pointer (some ⟨p.1, 0, none⟩), .int .i64 p.2]
def pgZero : Value := .agg #[.pointer none, .int .i64 0]
def pgData (p : Nat × Int) : DataW Unit := .agg [.lit (.int .u64 p.1), .lit (.int .i64 p.2)]
theorem pgElem_val (p : Nat × Int) : pgElem (pgVal p) = some (pgData p, []) := by simp [pgElem, pgVal, pgData]
theorem pgElem_zero : pgElem pgZero = some (.nil, []) := by simp [pgElem, pgZero]
theorem pgElem_cases {v : Value} {d : DataW Unit} {ps : List MemPlace} (h : pgElem v = some (d, ps)) : (∃ p, v = pgVal p ∧ d = pgData p) ∨ (v = pgZero ∧ d = .nil) := by
  unfold pgElem at h
  split at h
  · rename_i cs
    split at h
    · rename_i a pr hcs
      split at h
      · rename_i ha
        left
        cases h
        refine ⟨(a.block, pr), ?_, rfl⟩
        unfold pgVal
        rw [← ha]
        congr 1
        apply Array.ext'
        rw [hcs]
      · cases h
    · rename_i pr hcs
      split at h
      · rename_i hp
        right
        cases h
        subst hp
        refine ⟨?_, rfl⟩
        unfold pgZero
        congr 1
        apply Array.ext'
        rw [hcs]
      · cases h
    · cases h
  · cases h
theorem pgElem_inv {v : Value} {p : Nat × Int} {ps : List MemPlace} (h : pgElem v = some (pgData p, ps)) : v = pgVal p := by
  rcases pgElem_cases h with ⟨q, rfl, e⟩ | ⟨_, e⟩
  · unfold pgData at e
    simp at e
    obtain ⟨e1, e2⟩ := e
    have : p = q := Prod.ext (by omega) e2
    rw [this]
  · cases e
theorem pgElem_nil {v : Value} {ps : List MemPlace} (h : pgElem v = some (.nil, ps)) : v = pgZero := by
  rcases pgElem_cases h with ⟨q, rfl, e⟩ | ⟨e, _⟩
  · cases e
  · exact e

def key (n : Nat) : Lit := .int .u64 n
theorem law76 : Keyed Try.prog 32 := Maps.int_keyed Try.underlying32
theorem zero142 (w : World) : (zeroValue 142).run Try.prog w = .ok pgZero w := by kernel_rfl
theorem keyOf_u64 {n : Nat} (h : n < 18446744073709551616) : keyOf Try.prog 32 (.int .u64 (n : Int)) = some (key n) := Maps.keyOf_int_mk Try.underlying32 (WalkArith.wf_u64 (by omega))
theorem key_ne {a b : Nat} (h : a ≠ b) : key a ≠ key b := by unfold key; intro e; cases e; exact h rfl

/-- Block b is a map of c pages; f says which. -/
def PgMap (w : World) (b : Nat) (f : Nat → Option (Nat × Int)) (c : Nat) : Prop :=
  ∃ D : DataW Unit, w.ownsMap Try.prog 32 pgElem b c D ∧ Maps.size D = c ∧ ∀ n, n < 18446744073709551616 → (f n = none → Maps.has D (key n) = false) ∧ ∀ p, f n = some p → Maps.has D (key n) = true ∧ ∀ z, D.atKey (key n) z = pgData p

theorem PgMap.lt {w : World} {b : Nat} {f : Nat → Option (Nat × Int)} {c : Nat} (h : PgMap w b f c) : b < w.heap.size := by
  obtain ⟨D, h1, _⟩ := h; exact h1.lt
theorem PgMap.kept {w w' : World} {b : Nat} {f : Nat → Option (Nat × Int)} {c : Nat} (h : PgMap w b f c) (he : w'.heap[b]? = w.heap[b]?) : PgMap w' b f c := by
  obtain ⟨D, ⟨es, clock, hb, r⟩, h2⟩ := h
  exact ⟨D, ⟨es, clock, he.trans hb, r⟩, h2⟩
theorem PgMap.made (w : World) : PgMap (w.alloc (.map #[] 0)) w.heap.size (fun _ => none) 0 :=
  ⟨.map [], World.ownsMap_made _ _ _ _, rfl, fun n _ => ⟨fun _ => rfl, fun p hp => by cases hp⟩⟩
theorem PgMap.notCells {w : World} {b : Nat} {f : Nat → Option (Nat × Int)} {c : Nat} (h : PgMap w b f c) {cs : Array Value} {t : TypeId} {fr : Nat × Nat} : w.heap[b]? ≠ some (.cells cs t fr) := by
  obtain ⟨D, ⟨es, clock, hb, r⟩, h2⟩ := h
  rw [hb]; intro e; cases e

section
variable {ops : Array Oper} {rest : List Oper} {o : Oper} {a : Act} {w : World} {Q : Exit → Act → World → Prop}
theorem PgMap.look {b : Nat} {f : Nat → Option (Nat × Int)} {c : Nat} (h : PgMap w b f c) {n : Nat} (hn : n < 18446744073709551616) :
    (Instr.lookup 76 (.map (some b)) (.int .u64 (n : Int)) true).run Try.prog w = .ok (.tuple #[((f n).map pgVal).getD pgZero, .bool (f n).isSome]) w ∧
    (Instr.lookup 76 (.map (some b)) (.int .u64 (n : Int)) false).run Try.prog w = .ok (((f n).map pgVal).getD pgZero) w := by
  obtain ⟨D, hown, hs, hf⟩ := h
  obtain ⟨v, ps, h1, h2⟩ := hown.look_ok law76 Try.underlying76 (zero142 w) pgElem_zero (keyOf_u64 hn)
  obtain ⟨v', ps', h1', h2'⟩ := hown.lookup law76 Try.underlying76 (zero142 w) pgElem_zero (keyOf_u64 hn)
  cases hfn : f n with
  | none =>
    have hh := (hf n hn).1 hfn
    rw [Maps.atKey_of_not_has hh] at h2 h2'
    rw [h1, h1', hh, pgElem_nil h2, pgElem_nil h2']
    exact ⟨rfl, rfl⟩
  | some p =>
    obtain ⟨hh, ha⟩ := (hf n hn).2 p hfn
    rw [ha] at h2 h2'
    rw [h1, h1', hh, pgElem_inv h2, pgElem_inv h2']
    exact ⟨rfl, rfl⟩
/-- 'p, is := m[n]'. -/
theorem wpList_page_ok (hg : o.guard = none) (m x : Operand) (hop : o.op = Op.lookup 76 m x true) (b : Nat) {f : Nat → Option (Nat × Int)} {c : Nat} (h : PgMap w b f c) (hm : a.eval m = .map (some b)) (n : Nat) (hn : n < 18446744073709551616) (hx : a.eval x = .int .u64 (n : Int))
    (hK : wpList Try.prog ops Q rest (a.put o.dst (.tuple #[((f n).map pgVal).getD pgZero, .bool (f n).isSome])) w) : wpList Try.prog ops Q (o :: rest) a w := by
  refine wpList_plain hg fun K' hK' => ?_
  unfold Oper.wp
  simp [execOp, hop, hm, hx, (h.look hn).1, Result.andThen]
  exact hK' _ _ hK
/-- 'm[n]'. -/
theorem wpList_page (hg : o.guard = none) (m x : Operand) (hop : o.op = Op.lookup 76 m x false) (b : Nat) {f : Nat → Option (Nat × Int)} {c : Nat} (h : PgMap w b f c) (hm : a.eval m = .map (some b)) (n : Nat) (hn : n < 18446744073709551616) (hx : a.eval x = .int .u64 (n : Int))
    (hK : wpList Try.prog ops Q rest (a.put o.dst (((f n).map pgVal).getD pgZero)) w) : wpList Try.prog ops Q (o :: rest) a w := by
  refine wpList_plain hg fun K' hK' => ?_
  unfold Oper.wp
  simp [execOp, hop, hm, hx, (h.look hn).2, Result.andThen]
  exact hK' _ _ hK
/-- 'len(m)'. -/
theorem wpList_pages_len (hg : o.guard = none) (m : Operand) (hop : o.op = Op.call { callee := Callee.builtin Builtin.len, args := #[m], argTypes := #[76] }) (b : Nat) {f : Nat → Option (Nat × Int)} {c : Nat} (h : PgMap w b f c) (hm : a.eval m = .map (some b))
    (hK : wpList Try.prog ops Q rest (a.put o.dst (.int .i64 c)) w) : wpList Try.prog ops Q (o :: rest) a w := by
  obtain ⟨D, hown, hs, _⟩ := h
  refine wpList_len_own w hg m 76 hop 32 142 Try.underlying76 pgElem b c D hm hown ?_
  rw [hs]; exact hK
/-- 'm[n] = page{..}', n not there before. -/
theorem wpList_page_put (hg : o.guard = none) (m x v : Operand) (hop : o.op = Op.mapUpdate 76 m x v) (b : Nat) {f : Nat → Option (Nat × Int)} {c : Nat} (h : PgMap w b f c) (hm : a.eval m = .map (some b)) (hc : c < 1000000) (n : Nat) (hn : n < 18446744073709551616) (hx : a.eval x = .int .u64 (n : Int))
    (hnone : f n = none) (p : Nat × Int) (hv : a.eval v = pgVal p)
    (hK : ∀ w', PgMap w' b (fun k => if k = n then some p else f k) (c + 1) → w.grownBy w' (some b) → wpList Try.prog ops Q rest (a.put o.dst undef) w') : wpList Try.prog ops Q (o :: rest) a w := by
  obtain ⟨D, hown, hs, hf⟩ := h
  refine wpList_mapUpdate_own w hg m x v 76 hop 32 142 law76 Try.underlying76 pgElem b c D hm hown (by unfold maxLen; omega) _ _ (key n) hx hv (keyOf_u64 hn) (pgData p) [] (pgElem_val p) ?_
  intro w' hown' hg'
  have hmap := hown.isMap
  have hk : WideAt.IsKeyLit (key n) := trivial
  refine hK w' ⟨_, hown', ?_, fun k hk' => ⟨fun (hkn : (if k = n then some p else f k) = none) => ?_, fun q (hq : (if k = n then some p else f k) = some q) => ?_⟩⟩ hg'
  · rw [Maps.size_put (hown.tidy law76), (hf n hn).1 hnone, hs]; rfl
  · by_cases e : k = n
    · rw [if_pos e] at hkn; cases hkn
    · rw [if_neg e] at hkn
      rw [Maps.has_put_other (key_ne e)]
      exact (hf k hk').1 hkn
  · by_cases e : k = n
    · subst e
      rw [if_pos rfl] at hq
      cases hq
      exact ⟨Maps.has_put_same hmap hk _, fun z => Maps.atKey_put_same hmap hk _ z⟩
    · rw [if_neg e] at hq
      obtain ⟨q1, q2⟩ := (hf k hk').2 q hq
      exact ⟨by rw [Maps.has_put_other (key_ne e)]; exact q1, fun z => by rw [Maps.atKey_put_other (key_ne e)]; exact q2 z⟩
end
end Go.Proofs.Ytepnaalgobhcdaa
namespace Go.Proofs.Ytepnaalgobhcdaa
open Go.RowKit Spm

/-- w' is w but for new blocks and the blocks of F. -/
structure Chg (F : Nat → Prop) (w w' : World) : Prop where
  os : w'.os = w.os
  tape : w'.tape = w.tape
  output : w'.output = w.output
  size : w.heap.size ≤ w'.heap.size
  block : ∀ k, k < w.heap.size → ¬ F k → w'.heap[k]? = w.heap[k]?
/-- F, and what is new. -/
def grow (F : Nat → Prop) (w w' : World) (k : Nat) : Prop := F k ∨ (w.heap.size ≤ k ∧ k < w'.heap.size)
theorem Chg.refl (F : Nat → Prop) (w : World) : Chg F w w := ⟨rfl, rfl, rfl, Nat.le_refl _, fun _ _ _ => rfl⟩
theorem Chg.trans {F : Nat → Prop} {a b c : World} (h : Chg F a b) (k : Chg (grow F a b) b c) : Chg F a c :=
  ⟨k.os.trans h.os, k.tape.trans h.tape, k.output.trans h.output, Nat.le_trans h.size k.size, fun i hi hn => (k.block i (Nat.lt_of_lt_of_le hi h.size) (fun h' => by
    rcases h' with h' | ⟨h', _⟩
    · exact hn h'
    · omega)).trans (h.block i hi hn)⟩
theorem Chg.trans_below {F : Nat → Prop} {a b c : World} (h : Chg F a b) (k : Below b.heap.size b c) : Chg F a c :=
  ⟨k.os.trans h.os, k.tape.trans h.tape, k.output.trans h.output, Nat.le_trans h.size k.size, fun i hi hn => (k.block i (Nat.lt_of_lt_of_le hi h.size)).trans (h.block i hi hn)⟩
theorem Chg.of_below {F : Nat → Prop} {w w' : World} (h : Below w.heap.size w w') : Chg F w w' := ⟨h.os, h.tape, h.output, h.size, fun k hk _ => h.block k hk⟩
theorem Chg.below {F : Nat → Prop} {w w' : World} (h : Chg F w w') {B : Nat} (hF : ∀ k, F k → B ≤ k) (hB : B ≤ w.heap.size) : Below B w w' :=
  ⟨h.os, h.tape, h.output, h.size, fun k hk => h.block k (by omega) (fun hf => by have := hF k hf; omega)⟩
theorem Chg.mono {F G : Nat → Prop} {w w' : World} (h : Chg F w w') (hFG : ∀ k, k < w.heap.size → F k → G k) : Chg G w w' := ⟨h.os, h.tape, h.output, h.size, fun k hk hn => h.block k hk (fun hf => hn (hFG k hk hf))⟩
theorem Chg.heap {F : Nat → Prop} {w w' : World} (h : Chg F w w') {k : Nat} {o : Obj} (hk : w.heap[k]? = some o) (hn : ¬ F k) : w'.heap[k]? = some o := (h.block k (lt_of_block hk) hn).trans hk

def bytesArr (bs : List UInt8) : Array Value := (bs.map fun (x : UInt8) => Value.int .u8 ((x.toNat : Nat) : Int)).toArray
def pgFn (M : List Pg) (A : Nat → Nat) (n : Nat) : Option (Nat × Int) := (pg M n).map fun p => (A n, p.prot)

/-- What a space whose map lies in block mb holds. -/
structure Pages (w : World) (mb : Nat) (A : Nat → Nat) (M : List Pg) (F : Nat → Prop) : Prop where
  map : PgMap w mb (pgFn M A) M.length
  fmap : F mb
  page : ∀ p ∈ M, F (A p.num) ∧ w.heap[A p.num]? = some (.cells (bytesArr p.bytes) 140 (0, 0))
  apart : ∀ p ∈ M, ∀ q ∈ M, A p.num = A q.num → p.num = q.num
structure SpIn (w : World) (b : Nat) (M : List Pg) (F : Nat → Prop) : Prop where
  ok : Ok M
  own : ∃ mb A, w.heap[b]? = some (.cells #[.map (some mb)] 78 (0, 0)) ∧ Pages w mb A M F
  fb : F b
  lt : ∀ k, F k → k < w.heap.size
theorem Pages.keep {w w' : World} {mb : Nat} {A : Nat → Nat} {M : List Pg} {F G : Nat → Prop} (h : Pages w mb A M F) (hc : Chg G w w') (hFG : ∀ k, F k → ¬ G k) : Pages w' mb A M F :=
  ⟨h.map.kept (hc.block mb h.map.lt (hFG _ h.fmap)), h.fmap, fun p hp => ⟨(h.page p hp).1, hc.heap (h.page p hp).2 (hFG _ (h.page p hp).1)⟩, h.apart⟩
theorem SpIn.keep {w w' : World} {b : Nat} {M : List Pg} {F G : Nat → Prop} (h : SpIn w b M F) (hc : Chg G w w') (hFG : ∀ k, F k → ¬ G k) : SpIn w' b M F := by
  obtain ⟨h1, ⟨mb, A, h2, h3⟩, h4, h5⟩ := h
  exact ⟨h1, ⟨mb, A, hc.heap h2 (hFG _ h4), h3.keep hc hFG⟩, h4, fun k hk => Nat.lt_of_lt_of_le (h5 k hk) hc.size⟩
theorem SpIn.keepB {w w' : World} {b : Nat} {M : List Pg} {F : Nat → Prop} (h : SpIn w b M F) (hc : Below w.heap.size w w') : SpIn w' b M F :=
  h.keep (Chg.of_below (F := fun _ => False) hc) (fun _ _ h => h)

set_option maxRecDepth 100000 in
theorem new_any (w : World) : Calls Try.prog 24 #[] w fun e w' => e = .returned (.pointer (some ⟨w.heap.size + 1, 0, none⟩)) ∧ SpIn w' (w.heap.size + 1) [] (fun k => w.heap.size ≤ k ∧ k < w.heap.size + 2) ∧ Below w.heap.size w w' ∧ w'.heap.size = w.heap.size + 2 := by
  have hmm := @run_makeMap Try.prog
  go_enter Try.func24, Try.ntmps24
  go_wp2_with fail
  go_ret
  refine ⟨rfl, ⟨⟨List.Pairwise.nil, fun _ hp => (List.not_mem_nil hp).elim, Nat.zero_le _⟩, ⟨w.heap.size, fun _ => 0, hp_new _ _ _ (by simp), ⟨(PgMap.made w).kept (hp_old _ _ _ (by simp)), by simp, fun _ hp => (List.not_mem_nil hp).elim, fun _ hp => (List.not_mem_nil hp).elim⟩⟩, by simp, fun k hk => by simp; omega⟩, ((Below.refl _ w).alloc (Nat.le_refl _) _).alloc (by simp) _, by simp⟩

set_option maxRecDepth 100000 in
theorem pages_any (w : World) (b : Nat) (M : List Pg) (F : Nat → Prop) (h : SpIn w b M F) : Calls Try.prog 26 #[.pointer (some ⟨b, 0, none⟩)] w fun e w' => e = .returned (.int .i64 M.length) ∧ w = w' := by
  obtain ⟨_, ⟨mb, A, hb, hp⟩, _, _⟩ := h
  have cb := cell_of_one hb
  have HP := Lib.hid hp.map
  clear hp hb
  go_enter Try.func26, Try.ntmps26
  go_wp2_with (refine wpList_pages_len rfl (.tmp 8) rfl mb HP.out rfl ?_)
  go_ret
  exact ⟨rfl, rfl⟩
end Go.Proofs.Ytepnaalgobhcdaa
namespace Go.Proofs.Ytepnaalgobhcdaa
open Go.RowKit Spm

def optVal (c : Option (Nat × Int)) : Value := (c.map pgVal).getD pgZero
theorem pgElem_opt {v : Value} {y : DataW Unit × List MemPlace} (h : pgElem v = some y) : ∃ c, v = optVal c := by
  obtain ⟨d, ps⟩ := y
  rcases pgElem_cases h with ⟨p, rfl, _⟩ | ⟨rfl, _⟩
  · exact ⟨some p, rfl⟩
  · exact ⟨none, rfl⟩
theorem key_cases {kv : Value} {kl : Lit} (h : keyOf Try.prog 32 kv = some kl) : ∃ n : Nat, n < 18446744073709551616 ∧ kv = .int .u64 (n : Int) ∧ kl = key n := by
  obtain ⟨x, rfl, rfl, hw⟩ := Maps.keyOf_int_inv Try.underlying32 h
  have hb := bounds_u64 hw
  have e : ((x.toNat : Nat) : Int) = x := by omega
  refine ⟨x.toNat, by omega, ?_, ?_⟩
  · rw [e]
  · unfold key; rw [e]

/-- What is still to come of a map that is gone through, and that none of what has come clashes. -/
structure FreeSt (w0 : World) (D : DataW Unit) (mb r c f e : Nat) (cnt : Nat) (wr : World) : Prop where
  below : Below w0.heap.size w0 wr
  it : ∃ left, wr.ranges Try.prog 32 pgElem mb r c D left cnt ∧ (∀ z, left z = true → Maps.has D z = true) ∧ ∀ n : Nat, Maps.has D (key n) = true → left (key n) = false → ¬ (f ≤ n ∧ n < e)

theorem has_page {M : List Pg} {A : Nat → Nat} {D : DataW Unit}
    (hf : ∀ n, n < 18446744073709551616 → (pgFn M A n = none → Maps.has D (key n) = false) ∧ ∀ p, pgFn M A n = some p → Maps.has D (key n) = true ∧ ∀ z, D.atKey (key n) z = pgData p) (hM : Ok M) (n : Nat) (hn : n < 18446744073709551616) :
    Maps.has D (key n) = true ↔ ∃ p ∈ M, p.num = n := by
  constructor
  · intro h
    cases hp : pg M n with
    | none => rw [(hf n hn).1 (by unfold pgFn; rw [hp]; rfl)] at h; cases h
    | some p => exact ⟨p, pg_mem hp⟩
  · rintro ⟨p, hp, rfl⟩
    exact ((hf p.num hn).2 (A p.num, p.prot) (by unfold pgFn; rw [pg_of_mem hM hp]; rfl)).1

set_option maxHeartbeats 400000 in
set_option maxRecDepth 100000 in
theorem free_in (w : World) (b : Nat) (M : List Pg) (F : Nat → Prop) (h : SpIn w b M F) (a n : Nat) (h0 : 0 < n) (hin : inB a n = true) :
    Calls Try.prog 41 #[.pointer (some ⟨b, 0, none⟩), .int .u64 a, .int .u64 n] w fun e w' => e = .returned (.bool (M.all fun p => !clash (fst a) (lst a n) p)) ∧ Below w.heap.size w w' := by
  have hOk := h.ok
  obtain ⟨_, ⟨mb, A, hb, hp⟩, _, _⟩ := h
  obtain ⟨⟨D, hown, hsz, hf⟩, _, _, _⟩ := hp
  have cb := cell_of_one hb
  have hz : ((n : Int) == 0) = false := by simp; omega
  have HOWN := Lib.hid hown
  have HF := Lib.hid hf
  have HOK := Lib.hid hOk
  have HB := Lib.hid hb
  have hbs := lt_of_block hb
  have HI1 : Hid (Calls Try.prog 64 #[.int .u64 a, .int .u64 n] w fun e w' => e = .returned (.bool true) ∧ w = w') := by
    have := in_any w a n (by unfold inB at hin; simp at hin; omega); rw [hin] at this; exact this
  have HN := Lib.hid (numbers_any w a n h0 hin)
  clear hin hown hsz hf hOk hb
  go_enter Try.func41, Try.ntmps41
  go_wp2_with (first
    | (go_at_call 64; refine HI1.out.mono ?_; rintro e _ ⟨rfl, rfl⟩)
    | (go_at_call 65; refine HN.out.mono ?_; rintro e _ ⟨rfl, rfl⟩)
    | (at_range; refine wpList_range_own _ rfl _ 76 rfl 32 142 law76 Try.underlying76 pgElem mb M.length D rfl HOWN.out ?_; intro w0 hrg0 hg0 hs0))
  go_frame
  have hst : FreeSt w D mb w.heap.size M.length (a / 4096) ((a + n - 1) / 4096 + 1) (Maps.size D) w0 :=
    ⟨⟨hg0.os, hg0.tape, hg0.output, hg0.size, fun k hk => hg0.block k hk (by simp)⟩, Maps.has D, hrg0, fun _ h => h, fun n h1 h2 => by rw [h1] at h2; cases h2⟩
  have HST := Lib.hid hst
  clear hst hrg0 hg0 hs0
  go_loopw [9] (fun _ wr => ∃ cnt, Hid (FreeSt w D mb w.heap.size M.length (a / 4096) ((a + n - 1) / 4096 + 1) cnt wr)) (fun _ wr => wr.rangeLeft mb w.heap.size)
  case atStart => exact ⟨_, HST.out⟩
  case round =>
    obtain ⟨cnt, HR⟩ := hrel
    obtain ⟨left, hrg, hl1, hl2⟩ := HR.out.it
    have HRG := Lib.hid hrg
    have HL1 := Lib.hid hl1
    have HL2 := Lib.hid hl2
    clear hrg hl1 hl2
    go_wp2_with (at_next; refine wpList_next_ranges _ rfl _ rfl 32 law76 pgElem (fun n : Int => .int .u64 n) optVal (fun kv kl hk => by obtain ⟨x, rfl, _⟩ := Maps.keyOf_int_inv Try.underlying32 hk; exact ⟨x, rfl⟩) (fun v y hv => pgElem_opt hv) mb w.heap.size M.length D left cnt rfl HRG.out ?_ ?_)
    · intro hc0 hl0
      have e : (M.all fun p => !clash (fst a) (lst a n) p) = true := List.all_eq_true.2 fun p hp => by
        have hh := (has_page HF.out HOK.out p.num (by have := (HOK.out.pages p hp).1; omega)).2 ⟨p, hp, rfl⟩
        have := HL2.out p.num hh (hl0 _)
        unfold clash fst lst
        simp
        omega
      have E := Lib.hid e
      clear e hl0
      go_wp2_with fail
      go_ret
      exact ⟨by rw [E.out]; rfl, HR.out.below⟩
    · intro x c kl yd yp w1 cnt1 hkey hlk hv hat hrg1 hlt hg1 hs1 hen
      obtain ⟨nx, hnx, e1, rfl⟩ := key_cases hkey
      obtain rfl : x = (nx : Int) := by simpa using e1
      have hh := HL1.out _ hlk
      have HRG1 := Lib.hid hrg1
      have HHAS := Lib.hid ((has_page HF.out HOK.out nx hnx).1 hh)
      have B1 : Hid (Below w.heap.size w w1) := HR.out.below.grown hg1 HR.out.below.size (fun k e => by cases e; exact Nat.le_refl _)
      clear e1 hkey hlk hv hat hrg1 hg1 hs1 hh
      by_cases hcl : a / 4096 ≤ nx ∧ nx < (a + n - 1) / 4096 + 1
      · have e : (M.all fun p => !clash (fst a) (lst a n) p) = false := by
          obtain ⟨p, hp, rfl⟩ := HHAS.out
          refine List.all_eq_false.2 ⟨p, hp, ?_⟩
          unfold clash fst lst
          simp
          omega
        have E := Lib.hid e
        have i1 : ((a / 4096 : Nat) : Int) ≤ (nx : Int) := by omega
        have i2 : (nx : Int) < (((a + n - 1 : Nat) : Int) / 4096 + 1) := by omega
        clear e hcl
        go_wp2_with fail
        go_ret
        exact ⟨by rw [E.out]; rfl, B1.out⟩
      · have HCL := Lib.hid hcl
        have hrel2 : FreeSt w D mb w.heap.size M.length (a / 4096) ((a + n - 1) / 4096 + 1) cnt1 w1 :=
          ⟨B1.out, _, HRG1.out, fun z hz => HL1.out z (by simp at hz; exact hz.1), fun k h1 h2 => by
            by_cases e : k = nx
            · subst e; exact HCL.out
            · refine HL2.out k h1 ?_
              have : (key k).sameKey (key nx) = false := Maps.sameKey_ne (key_ne e)
              simpa [this] using h2⟩
        have HREL := Lib.hid hrel2
        clear hrel2
        by_cases hlo : a / 4096 ≤ nx
        · have i1 : ((a / 4096 : Nat) : Int) ≤ (nx : Int) := by omega
          have i2 : ¬ (nx : Int) < (((a + n - 1 : Nat) : Int) / 4096 + 1) := by omega
          clear hcl
          go_wp2_with fail
          go_roundw
          case rel => exact ⟨cnt1, HREL.out⟩
          case measure => rw [HRG1.out.left_eq, HRG.out.left_eq]; exact hlt
        · have i1 : ¬ ((a / 4096 : Nat) : Int) ≤ (nx : Int) := by omega
          clear hcl
          go_wp2_with fail
          go_roundw
          case rel => exact ⟨cnt1, HREL.out⟩
          case measure => rw [HRG1.out.left_eq, HRG.out.left_eq]; exact hlt
end Go.Proofs.Ytepnaalgobhcdaa
namespace Go.Proofs.Ytepnaalgobhcdaa
open Go.RowKit Spm

theorem free_any (w : World) (b : Nat) (M : List Pg) (F : Nat → Prop) (h : SpIn w b M F) (a n : Nat) (ha : a < 18446744073709551616) :
    Calls Try.prog 41 #[.pointer (some ⟨b, 0, none⟩), .int .u64 a, .int .u64 n] w fun e w' => e = .returned (.bool (freeB M a n)) ∧ Below w.heap.size w w' := by
  by_cases h0 : n = 0
  · have e : freeB M a n = true := by simp [freeB, h0]
    rw [e]
    subst h0
    go_enter Try.func41, Try.ntmps41
    go_wp2_with fail
    go_ret
    exact ⟨rfl, Below.refl _ _⟩
  · have hz : (n == 0) = false := by simpa using h0
    cases hin : inB a n with
    | true =>
      have e : freeB M a n = M.all fun p => !clash (fst a) (lst a n) p := by simp [freeB, hz, hin]
      rw [e]
      exact free_in w b M F h a n (by omega) hin
    | false =>
      have e : freeB M a n = false := by simp [freeB, hz, hin]
      have HI1 : Hid (Calls Try.prog 64 #[.int .u64 a, .int .u64 n] w fun e w' => e = .returned (.bool false) ∧ w = w') := by
        have := in_any w a n ha; rw [hin] at this; exact this
      rw [e]
      have hz' : ((n : Int) == 0) = false := by simp; omega
      clear e hin h
      go_enter Try.func41, Try.ntmps41
      go_wp2_with (go_at_call 64; refine HI1.out.mono ?_; rintro e _ ⟨rfl, rfl⟩)
      go_ret
      exact ⟨rfl, Below.refl _ _⟩

theorem info140 : (Try.prog.info? 140).map (fun i => (i.zero, i.size)) = some (some (.agg (bytesArr noughts)), 4096) := by kernel_rfl
theorem zero140 (w : World) : (zeroValue 140).run Try.prog w = .ok (.agg (bytesArr noughts)) w := by
  obtain ⟨i, hi, hz⟩ := Option.map_eq_some_iff.1 info140
  simp only [Prod.mk.injEq] at hz
  simp [zeroValue, typeInfo, hi, hz.1]
section
variable {ops : Array Oper} {rest : List Oper} {o : Oper} {a : Act} {w : World} {Q : Exit → Act → World → Prop}
/-- 'new([4096]byte)'. -/
theorem wpList_newpage (hg : o.guard = none) (ho : o.op = .alloc 140) (h : wpList Try.prog ops Q rest (a.put o.dst (.pointer (some ⟨w.heap.size, 0, none⟩))) (w.alloc (.cells (bytesArr noughts) 140))) : wpList Try.prog ops Q (o :: rest) a w := by
  refine wpList_plain hg fun K' hK' => ?_
  unfold Oper.wp
  have hr : (Instr.alloc 140 true (.tuple #[])).run Try.prog w = .ok (.pointer (some ⟨w.heap.size, 0, none⟩)) (w.alloc (.cells (bytesArr noughts) 140)) := by
    simp only [Instr.alloc, Sem.run_bind, zero140, Result.andThen_ok]
    rfl
  simp only [execOp, ho, Sem.run_bind, hr, Result.andThen_ok, Sem.run_pure]
  exact hK' _ _ h
end

/-- The space while pages are laid: those of M, and j new ones from f on. -/
structure MapSt (w : World) (b : Nat) (M : List Pg) (F : Nat → Prop) (f j : Nat) (prot : Int) (wr : World) : Prop where
  chg : Chg F w wr
  own : ∃ mb A, wr.heap[b]? = some (.cells #[.map (some mb)] 78 (0, 0)) ∧ Pages wr mb A (mapIn M f j prot) (grow F w wr) ∧ F mb ∧ ∀ p ∈ mapIn M f j prot, A p.num < wr.heap.size

theorem MapSt.start {w : World} {b : Nat} {M : List Pg} {F : Nat → Prop} (h : SpIn w b M F) (f : Nat) (prot : Int) : MapSt w b M F f 0 prot w := by
  have hOk := h.ok
  obtain ⟨_, ⟨mb, A, h2, h3⟩, h4, h5⟩ := h
  refine ⟨Chg.refl _ _, mb, A, h2, ?_, h3.fmap, ?_⟩
  · rw [mapIn_zero hOk]
    exact ⟨h3.map, .inl h3.fmap, fun p hp => ⟨.inl (h3.page p hp).1, (h3.page p hp).2⟩, h3.apart⟩
  · rw [mapIn_zero hOk]
    exact fun p hp => lt_of_block (h3.page p hp).2
end Go.Proofs.Ytepnaalgobhcdaa
namespace Go.Proofs.Ytepnaalgobhcdaa
open Go.RowKit Spm

theorem mem_mapIn_succ {M : List Pg} {f j : Nat} {prot : Int} {p : Pg} : p ∈ mapIn M f (j + 1) prot ↔ p ∈ mapIn M f j prot ∨ p = ⟨f + j, prot, noughts⟩ := by
  unfold mapIn
  rw [newPages_succ]
  simp only [List.mem_append, List.mem_singleton]
  constructor
  · rintro ((h | h | h) | h)
    · exact .inl (.inl (.inl h))
    · exact .inl (.inl (.inr h))
    · exact .inr h
    · exact .inl (.inr h)
  · rintro (((h | h) | h) | h)
    · exact .inl (.inl h)
    · exact .inl (.inr (.inl h))
    · exact .inr h
    · exact .inl (.inr (.inr h))

theorem MapSt.step {w : World} {b : Nat} {M : List Pg} {F : Nat → Prop} {f j k : Nat} {prot : Int} {wr w2 : World} (hc : Clear M f k) (hj : j < k) (h : MapSt w b M F f j prot wr) {mb : Nat} {A : Nat → Nat}
    (hb : wr.heap[b]? = some (.cells #[.map (some mb)] 78 (0, 0))) (hp : Pages wr mb A (mapIn M f j prot) (grow F w wr)) (hfm : F mb) (hA : ∀ p ∈ mapIn M f j prot, A p.num < wr.heap.size)
    (hm : PgMap w2 mb (fun i => if i = f + j then some (wr.heap.size, prot) else pgFn (mapIn M f j prot) A i) ((mapIn M f j prot).length + 1)) (hg : (wr.alloc (.cells (bytesArr noughts) 140)).grownBy w2 (some mb)) :
    MapSt w b M F f (j + 1) prot w2 := by
  have hsz : wr.heap.size + 1 ≤ w2.heap.size := by have := hg.size; simpa using this
  have hold : ∀ i, i < wr.heap.size → i ≠ mb → w2.heap[i]? = wr.heap[i]? := fun i hi hne => by
    rw [hg.block i (by simp; omega) (by simpa using hne), hp_old _ _ _ hi]
  have hnew : w2.heap[wr.heap.size]? = some (.cells (bytesArr noughts) 140 (0, 0)) := by
    have := hp.map.lt
    rw [hg.block _ (by simp) (by simp; omega), hp_new _ _ _ rfl]
  have hmem : ∀ p, p ∈ mapIn M f (j + 1) prot → (p ∈ mapIn M f j prot ∧ p.num ≠ f + j) ∨ p = ⟨f + j, prot, noughts⟩ := fun p hp' => by
    rcases mem_mapIn_succ.1 hp' with h1 | h1
    · by_cases e : p.num = f + j
      · rcases mem_mapIn h1 with h2 | h2
        · have := hc p h2; omega
        · have := (newPages_num h2).2.1; omega
      · exact .inl ⟨h1, e⟩
    · exact .inr h1
  have hne : ∀ p, p ∈ mapIn M f j prot → A p.num ≠ mb := fun p hp' e => by
    have := (hp.page p hp').2
    rw [e] at this
    exact hp.map.notCells this
  refine ⟨?_, mb, fun i => if i = f + j then wr.heap.size else A i, ?_, ⟨?_, .inl hfm, fun p hp' => ?_, fun p hp' q hq' e => ?_⟩, hfm, fun p hp' => ?_⟩
  · refine ⟨hg.os.trans h.chg.os, hg.tape.trans h.chg.tape, hg.output.trans h.chg.output, by have := h.chg.size; omega, fun i hi hn => ?_⟩
    have h1 := h.chg.size
    rw [hold i (by omega) (fun e => hn (e ▸ hfm))]
    exact h.chg.block i hi hn
  · rw [hold b (lt_of_block hb) (fun e => by rw [e] at hb; exact hp.map.notCells hb)]; exact hb
  · have hf : pgFn (mapIn M f (j + 1) prot) (fun i => if i = f + j then wr.heap.size else A i) = fun i => if i = f + j then some (wr.heap.size, prot) else pgFn (mapIn M f j prot) A i := by
      funext i
      unfold pgFn
      rw [pg_mapIn, pg_mapIn]
      by_cases e : i = f + j
      · subst e
        rw [if_pos (by omega), if_pos rfl]
        simp
      · rw [if_neg e]
        by_cases e2 : f ≤ i ∧ i < f + j
        · rw [if_pos (by omega), if_pos e2]; simp [e]
        · rw [if_neg (by omega), if_neg e2]; simp [e]
    rw [hf, mapIn_length]
    rw [mapIn_length] at hm
    exact hm
  · rcases hmem p hp' with ⟨h1, h2⟩ | rfl
    · obtain ⟨g1, g2⟩ := hp.page p h1
      rw [if_neg h2]
      refine ⟨?_, by rw [hold _ (hA p h1) (hne p h1)]; exact g2⟩
      rcases g1 with g1 | g1
      · exact .inl g1
      · exact .inr ⟨g1.1, by omega⟩
    · rw [if_pos rfl]
      exact ⟨.inr ⟨h.chg.size, by omega⟩, hnew⟩
  · rcases hmem p hp' with ⟨h1, h2⟩ | rfl <;> rcases hmem q hq' with ⟨h3, h4⟩ | rfl
    · simp only [h2, h4, if_false] at e
      exact hp.apart p h1 q h3 e
    · simp only [h2, if_false, if_true] at e
      have := hA p h1; omega
    · simp only [h4, if_false, if_true] at e
      have := hA q h3; omega
    · rfl
  · rcases hmem p hp' with ⟨h1, h2⟩ | rfl
    · simp only [h2, if_false]; have := hA p h1; omega
    · simp only [if_true]; omega
theorem MapSt.done {w : World} {b : Nat} {M : List Pg} {F : Nat → Prop} {f k : Nat} {prot : Int} {wr : World} (h : MapSt w b M F f k prot wr) (hM : SpIn w b M F) (hok : Ok (mapIn M f k prot)) : SpIn wr b (mapIn M f k prot) (grow F w wr) := by
  obtain ⟨hc, mb, A, h1, h2, _, _⟩ := h
  exact ⟨hok, ⟨mb, A, h1, h2⟩, .inl hM.fb, fun i hi => by
    rcases hi with hi | hi
    · have := hM.lt i hi; have := hc.size; omega
    · exact hi.2⟩

theorem SpIn.regrow {w w1 w' : World} {b : Nat} {M : List Pg} {F : Nat → Prop} (h : SpIn w' b M (grow F w1 w')) (hs : w.heap.size ≤ w1.heap.size) : SpIn w' b M (grow F w w') := by
  have hsub : ∀ k, grow F w1 w' k → grow F w w' k := fun k hk => by
    rcases hk with hk | hk
    · exact .inl hk
    · exact .inr ⟨by omega, hk.2⟩
  obtain ⟨h1, ⟨mb, A, h2, h3⟩, h4, h5⟩ := h
  refine ⟨h1, ⟨mb, A, h2, ⟨h3.map, hsub _ h3.fmap, fun p hp => ⟨hsub _ (h3.page p hp).1, (h3.page p hp).2⟩, h3.apart⟩⟩, hsub _ h4, fun k hk => ?_⟩
  rcases hk with hk | hk
  · exact h5 k (.inl hk)
  · exact hk.2
/-- What Map answers, and what it leaves. -/
def MapRes (w : World) (b : Nat) (M : List Pg) (F : Nat → Prop) (a n : Nat) (prot : Int) (e : Ending) (w' : World) : Prop :=
  e = .returned (.int .i64 (mapErr M a n prot)) ∧ SpIn w' b (mapM M a n prot) (grow F w w') ∧ Chg F w w'
theorem SpIn.grown {w w' : World} {b : Nat} {M : List Pg} {F : Nat → Prop} (h : SpIn w b M F) (hb : Below w.heap.size w w') : SpIn w' b M (grow F w w') := by
  obtain ⟨h1, ⟨mb, A, h2, h3⟩, h4, h5⟩ := h.keepB hb
  exact ⟨h1, ⟨mb, A, h2, ⟨h3.map, .inl h3.fmap, fun p hp => ⟨.inl (h3.page p hp).1, (h3.page p hp).2⟩, h3.apart⟩⟩, .inl h4, fun k hk => by
    rcases hk with hk | hk
    · exact h5 k hk
    · exact hk.2⟩
theorem MapRes.no {w w' : World} {b : Nat} {M : List Pg} {F : Nat → Prop} {a n : Nat} {prot : Int} {er : Int} (h : SpIn w b M F) (he : mapErr M a n prot = er) (h0 : er ≠ 0) (hb : Below w.heap.size w w') : MapRes w b M F a n prot (.returned (.int .i64 er)) w' := by
  refine ⟨by rw [he], ?_, Chg.of_below hb⟩
  unfold mapM
  rw [if_neg (by rw [he]; exact h0)]
  exact h.grown hb

set_option maxHeartbeats 1000000 in
set_option maxRecDepth 100000 in
theorem map_bad (w : World) (b : Nat) (M : List Pg) (F : Nat → Prop) (h : SpIn w b M F) (a n : Nat) (prot : Int) (hbad : badArg a n prot = true) :
    Calls Try.prog 25 #[.pointer (some ⟨b, 0, none⟩), .int .u64 a, .int .u64 n, .int .i64 prot] w (MapRes w b M F a n prot) := by
  have HR := Lib.hid (MapRes.no h (show mapErr M a n prot = 2 by unfold mapErr; rw [if_pos hbad]) (by decide) (Below.refl _ w))
  clear h
  by_cases h1 : a % 4096 = 0
  · have b1 : ((a : Int) % 4096 != 0) = false := by rw [bne_eq_false_iff_eq]; omega
    by_cases h2 : n % 4096 = 0
    · have b2 : ((n : Int) % 4096 != 0) = false := by rw [bne_eq_false_iff_eq]; omega
      by_cases h3 : n = 0
      · have b3 : ((n : Int) == 0) = true := by simp; exact h3
        clear hbad h1 h2 h3
        go_enter Try.func25, Try.ntmps25
        go_wp2_with fail
        go_ret
        exact HR.out
      · have b3 : ((n : Int) == 0) = false := by simp; exact h3
        by_cases h4 : prot < 1
        · clear hbad h1 h2 h3
          go_enter Try.func25, Try.ntmps25
          go_wp2_with fail
          go_ret
          exact HR.out
        · have h5 : 7 < prot := by simp [badArg, h1, h2, h3, h4] at hbad; exact hbad
          clear hbad h1 h2 h3
          go_enter Try.func25, Try.ntmps25
          go_wp2_with fail
          go_ret
          exact HR.out
    · have b2 : ((n : Int) % 4096 != 0) = true := by rw [bne_iff_ne]; omega
      clear hbad h1 h2
      go_enter Try.func25, Try.ntmps25
      go_wp2_with fail
      go_ret
      exact HR.out
  · have b1 : ((a : Int) % 4096 != 0) = true := by rw [bne_iff_ne]; omega
    clear hbad h1
    go_enter Try.func25, Try.ntmps25
    go_wp2_with fail
    go_ret
    exact HR.out

set_option maxHeartbeats 2000000 in
set_option maxRecDepth 100000 in
theorem map_any (w : World) (b : Nat) (M : List Pg) (F : Nat → Prop) (h : SpIn w b M F) (a n : Nat) (ha : a < 18446744073709551616) (prot : Int) :
    Calls Try.prog 25 #[.pointer (some ⟨b, 0, none⟩), .int .u64 a, .int .u64 n, .int .i64 prot] w (MapRes w b M F a n prot) := by
  cases hbad : badArg a n prot with
  | true => exact map_bad w b M F h a n prot hbad
  | false =>
    simp [badArg] at hbad
    obtain ⟨⟨⟨⟨h1, h2⟩, h3⟩, h4⟩, h5⟩ := hbad
    have hbad : badArg a n prot = false := by simp [badArg, h1, h2, h3, h4, h5]
    have b1 : ((a : Int) % 4096 != 0) = false := by rw [bne_eq_false_iff_eq]; omega
    have b2 : ((n : Int) % 4096 != 0) = false := by rw [bne_eq_false_iff_eq]; omega
    have b3 : ((n : Int) == 0) = false := by simp; exact h3
    have e0 : mapErr M a n prot = if inB a n = false then 4 else if freeB M a n = false then 21 else if 8192 - M.length < n / 4096 then 11 else 0 := by unfold mapErr; rw [if_neg (by simp [hbad])]
    cases hin : inB a n with
    | false =>
      have HI1 : Hid (Calls Try.prog 64 #[.int .u64 a, .int .u64 n] w fun e w' => e = .returned (.bool false) ∧ w = w') := by
        have := in_any w a n ha; rw [hin] at this; exact this
      have HR := Lib.hid (MapRes.no h (show mapErr M a n prot = 4 by rw [e0, if_pos hin]) (by decide) (Below.refl _ w))
      clear h e0 hin hbad h1 h2 h3
      go_enter Try.func25, Try.ntmps25
      go_wp2_with (go_at_call 64; refine HI1.out.mono ?_; rintro e _ ⟨rfl, rfl⟩)
      go_ret
      exact HR.out
    | true =>
      have HI1 : Hid (Calls Try.prog 64 #[.int .u64 a, .int .u64 n] w fun e w' => e = .returned (.bool true) ∧ w = w') := by
        have := in_any w a n ha; rw [hin] at this; exact this
      cases hfr : freeB M a n with
      | false =>
        have HFR : Hid (Calls Try.prog 41 #[.pointer (some ⟨b, 0, none⟩), .int .u64 a, .int .u64 n] w fun e w' => e = .returned (.bool false) ∧ Below w.heap.size w w') := by
          have := free_any w b M F h a n ha; rw [hfr] at this; exact this
        have HR := Lib.hid (fun (w' : World) (hb : Below w.heap.size w w') => MapRes.no h (show mapErr M a n prot = 21 by rw [e0, if_neg (by simp [hin]), if_pos hfr]) (by decide) hb)
        clear h e0 hin hbad h1 h2 h3 hfr
        go_enter Try.func25, Try.ntmps25
        go_wp2_with (first
          | (go_at_call 64; refine HI1.out.mono ?_; rintro e _ ⟨rfl, rfl⟩)
          | (go_at_call 41; refine HFR.out.mono ?_; rintro e w1 ⟨rfl, hb1⟩))
        go_ret
        exact HR.out _ hb1
      | true =>
        have HFR : Hid (Calls Try.prog 41 #[.pointer (some ⟨b, 0, none⟩), .int .u64 a, .int .u64 n] w fun e w' => e = .returned (.bool true) ∧ Below w.heap.size w w') := by
          have := free_any w b M F h a n ha; rw [hfr] at this; exact this
        have hlen := h.ok.few
        have hnl : (n : Int) ≤ 140737488355328 := by simp [inB] at hin; omega
        by_cases hmany : 8192 - M.length < n / 4096
        · have HR := Lib.hid (fun (w' : World) (hb : Below w.heap.size w w') => MapRes.no h (show mapErr M a n prot = 11 by rw [e0, if_neg (by simp [hin]), if_neg (by simp [hfr]), if_pos hmany]) (by decide) hb)
          have i1 : (8192 : Int) - (M.length : Int) < (n : Int) / 4096 := by omega
          have HH := Lib.hid h
          clear h e0 hin hbad h1 h2 h3 hfr hmany
          go_enter Try.func25, Try.ntmps25
          go_wp2_with (first
            | (go_at_call 64; refine HI1.out.mono ?_; rintro e _ ⟨rfl, rfl⟩)
            | (go_at_call 41; refine HFR.out.mono ?_; rintro e w1 ⟨rfl, hb1⟩; obtain ⟨mb, A, hbw, hpw⟩ := (HH.out.keepB hb1).own; have cb := cell_of_one hbw; have HP := Lib.hid hpw.map; clear hbw hpw)
            | (refine wpList_pages_len rfl (.tmp 53) rfl mb HP.out rfl ?_))
          go_ret
          exact HR.out _ hb1
        · have e1 : mapErr M a n prot = 0 := by rw [e0, if_neg (by simp [hin]), if_neg (by simp [hfr]), if_neg hmany]
          have hclear := Clear.of_free hfr (by omega) h1 h2
          have i1 : ¬ (8192 : Int) - (M.length : Int) < (n : Int) / 4096 := by omega
          obtain ⟨f, hf⟩ : ∃ f, f = a / 4096 := ⟨_, rfl⟩
          obtain ⟨en, hen⟩ : ∃ en, en = f + n / 4096 := ⟨_, rfl⟩
          have hfs : fst a = f := hf.symm
          have hb2 : a + n ≤ 140737488355328 := by simp [inB] at hin; omega
          have HN : Hid (∀ W, Calls Try.prog 65 #[.int .u64 a, .int .u64 n] W fun e w' => e = .returned (.tuple #[.int .u64 f, .int .u64 en]) ∧ W = w') := fun W => by
            have := numbers_any W a n (by omega) hin
            rw [show (a + n - 1) / 4096 + 1 = en by omega, show a / 4096 = f by omega] at this
            exact this
          have hm : mapM M a n prot = mapIn M f (en - f) prot := by
            unfold mapM; rw [if_pos e1, hfs, show n / 4096 = en - f by omega]
          rw [hfs, show n / 4096 = en - f by omega] at hclear
          have hok2 : Ok (mapIn M f (en - f) prot) := by
            rw [← hm]; exact mapM_ok h.ok a n prot
          have hfe : f < en := by omega
          have hen2 : en ≤ 34359738368 := by omega
          have hpg : M.length + (en - f) ≤ 8192 := by omega
          have hRes : ∀ w', SpIn w' b (mapIn M f (en - f) prot) (grow F w w') → Chg F w w' → MapRes w b M F a n prot (.returned (.int .i64 0)) w' := fun w' g1 g2 => ⟨by rw [e1], by rw [hm]; exact g1, g2⟩
          have HRES := Lib.hid hRes
          have HCL := Lib.hid hclear
          have HOK2 := Lib.hid hok2
          have HH := Lib.hid h
          have hnilm := fun (W : World) (r : Option Nat) => run_eql_map_nil (P := Try.prog) W 76 32 142 r Try.underlying76
          clear hRes hclear hok2 h e0 e1 hin hbad h1 h2 h3 hfr hmany hm hfs hb2 hf hen hnl ha
          go_enter Try.func25, Try.ntmps25
          go_wp2_with (first
            | (go_at_call 64; refine HI1.out.mono ?_; rintro e _ ⟨rfl, rfl⟩)
            | (go_at_call 41; refine HFR.out.mono ?_; rintro e w1 ⟨rfl, hb1⟩; obtain ⟨mb, A, hbw, hpw⟩ := (HH.out.keepB hb1).own; have cb := cell_of_one hbw; have HP := Lib.hid hpw.map; clear hbw hpw)
            | (go_at_call 65; refine (HN.out _).mono ?_; rintro e _ ⟨rfl, rfl⟩)
            | (refine wpList_pages_len rfl (.tmp 53) rfl mb HP.out rfl ?_))
          have HB1 := Lib.hid hb1
          have HH1 := Lib.hid (HH.out.keepB hb1)
          clear hb1 cb HP i1 hnilm
          go_loopw [11] (fun t wr => ∃ i : Nat, f ≤ i ∧ i ≤ en ∧ t = .int .u64 i ∧ Hid (MapSt w1 b M F f (i - f) prot wr)) (fun t _ => en - (intOf t).toNat)
          case atStart => exact ⟨f, Nat.le_refl _, Nat.le_of_lt hfe, rfl, by rw [Nat.sub_self]; exact MapSt.start HH1.out f prot⟩
          case round =>
            obtain ⟨i, hi1, hi2, rfl, HR⟩ := hrel
            obtain ⟨hchg, mb2, A2, hb2, hp2, hfm2, hA2⟩ := HR.out
            by_cases hlt : i < en
            · have cb2 := cell_of_one hb2
              have hnone : pgFn (mapIn M f (i - f) prot) A2 i = none := by
                unfold pgFn
                rw [pg_mapIn, if_neg (by omega)]
                have : pg M i = none := pg_none.2 fun p hp e => HCL.out p hp (by omega)
                rw [this]; rfl
              have HNONE := Lib.hid hnone
              have HP2 := Lib.hid hp2
              have HA2 := Lib.hid hA2
              have HB2 := Lib.hid hb2
              have hl2 : (mapIn M f (i - f) prot).length ≤ 8192 := by rw [mapIn_length]; omega
              have HM2 := Lib.hid (hp2.map.kept (hp_old wr (.cells (bytesArr noughts) 140) mb2 hp2.map.lt))
              clear hchg hnone hp2 hA2 hb2
              go_wp2_with (first
                | (refine wpList_newpage rfl rfl ?_)
                | (refine wpList_page_put rfl (.tmp 82) (.tmp 83) (.tmp 86) rfl mb2 HM2.out rfl (by omega) i (by omega) rfl HNONE.out (wr.heap.size, prot) rfl ?_; intro w2 hm2 hg2; have HMM := Lib.hid hm2; have HGG := Lib.hid hg2; clear hm2 hg2))
              go_roundw
              case rel =>
                refine ⟨i + 1, by omega, by omega, by go_num, ?_⟩
                have := HR.out.step HCL.out (show i - f < en - f by omega) HB2.out HP2.out hfm2 HA2.out (w2 := w2) (by rw [show f + (i - f) = i by omega]; exact HMM.out) HGG.out
                rw [show i - f + 1 = i + 1 - f by omega] at this
                exact this
              case measure => simp [intOf]; omega
            · obtain rfl : i = en := by omega
              have hst := HR.out.done HH1.out HOK2.out
              have hch := HR.out.chg
              have HST := Lib.hid hst
              have HCH := Lib.hid hch
              clear hst hch hchg hb2 hp2 hfm2 hA2
              go_wp2_with fail
              go_ret
              refine HRES.out _ ?_ ?_
              · exact HST.out.regrow HB1.out.size
              · exact (Chg.of_below HB1.out).trans (HCH.out.mono fun k _ hk => .inl hk)
end Go.Proofs.Ytepnaalgobhcdaa
namespace Go.Proofs.Ytepnaalgobhcdaa
open Go.RowKit Spm

section
variable {ops : Array Oper} {rest : List Oper} {o : Oper} {a : Act} {w : World} {Q : Exit → Act → World → Prop}
theorem wpList_page_some (hg : o.guard = none) (m x : Operand) (hop : o.op = Op.lookup 76 m x true) (b : Nat) {f : Nat → Option (Nat × Int)} {c : Nat} (h : PgMap w b f c) (hm : a.eval m = .map (some b)) (n : Nat) (hn : n < 18446744073709551616) (hx : a.eval x = .int .u64 (n : Int)) (p : Nat × Int) (hf : f n = some p)
    (hK : wpList Try.prog ops Q rest (a.put o.dst (.tuple #[.agg #[.pointer (some ⟨p.1, 0, none⟩), .int .i64 p.2], .bool true])) w) : wpList Try.prog ops Q (o :: rest) a w :=
  wpList_page_ok hg m x hop b h hm n hn hx (by rw [hf]; exact hK)
theorem wpList_page_miss (hg : o.guard = none) (m x : Operand) (hop : o.op = Op.lookup 76 m x true) (b : Nat) {f : Nat → Option (Nat × Int)} {c : Nat} (h : PgMap w b f c) (hm : a.eval m = .map (some b)) (n : Nat) (hn : n < 18446744073709551616) (hx : a.eval x = .int .u64 (n : Int)) (hf : f n = none)
    (hK : wpList Try.prog ops Q rest (a.put o.dst (.tuple #[.agg #[.pointer none, .int .i64 0], .bool false])) w) : wpList Try.prog ops Q (o :: rest) a w :=
  wpList_page_ok hg m x hop b h hm n hn hx (by rw [hf]; exact hK)
end

theorem and_prot {P r : Int} (hP : 1 ≤ P ∧ P ≤ 7) (hr : r = 0 ∨ r = 1 ∨ r = 2) : (bits .and .i64 P r != r) = !hasP P r := by
  have : P = 1 ∨ P = 2 ∨ P = 3 ∨ P = 4 ∨ P = 5 ∨ P = 6 ∨ P = 7 := by omega
  rcases this with rfl | rfl | rfl | rfl | rfl | rfl | rfl <;> rcases hr with rfl | rfl | rfl <;> decide

def lackVal (M : List Pg) (f i : Nat) (r : Int) : Int := if lacks M f i r then 19 else 0
theorem lacks_step {M : List Pg} {f i : Nat} {r : Int} {p : Pg} (hi : f ≤ i) (hp : pg M i = some p) : lacks M f (i + 1) r = (lacks M f i r || !hasP p.prot r) := by
  unfold lacks
  rw [show i + 1 - f = (i - f) + 1 by omega, List.range_succ, List.any_append]
  simp [show f + (i - f) = i by omega, hp]
theorem missing_step {M : List Pg} {f i : Nat} {p : Pg} (hi : f ≤ i) (hp : pg M i = some p) : missing M f (i + 1) = missing M f i := by
  unfold missing
  rw [show i + 1 - f = (i - f) + 1 by omega, List.range_succ, List.any_append]
  simp [show f + (i - f) = i by omega, hp]
theorem missing_zero (M : List Pg) (f : Nat) : missing M f f = false := by simp [missing]
theorem lacks_zero (M : List Pg) (f : Nat) (r : Int) : lacks M f f r = false := by simp [lacks]

def lookVal (M : List Pg) (f e : Nat) (r : Int) : Int := if missing M f e then 4 else if lacks M f e r then 19 else 0
def LookRes (w : World) (er : Int) (e : Ending) (w' : World) : Prop := e = .returned (.int .i64 er) ∧ Below w.heap.size w w'

set_option maxHeartbeats 2000000 in
set_option maxRecDepth 100000 in
theorem look_any (w : World) (b : Nat) (M : List Pg) (F : Nat → Prop) (h : SpIn w b M F) (a n : Nat) (ha : a < 18446744073709551616) (r : Int) (hr : r = 0 ∨ r = 1 ∨ r = 2) :
    Calls Try.prog 75 #[.pointer (some ⟨b, 0, none⟩), .int .u64 a, .int .u64 n, .int .i64 r] w (LookRes w (lookErr M a n r)) := by
  have HR0 := Lib.hid hr
  clear hr
  by_cases h0 : n = 0
  · have e : lookErr M a n r = 0 := by simp [lookErr, h0]
    rw [e]
    subst h0
    clear h e
    go_enter Try.func75, Try.ntmps75
    go_wp2_with fail
    go_ret
    exact ⟨rfl, Below.refl _ _⟩
  · have hz : ((n : Int) == 0) = false := by simp; exact h0
    cases hin : inB a n with
    | false =>
      have HI1 : Hid (Calls Try.prog 64 #[.int .u64 a, .int .u64 n] w fun e w' => e = .returned (.bool false) ∧ w = w') := by
        have := in_any w a n ha; rw [hin] at this; exact this
      have e : lookErr M a n r = 4 := by simp [lookErr, h0, hin]
      rw [e]
      clear h e hin
      go_enter Try.func75, Try.ntmps75
      go_wp2_with (go_at_call 64; refine HI1.out.mono ?_; rintro e _ ⟨rfl, rfl⟩)
      go_ret
      exact ⟨rfl, Below.refl _ _⟩
    | true =>
      have HI1 : Hid (Calls Try.prog 64 #[.int .u64 a, .int .u64 n] w fun e w' => e = .returned (.bool true) ∧ w = w') := by
        have := in_any w a n ha; rw [hin] at this; exact this
      have e0 : lookErr M a n r = lookVal M (fst a) (lst a n) r := by unfold lookErr lookVal; rw [if_neg h0, if_neg (by simp [hin])]
      rw [e0]
      have HN : Hid (∀ W, Calls Try.prog 65 #[.int .u64 a, .int .u64 n] W fun e w' => e = .returned (.tuple #[.int .u64 (fst a), .int .u64 (lst a n)]) ∧ W = w') := fun W => numbers_any W a n (by omega) hin
      have hfl : fst a < lst a n := by unfold fst lst; omega
      have hle : lst a n ≤ 34359738368 := by simp [inB] at hin; unfold lst; omega
      generalize fst a = f at *
      generalize lst a n = en at *
      obtain ⟨mb, A, hb, hp⟩ := h.own
      have cb := cell_of_one hb
      have HP := Lib.hid hp.map
      have hlen := h.ok.few
      have HOK := Lib.hid h.ok
      have HB := Lib.hid hb
      have hbl := lt_of_block hb
      clear h hb hp e0 hin ha h0
      by_cases hbig : M.length < en - f
      · have e1 : missing M f en = true := by
          cases hm : missing M f en with
          | true => rfl
          | false => have := present_le hm; omega
        have e2 : lookVal M f en r = 4 := by unfold lookVal; rw [if_pos e1]
        rw [e2]
        have i1 : (M.length : Int) < (en : Int) - (f : Int) := by omega
        clear e1 e2 hbig
        go_enter Try.func75, Try.ntmps75
        go_wp2_with (first
          | (go_at_call 64; refine HI1.out.mono ?_; rintro e _ ⟨rfl, rfl⟩)
          | (go_at_call 65; refine (HN.out _).mono ?_; rintro e _ ⟨rfl, rfl⟩)
          | (refine wpList_pages_len rfl (.tmp 38) rfl mb HP.out rfl ?_))
        go_ret
        exact ⟨rfl, Below.refl _ _⟩
      · have i1 : ¬ (M.length : Int) < (en : Int) - (f : Int) := by omega
        clear hbig
        go_enter Try.func75, Try.ntmps75
        go_wp2_with (first
          | (go_at_call 64; refine HI1.out.mono ?_; rintro e _ ⟨rfl, rfl⟩)
          | (go_at_call 65; refine (HN.out _).mono ?_; rintro e _ ⟨rfl, rfl⟩)
          | (refine wpList_pages_len rfl (.tmp 38) rfl mb HP.out rfl ?_))
        clear i1 HI1 HN
        go_loopw [11, 12] (fun ev t wr => ∃ i : Nat, f ≤ i ∧ i ≤ en ∧ t = .int .u64 i ∧ ev = .int .i64 (lackVal M f i r) ∧ Hid (missing M f i = false) ∧ Hid (Below w.heap.size w wr)) (fun _ t _ => en - (intOf t).toNat)
        case atStart => exact ⟨f, Nat.le_refl _, Nat.le_of_lt hfl, rfl, by unfold lackVal; rw [lacks_zero]; rfl, missing_zero M f, Below.refl _ _⟩
        case round =>
          obtain ⟨i, hi1, hi2, rfl, rfl, HM, HBW⟩ := hrel
          by_cases hlt : i < en
          · have cb2 := cell_keep cb HBW.out
            have HP2 := Lib.hid (HP.out.kept (HBW.out.block mb HP.out.lt))
            cases hpi : pg M i with
            | none =>
              have hf : pgFn M A i = none := by unfold pgFn; rw [hpi]; rfl
              have HF := Lib.hid hf
              have HMT := Lib.hid (missing_true hi1 hlt hpi)
              clear hf hpi cb
              go_wp2_with (refine wpList_page_miss rfl (.tmp 52) (.tmp 53) rfl mb HP2.out rfl i (by omega) rfl HF.out ?_)
              go_ret
              exact ⟨by unfold lookVal; rw [HMT.out]; rfl, (HBW.out.alloc HBW.out.size _)⟩
            | some p =>
              have hf : pgFn M A i = some (A i, p.prot) := by unfold pgFn; rw [hpi]; rfl
              have hpp := HOK.out.pages p (pg_mem hpi).1
              have HF := Lib.hid hf
              have HLS := Lib.hid (lacks_step (r := r) hi1 hpi)
              have HMS := Lib.hid (missing_step hi1 hpi)
              have hand := and_prot ⟨hpp.2.1, hpp.2.2.1⟩ HR0.out
              cases hhp : hasP p.prot r with
              | true =>
                have HHP := Lib.hid hhp
                rw [hhp] at hand
                clear hf hpi hpp hhp cb
                go_wp2_with (refine wpList_page_some rfl (.tmp 52) (.tmp 53) rfl mb HP2.out rfl i (by omega) rfl _ HF.out ?_)
                go_roundw
                case rel => exact ⟨i + 1, by omega, by omega, by go_num, by unfold lackVal; rw [HLS.out, HHP.out]; simp, by show missing M f (i + 1) = false; rw [HMS.out]; exact HM.out, HBW.out.alloc HBW.out.size _⟩
                case measure => simp [intOf]; omega
              | false =>
                have HHP := Lib.hid hhp
                rw [hhp] at hand
                clear hf hpi hpp hhp cb
                go_wp2_with (refine wpList_page_some rfl (.tmp 52) (.tmp 53) rfl mb HP2.out rfl i (by omega) rfl _ HF.out ?_)
                go_roundw
                case rel => exact ⟨i + 1, by omega, by omega, by go_num, by unfold lackVal; rw [HLS.out, HHP.out]; simp, by show missing M f (i + 1) = false; rw [HMS.out]; exact HM.out, HBW.out.alloc HBW.out.size _⟩
                case measure => simp [intOf]; omega
          · obtain rfl : i = en := by omega
            go_wp2_with fail
            go_ret
            refine ⟨?_, HBW.out⟩
            unfold lookVal
            rw [HM.out]
            rfl
end Go.Proofs.Ytepnaalgobhcdaa
namespace Go.Proofs.Ytepnaalgobhcdaa
open Go.RowKit Spm

def byteVal (x : UInt8) : Value := .int .u8 ((x.toNat : Nat) : Int)
theorem bytesArr_eq (bs : List UInt8) : bytesArr bs = (bs.map byteVal).toArray := rfl
theorem pg_map {M : List Pg} {g : Pg → Pg} (hg : ∀ p, (g p).num = p.num) (n : Nat) : pg (M.map g) n = (pg M n).map g := by
  unfold pg
  rw [List.find?_map]
  congr 2
  funext p
  simp [hg]
def spliceAt (M : List Pg) (q r : Nat) (cs : List UInt8) : List Pg := M.map fun p => if p.num = q then { p with bytes := Spm.splice p.bytes r cs } else p
theorem Pages.splice {w w' : World} {mb : Nat} {A : Nat → Nat} {M : List Pg} {F : Nat → Prop} {q r : Nat} {cs : List UInt8} (hM : Ok M) (h : Pages w mb A M F) {p : Pg} (hp : p ∈ M) (hq : p.num = q)
    (hw : w'.heap[A q]? = some (.cells (bytesArr (Spm.splice p.bytes r cs)) 140 (0, 0))) (ho : ∀ k, k ≠ A q → w'.heap[k]? = w.heap[k]?) : Pages w' mb A (spliceAt M q r cs) F := by
  have hne : mb ≠ A q := fun e => by
    have := (h.page p hp).2
    rw [hq, ← e] at this
    exact h.map.notCells this
  have hfn : pgFn (spliceAt M q r cs) A = pgFn M A := by
    funext n
    unfold pgFn spliceAt
    rw [pg_map (fun p => by split <;> rfl), Option.map_map]
    congr 1
    funext p
    simp only [Function.comp]
    split <;> rfl
  refine ⟨?_, h.fmap, fun x hx => ?_, fun x hx y hy e => ?_⟩
  · rw [hfn]
    unfold spliceAt
    rw [List.length_map]
    exact h.map.kept (ho mb hne)
  · obtain ⟨y, hy, rfl⟩ := List.mem_map.1 hx
    by_cases e : y.num = q
    · have : y = p := ok_unique hM hy hp (by rw [e, hq])
      subst this
      simp only [e, if_true]
      exact ⟨by rw [← e]; exact (h.page y hy).1, hw⟩
    · simp only [e, if_false]
      refine ⟨(h.page y hy).1, ?_⟩
      rw [ho _ (fun e2 => e (by rw [← hq]; exact h.apart y hy p hp (by rw [e2, hq])))]
      exact (h.page y hy).2
  · obtain ⟨x', hx', rfl⟩ := List.mem_map.1 hx
    obtain ⟨y', hy', rfl⟩ := List.mem_map.1 hy
    have hn : ∀ z : Pg, (if z.num = q then { z with bytes := Spm.splice z.bytes r cs } else z).num = z.num := fun z => by split <;> rfl
    rw [hn, hn] at e ⊢
    exact h.apart x' hx' y' hy' e

def sliceLen : Value → Nat
  | .slice _ n _ => n
  | _ => 0
/-- The bytes that lie from a place on. -/
def BytesIn (w : World) (b o : Nat) (bs : List UInt8) : Prop := ∀ j, j < bs.length → w.cell? ⟨b, o + j, none⟩ = some (byteVal (bs.getD j 0))
structure PutSt (w : World) (b : Nat) (M : List Pg) (F : Nat → Prop) (a : Nat) (bs : List UInt8) (k : Nat) (wr : World) : Prop where
  sp : SpIn wr b (wrAll M a (bs.take k)) F
  chg : Chg F w wr
  size : wr.heap.size = w.heap.size

section
variable {ops : Array Oper} {rest : List Oper} {o : Oper} {a : Act} {w : World} {Q : Exit → Act → World → Prop}
theorem wpList_page_there (hg : o.guard = none) (m x : Operand) (hop : o.op = Op.lookup 76 m x false) (b : Nat) {f : Nat → Option (Nat × Int)} {c : Nat} (h : PgMap w b f c) (hm : a.eval m = .map (some b)) (n : Nat) (hn : n < 18446744073709551616) (hx : a.eval x = .int .u64 (n : Int)) (p : Nat × Int) (hf : f n = some p)
    (hK : wpList Try.prog ops Q rest (a.put o.dst (.agg #[.pointer (some ⟨p.1, 0, none⟩), .int .i64 p.2])) w) : wpList Try.prog ops Q (o :: rest) a w :=
  wpList_page hg m x hop b h hm n hn hx (by rw [hf]; exact hK)
end
theorem field142 (x y : Value) (w : World) : (Instr.field 142 (.agg #[x, y]) 0).run Try.prog w = .ok x w := by kernel_rfl
theorem under140 : Try.prog.underlying 140 = some (.array (Try.prog.arrayLen 140) (Try.prog.elem 140)) := by kernel_rfl
theorem len140 : Try.prog.arrayLen 140 = 4096 := by kernel_rfl
theorem size140 (w : World) : (sizeOf (Try.prog.elem 140)).run Try.prog w = .ok 1 w := by kernel_rfl
theorem slice140 (w : World) (A r : Nat) (hr : r < 4096) : (Instr.sliceAt 140 (.pointer (some ⟨A, 0, none⟩)) (some (.int .u64 (r : Int))) none none).run Try.prog w = .ok (.slice (some ⟨A, r, none⟩) (4096 - r) (4096 - r)) w := by
  rw [run_sliceAt_array_l (P := Try.prog) w 140 ⟨A, 0, none⟩ under140 .u64 (r : Int) (by omega) (by rw [len140]; omega), size140]
  simp only [Result.andThen_ok, slicedAt, len140, Int.toNat_natCast]
  rw [if_neg (by omega)]
  by_cases h0 : r = 0
  · subst h0; simp [Addr.add]
  · simp [Addr.add, h0]
theorem slice140' (w : World) (A r e : Nat) (hr : r ≤ e) (he : e ≤ 4096) (hr' : r < 4096) : (Instr.sliceAt 140 (.pointer (some ⟨A, 0, none⟩)) (some (.int .u64 (r : Int))) (some (.int .u64 (e : Int))) none).run Try.prog w = .ok (.slice (some ⟨A, r, none⟩) (e - r) (4096 - r)) w := by
  rw [run_sliceAt_array_lh (P := Try.prog) w 140 ⟨A, 0, none⟩ under140 .u64 .u64 (r : Int) (e : Int) (by omega) (by omega) (by rw [len140]; omega), size140]
  simp only [Result.andThen_ok, slicedAt, len140, Int.toNat_natCast]
  rw [if_neg (by omega)]
  by_cases h0 : r = 0
  · subst h0; simp [Addr.add]
  · simp [Addr.add, h0]
theorem field142' (x y : Value) (w : World) : (Instr.field 142 (.agg #[x, y]) 1).run Try.prog w = .ok y w := by kernel_rfl

/-- w' is w but for the cells of one block. -/
structure Turned (g : Nat) (bs : List UInt8) (w w' : World) : Prop where
  os : w'.os = w.os
  tape : w'.tape = w.tape
  output : w'.output = w.output
  size : w'.heap.size = w.heap.size
  block : ∀ k, k ≠ g → w'.heap[k]? = w.heap[k]?
  row : w'.heap[g]? = some (.cells (bytesArr bs) 140 (0, 0))
section
variable {ops : Array Oper} {rest : List Oper} {o : Oper} {a : Act} {w : World} {Q : Exit → Act → World → Prop}
theorem byteVal_one (x : UInt8) : (byteVal x).oneCell' = true := rfl
/-- 'copy(p.bytes[r:], bs)'. -/
theorem wpList_copy_page (hg : o.guard = none) (d s : Operand) (ho : o.op = .call { callee := .builtin .copy, args := #[d, s], argTypes := #[57, 57] })
    (g off dLen dCap sb so sLen sCap : Nat) (hd : a.eval d = .slice (some ⟨g, off, none⟩) dLen dCap) (hs : a.eval s = .slice (some ⟨sb, so, none⟩) sLen sCap)
    (L : List UInt8) (hL : w.heap[g]? = some (.cells (bytesArr L) 140 (0, 0))) (bs cs : List UInt8) (hbs : BytesIn w sb so bs) (hcs : cs = bs.take cs.length) (hn : cs.length = min sLen dLen) (hl : bs.length = sLen) (hfit : off + cs.length ≤ L.length)
    (h : ∀ w', Turned g (Spm.splice L off cs) w w' → wpList Try.prog ops Q rest (a.put o.dst (.int .i64 cs.length)) w') : wpList Try.prog ops Q (o :: rest) a w := by
  refine wpList_copy_own hg d s 57 57 ho 5 Try.underlying57 (by kernel_rfl) g off dLen dCap ⟨sb, so, none⟩ sLen sCap hd hs (bytesArr L) 140 hL (cs.map byteVal) (by simpa using hn) ?_ (by simpa [bytesArr] using hfit) ?_ ?_
  · intro j v hv
    rw [List.getElem?_map] at hv
    obtain ⟨x, hx, rfl⟩ := Option.map_eq_some_iff.1 hv
    obtain ⟨hj, e⟩ := List.getElem?_eq_some_iff.1 hx
    have := hbs j (by omega)
    rw [show (⟨sb, so, none⟩ : Addr).add j = ⟨sb, so + j, none⟩ by simp [Addr.add], this]
    congr 2
    have e2 : cs[j]? = bs[j]? := by rw [hcs, List.getElem?_take, if_pos hj]
    rw [hx] at e2
    rw [List.getD, ← e2]; rfl
  · intro v hv
    obtain ⟨x, _, rfl⟩ := List.mem_map.1 hv
    rfl
  · rw [List.length_map]
    refine h _ ⟨rfl, rfl, rfl, by simp [World.setRow], fun k hk => setRow_other w g k _ hk, ?_⟩
    rw [setRow_heap w g _ _ _ _ hL]
    congr 2
    unfold Spm.splice bytesArr
    simp [byteVal, List.map_take, List.map_drop]
end

theorem BytesIn.drop {w : World} {sb so : Nat} {bs : List UInt8} (h : BytesIn w sb so bs) (k : Nat) : BytesIn w sb (so + k) (bs.drop k) := fun j hj => by
  rw [List.length_drop] at hj
  have := h (k + j) (by omega)
  rw [Nat.add_assoc, this]
  congr 2
  simp [List.getD_eq_getElem?_getD, List.getElem?_drop]
theorem BytesIn.keep {w w' : World} {sb so : Nat} {bs : List UInt8} (h : BytesIn w sb so bs) (he : w'.heap[sb]? = w.heap[sb]?) : BytesIn w' sb so bs := fun j hj => by
  have := h j hj
  unfold World.cell? at this ⊢
  rw [← this]
  simp only [he]

theorem PutSt.step {w : World} {b : Nat} {M : List Pg} {F : Nat → Prop} {a : Nat} {bs : List UInt8} {k : Nat} {wr w2 : World} (h : PutSt w b M F a bs k wr) (hk : k ≤ bs.length) {mb : Nat} {A : Nat → Nat}
    (hb : wr.heap[b]? = some (.cells #[.map (some mb)] 78 (0, 0))) (hp : Pages wr mb A (wrAll M a (bs.take k)) F) {q r : Nat} (hq : q = (a + k) / 4096) (hr : r = (a + k) % 4096) {p : Pg} (hpg : pg (wrAll M a (bs.take k)) q = some p)
    {cs : List UInt8} (hcs : cs = (bs.drop k).take cs.length) (hfit : r + cs.length ≤ 4096) (ht : Turned (A q) (Spm.splice p.bytes r cs) wr w2) : PutSt w b M F a bs (k + cs.length) w2 := by
  obtain ⟨hm, hn⟩ := pg_mem hpg
  have hpm := hp.page p hm
  rw [hn] at hpm
  have e : wrAll M a (bs.take (k + cs.length)) = spliceAt (wrAll M a (bs.take k)) q r cs := by
    rw [List.take_add, ← hcs, wrAll_append, List.length_take, Nat.min_eq_left hk, wrAll_chunk cs _ (a + k) (fun p hp' => (h.sp.ok.pages p hp').2.2.2) (by omega), hq, hr]
    rfl
  have hne : b ≠ A q := fun e2 => by
    rw [e2, hpm.2] at hb
    have h2 := Option.some.inj hb
    injection h2 with _ h3 _
    cases h3
  refine ⟨⟨(wrAll_alike _ _ _).ok (Spm.Alike.ok (Eq.symm (wrAll_alike _ _ _)) h.sp.ok), ⟨mb, A, by rw [ht.block b hne]; exact hb, ?_⟩, h.sp.fb, fun i hi => by rw [ht.size]; exact h.sp.lt i hi⟩, ?_, by rw [ht.size]; exact h.size⟩
  · rw [e]
    exact Pages.splice h.sp.ok hp hm hn ht.row ht.block
  · exact ⟨ht.os.trans h.chg.os, ht.tape.trans h.chg.tape, ht.output.trans h.chg.output, by rw [ht.size]; exact h.chg.size, fun i hi hnF => by
      rw [ht.block i (fun e2 => hnF (e2 ▸ hpm.1))]; exact h.chg.block i hi hnF⟩

set_option maxHeartbeats 1000000 in
set_option maxRecDepth 100000 in
theorem put_any (w : World) (b : Nat) (M : List Pg) (F : Nat → Prop) (h : SpIn w b M F) (a : Nat) (bs : List UInt8) (sb so c : Nat) (hbs : BytesIn w sb so bs) (hsF : ¬ F sb) (hsl : sb < w.heap.size) (hc : bs.length ≤ c) (hcm : c ≤ 9223372036854775807) (hin : a + bs.length ≤ 140737488355328)
    (hall : missing M (fst a) (lst a bs.length) = false) :
    Calls Try.prog 76 #[.pointer (some ⟨b, 0, none⟩), .int .u64 a, .slice (some ⟨sb, so, none⟩) bs.length c] w fun e w' => e = .returned (.tuple #[]) ∧ PutSt w b M F a bs bs.length w' := by
  have HBS := Lib.hid hbs
  have HALL := Lib.hid hall
  have hst : PutSt w b M F a bs 0 w := ⟨h, Chg.refl _ _, rfl⟩
  have HST := Lib.hid hst
  have HSF := Lib.hid hsF
  have hfld := field142
  have hslc := slice140
  clear hbs hall hst h hsF
  go_enter Try.func76, Try.ntmps76
  go_wp2_with fail
  go_loopw [1, 2] (fun t1 t2 wr => ∃ (k m at_ c' : Nat) (ad : Option Addr), t1 = .int .u64 at_ ∧ t2 = .slice ad m c' ∧ Hid (k + m = bs.length) ∧ Hid (at_ = a + k) ∧ at_ + m ≤ 140737488355328 ∧ m ≤ c' ∧ c' ≤ 9223372036854775807 ∧ Hid (0 < m → ad = some ⟨sb, so + k, none⟩) ∧ Hid (PutSt w b M F a bs k wr)) (fun _ t2 _ => sliceLen t2)
  case atStart => exact ⟨0, bs.length, a, c, _, rfl, rfl, Nat.zero_add _, rfl, hin, hc, hcm, fun _ => rfl, HST.out⟩
  case round =>
    obtain ⟨k, m, at_, c', ad, rfl, rfl, HK, HA, hle, hmc, hcm', HAD, HP⟩ := hrel
    by_cases hm : 0 < m
    · have had := HAD.out hm
      rw [had]
      clear had
      obtain ⟨mb, A, hb, hpg⟩ := HP.out.sp.own
      have cb := cell_of_one hb
      have HPM := Lib.hid hpg.map
      have hk := HK.out
      have hat := HA.out
      obtain ⟨q, hq⟩ : ∃ q, q = at_ / 4096 := ⟨_, rfl⟩
      obtain ⟨r, hr⟩ : ∃ r, r = at_ % 4096 := ⟨_, rfl⟩
      have hr' : r < 4096 := by omega
      obtain ⟨p, hp⟩ : ∃ p, pg (wrAll M a (bs.take k)) q = some p := by
        have ha : Spm.Alike M (wrAll M a (bs.take k)) := wrAll_alike _ _ _
        obtain ⟨p0, hp0⟩ := missing_false HALL.out (n := q) (by unfold fst; omega) (by unfold lst; omega)
        obtain ⟨m1, m2⟩ := pg_mem hp0
        have m3 : (p0.num, p0.prot, p0.bytes.length) ∈ (wrAll M a (bs.take k)).map fun p => (p.num, p.prot, p.bytes.length) := by
          rw [ha]; exact List.mem_map.2 ⟨p0, m1, rfl⟩
        obtain ⟨p, hp1, hp2⟩ := List.mem_map.1 m3
        simp only [Prod.mk.injEq] at hp2
        refine ⟨p, ?_⟩
        rw [← m2, ← hp2.1]
        exact pg_of_mem HP.out.sp.ok hp1
      have hf : pgFn (wrAll M a (bs.take k)) A q = some (A q, p.prot) := by unfold pgFn; rw [hp]; rfl
      have HF := Lib.hid hf
      have hpm := hpg.page p (pg_mem hp).1
      rw [(pg_mem hp).2] at hpm
      have hpl := (HP.out.sp.ok.pages p (pg_mem hp).1).2.2.2
      have HPG := Lib.hid hpm.2
      have HSrc : Hid (BytesIn wr sb (so + k) (bs.drop k)) := (HBS.out.drop k).keep (HP.out.chg.block sb hsl HSF.out)
      have hdl : (bs.drop k).length = m := by rw [List.length_drop]; omega
      have hstep : ∀ (cs : List UInt8) (w2 : World), cs = (bs.drop k).take cs.length → r + cs.length ≤ 4096 → Turned (A q) (Spm.splice p.bytes r cs) wr w2 → PutSt w b M F a bs (k + cs.length) w2 :=
        fun cs w2 h1 h2 h3 => HP.out.step (by omega) hb hpg (by rw [← hat]; exact hq) (by rw [← hat]; exact hr) hp h1 h2 h3
      have HSTEP := Lib.hid hstep
      have ed : (at_ : Int) / 4096 = (q : Int) := by omega
      have em : (at_ : Int) % 4096 = (r : Int) := by omega
      have hqb : q < 34359738368 := by omega
      have HQ := Lib.hid hq
      have HR := Lib.hid hr
      have HPL := Lib.hid hpl
      have HDL := Lib.hid hdl
      obtain ⟨ds, hds⟩ : ∃ ds, ds = bs.drop k := ⟨_, rfl⟩
      rw [← hds] at HDL HSrc HSTEP
      clear hf hp hpg hb hq hr hpm hstep hk hat hdl hpl hds
      by_cases hs : m ≤ 4096 - r
      · go_wp2_with (first
          | (refine wpList_page_there rfl (.tmp 13) (.tmp 15) rfl mb HPM.out rfl q (by omega) (by simp [Act.eval]) _ HF.out ?_)
          | (refine wpList_copy_page rfl (.tmp 21) (.tmp 22) rfl (A q) r (4096 - r) (4096 - r) sb (so + k) m c' rfl rfl p.bytes HPG.out ds ds HSrc.out (by simp) (by rw [HDL.out]; omega) HDL.out (by rw [HDL.out, HPL.out]; omega) ?_; intro w2 ht; have HT := Lib.hid ht; clear ht; rw [HDL.out]))
        have hst2 := HSTEP.out ds w2 (by simp) (by rw [HDL.out]; omega) HT.out
        rw [HDL.out] at hst2
        have HST2 := Lib.hid hst2
        clear hst2
        refine ⟨⟨k + m, 0, at_ + m, c' - m, _, by go_num, rfl, HK.out, ?_, by omega, by omega, by omega, fun h0 => absurd h0 (by omega), HST2.out⟩, ?_⟩
        · have := HA.out; show at_ + m = a + (k + m); omega
        · show 0 < m; exact hm
      · obtain ⟨j, hj⟩ : ∃ j, j = 4096 - r := ⟨_, rfl⟩
        have hjm : j < m := by omega
        have hj0 : 0 < j := by omega
        have hrj : r + j = 4096 := by omega
        obtain ⟨cs, hcs⟩ : ∃ cs, cs = ds.take j := ⟨_, rfl⟩
        have hcl : cs.length = j := by rw [hcs, List.length_take, HDL.out]; omega
        have HCL := Lib.hid hcl
        have HCS : Hid (cs = ds.take cs.length) := by show cs = _; rw [hcl]; exact hcs
        clear hcl hcs hj
        go_wp2_with (first
          | (refine wpList_page_there rfl (.tmp 13) (.tmp 15) rfl mb HPM.out rfl q (by omega) (by simp [Act.eval]) _ HF.out ?_)
          | (refine wpList_copy_page rfl (.tmp 21) (.tmp 22) rfl (A q) r (4096 - r) (4096 - r) sb (so + k) m c' rfl rfl p.bytes HPG.out ds cs HSrc.out HCS.out (by rw [HCL.out]; omega) HDL.out (by rw [HCL.out, HPL.out]; omega) ?_; intro w2 ht; have HT := Lib.hid ht; clear ht; rw [HCL.out]))
        have hst2 := HSTEP.out cs w2 HCS.out (by rw [HCL.out]; omega) HT.out
        rw [HCL.out] at hst2
        have HST2 := Lib.hid hst2
        clear hst2
        refine ⟨⟨k + j, m - j, at_ + j, c' - j, _, by go_num, rfl, ?_, ?_, by omega, by omega, by omega, fun h0 => by rw [Nat.add_assoc], HST2.out⟩, ?_⟩
        · have := HK.out; show k + j + (m - j) = bs.length; omega
        · have := HA.out; show at_ + j = a + (k + j); omega
        · show m - j < m; omega
    · go_wp2_with fail
      go_end0
      obtain rfl : m = 0 := by omega
      have e : k = bs.length := by have := HK.out; omega
      subst e
      exact ⟨rfl, HP.out⟩
end Go.Proofs.Ytepnaalgobhcdaa
namespace Go.Proofs.Ytepnaalgobhcdaa
open Go.RowKit Spm

def SrcIn (w : World) (F : Nat → Prop) (ad : Option Addr) (bs : List UInt8) : Prop := 0 < bs.length → ∃ sb so, ad = some ⟨sb, so, none⟩ ∧ BytesIn w sb so bs ∧ ¬ F sb ∧ sb < w.heap.size
def WriteRes (w : World) (b : Nat) (M : List Pg) (F : Nat → Prop) (a : Nat) (bs : List UInt8) (r : Int) (e : Ending) (w' : World) : Prop :=
  e = .returned (.int .i64 (lookErr M a bs.length r)) ∧ SpIn w' b (writeM M a bs r) F ∧ Chg F w w'

set_option maxRecDepth 100000 in
theorem put_zero (w : World) (p : Value) (a : Nat) (ad : Option Addr) (c : Nat) :
    Calls Try.prog 76 #[p, .int .u64 a, .slice ad 0 c] w fun e w' => e = .returned (.tuple #[]) ∧ w' = w := by
  go_enter Try.func76, Try.ntmps76
  go_wp2_with fail
  refine wp_loop_rounds 1 ?_
  rw [rounds_succ]
  go_wp2_with fail
  go_end0
  exact ⟨rfl, rfl⟩

theorem put_after {w : World} {b : Nat} {M : List Pg} {F : Nat → Prop} (h : SpIn w b M F) {a : Nat} (_ha : a < 18446744073709551616) {bs : List UInt8} {ad : Option Addr} {c : Nat} (hbs : SrcIn w F ad bs) (hc : bs.length ≤ c) (hcm : c ≤ 9223372036854775807) {r : Int}
    {w1 : World} (hb : Below w.heap.size w w1) (he : lookErr M a bs.length r = 0) :
    Calls Try.prog 76 #[.pointer (some ⟨b, 0, none⟩), .int .u64 a, .slice ad bs.length c] w1 fun e w' => e = .returned (.tuple #[]) ∧ WriteRes w b M F a bs r (.returned (.int .i64 0)) w' := by
  have hwm : writeM M a bs r = wrAll M a bs := by unfold writeM; rw [if_pos he]
  by_cases h0 : bs.length = 0
  · obtain rfl : bs = [] := List.eq_nil_of_length_eq_zero h0
    refine (put_zero w1 _ a ad c).mono ?_
    rintro e w' ⟨rfl, rfl⟩
    refine ⟨rfl, by rw [he], ?_, Chg.of_below hb⟩
    rw [hwm]
    exact h.keepB hb
  · obtain ⟨sb, so, rfl, h1, h2, h3⟩ := hbs (by omega)
    have hx : inB a bs.length = true ∧ missing M (fst a) (lst a bs.length) = false := by
      unfold lookErr at he
      rw [if_neg h0] at he
      cases hi : inB a bs.length with
      | false => rw [hi] at he; cases he
      | true =>
        rw [hi, if_neg (by decide)] at he
        cases hm : missing M (fst a) (lst a bs.length) with
        | false => exact ⟨rfl, rfl⟩
        | true => rw [hm] at he; cases he
    have hin : a + bs.length ≤ 140737488355328 := by have := hx.1; simp [inB] at this; exact this.2
    refine (put_any w1 b M F (h.keepB hb) a bs sb so c (h1.keep (hb.block sb h3)) h2 (Nat.lt_of_lt_of_le h3 hb.size) hc hcm hin hx.2).mono ?_
    rintro e w' ⟨rfl, hp⟩
    refine ⟨rfl, by rw [he], ?_, ?_⟩
    · have := hp.sp
      rw [List.take_length] at this
      rw [hwm]; exact this
    · exact (Chg.of_below hb).trans (hp.chg.mono fun k _ hk => .inl hk)

set_option maxHeartbeats 1000000 in
set_option maxRecDepth 100000 in
theorem write_any (w : World) (b : Nat) (M : List Pg) (F : Nat → Prop) (h : SpIn w b M F) (a : Nat) (ha : a < 18446744073709551616) (bs : List UInt8) (ad : Option Addr) (c : Nat) (hbs : SrcIn w F ad bs) (hc : bs.length ≤ c) (hcm : c ≤ 9223372036854775807) :
    Calls Try.prog 38 #[.pointer (some ⟨b, 0, none⟩), .int .u64 a, .slice ad bs.length c] w (WriteRes w b M F a bs 2) := by
  have HL : Hid (Calls Try.prog 75 #[.pointer (some ⟨b, 0, none⟩), .int .u64 a, .int .u64 bs.length, .int .i64 2] w (LookRes w (lookErr M a bs.length 2))) := look_any w b M F h a bs.length ha 2 (by decide)
  have hput : ∀ w1, Below w.heap.size w w1 → lookErr M a bs.length 2 = 0 → Calls Try.prog 76 #[.pointer (some ⟨b, 0, none⟩), .int .u64 a, .slice ad bs.length c] w1 fun e w' => e = .returned (.tuple #[]) ∧ WriteRes w b M F a bs 2 (.returned (.int .i64 0)) w' :=
    fun w1 hb he => put_after h ha hbs hc hcm hb he
  have HPUT := Lib.hid hput
  by_cases he : lookErr M a bs.length 2 = 0
  · have HE := Lib.hid he
    rw [he] at HL
    clear h hbs hput he
    go_enter Try.func38, Try.ntmps38
    go_wp2_with (first
      | (go_at_call 75; refine HL.out.mono ?_; rintro e w1 ⟨rfl, hb1⟩; have HB1 := Lib.hid hb1; clear hb1)
      | (go_at_call 76; refine (HPUT.out _ HB1.out HE.out).mono ?_; rintro e w2 ⟨rfl, hr2⟩; have HR2 := Lib.hid hr2; clear hr2))
    go_ret
    exact HR2.out
  · have hres : ∀ w1, Below w.heap.size w w1 → WriteRes w b M F a bs 2 (.returned (.int .i64 (lookErr M a bs.length 2))) w1 := fun w1 hb => ⟨rfl, by unfold writeM; rw [if_neg he]; exact h.keepB hb, Chg.of_below hb⟩
    have HRES := Lib.hid hres
    generalize lookErr M a bs.length 2 = er at *
    have i1 : ((er : Int) != 0) = true := by rw [bne_iff_ne]; exact he
    clear h hbs hput he hres HPUT
    go_enter Try.func38, Try.ntmps38
    go_wp2_with (go_at_call 75; refine HL.out.mono ?_; rintro e w1 ⟨rfl, hb1⟩; have HB1 := Lib.hid hb1; clear hb1)
    go_ret
    exact HRES.out _ HB1.out

set_option maxHeartbeats 1000000 in
set_option maxRecDepth 100000 in
theorem fill_any (w : World) (b : Nat) (M : List Pg) (F : Nat → Prop) (h : SpIn w b M F) (a : Nat) (ha : a < 18446744073709551616) (bs : List UInt8) (ad : Option Addr) (c : Nat) (hbs : SrcIn w F ad bs) (hc : bs.length ≤ c) (hcm : c ≤ 9223372036854775807) :
    Calls Try.prog 37 #[.pointer (some ⟨b, 0, none⟩), .int .u64 a, .slice ad bs.length c] w (WriteRes w b M F a bs 0) := by
  have HL : Hid (Calls Try.prog 75 #[.pointer (some ⟨b, 0, none⟩), .int .u64 a, .int .u64 bs.length, .int .i64 0] w (LookRes w (lookErr M a bs.length 0))) := look_any w b M F h a bs.length ha 0 (by decide)
  have hput : ∀ w1, Below w.heap.size w w1 → lookErr M a bs.length 0 = 0 → Calls Try.prog 76 #[.pointer (some ⟨b, 0, none⟩), .int .u64 a, .slice ad bs.length c] w1 fun e w' => e = .returned (.tuple #[]) ∧ WriteRes w b M F a bs 0 (.returned (.int .i64 0)) w' :=
    fun w1 hb he => put_after h ha hbs hc hcm hb he
  have HPUT := Lib.hid hput
  by_cases he : lookErr M a bs.length 0 = 0
  · have HE := Lib.hid he
    rw [he] at HL
    clear h hbs hput he
    go_enter Try.func37, Try.ntmps37
    go_wp2_with (first
      | (go_at_call 75; refine HL.out.mono ?_; rintro e w1 ⟨rfl, hb1⟩; have HB1 := Lib.hid hb1; clear hb1)
      | (go_at_call 76; refine (HPUT.out _ HB1.out HE.out).mono ?_; rintro e w2 ⟨rfl, hr2⟩; have HR2 := Lib.hid hr2; clear hr2))
    go_ret
    exact HR2.out
  · have hres : ∀ w1, Below w.heap.size w w1 → WriteRes w b M F a bs 0 (.returned (.int .i64 (lookErr M a bs.length 0))) w1 := fun w1 hb => ⟨rfl, by unfold writeM; rw [if_neg he]; exact h.keepB hb, Chg.of_below hb⟩
    have HRES := Lib.hid hres
    generalize lookErr M a bs.length 0 = er at *
    have i1 : ((er : Int) != 0) = true := by rw [bne_iff_ne]; exact he
    clear h hbs hput he hres HPUT
    go_enter Try.func37, Try.ntmps37
    go_wp2_with (go_at_call 75; refine HL.out.mono ?_; rintro e w1 ⟨rfl, hb1⟩; have HB1 := Lib.hid hb1; clear hb1)
    go_ret
    exact HRES.out _ HB1.out
end Go.Proofs.Ytepnaalgobhcdaa
namespace Go.Proofs.Ytepnaalgobhcdaa
open Go.RowKit Spm

def bvs (bs : List UInt8) : List Value := bs.map byteVal
theorem bvs_len {L : List UInt8} (hl : L.length = 4096) {r j : Nat} (h : j ≤ 4096 - r) : (bvs ((L.drop r).take j)).length = j * 1 := by
  unfold bvs
  rw [List.length_map, List.length_take, List.length_drop, hl]
  omega
theorem infoU8 : (Try.prog.info? 5).map (fun i => (i.zero, i.size, i.bytes)) = some (some (.int .u8 0), 1, 1) := by kernel_rfl
def ReadRes (w : World) (M : List Pg) (a n : Nat) (e : Ending) (w' : World) : Prop :=
  ∃ v, e = .returned (.tuple #[v, .int .i64 (readErr M a n)]) ∧ Below w.heap.size w w' ∧ (readErr M a n ≠ 0 → v = .slice none 0 0) ∧ (readErr M a n = 0 → w'.ownsRow w.heap.size 5 1 v n (bvs (readAll M a n)))
/-- k bytes have been read. -/
structure ReadSt (w : World) (M : List Pg) (a k : Nat) (v : Value) (wr : World) : Prop where
  own : wr.ownsRow w.heap.size 5 1 v k (bvs (readAll M a k))
  below : Below w.heap.size w wr
theorem bytes_page {w : World} {g : Nat} {L : List UInt8} (h : w.heap[g]? = some (.cells (bytesArr L) 140 (0, 0))) {r m : Nat} (j : Nat) (u : Value) (hu : (bvs ((L.drop r).take m))[j]? = some u) : w.cell? ((⟨g, r, none⟩ : Addr).add j) = some u := by
  have e : (⟨g, r, none⟩ : Addr).add j = ⟨g, r + j, none⟩ := by simp [Addr.add]
  rw [e]
  unfold bvs at hu
  rw [List.getElem?_map, List.getElem?_take] at hu
  by_cases hj : j < m
  · rw [if_pos hj, List.getElem?_drop] at hu
    simp only [World.cell?, h]
    unfold bytesArr
    show (Array.mk (L.map byteVal))[r + j]? = some u
    simpa using hu
  · rw [if_neg hj] at hu; cases hu
theorem below_row {w w' : World} {e : TypeId} {sz : Nat} {v : Value} {k : Nat} {xs : List Value} (hb : Below w.heap.size w w') (h : w'.ownsRow w.heap.size e sz v k xs) {w2 : World} (hg : w'.grownBy w2 v.ownBlock) : Below w.heap.size w w2 := by
  refine hb.trans ⟨hg.os, hg.tape, hg.output, hg.size, fun i hi => ?_⟩
  rcases h.2 with ⟨rfl, _⟩ | ⟨g, cap, cur, rfl, hbg, hgb, _⟩
  · exact hg.block i (by have := hb.size; omega) (by simp [Value.ownBlock])
  · exact hg.block i (by have := hb.size; omega) (by simp [Value.ownBlock]; omega)
theorem bvs_one (bs : List UInt8) : ∀ u ∈ bvs bs, u.oneCell' = true := fun u hu => by
  obtain ⟨x, _, rfl⟩ := List.mem_map.1 hu; rfl

set_option maxHeartbeats 2000000 in
set_option maxRecDepth 100000 in
theorem read_good (w : World) (b : Nat) (M : List Pg) (F : Nat → Prop) (h : SpIn w b M F) (a n : Nat) (ha : a < 18446744073709551616) (he : readErr M a n = 0) :
    Calls Try.prog 35 #[.pointer (some ⟨b, 0, none⟩), .int .u64 a, .int .u64 n] w (ReadRes w M a n) := by
  have hbig : ¬ 1048576 < n := fun hb => by unfold readErr at he; rw [if_pos hb] at he; cases he
  have hl : lookErr M a n 1 = 0 := by unfold readErr at he; rw [if_neg hbig] at he; exact he
  have HL : Hid (Calls Try.prog 75 #[.pointer (some ⟨b, 0, none⟩), .int .u64 a, .int .u64 n, .int .i64 1] w (LookRes w 0)) := by
    have := look_any w b M F h a n ha 1 (by decide); rw [hl] at this; exact this
  have hall : 0 < n → a + n ≤ 140737488355328 ∧ missing M (fst a) (lst a n) = false := fun h0 => by
    unfold lookErr at hl
    rw [if_neg (by omega)] at hl
    cases hi : inB a n with
    | false => rw [hi] at hl; cases hl
    | true =>
      rw [hi, if_neg (by decide)] at hl
      cases hm : missing M (fst a) (lst a n) with
      | false => simp [inB] at hi; exact ⟨hi.2, rfl⟩
      | true => rw [hm] at hl; cases hl
  have HALL := Lib.hid hall
  have HE := Lib.hid he
  have HH := Lib.hid h
  obtain ⟨i0, hi0, hz0, hz1, hz2⟩ := info_parts infoU8
  have hfld := field142
  clear h hl hall he
  go_enter Try.func35, Try.ntmps35
  go_wp2_with (go_at_call 75; refine HL.out.mono ?_; rintro e w1 ⟨rfl, hb1⟩; obtain ⟨wm, hmk, hown, hgrow⟩ := run_make_own (P := Try.prog) (w := w1) w.heap.size 57 5 i0 (.int .u8 0) 1 Try.underlying57 hi0 hz0 hz1 .i64 .u64 n (by rw [hz2]; omega) (by unfold maxLen; omega) hb1.size; have HBM : Hid (Below w.heap.size w wm) := hb1.trans ⟨hgrow.os, hgrow.tape, hgrow.output, hgrow.size, fun i hi => hgrow.block i (by have := hb1.size; omega) (by simp)⟩; have HOM := Lib.hid hown; clear hb1 hown hgrow)
  clear hmk
  go_loopw [9, 10] (fun v t wr => ∃ (k m : Nat) (ad : Option Addr) (cp : Nat), v = .slice ad k cp ∧ t = .int .u64 m ∧ k + m = n ∧ Hid (ReadSt w M a k (.slice ad k cp) wr)) (fun _ t _ => (intOf t).toNat)
  case atStart => exact ⟨0, n, _, _, rfl, rfl, Nat.zero_add _, ⟨by have := HOM.out; unfold bvs readAll; simpa using this, HBM.out⟩⟩
  case round =>
    obtain ⟨k, m, ad, cp, rfl, rfl, hkm, HP⟩ := hrel
    by_cases hm : 0 < m
    · obtain ⟨hin, hmiss⟩ := HALL.out (by omega)
      have hsp := HH.out.keepB HP.out.below
      obtain ⟨mb, A, hb, hpg⟩ := hsp.own
      have cb := cell_of_one hb
      have HPM := Lib.hid hpg.map
      obtain ⟨at_, hat⟩ : ∃ at_, at_ = a + k := ⟨_, rfl⟩
      obtain ⟨q, hq⟩ : ∃ q, q = at_ / 4096 := ⟨_, rfl⟩
      obtain ⟨r, hr⟩ : ∃ r, r = at_ % 4096 := ⟨_, rfl⟩
      have hr' : r < 4096 := by omega
      obtain ⟨p, hp⟩ := missing_false hmiss (n := q) (by unfold fst; omega) (by unfold lst; omega)
      have hf : pgFn M A q = some (A q, p.prot) := by unfold pgFn; rw [hp]; rfl
      have HF := Lib.hid hf
      have hpm := hpg.page p (pg_mem hp).1
      rw [(pg_mem hp).2] at hpm
      have HPG := Lib.hid hpm.2
      have hpl := (hsp.ok.pages p (pg_mem hp).1).2.2.2
      obtain ⟨e, he⟩ : ∃ e, e = min 4096 (r + m) := ⟨_, rfl⟩
      have hre : r < e := by omega
      have hle : e ≤ 4096 := by omega
      obtain ⟨j, hj⟩ : ∃ j, j = e - r := ⟨_, rfl⟩
      have hjm : j ≤ m := by omega
      have hj0 : 0 < j := by omega
      have hjr : j ≤ 4096 - r := by omega
      have hstep : ∀ v' w2, w2.ownsRow w.heap.size 5 1 v' (k + j) (bvs (readAll M a k) ++ bvs ((p.bytes.drop r).take j)) → wr.grownBy w2 (Value.slice ad k cp).ownBlock → ReadSt w M a (k + j) v' w2 := fun v' w2 h1 h2 => by
        refine ⟨?_, below_row HP.out.below HP.out.own h2⟩
        rw [readAll_add, ← hat, readAll_chunk (a := at_) (p := p) (by rw [← hq]; exact hp) hpl (by omega), ← hr]
        unfold bvs at h1 ⊢
        rw [List.map_append]; exact h1
      have HSTEP := Lib.hid hstep
      have HNL := Lib.hid (bvs_len hpl hjr)
      have ea : (a : Int) + (k : Int) = (at_ : Int) := by omega
      have ed : (at_ : Int) / 4096 = (q : Int) := by omega
      have em : (at_ : Int) % 4096 = (r : Int) := by omega
      have hqb : q < 34359738368 := by omega
      have hslc := fun W : World => slice140' W (A q) r e (by omega) hle hr'
      have HAT := Lib.hid hat
      clear hf hp hpg hb hq hr hpm hstep hpl hsp hmiss hat
      by_cases hs : 4096 ≤ r + m
      · have hee : e = 4096 := by omega
        subst hee
        have i1 : ¬ (r : Int) + (m : Int) < (4096 : Int) := by omega
        have hslc' : ∀ W : World, (Instr.sliceAt 140 (.pointer (some ⟨A q, 0, none⟩)) (some (.int .u64 (r : Int))) (some (.int .u64 4096)) none).run Try.prog W = .ok (.slice (some ⟨A q, r, none⟩) j (4096 - r)) W := fun W => by rw [hj]; exact hslc W
        have HJ : Hid (r + j = 4096) := by show r + j = 4096; omega
        clear he hslc hj
        go_wp2_with (first
          | (refine wpList_page_there rfl (.tmp 47) (.tmp 49) rfl mb HPM.out rfl q (by omega) (by simp [Act.eval]) _ HF.out ?_)
          | (at_builtin; refine wpList_append_own _ rfl _ _ 57 rfl w.heap.size 5 i0 (.int .u8 0) 1 1 Try.underlying57 hi0 hz0 hz1 hz2 rfl (by decide) _ _ _ rfl HP.out.own ⟨A q, r, none⟩ j (4096 - r) (bvs ((p.bytes.drop r).take j)) rfl HNL.out (fun j u hu => bytes_page HPG.out j u hu) (bvs_one _) (by unfold maxLen; omega) (by omega) HP.out.below.size ?_; intro v' w2 hown' hgrow _; have HS2 := Lib.hid (HSTEP.out v' w2 hown' hgrow); obtain ⟨ad2, cp2, rfl⟩ := ownsRow_shape hown'; clear hown' hgrow))
        refine ⟨⟨k + j, m - j, ad2, cp2, rfl, by go_num, by omega, HS2.out⟩, ?_⟩
        show (((n : Int) - ((k : Int) + (j : Int))).toNat) < ((m : Int)).toNat
        omega
      · have hee : e = r + m := by omega
        subst hee
        have i1 : (r : Int) + (m : Int) < (4096 : Int) := by omega
        have hslc' : ∀ W : World, (Instr.sliceAt 140 (.pointer (some ⟨A q, 0, none⟩)) (some (.int .u64 (r : Int))) (some (.int .u64 ((r : Int) + (m : Int)))) none).run Try.prog W = .ok (.slice (some ⟨A q, r, none⟩) j (4096 - r)) W := fun W => by
          have := hslc W
          rw [← hj] at this
          rw [show (r : Int) + (m : Int) = ((r + m : Nat) : Int) by omega]; exact this
        have HJ : Hid (j = m) := by show j = m; omega
        clear he hslc hj hle hre
        go_wp2_with (first
          | (refine wpList_page_there rfl (.tmp 47) (.tmp 49) rfl mb HPM.out rfl q (by omega) (by simp [Act.eval]) _ HF.out ?_)
          | (at_builtin; refine wpList_append_own _ rfl _ _ 57 rfl w.heap.size 5 i0 (.int .u8 0) 1 1 Try.underlying57 hi0 hz0 hz1 hz2 rfl (by decide) _ _ _ rfl HP.out.own ⟨A q, r, none⟩ j (4096 - r) (bvs ((p.bytes.drop r).take j)) rfl HNL.out (fun j u hu => bytes_page HPG.out j u hu) (bvs_one _) (by unfold maxLen; omega) (by omega) HP.out.below.size ?_; intro v' w2 hown' hgrow _; have HS2 := Lib.hid (HSTEP.out v' w2 hown' hgrow); obtain ⟨ad2, cp2, rfl⟩ := ownsRow_shape hown'; clear hown' hgrow))
        refine ⟨⟨k + j, m - j, ad2, cp2, rfl, by go_num, by omega, HS2.out⟩, ?_⟩
        show (((n : Int) - ((k : Int) + (j : Int))).toNat) < ((m : Int)).toNat
        omega
    · obtain rfl : m = 0 := by omega
      obtain rfl : k = n := by omega
      go_wp2_with fail
      go_ret2
      exact ⟨_, by rw [HE.out]; rfl, HP.out.below, fun h0 => absurd HE.out h0, fun _ => HP.out.own⟩
end Go.Proofs.Ytepnaalgobhcdaa
namespace Go.Proofs.Ytepnaalgobhcdaa
open Go.RowKit Spm

theorem ReadRes.no {w : World} {M : List Pg} {a n : Nat} {er : Int} (he : readErr M a n = er) (h0 : er ≠ 0) {w' : World} (hb : Below w.heap.size w w') : ReadRes w M a n (.returned (.tuple #[.slice none 0 0, .int .i64 er])) w' :=
  ⟨_, by rw [he], hb, fun _ => rfl, fun h => absurd (he.symm.trans h) h0⟩

set_option maxHeartbeats 1000000 in
set_option maxRecDepth 100000 in
theorem read_any (w : World) (b : Nat) (M : List Pg) (F : Nat → Prop) (h : SpIn w b M F) (a n : Nat) (ha : a < 18446744073709551616) :
    Calls Try.prog 35 #[.pointer (some ⟨b, 0, none⟩), .int .u64 a, .int .u64 n] w (ReadRes w M a n) := by
  by_cases he : readErr M a n = 0
  · exact read_good w b M F h a n ha he
  · by_cases hbig : 1048576 < n
    · have HR := Lib.hid (ReadRes.no (w := w) (M := M) (a := a) (n := n) (er := 4) (by unfold readErr; rw [if_pos hbig]) (by decide) (Below.refl _ w))
      have i1 : (1048576 : Int) < (n : Int) := by omega
      clear h he hbig
      go_enter Try.func35, Try.ntmps35
      go_wp2_with fail
      go_ret2
      exact HR.out
    · have e : readErr M a n = lookErr M a n 1 := by unfold readErr; rw [if_neg hbig]
      have HL : Hid (Calls Try.prog 75 #[.pointer (some ⟨b, 0, none⟩), .int .u64 a, .int .u64 n, .int .i64 1] w (LookRes w (readErr M a n))) := by
        have := look_any w b M F h a n ha 1 (by decide); rw [← e] at this; exact this
      have hres : ∀ w', Below w.heap.size w w' → ReadRes w M a n (.returned (.tuple #[.slice none 0 0, .int .i64 (readErr M a n)])) w' := fun w' hb => ReadRes.no rfl he hb
      have HR := Lib.hid hres
      generalize readErr M a n = er at *
      have i1 : ¬ (1048576 : Int) < (n : Int) := by omega
      have i2 : ((er : Int) != 0) = true := by rw [bne_iff_ne]; exact he
      clear h he hbig hres e
      go_enter Try.func35, Try.ntmps35
      go_wp2_with (go_at_call 75; refine HL.out.mono ?_; rintro e w1 ⟨rfl, hb1⟩; have HB1 := Lib.hid hb1; clear hb1)
      go_ret2
      exact HR.out _ HB1.out

def wordOf : List UInt8 → Nat
  | [] => 0
  | x :: xs => x.toNat + 256 * wordOf xs
theorem wordOf_lt : ∀ bs : List UInt8, wordOf bs < 256 ^ bs.length
  | [] => by simp [wordOf]
  | x :: xs => by
    have h1 := wordOf_lt xs
    have h2 : x.toNat < 256 := x.toNat_lt
    unfold wordOf
    rw [List.length_cons, Nat.pow_succ]
    omega
theorem wordOf_append (bs : List UInt8) (x : UInt8) : wordOf (bs ++ [x]) = wordOf bs + x.toNat * 256 ^ bs.length := by
  induction bs with
  | nil => simp [wordOf]
  | cons y bs ih =>
    rw [List.cons_append, wordOf, ih, wordOf, List.length_cons, Nat.pow_succ]
    rw [Nat.mul_add, ← Nat.mul_assoc, Nat.mul_comm 256 x.toNat, Nat.mul_assoc, Nat.mul_comm 256, Nat.add_assoc, Nat.mul_comm 256 (256 ^ bs.length)]
theorem or_add {w x i : Nat} (hw : w < 2 ^ (8 * i)) : w ||| x * 2 ^ (8 * i) = w + x * 2 ^ (8 * i) := by
  rw [Nat.or_comm, Nat.mul_comm x, ← Nat.two_pow_add_eq_or_of_lt hw, Nat.add_comm]

theorem pow256 (i : Nat) : 2 ^ (8 * i) = 256 ^ i := by rw [Nat.pow_mul]
theorem wrap_u64_id {n : Nat} (h : n < 18446744073709551616) : IntKind.u64.wrap (n : Int) = (n : Int) := by
  rw [show IntKind.u64.wrap (n : Int) = ((n : Int) % 18446744073709551616) from rfl]; omega
theorem shl_or {acc xn i : Nat} (hi : i < 8) (hx : xn < 256) (ha : acc < 256 ^ i) : bits .or .u64 (acc : Int) (IntKind.u64.wrap ((xn : Int) * 2 ^ (8 * i))) = ((acc + xn * 256 ^ i : Nat) : Int) := by
  have h1 : 256 ^ i ≤ 256 ^ 7 := Nat.pow_le_pow_right (by omega) (by omega)
  have h2 : xn * 256 ^ i ≤ 255 * 256 ^ 7 := Nat.mul_le_mul (by omega) h1
  have h3 : acc < 18446744073709551616 := by omega
  have h4 : xn * 256 ^ i < 18446744073709551616 := by omega
  have e : ((xn : Int) * 2 ^ (8 * i)) = ((xn * 256 ^ i : Nat) : Int) := by rw [← pow256]; push_cast; rfl
  rw [e, wrap_u64_id h4, bits_or_u64_nat _ _ h3 h4, ← pow256, or_add (by rw [pow256]; exact ha)]

def WordRes (w : World) (M : List Pg) (a : Nat) (e : Ending) (w' : World) : Prop :=
  e = .returned (.tuple #[.int .u64 (if readErr M a 8 = 0 then wordOf (readAll M a 8) else 0 : Nat), .int .i64 (readErr M a 8)]) ∧ Below w.heap.size w w'

theorem row_cell {w : World} {base : Nat} {k : Nat} {bs : List UInt8} {ad : Option Addr} {cp : Nat} (h : w.ownsRow base 5 1 (.slice ad k cp) k (bvs bs)) {i : Nat} (hi : i < k) : ∃ g, ad = some ⟨g, 0, none⟩ ∧ w.cell? ⟨g, i, none⟩ = some (byteVal (bs.getD i 0)) := by
  obtain ⟨h1, h2⟩ := h
  rcases h2 with ⟨h2, h3⟩ | ⟨g, cap, cur, h2, h3, h4, h5, h6, h7, h8⟩
  · omega
  · cases h2
    refine ⟨g, rfl, ?_⟩
    simp only [World.cell?, h4]
    have hl : bs.length = k := by simpa [bvs] using h1
    have : (cur.toList.take (k * 1))[i]? = (bvs bs)[i]? := by rw [h8]
    rw [List.getElem?_take, if_pos (by omega)] at this
    rw [← Array.getElem?_toList, this]
    unfold bvs
    rw [List.getElem?_map, List.getElem?_eq_getElem (by omega)]
    simp [List.getD_eq_getElem?_getD, List.getElem?_eq_getElem (show i < bs.length by omega)]

set_option maxHeartbeats 1000000 in
set_option maxRecDepth 100000 in
theorem word_any (w : World) (b : Nat) (M : List Pg) (F : Nat → Prop) (h : SpIn w b M F) (a : Nat) (ha : a < 18446744073709551616) :
    Calls Try.prog 36 #[.pointer (some ⟨b, 0, none⟩), .int .u64 a] w (WordRes w M a) := by
  have HR : Hid (Calls Try.prog 35 #[.pointer (some ⟨b, 0, none⟩), .int .u64 a, .int .u64 8] w (ReadRes w M a 8)) := read_any w b M F h a 8 ha
  clear h
  by_cases he : readErr M a 8 = 0
  · go_enter Try.func36, Try.ntmps36
    have HE := Lib.hid he
    clear he
    go_wp2_with (go_at_call 35; refine HR.out.mono ?_; rintro e w1 ⟨v, rfl, hb1, h1, h2⟩; have HO := Lib.hid (h2 HE.out); have HB1 := Lib.hid hb1; rw [HE.out]; obtain ⟨ad, cp, rfl⟩ := ownsRow_shape HO.out; clear hb1 h1 h2)
    obtain ⟨bs, hbs⟩ : ∃ bs, bs = readAll M a 8 := ⟨_, rfl⟩
    have hlen : bs.length = 8 := by rw [hbs]; exact readAll_length M a 8
    have HLEN := Lib.hid hlen
    have HBS := Lib.hid hbs
    rw [← hbs] at HO
    clear hbs hlen
    go_loopw [8, 19] (fun v t wr => ∃ i : Nat, i ≤ 8 ∧ t = .int .i64 i ∧ v = .int .u64 (wordOf (bs.take i)) ∧ Hid (w1 = wr)) (fun _ t _ => 8 - (intOf t).toNat)
    case atStart => exact ⟨0, by omega, rfl, rfl, rfl⟩
    case round =>
      obtain ⟨i, hi, rfl, rfl, HW⟩ := hrel
      obtain rfl := HW.out
      by_cases hlt : i < 8
      · obtain ⟨g, rfl, hcell⟩ := row_cell HO.out hlt
        obtain ⟨x, hx⟩ : ∃ x, x = bs.getD i 0 := ⟨_, rfl⟩
        obtain ⟨acc, hacc⟩ : ∃ acc, acc = wordOf (bs.take i) := ⟨_, rfl⟩
        have hxl : x.toNat < 256 := x.toNat_lt
        have hal : acc < 256 ^ i := by
          have := wordOf_lt (bs.take i)
          rw [List.length_take, Nat.min_eq_left (by have := HLEN.out; omega), ← hacc] at this; exact this
        have hnew : wordOf (bs.take (i + 1)) = acc + x.toNat * 256 ^ i := by
          have := HLEN.out
          rw [List.take_add_one, List.getElem?_eq_getElem (by omega), Option.toList_some, wordOf_append, List.length_take, Nat.min_eq_left (by omega), ← hacc, hx]
          simp [List.getD_eq_getElem?_getD, List.getElem?_eq_getElem (show i < bs.length by omega)]
        rw [← hx] at hcell
        unfold byteVal at hcell
        rw [← hacc]
        have HSO := Lib.hid (shl_or hlt hxl hal)
        have HNEW := Lib.hid hnew
        generalize x.toNat = xn at *
        clear hx hacc hnew hal
        go_wp2_with fail
        refine ⟨⟨i + 1, by omega, by go_num, ?_, trivial⟩, by simp [intOf]; omega⟩
        rw [HNEW.out, HSO.out]
      · obtain rfl : i = 8 := by omega
        have e : bs.take 8 = bs := by rw [← HLEN.out]; exact List.take_length
        rw [e]
        have HFIN : Hid (WordRes w M a (.returned (.tuple #[.int .u64 (wordOf bs), .int .i64 0])) w1) := ⟨by rw [HE.out, HBS.out]; rfl, HB1.out⟩
        go_wp2_with fail
        go_ret2
        exact HFIN.out
  · have hfin : ∀ w1, Below w.heap.size w w1 → WordRes w M a (.returned (.tuple #[.int .u64 0, .int .i64 (readErr M a 8)])) w1 := fun w1 hb => ⟨by rw [if_neg he]; rfl, hb⟩
    have HFIN := Lib.hid hfin
    have HR2 : Hid (Calls Try.prog 35 #[.pointer (some ⟨b, 0, none⟩), .int .u64 a, .int .u64 8] w fun e w' => e = .returned (.tuple #[.slice none 0 0, .int .i64 (readErr M a 8)]) ∧ Below w.heap.size w w') := by
      refine HR.out.mono ?_
      rintro e w1 ⟨v, rfl, hb1, h1, h2⟩
      rw [h1 he]; exact ⟨rfl, hb1⟩
    generalize readErr M a 8 = er at *
    clear HR hfin he
    go_enter Try.func36, Try.ntmps36
    go_wp2_with (go_at_call 35; refine HR2.out.mono ?_; rintro e w1 ⟨rfl, hb1⟩; have HB1 := Lib.hid hb1; clear hb1)
    refine wp_loop_rounds 1 ?_
    rw [rounds_succ]
    go_wp2_with fail
    go_ret2
    exact HFIN.out _ HB1.out
end Go.Proofs.Ytepnaalgobhcdaa
namespace Go.Proofs.Ytepnaalgobhcdaa
open Go.RowKit Spm

def bytesOf (v : Nat) : List UInt8 := (List.range 8).map fun i => UInt8.ofNat (v / 256 ^ i)
theorem bytesOf_length (v : Nat) : (bytesOf v).length = 8 := by simp [bytesOf]
theorem bytesOf_get {v i : Nat} (h : i < 8) : (bytesOf v)[i]? = some (UInt8.ofNat (v / 256 ^ i)) := by simp [bytesOf, h]
theorem shr_byte {v i : Nat} : IntKind.u8.wrap ((v : Int) / 2 ^ (8 * i)) = (((UInt8.ofNat (v / 256 ^ i)).toNat : Nat) : Int) := by
  rw [show IntKind.u8.wrap ((v : Int) / 2 ^ (8 * i)) = (((v : Int) / 2 ^ (8 * i)) % 256) from rfl, UInt8.toNat_ofNat']
  have e : ((v : Int) / 2 ^ (8 * i)) = ((v / 256 ^ i : Nat) : Int) := by rw [← pow256]; push_cast; rfl
  rw [e]; omega
/-- The first i bytes of the array have been set. -/
structure SetSt (w : World) (v i : Nat) (wr : World) : Prop where
  row : ∃ L : List UInt8, L.length = 8 ∧ L.take i = (bytesOf v).take i ∧ wr.heap[w.heap.size]? = some (.cells (L.map byteVal).toArray 152 (0, 0))
  below : Below w.heap.size w wr
  size : wr.heap.size = w.heap.size + 1
theorem SetSt.step {w wr : World} {v i : Nat} (h : SetSt w v i wr) (hi : i < 8) : SetSt w v (i + 1) (wr.setCell ⟨w.heap.size, i, none⟩ (byteVal (UInt8.ofNat (v / 256 ^ i)))) := by
  obtain ⟨⟨L, h1, h2, h3⟩, h4, h5⟩ := h
  refine ⟨⟨L.set i (UInt8.ofNat (v / 256 ^ i)), by simp [h1], ?_, ?_⟩, h4.setCell (by simp) _, by simpa using h5⟩
  · rw [List.take_add_one, List.take_add_one, bytesOf_get hi, List.getElem?_set_self (by omega), List.take_set_of_le (Nat.le_refl _), h2]
  · rw [heap_setCell_same _ _ _ _ _ _ h3]
    simp [List.map_set]
theorem SetSt.cell {w wr : World} {v i : Nat} (h : SetSt w v i wr) (hi : i < 8) : (∃ x, wr.cell? ⟨w.heap.size, i, none⟩ = some (byteVal x)) ∧ wr.frozen? ⟨w.heap.size, i, none⟩ = false := by
  obtain ⟨⟨L, h1, h2, h3⟩, h4, h5⟩ := h
  refine ⟨⟨L[i], ?_⟩, ?_⟩
  · simp [World.cell?, h3, h1, hi]
  · simp [World.frozen?, h3]
theorem SetSt.done {w wr : World} {v : Nat} (h : SetSt w v 8 wr) : BytesIn wr w.heap.size 0 (bytesOf v) := by
  obtain ⟨⟨L, h1, h2, h3⟩, h4, h5⟩ := h
  have e : L = bytesOf v := by
    rw [← List.take_length (l := L), h1, h2, ← bytesOf_length v, List.take_length]
  subst e
  intro j hj
  simp only [World.cell?, h3, Nat.zero_add]
  rw [bytesOf_length] at hj
  simp [bytesOf_get hj, List.getD_eq_getElem?_getD]
theorem zero152 (w : World) : (zeroValue 152).run Try.prog w = .ok (.agg ((List.replicate 8 (0 : UInt8)).map byteVal).toArray) w := by kernel_rfl

set_option maxHeartbeats 1000000 in
set_option maxRecDepth 100000 in
theorem setword_any (w : World) (b : Nat) (M : List Pg) (F : Nat → Prop) (h : SpIn w b M F) (a : Nat) (ha : a < 18446744073709551616) (v : Nat) (_hv : v < 18446744073709551616) :
    Calls Try.prog 39 #[.pointer (some ⟨b, 0, none⟩), .int .u64 a, .int .u64 v] w (WriteRes w b M F a (bytesOf v) 2) := by
  have hwr : ∀ wr, SetSt w v 8 wr → Calls Try.prog 38 #[.pointer (some ⟨b, 0, none⟩), .int .u64 a, .slice (some ⟨w.heap.size, 0, none⟩) 8 8] wr (WriteRes w b M F a (bytesOf v) 2) := fun wr hs => by
    have hnF : ¬ F w.heap.size := fun hF => by have := h.lt _ hF; omega
    refine ((write_any wr b M F (h.keepB hs.below) a ha (bytesOf v) (some ⟨w.heap.size, 0, none⟩) 8 (fun _ => ⟨_, _, rfl, hs.done, hnF, by have := hs.size; omega⟩) (by rw [bytesOf_length]; omega) (by omega))).mono ?_
    rintro e w' ⟨rfl, h1, h2⟩
    exact ⟨rfl, h1, (Chg.of_below hs.below).trans (h2.mono fun k _ hk => .inl hk)⟩
  have HWR := Lib.hid hwr
  have hz := zero152
  clear h hwr
  go_enter Try.func39, Try.ntmps39
  go_wp2_with fail
  go_loopw [9] (fun t wr => ∃ i : Nat, i ≤ 8 ∧ t = .int .i64 i ∧ Hid (SetSt w v i wr)) (fun t _ => 8 - (intOf t).toNat)
  case atStart =>
    refine ⟨0, by omega, rfl, ⟨⟨List.replicate 8 0, rfl, rfl, ?_⟩, (Below.refl _ w).alloc (Nat.le_refl _) _, by simp⟩⟩
    exact hp_new _ _ _ rfl
  case round =>
    obtain ⟨i, hi, rfl, HS⟩ := hrel
    by_cases hlt : i < 8
    · obtain ⟨⟨x, hx⟩, hfr⟩ := HS.out.cell hlt
      have HST := Lib.hid (HS.out.step hlt)
      have hsh := shr_byte (v := v) (i := i)
      generalize UInt8.ofNat (v / 256 ^ i) = y at *
      have hy : y.toNat < 256 := y.toNat_lt
      go_wp2_with fail
      exact ⟨⟨i + 1, by omega, by go_num, HST.out⟩, by simp [intOf]; omega⟩
    · obtain rfl : i = 8 := by omega
      go_wp2_with (go_at_call 38; refine (HWR.out _ HS.out).mono ?_; rintro e w2 ⟨rfl, h1, h2⟩; have H1 := Lib.hid h1; have H2 := Lib.hid h2; clear h1 h2)
      go_ret
      exact ⟨rfl, H1.out, H2.out⟩

section
variable {ops : Array Oper} {rest : List Oper} {o : Oper} {a : Act} {w : World} {Q : Exit → Act → World → Prop}
theorem wpList_page_gone (hg : o.guard = none) (m x : Operand) (hop : o.op = Op.lookup 76 m x false) (b : Nat) {f : Nat → Option (Nat × Int)} {c : Nat} (h : PgMap w b f c) (hm : a.eval m = .map (some b)) (n : Nat) (hn : n < 18446744073709551616) (hx : a.eval x = .int .u64 (n : Int)) (hf : f n = none)
    (hK : wpList Try.prog ops Q rest (a.put o.dst (.agg #[.pointer none, .int .i64 0])) w) : wpList Try.prog ops Q (o :: rest) a w :=
  wpList_page hg m x hop b h hm n hn hx (by rw [hf]; exact hK)
end
def protM (M : List Pg) (a : Nat) : Int := ((pg M (a / 4096)).map (·.prot)).getD 0
set_option maxHeartbeats 1000000 in
set_option maxRecDepth 100000 in
theorem prot_any (w : World) (b : Nat) (M : List Pg) (F : Nat → Prop) (h : SpIn w b M F) (a : Nat) (ha : a < 18446744073709551616) :
    Calls Try.prog 40 #[.pointer (some ⟨b, 0, none⟩), .int .u64 a] w fun e w' => e = .returned (.int .i64 (protM M a)) ∧ w = w' := by
  obtain ⟨mb, A, hb, hp⟩ := h.own
  have cb := cell_of_one hb
  have HP := Lib.hid hp.map
  have hfld := field142'
  unfold protM
  obtain ⟨q, hq⟩ : ∃ q, q = a / 4096 := ⟨_, rfl⟩
  have hq2 : (a : Int) / 4096 = (q : Int) := by omega
  have hq3 : q < 18446744073709551616 := by omega
  rw [← hq]
  cases hpg : pg M q with
  | none =>
    have hf : pgFn M A q = none := by unfold pgFn; rw [hpg]; rfl
    have HF := Lib.hid hf
    clear h hb hp hq hf hpg
    go_enter Try.func40, Try.ntmps40
    go_wp2_with (refine wpList_page_gone rfl (.tmp 10) (.tmp 12) rfl mb HP.out rfl q hq3 (by simp [Act.eval]) HF.out ?_)
    go_ret
    exact ⟨rfl, rfl⟩
  | some p =>
    have hf : pgFn M A q = some (A q, p.prot) := by unfold pgFn; rw [hpg]; rfl
    have HF := Lib.hid hf
    clear h hb hp hq hf hpg
    go_enter Try.func40, Try.ntmps40
    go_wp2_with (refine wpList_page_there rfl (.tmp 10) (.tmp 12) rfl mb HP.out rfl q hq3 (by simp [Act.eval]) _ HF.out ?_)
    go_ret
    exact ⟨rfl, rfl⟩
end Go.Proofs.Ytepnaalgobhcdaa
namespace Go.Proofs.Ytepnaalgobhcdaa
open Spm

theorem Spm.find_map (M : List Pg) (n : Nat) : (pg M n).map (fun p => (p.num, p.prot, p.bytes.length)) = (M.map fun p => (p.num, p.prot, p.bytes.length)).find? fun t => t.1 == n := by
  unfold pg
  rw [List.find?_map]
  rfl
theorem Spm.pg_alike {M M' : List Pg} (h : Spm.Alike M M') (n : Nat) : (pg M' n).map (fun p => (p.num, p.prot, p.bytes.length)) = (pg M n).map fun p => (p.num, p.prot, p.bytes.length) := by
  rw [Spm.find_map, Spm.find_map, h]
theorem Spm.pg_alike_none {M M' : List Pg} (h : Spm.Alike M M') (n : Nat) : (pg M' n).isNone = (pg M n).isNone := by
  have := congrArg Option.isNone (Spm.pg_alike h n)
  simpa using this
theorem Spm.lookErr_alike {M M' : List Pg} (h : Spm.Alike M M') (a n : Nat) (r : Int) : lookErr M' a n r = lookErr M a n r := by
  have h1 : ∀ f e, missing M' f e = missing M f e := fun f e => by
    unfold missing
    congr 1
    funext i
    exact Spm.pg_alike_none h _
  have h2 : ∀ f e, lacks M' f e r = lacks M f e r := fun f e => by
    unfold lacks
    congr 1
    funext i
    have := Spm.pg_alike h (f + i)
    cases h3 : pg M' (f + i) <;> cases h4 : pg M (f + i) <;> rw [h3, h4] at this <;> simp at this
    show (!hasP _ r) = !hasP _ r
    rw [this.2.1]
  unfold lookErr
  rw [h1, h2]
theorem Spm.readErr_alike {M M' : List Pg} (h : Spm.Alike M M') (a n : Nat) : readErr M' a n = readErr M a n := by
  unfold readErr; rw [Spm.lookErr_alike h]

theorem Spm.byteAt_wr1 {M : List Pg} (hM : ∀ p ∈ M, p.bytes.length = 4096) {a : Nat} (x : UInt8) (hp : (pg M (a / 4096)).isSome = true) (c : Nat) : byteAt (wr1 M a x) c = if c = a then x else byteAt M c := by
  unfold byteAt
  rw [pg_wr1]
  by_cases e : c / 4096 = a / 4096
  · rw [e]
    obtain ⟨p, hpp⟩ := Option.isSome_iff_exists.1 hp
    have hl := hM p (pg_mem hpp).1
    rw [hpp]
    simp only [Option.map_some, if_true]
    by_cases h : c = a
    · subst h
      rw [if_pos rfl, List.getD_eq_getElem?_getD, List.getElem?_set_self (by omega)]; rfl
    · rw [if_neg h, List.getD_eq_getElem?_getD, List.getElem?_set_ne (by omega), ← List.getD_eq_getElem?_getD]
  · rw [if_neg (fun h => e (by rw [h]))]
    cases pg M (c / 4096) with
    | none => rfl
    | some p => simp only [Option.map_some, if_neg e]
theorem Spm.byteAt_wrAll (bs : List UInt8) : ∀ (M : List Pg) (a : Nat), (∀ p ∈ M, p.bytes.length = 4096) → (∀ k, k < bs.length → (pg M ((a + k) / 4096)).isSome = true) → ∀ c, byteAt (wrAll M a bs) c = if a ≤ c ∧ c < a + bs.length then bs.getD (c - a) 0 else byteAt M c := by
  induction bs with
  | nil => intro M a _ _ c; rw [if_neg (by simp)]; rfl
  | cons x bs ih =>
    intro M a hM hp c
    have hal : Spm.Alike M (wr1 M a x) := wr1_alike M a x
    have h1 : ∀ p ∈ wr1 M a x, p.bytes.length = 4096 := fun p hp => by
      unfold wr1 at hp
      obtain ⟨q, hq, rfl⟩ := List.mem_map.1 hp
      have := hM q hq
      split <;> simpa using this
    have h2 : ∀ k, k < bs.length → (pg (wr1 M a x) ((a + 1 + k) / 4096)).isSome = true := fun k hk => by
      have h3 := hp (k + 1) (by simpa using hk)
      rw [← Option.not_isNone, Spm.pg_alike_none hal, Option.not_isNone, show a + 1 + k = a + (k + 1) by omega]
      exact h3
    rw [wrAll, ih _ _ h1 h2 c, Spm.byteAt_wr1 hM x (show (pg M (a / 4096)).isSome = true from hp 0 (by simp)) c]
    simp only [List.length_cons]
    by_cases e : c = a
    · subst e
      rw [if_neg (by omega), if_pos rfl, if_pos (by omega), Nat.sub_self]; rfl
    · by_cases e2 : a + 1 ≤ c ∧ c < a + 1 + bs.length
      · rw [if_pos e2, if_pos (by omega), show c - a = (c - (a + 1)) + 1 by omega]; rfl
      · rw [if_neg e2, if_neg e, if_neg (by omega)]
theorem Spm.readAll_wrAll {M : List Pg} (hM : Ok M) {a : Nat} {bs : List UInt8} (h : missing M (fst a) (lst a bs.length) = false) : readAll (wrAll M a bs) a bs.length = bs := by
  have hp : ∀ k, k < bs.length → (pg M ((a + k) / 4096)).isSome = true := fun k hk => by
    obtain ⟨p, hp⟩ := missing_false h (n := (a + k) / 4096) (by unfold fst; omega) (by unfold lst; omega)
    rw [hp]; rfl
  unfold readAll
  apply List.ext_getElem?
  intro i
  by_cases hi : i < bs.length
  · rw [List.getElem?_map, List.getElem?_range hi, Option.map_some, Spm.byteAt_wrAll bs M a (fun p hp => (hM.pages p hp).2.2.2) hp, if_pos (by omega), Nat.add_sub_cancel_left, List.getD_eq_getElem?_getD, List.getElem?_eq_getElem hi]; rfl
  · rw [List.getElem?_eq_none (by simp; omega), List.getElem?_eq_none (by omega)]

theorem wordOf_bytes (v : Nat) : ∀ i, wordOf ((List.range i).map fun j => UInt8.ofNat (v / 256 ^ j)) = v % 256 ^ i
  | 0 => by simp [wordOf, Nat.mod_one]
  | i + 1 => by
    rw [List.range_succ, List.map_append, List.map_cons, List.map_nil, wordOf_append, wordOf_bytes v i, List.length_map, List.length_range, UInt8.toNat_ofNat']
    have := Nat.mod_mul (x := v) (a := 256 ^ i) (b := 256)
    rw [show 256 ^ (i + 1) = 256 ^ i * 256 from Nat.pow_succ _ _, this, Nat.mul_comm (256 ^ i)]
theorem wordOf_bytesOf {v : Nat} (h : v < 18446744073709551616) : wordOf (bytesOf v) = v := by
  unfold bytesOf
  rw [wordOf_bytes]; omega

/-! ### SpaceMany -/
theorem many1 {n : Nat} (h1 : 1 ≤ n) (h2 : n ≤ 8192) : mapErr [] 0 (n * 4096) 1 = 0 ∧ mapM [] 0 (n * 4096) 1 = mapIn [] 0 n 1 := by
  have e : mapErr [] 0 (n * 4096) 1 = 0 := by
    unfold mapErr
    rw [if_neg (by simp [badArg]; omega), if_neg (by simp [inB]; omega), if_neg (by simp [freeB, inB]; omega), if_neg (by simp; omega)]
  refine ⟨e, ?_⟩
  unfold mapM
  rw [if_pos e]
  congr 1
  omega
theorem many1_no {n : Nat} (h2 : 8192 < n) (h3 : n ≤ 8194) : mapErr [] 0 (n * 4096) 1 = 11 ∧ mapM [] 0 (n * 4096) 1 = [] := by
  have e : mapErr [] 0 (n * 4096) 1 = 11 := by
    unfold mapErr
    rw [if_neg (by simp [badArg]; omega), if_neg (by simp [inB]; omega), if_neg (by simp [freeB, inB]; omega), if_pos (by simp; omega)]
  refine ⟨e, ?_⟩
  unfold mapM
  rw [if_neg (by rw [e]; decide)]
theorem many2 {n m : Nat} (h2 : n ≤ 8192) (h3 : 1 ≤ m) (h4 : m ≤ 8192) : mapErr (mapIn [] 0 n 1) 1099511627776 (m * 4096) 2 = if 8192 - n < m then 11 else 0 := by
  unfold mapErr
  rw [if_neg (by simp [badArg]; omega), if_neg (by simp [inB]; omega), if_neg ?_, mapIn_length]
  · simp only [List.length_nil, Nat.zero_add, Nat.mul_div_cancel m (show 0 < 4096 by decide)]
  · simp only [Bool.not_eq_false]
    unfold freeB
    simp only [Bool.or_eq_true, Bool.and_eq_true]
    refine .inr ⟨by simp [inB]; omega, List.all_eq_true.2 fun p hp => ?_⟩
    rcases mem_mapIn hp with h | h
    · cases h
    · have := (newPages_num h).2.1
      have h2 : ¬ fst 1099511627776 ≤ p.num := by unfold fst; omega
      simp [clash, h2]
theorem many2_len {n m : Nat} (h2 : n ≤ 8192) (h3 : 1 ≤ m) (h4 : m ≤ 8192) : (mapM (mapIn [] 0 n 1) 1099511627776 (m * 4096) 2).length = if 8192 - n < m then n else n + m := by
  unfold mapM
  rw [many2 h2 h3 h4]
  by_cases h : 8192 - n < m
  · rw [if_pos h, if_neg (by decide), if_pos h, mapIn_length]; simp
  · rw [if_neg h, if_pos rfl, if_neg h, mapIn_length, mapIn_length]; simp
end Go.Proofs.Ytepnaalgobhcdaa
namespace Go.Proofs.Ytepnaalgobhcdaa
open Go.RowKit Spm

def kM : List Pg := mapM [] 4096 8192 3
def kV : Nat := 72623859790382856
def kM2 : List Pg := wrAll kM 8188 (bytesOf kV)
theorem k1 : mapErr [] 4096 8192 3 = 0 := by decide +kernel
theorem kM_eq : kM = mapIn [] 1 2 3 := by unfold kM mapM; rw [if_pos k1]; rfl
theorem k2 : lookErr kM 8188 8 2 = 0 := by rw [kM_eq]; decide +kernel
theorem k2r : lookErr kM 8188 8 1 = 0 := by rw [kM_eq]; decide +kernel
theorem k3 : lookErr kM 4094 1 2 = 4 := by rw [kM_eq]; decide +kernel
theorem ok_nil : Ok [] := ⟨List.Pairwise.nil, fun _ h => absurd h (List.not_mem_nil), Nat.zero_le _⟩
theorem kM_ok : Ok kM := mapM_ok ok_nil _ _ _
theorem k_miss : missing kM (fst 8188) (lst 8188 (bytesOf kV).length) = false := by rw [kM_eq]; decide +kernel
theorem kw : writeM kM 8188 (bytesOf kV) 2 = kM2 := by unfold writeM; rw [show (bytesOf kV).length = 8 from rfl, if_pos k2]; rfl
theorem k_alike : Spm.Alike kM kM2 := wrAll_alike _ _ _
theorem kre : readErr kM2 8188 8 = 0 := by rw [Spm.readErr_alike k_alike]; unfold readErr; rw [if_neg (by decide)]; exact k2r
theorem kword : wordOf (readAll kM2 8188 8) = kV := by
  have := Spm.readAll_wrAll kM_ok (a := 8188) (bs := bytesOf kV) k_miss
  rw [show (bytesOf kV).length = 8 from rfl] at this
  unfold kM2
  rw [this]
  exact wordOf_bytesOf (by decide)
theorem k4 (bs : List UInt8) (h : bs.length = 1) : lookErr kM2 4094 bs.length 2 = 4 := by rw [h, Spm.lookErr_alike k_alike]; exact k3
theorem kw2 (bs : List UInt8) (h : bs.length = 1) : writeM kM2 4094 bs 2 = kM2 := by unfold writeM; rw [k4 bs h]; rfl
theorem k_len : kM2.length = 2 := by rw [k_alike.length, kM_eq]; rfl

def newF (w : World) (k : Nat) : Prop := w.heap.size ≤ k ∧ k < w.heap.size + 2
theorem grow_below {F : Nat → Prop} {B : Nat} {w w' : World} (hF : ∀ k, F k → B ≤ k) (hB : B ≤ w.heap.size) : ∀ k, grow F w w' k → B ≤ k := fun k hk => by
  rcases hk with hk | hk
  · exact hF k hk
  · omega

theorem below_le {B k : Nat} {w w' : World} (h : Below k w w') (hB : B ≤ k) : Below B w w' := ⟨h.os, h.tape, h.output, h.size, fun i hi => h.block i (by omega)⟩

set_option maxHeartbeats 1000000 in
set_option maxRecDepth 100000 in
theorem known_any (w : World) : Calls Try.prog 23 #[] w fun e w' => e = .returned (.bool true) ∧ Below w.heap.size w w' := by
  have HN : Hid (∀ W : World, Calls Try.prog 24 #[] W fun e w' => e = .returned (.pointer (some ⟨W.heap.size + 1, 0, none⟩)) ∧ SpIn w' (W.heap.size + 1) [] (newF W) ∧ Below W.heap.size W w' ∧ w'.heap.size = W.heap.size + 2) := new_any
  have HM : Hid (∀ (W : World) (b : Nat) (F : Nat → Prop), SpIn W b [] F → Calls Try.prog 25 #[.pointer (some ⟨b, 0, none⟩), .int .u64 4096, .int .u64 8192, .int .i64 3] W fun e w' => e = .returned (.int .i64 0) ∧ SpIn w' b kM (grow F W w') ∧ Chg F W w') := fun W b F h => by
    refine (map_any W b [] F h 4096 8192 (by decide) 3).mono ?_
    rintro e w' ⟨rfl, h1, h2⟩
    rw [k1]; exact ⟨rfl, h1, h2⟩
  have HS : Hid (∀ (W : World) (b : Nat) (F : Nat → Prop), SpIn W b kM F → Calls Try.prog 39 #[.pointer (some ⟨b, 0, none⟩), .int .u64 8188, .int .u64 72623859790382856] W fun e w' => e = .returned (.int .i64 0) ∧ SpIn w' b kM2 F ∧ Chg F W w') := fun W b F h => by
    refine (setword_any W b kM F h 8188 (by decide) kV (by decide)).mono ?_
    rintro e w' ⟨rfl, h1, h2⟩
    rw [kw] at h1
    rw [show (bytesOf kV).length = 8 from rfl, k2]; exact ⟨rfl, h1, h2⟩
  have HW : Hid (∀ (W : World) (b : Nat) (F : Nat → Prop), SpIn W b kM2 F → Calls Try.prog 36 #[.pointer (some ⟨b, 0, none⟩), .int .u64 8188] W fun e w' => e = .returned (.tuple #[.int .u64 72623859790382856, .int .i64 0]) ∧ Below W.heap.size W w') := fun W b F h => by
    refine (word_any W b kM2 F h 8188 (by decide)).mono ?_
    rintro e w' ⟨rfl, h1⟩
    rw [kre, if_pos rfl, kword]; exact ⟨rfl, h1⟩
  have HR : Hid (∀ (W : World) (b : Nat) (F : Nat → Prop) (g : Nat), SpIn W b kM2 F → ¬ F g → W.heap[g]? = some (.cells #[.int .u8 1] 5 (0, 0)) → Calls Try.prog 38 #[.pointer (some ⟨b, 0, none⟩), .int .u64 4094, .slice (some ⟨g, 0, none⟩) 1 1] W fun e w' => e = .returned (.int .i64 4) ∧ SpIn w' b kM2 F ∧ Chg F W w') := fun W b F g h hg hb => by
    refine (write_any W b kM2 F h 4094 (by decide) [1] (some ⟨g, 0, none⟩) 1 (fun _ => ⟨g, 0, rfl, fun j hj => ?_, hg, lt_of_block hb⟩) (by decide) (by decide)).mono ?_
    · have : j = 0 := by simpa using hj
      subst this
      simp [World.cell?, hb, byteVal]
    · rintro e w' ⟨rfl, h1, h2⟩
      rw [kw2 _ rfl] at h1
      rw [k4 _ rfl]; exact ⟨rfl, h1, h2⟩
  have HP : Hid (∀ (W : World) (b : Nat) (F : Nat → Prop), SpIn W b kM2 F → Calls Try.prog 26 #[.pointer (some ⟨b, 0, none⟩)] W fun e w' => e = .returned (.int .i64 2) ∧ W = w') := fun W b F h => by
    refine (pages_any W b kM2 F h).mono ?_
    rintro e w' ⟨rfl, h1⟩
    rw [k_len]; exact ⟨rfl, h1⟩
  go_enter Try.func23, Try.ntmps23
  go_wp2_with (first
    | (go_at_call 24; refine (HN.out _).mono ?_; rintro e w1 ⟨rfl, h1, h2, h3⟩; have H1 := Lib.hid h1; have B1 := Lib.hid h2; have S1 := Lib.hid h3; clear h1 h2 h3)
    | (go_at_call 25; refine (HM.out _ _ _ H1.out).mono ?_; rintro e w2 ⟨rfl, h1, h2⟩; have H2 := Lib.hid h1; have C2 := Lib.hid h2; clear h1 h2)
    | (go_at_call 39; refine (HS.out _ _ _ H2.out).mono ?_; rintro e w3 ⟨rfl, h1, h2⟩; have H3 := Lib.hid h1; have C3 := Lib.hid h2; clear h1 h2)
    | (go_at_call 36; refine (HW.out _ _ _ H3.out).mono ?_; rintro e w4 ⟨rfl, h1⟩; have H4 := Lib.hid (H3.out.keepB h1); have B4 := Lib.hid h1; have B5 := Lib.hid ((Below.refl w4.heap.size w4).alloc (Nat.le_refl _) (.cells #[.int .u8 1] 5)); have H5 := Lib.hid (H4.out.keepB B5.out); clear h1)
    | (go_at_call 38; refine (HR.out _ _ _ _ H5.out (fun hF => absurd (H4.out.lt _ hF) (Nat.lt_irrefl _)) (hp_new _ _ _ rfl)).mono ?_; rintro e w6 ⟨rfl, h1, h2⟩; have H6 := Lib.hid h1; have C6 := Lib.hid h2; clear h1 h2)
    | (go_at_call 26; refine (HP.out _ _ _ H6.out).mono ?_; rintro e _ ⟨rfl, rfl⟩))
  go_ret
  refine ⟨rfl, ?_⟩
  have f1 : ∀ k, newF w k → w.heap.size ≤ k := fun k hk => hk.1
  have s1 := B1.out.size
  have b2 := C2.out.below f1 s1
  have f2 := grow_below (w := w1) (w' := w2) f1 s1
  have s2 := b2.size
  have b3 := C3.out.below f2 (by omega)
  have s3 := b3.size
  have s4 := B4.out.size
  have b6 := C6.out.below f2 (by simp; omega)
  exact ((((B1.out.trans b2).trans b3).trans (below_le B4.out (by omega))).trans (below_le B5.out (by omega))).trans b6
end Go.Proofs.Ytepnaalgobhcdaa
