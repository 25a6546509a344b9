/- A depth-first order over a graph of numbers: each number once, an edge's end ahead of its start unless it comes back; and reachability by repeated sweeps. Plain mathematics, no program. -/
namespace Go.Proofs.Ytepnaalgobhcdaa.Clv

structure St where
  begun : List Bool
  out : List Nat

/-- One visit, with fuel. -/
def visit (g : Nat → List Nat) : Nat → Nat → St → St
  | 0, _, s => s
  | f + 1, i, s =>
    let s1 := (g i).foldl (fun s d => if s.begun.getD d false then s else visit g f d s) ⟨s.begun.set i true, s.out⟩
    ⟨s1.begun, s1.out ++ [i]⟩

def stepV (g : Nat → List Nat) (f : Nat) (s : St) (d : Nat) : St := if s.begun.getD d false then s else visit g f d s

def startSt (n : Nat) : St := ⟨List.replicate n false, []⟩
def runTo (g : Nat → List Nat) (n k : Nat) : St := (List.range k).foldl (stepV g n) (startSt n)
def runOut (g : Nat → List Nat) (n : Nat) : List Nat := (runTo g n n).out

theorem visit_succ (g : Nat → List Nat) (f i : Nat) (s : St) :
    visit g (f + 1) i s = ⟨((g i).foldl (stepV g f) ⟨s.begun.set i true, s.out⟩).begun, ((g i).foldl (stepV g f) ⟨s.begun.set i true, s.out⟩).out ++ [i]⟩ := rfl

theorem runTo_succ (g : Nat → List Nat) (n k : Nat) : runTo g n (k + 1) = stepV g n (runTo g n k) k := by
  unfold runTo; rw [List.range_succ, List.foldl_append]; rfl

/-- How many have not been begun. -/
def left (s : St) : Nat := s.begun.count false

/-- b is reached from a by one edge or more: it lies in whatever holds the ends of a's edges and of its own members' edges. -/
structure Path (g : Nat → List Nat) (a b : Nat) : Prop where
  ind : ∀ T : Nat → Prop, (∀ x, x ∈ g a → T x) → (∀ x y, T x → y ∈ g x → T y) → T b
theorem Path.one {g : Nat → List Nat} {a b : Nat} (h : b ∈ g a) : Path g a b := ⟨fun _ h1 _ => h1 b h⟩
theorem Path.snoc {g : Nat → List Nat} {a b c : Nat} (h : Path g a b) (k : c ∈ g b) : Path g a c := ⟨fun T h1 h2 => h2 b c (h.ind T h1 h2) k⟩

def isB (s : St) (x : Nat) : Prop := s.begun.getD x false = true

theorem isB_lt {s : St} {x : Nat} (h : isB s x) : x < s.begun.length := by
  rcases Nat.lt_or_ge x s.begun.length with h' | h'
  · exact h'
  · simp [isB, List.getD, List.getElem?_eq_none h'] at h

theorem getD_set (l : List Bool) (i x : Nat) (b : Bool) (hi : i < l.length) : (l.set i b).getD x false = if i = x then b else l.getD x false := by
  simp only [List.getD_eq_getElem?_getD, List.getElem?_set]
  by_cases h : i = x
  · subst h; simp [hi]
  · simp [h]

theorem count_set (l : List Bool) (i : Nat) (hi : i < l.length) (h : l.getD i false = false) : (l.set i true).count false + 1 = l.count false := by
  induction l generalizing i with
  | nil => simp at hi
  | cons a l ih =>
    cases i with
    | zero => simp [List.getD] at h; subst h; simp
    | succ i =>
      have := ih i (by simpa using hi) (by simpa [List.getD] using h)
      simp only [List.set_cons_succ, List.count_cons]
      omega

structure Inv (g : Nat → List Nat) (n : Nat) (s : St) : Prop where
  len : s.begun.length = n
  nodup : s.out.Nodup
  sub : ∀ x ∈ s.out, isB s x
  good : ∀ p x q, s.out = p ++ x :: q → ∀ d ∈ g x, d ∈ p ∨ Path g d x
  closed : ∀ x ∈ s.out, ∀ d ∈ g x, isB s d

def Act (g : Nat → List Nat) (i : Nat) (s : St) : Prop := ∀ a, isB s a → a ∉ s.out → Path g a i

/-- What a step does to a state, seen from outside: what was begun stays; the order grows at its end; nothing new is left open; what is new is reached from i. -/
structure Went (g : Nat → List Nat) (n i : Nat) (s s' : St) : Prop where
  inv : Inv g n s'
  grows : ∃ new, s'.out = s.out ++ new
  mono : ∀ x, isB s x → isB s' x
  shut : ∀ x, isB s' x → x ∉ s'.out → isB s x ∧ x ∉ s.out
  from_ : ∀ x, isB s' x → isB s x ∨ x = i ∨ Path g i x
  left_le : left s' ≤ left s
  stays : ∀ x, isB s x → x ∉ s.out → x ∉ s'.out

theorem Went.refl {g : Nat → List Nat} {n i : Nat} {s : St} (h : Inv g n s) : Went g n i s s :=
  ⟨h, ⟨[], by simp⟩, fun _ h => h, fun _ h k => ⟨h, k⟩, fun _ h => .inl h, Nat.le_refl _, fun _ _ h => h⟩

theorem Path.trans {g : Nat → List Nat} {a b c : Nat} (h : Path g a b) (k : Path g b c) : Path g a c := by
  exact k.ind (fun x => Path g a x) (fun _ h' => .snoc h h') (fun _ _ ih h' => .snoc ih h')

theorem mem_of_grows {s s' : St} (h : ∃ new, s'.out = s.out ++ new) {x : Nat} (hx : x ∈ s.out) : x ∈ s'.out := by
  obtain ⟨new, e⟩ := h; rw [e]; exact List.mem_append_left _ hx

/-- The loop over what i leads to, given that each visit with fuel f goes as it must. -/
theorem fold_went {g : Nat → List Nat} {n f i : Nat} (hg : ∀ i, ∀ d ∈ g i, d < n)
    (ih : ∀ (d : Nat) (s : St), d < n → Inv g n s → ¬ isB s d → Act g d s → left s ≤ f → Went g n d s (visit g f d s) ∧ d ∈ (visit g f d s).out)
    (ds : List Nat) (hds : ∀ d ∈ ds, d ∈ g i) :
    ∀ s : St, Inv g n s → isB s i → i ∉ s.out → (∀ a, isB s a → a ∉ s.out → a = i ∨ Path g a i) → left s ≤ f →
      Went g n i s (ds.foldl (stepV g f) s) ∧ (∀ d ∈ ds, d ∈ (ds.foldl (stepV g f) s).out ∨ Path g d i) ∧ (∀ d ∈ ds, isB (ds.foldl (stepV g f) s) d) ∧ i ∉ (ds.foldl (stepV g f) s).out := by
  induction ds with
  | nil => intro s hI _ hno _ _; exact ⟨Went.refl hI, by simp, by simp, hno⟩
  | cons d ds IH =>
    intro s hI hb hno hact hl
    have hd : d ∈ g i := hds d (by simp)
    have hstep : Went g n i s (stepV g f s d) ∧ (d ∈ (stepV g f s d).out ∨ Path g d i) ∧ isB (stepV g f s d) d ∧ i ∉ (stepV g f s d).out := by
      unfold stepV
      by_cases hbd : s.begun.getD d false = true
      · rw [if_pos hbd]
        refine ⟨Went.refl hI, ?_, hbd, hno⟩
        by_cases ho : d ∈ s.out
        · exact .inl ho
        · rcases hact d hbd ho with rfl | h
          · exact .inr (.one hd)
          · exact .inr h
      · rw [if_neg hbd]
        have hA : Act g d s := fun a ha hao => by
          rcases hact a ha hao with rfl | h
          · exact .one hd
          · exact .snoc h hd
        obtain ⟨w, hm⟩ := ih d s (hg i d hd) hI hbd hA hl
        refine ⟨⟨w.inv, w.grows, w.mono, w.shut, fun x hx => ?_, w.left_le, w.stays⟩, .inl hm, w.inv.sub d hm, fun hi => ?_⟩
        · rcases w.from_ x hx with h | rfl | h
          · exact .inl h
          · exact .inr (.inr (.one hd))
          · exact .inr (.inr (Path.trans (.one hd) h))
        · exact w.stays i hb hno hi
    obtain ⟨w1, h1, h2, h3⟩ := hstep
    have hact' : ∀ a, isB (stepV g f s d) a → a ∉ (stepV g f s d).out → a = i ∨ Path g a i := fun a ha hao => by
      obtain ⟨p, q⟩ := w1.shut a ha hao
      exact hact a p q
    obtain ⟨w2, k1, k2, k3⟩ := IH (fun x hx => hds x (by simp [hx])) (stepV g f s d) w1.inv (w1.mono i hb) h3 hact' (Nat.le_trans w1.left_le hl)
    rw [List.foldl_cons]
    refine ⟨⟨w2.inv, ?_, fun x hx => w2.mono x (w1.mono x hx), fun x hx ho => ?_, fun x hx => ?_, Nat.le_trans w2.left_le w1.left_le, fun x hx ho => w2.stays x (w1.mono x hx) (w1.stays x hx ho)⟩, ?_, ?_, k3⟩
    · obtain ⟨a, ea⟩ := w1.grows
      obtain ⟨b, eb⟩ := w2.grows
      exact ⟨a ++ b, by rw [eb, ea, List.append_assoc]⟩
    · obtain ⟨p, q⟩ := w2.shut x hx ho
      exact w1.shut x p q
    · rcases w2.from_ x hx with h | h | h
      · exact w1.from_ x h
      · exact .inr (.inl h)
      · exact .inr (.inr h)
    · intro x hx
      rcases List.mem_cons.1 hx with rfl | hx
      · rcases h1 with h | h
        · exact .inl (mem_of_grows w2.grows h)
        · exact .inr h
      · exact k1 x hx
    · intro x hx
      rcases List.mem_cons.1 hx with rfl | hx
      · exact w2.mono _ h2
      · exact k2 x hx

theorem left_mark {s : St} {i : Nat} (hi : i < s.begun.length) (hb : ¬ isB s i) : left ⟨s.begun.set i true, s.out⟩ + 1 = left s :=
  count_set _ _ hi (by simpa [isB] using hb)

theorem isB_mark {s : St} {i x : Nat} (hi : i < s.begun.length) : isB ⟨s.begun.set i true, s.out⟩ x ↔ i = x ∨ isB s x := by
  unfold isB
  simp only [getD_set _ _ _ _ hi]
  by_cases h : i = x <;> simp [h]

theorem split_snoc {α : Type} {l p q : List α} {x y : α} (h : l ++ [y] = p ++ x :: q) : (l = p ∧ y = x ∧ q = []) ∨ ∃ q', q = q' ++ [y] ∧ l = p ++ x :: q' := by
  rcases List.eq_nil_or_concat q with rfl | ⟨q', z, rfl⟩
  · left
    have := List.append_inj' h (by simp)
    obtain ⟨h1, h2⟩ := this
    exact ⟨h1, by simpa using h2, rfl⟩
  · right
    have h' : l ++ [y] = (p ++ x :: q') ++ [z] := by simpa using h
    have := List.append_inj' h' (by simp)
    obtain ⟨h1, h2⟩ := this
    exact ⟨q', by simp at h2; rw [h2]; simp, h1⟩

theorem visit_went {g : Nat → List Nat} {n : Nat} (hg : ∀ i, ∀ d ∈ g i, d < n) (f : Nat) :
    ∀ (i : Nat) (s : St), i < n → Inv g n s → ¬ isB s i → Act g i s → left s ≤ f → Went g n i s (visit g f i s) ∧ i ∈ (visit g f i s).out := by
  induction f with
  | zero =>
    intro i s hi hI hb _ hl
    have := left_mark (s := s) (i := i) (by rw [hI.len]; exact hi) hb
    omega
  | succ f ih =>
    intro i s hi hI hb hA hl
    have hi' : i < s.begun.length := by rw [hI.len]; exact hi
    have hno : i ∉ s.out := fun h => hb (hI.sub i h)
    have hI0 : Inv g n ⟨s.begun.set i true, s.out⟩ :=
      ⟨by simp [hI.len], hI.nodup, fun x hx => (isB_mark hi').2 (.inr (hI.sub x hx)), hI.good, fun x hx d hd => (isB_mark hi').2 (.inr (hI.closed x hx d hd))⟩
    obtain ⟨w, k1, k2, k3⟩ := fold_went (i := i) hg ih (g i) (fun _ h => h) ⟨s.begun.set i true, s.out⟩ hI0 ((isB_mark hi').2 (.inl rfl)) hno (by
      intro a ha hao
      rcases (isB_mark hi').1 ha with rfl | h
      · exact .inl rfl
      · exact .inr (hA a h hao)) (by have := left_mark hi' hb; omega)
    rw [visit_succ]
    generalize (g i).foldl (stepV g f) ⟨s.begun.set i true, s.out⟩ = s1 at w k1 k2 k3 ⊢
    have hbi : isB s1 i := w.mono i ((isB_mark hi').2 (.inl rfl))
    refine ⟨⟨⟨w.inv.len, ?_, ?_, ?_, ?_⟩, ?_, ?_, ?_, ?_, ?_, ?_⟩, by simp⟩
    · exact List.nodup_append.2 ⟨w.inv.nodup, by simp, fun a ha b hb e => by simp at hb; subst hb; subst e; exact k3 ha⟩
    · intro x hx
      rcases List.mem_append.1 hx with h | h
      · exact w.inv.sub x h
      · simp at h; subst h; exact hbi
    · intro p x q e d hd
      rcases split_snoc e with ⟨rfl, rfl, _⟩ | ⟨q', rfl, e'⟩
      · exact k1 d hd
      · exact w.inv.good p x q' e' d hd
    · intro x hx d hd
      rcases List.mem_append.1 hx with h | h
      · exact w.inv.closed x h d hd
      · simp at h; subst h; exact k2 d hd
    · obtain ⟨new, e⟩ := w.grows
      exact ⟨new ++ [i], by simp only [] at e ⊢; rw [e, List.append_assoc]⟩
    · exact fun x hx => w.mono x ((isB_mark hi').2 (.inr hx))
    · intro x hx ho
      simp only [List.mem_append, List.mem_singleton, not_or] at ho
      obtain ⟨p, q⟩ := w.shut x hx ho.1
      rcases (isB_mark hi').1 p with h | h
      · exact absurd h.symm ho.2
      · exact ⟨h, q⟩
    · intro x hx
      rcases w.from_ x hx with h | h | h
      · rcases (isB_mark hi').1 h with h | h
        · exact .inr (.inl h.symm)
        · exact .inl h
      · exact .inr (.inl h)
      · exact .inr (.inr h)
    · have := w.left_le
      have := left_mark hi' hb
      have e : left ⟨s1.begun, s1.out ++ [i]⟩ = left s1 := rfl
      omega
    · intro x hx ho h
      rcases List.mem_append.1 h with h | h
      · exact w.stays x ((isB_mark hi').2 (.inr hx)) ho h
      · simp at h; subst h; exact hb hx

/-- Nothing is left open between two visits of the outer loop. -/
structure Top (g : Nat → List Nat) (n k : Nat) (s : St) : Prop where
  inv : Inv g n s
  done : ∀ x, isB s x → x ∈ s.out
  upto : ∀ x, x < k → x ∈ s.out

theorem start_top (g : Nat → List Nat) (n : Nat) : Top g n 0 (startSt n) := by
  have hb : ∀ x, ¬ isB (startSt n) x := fun x h => by
    have hx := isB_lt h
    simp [startSt] at hx
    simp [isB, startSt, List.getD, hx] at h
  exact ⟨⟨by simp [startSt], by simp [startSt], by simp [startSt], by simp [startSt], by simp [startSt]⟩, fun x h => absurd h (hb x), fun x h => absurd h (Nat.not_lt_zero _)⟩

theorem left_le_len (s : St) : left s ≤ s.begun.length := List.count_le_length

theorem step_top {g : Nat → List Nat} {n k : Nat} (hg : ∀ i, ∀ d ∈ g i, d < n) (hk : k < n) {s : St} (h : Top g n k s) :
    Top g n (k + 1) (stepV g n s k) ∧ Went g n k s (stepV g n s k) := by
  unfold stepV
  by_cases hb : s.begun.getD k false = true
  · rw [if_pos hb]
    exact ⟨⟨h.inv, h.done, fun x hx => by
      rcases Nat.lt_succ_iff_lt_or_eq.1 hx with hx | rfl
      · exact h.upto x hx
      · exact h.done _ hb⟩, Went.refl h.inv⟩
  · rw [if_neg hb]
    obtain ⟨w, hm⟩ := visit_went hg n k s hk h.inv hb (fun a ha hao => absurd (h.done a ha) hao) (by rw [← h.inv.len]; exact left_le_len s)
    refine ⟨⟨w.inv, fun x hx => ?_, fun x hx => ?_⟩, w⟩
    · by_cases ho : x ∈ (visit g n k s).out
      · exact ho
      · obtain ⟨p, q⟩ := w.shut x hx ho
        exact absurd (h.done x p) q
    · rcases Nat.lt_succ_iff_lt_or_eq.1 hx with hx | rfl
      · exact mem_of_grows w.grows (h.upto x hx)
      · exact hm

theorem runTo_top {g : Nat → List Nat} {n : Nat} (hg : ∀ i, ∀ d ∈ g i, d < n) : ∀ k, k ≤ n → Top g n k (runTo g n k)
  | 0, _ => start_top g n
  | k + 1, hk => by
    rw [runTo_succ]
    exact (step_top hg (by omega) (runTo_top hg k (by omega))).1

theorem runTo_grows {g : Nat → List Nat} {n : Nat} (hg : ∀ i, ∀ d ∈ g i, d < n) {j : Nat} : ∀ k, j ≤ k → k ≤ n → ∃ new, (runTo g n k).out = (runTo g n j).out ++ new := by
  intro k
  induction k with
  | zero => intro h _; obtain rfl : j = 0 := by omega
            exact ⟨[], by simp⟩
  | succ k ih =>
    intro h hk
    rcases Nat.lt_or_ge k j with h' | h'
    · obtain rfl : j = k + 1 := by omega
      exact ⟨[], by simp⟩
    · obtain ⟨a, ea⟩ := ih h' (by omega)
      rw [runTo_succ]
      obtain ⟨b, eb⟩ := (step_top hg (show k < n by omega) (runTo_top hg k (by omega))).2.grows
      exact ⟨a ++ b, by rw [eb, ea, List.append_assoc]⟩

section
variable {g : Nat → List Nat} {n : Nat} (hg : ∀ i, ∀ d ∈ g i, d < n)
include hg

theorem runOut_nodup : (runOut g n).Nodup := (runTo_top hg n (Nat.le_refl _)).inv.nodup
theorem runOut_mem (x : Nat) : x ∈ runOut g n ↔ x < n := by
  have h := runTo_top hg n (Nat.le_refl _)
  exact ⟨fun hx => by have := isB_lt (h.inv.sub x hx); rwa [h.inv.len] at this, fun hx => h.upto x hx⟩
theorem runOut_perm : (runOut g n).Perm (List.range n) :=
  (List.perm_ext_iff_of_nodup (runOut_nodup hg) List.nodup_range).2 (fun x => by rw [runOut_mem hg, List.mem_range])
theorem runOut_length : (runOut g n).length = n := by rw [(runOut_perm hg).length_eq, List.length_range]
theorem runOut_good {p q : List Nat} {x d : Nat} (e : runOut g n = p ++ x :: q) (hd : d ∈ g x) (hn : ¬ Path g d x) : d ∈ p :=
  ((runTo_top hg n (Nat.le_refl _)).inv.good p x q e d hd).resolve_right hn

/-- What stands ahead of 0 is reached from 0; what stands behind it is not. -/
theorem runOut_zero (hn : 0 < n) : ∃ p q, runOut g n = p ++ 0 :: q ∧ (∀ x ∈ p, Path g 0 x) ∧ ∀ x ∈ q, ¬ Path g 0 x := by
  have hb0 : ¬ isB (startSt n) 0 := fun h => by simp [isB, startSt, List.getD, hn] at h
  have e1 : runTo g n 1 = visit g n 0 (startSt n) := by
    rw [runTo_succ]
    show stepV g n (startSt n) 0 = _
    unfold stepV
    rw [if_neg (by simpa [isB] using hb0)]
  have hT := start_top g n
  obtain ⟨w, _⟩ := visit_went hg n 0 (startSt n) hn hT.inv hb0 (fun a ha hao => absurd (hT.done a ha) hao) (by have := left_le_len (startSt n); rw [hT.inv.len] at this; exact this)
  have h1 := runTo_top hg 1 hn
  obtain ⟨m, rfl⟩ : ∃ m, n = m + 1 := ⟨n - 1, by omega⟩
  have eo : (runTo g (m + 1) 1).out = ((g 0).foldl (stepV g m) ⟨(startSt (m + 1)).begun.set 0 true, (startSt (m + 1)).out⟩).out ++ [0] := by rw [e1, visit_succ]
  generalize ((g 0).foldl (stepV g m) ⟨(startSt (m + 1)).begun.set 0 true, (startSt (m + 1)).out⟩).out = p at eo
  obtain ⟨new, en⟩ := runTo_grows hg (j := 1) (m + 1) hn (Nat.le_refl _)
  have enod := runOut_nodup hg
  have eall : runOut g (m + 1) = p ++ 0 :: new := by
    show (runTo g (m + 1) (m + 1)).out = _
    rw [en, eo]; simp
  rw [eall] at enod
  have enod' := List.nodup_append.1 enod
  refine ⟨p, new, eall, fun x hx => ?_, fun x hx hP => ?_⟩
  · have hxo : x ∈ (runTo g (m + 1) 1).out := by rw [eo]; simp [hx]
    have hxb := h1.inv.sub x hxo
    rw [e1] at hxb
    rcases w.from_ x hxb with h | h | h
    · exact absurd (hT.done x h) (by simp [startSt])
    · exact absurd h (enod'.2.2 x hx 0 (by simp))
    · exact h
  · -- all that is reached from 0 is out already
    have hall : ∀ y, Path g 0 y → y ∈ (runTo g (m + 1) 1).out := by
      intro y hy
      exact hy.ind (fun x => x ∈ (runTo g (m + 1) 1).out) (fun _ h => h1.done _ (h1.inv.closed 0 (h1.upto 0 (by omega)) _ h)) (fun _ _ ih h => h1.done _ (h1.inv.closed _ ih _ h))
    have := hall x hP
    rw [eo] at this
    have hnd : (p ++ [0] ++ new).Nodup := by simpa using enod
    exact (List.nodup_append.1 hnd).2.2 x this x hx rfl
end

/-! ### Reachability by sweeps -/

/-- One place's turn of a sweep. -/
def sweepAt (g : Nat → List Nat) (i : Nat) (o : List Bool) (k : Nat) : List Bool :=
  if k ≠ i ∧ o.getD k false = false then o else (g k).foldl (fun o d => o.set d true) o
def sweep (g : Nat → List Nat) (n i : Nat) (o : List Bool) : List Bool := (List.range n).foldl (sweepAt g i) o
def sweeps (g : Nat → List Nat) (n i : Nat) : Nat → List Bool
  | 0 => List.replicate n false
  | m + 1 => sweep g n i (sweeps g n i m)
def reach (g : Nat → List Nat) (n i : Nat) : List Bool := sweeps g n i (n + 1)

def On (o : List Bool) (x : Nat) : Prop := o.getD x false = true

theorem lt_of_on {o : List Bool} {n x : Nat} (hl : o.length = n) (h : On o x) : x < n := by
  rcases Nat.lt_or_ge x n with h' | h'
  · exact h'
  · exfalso
    unfold On at h
    rw [List.getD_eq_getElem?_getD, List.getElem?_eq_none (by omega)] at h
    cases h

theorem on_set {o : List Bool} {d x : Nat} (hd : d < o.length) : On (o.set d true) x ↔ d = x ∨ On o x := by
  unfold On
  rw [getD_set _ _ _ _ hd]
  by_cases h : d = x <;> simp [h]

theorem fold_set_len (ds : List Nat) : ∀ o : List Bool, (ds.foldl (fun o d => o.set d true) o).length = o.length := by
  induction ds with
  | nil => intro o; rfl
  | cons d ds ih => intro o; rw [List.foldl_cons, ih]; simp

theorem fold_set_on (ds : List Nat) : ∀ o : List Bool, (∀ d ∈ ds, d < o.length) → ∀ x, On (ds.foldl (fun o d => o.set d true) o) x ↔ x ∈ ds ∨ On o x := by
  induction ds with
  | nil => intro o _ x; simp
  | cons d ds ih =>
    intro o h x
    rw [List.foldl_cons, ih _ (fun y hy => by simpa using h y (by simp [hy])), on_set (h d (by simp)), List.mem_cons]
    constructor
    · rintro (h | h | h)
      · exact .inl (.inr h)
      · exact .inl (.inl h.symm)
      · exact .inr h
    · rintro ((h | h) | h)
      · exact .inr (.inl h.symm)
      · exact .inl h
      · exact .inr (.inr h)

section
variable {g : Nat → List Nat} {n : Nat} (hg : ∀ i, ∀ d ∈ g i, d < n) (i : Nat)
include hg

structure Swept (k : Nat) (o o' : List Bool) : Prop where
  len : o'.length = n
  mono : ∀ x, On o x → On o' x
  full : ∀ y, y < k → (y = i ∨ On o y) → ∀ d ∈ g y, On o' d
  sound : (∀ x, On o x → Path g i x) → ∀ x, On o' x → Path g i x

theorem sweep_to (o : List Bool) (ho : o.length = n) : ∀ k, k ≤ n → Swept (g := g) (n := n) i k o ((List.range k).foldl (sweepAt g i) o) := by
  intro k
  induction k with
  | zero => intro _; exact ⟨ho, fun _ h => h, fun y hy => absurd hy (Nat.not_lt_zero _), fun h => h⟩
  | succ k ih =>
    intro hk
    have h := ih (by omega)
    rw [List.range_succ, List.foldl_append, List.foldl_cons, List.foldl_nil]
    generalize (List.range k).foldl (sweepAt g i) o = o1 at h ⊢
    unfold sweepAt
    by_cases hc : k ≠ i ∧ o1.getD k false = false
    · rw [if_pos hc]
      refine ⟨h.len, h.mono, fun y hy hyo d hd => ?_, h.sound⟩
      rcases Nat.lt_succ_iff_lt_or_eq.1 hy with hy | rfl
      · exact h.full y hy hyo d hd
      · rcases hyo with e | e
        · exact absurd e hc.1
        · have h' := h.mono _ e
          unfold On at h'
          rw [hc.2] at h'
          cases h'
    · rw [if_neg hc]
      have hlt : ∀ d ∈ g k, d < o1.length := fun d hd => by rw [h.len]; exact hg k d hd
      refine ⟨by rw [fold_set_len, h.len], fun x hx => (fold_set_on _ _ hlt x).2 (.inr (h.mono x hx)), fun y hy hyo d hd => ?_, fun hs x hx => ?_⟩
      · rcases Nat.lt_succ_iff_lt_or_eq.1 hy with hy | rfl
        · exact (fold_set_on _ _ hlt d).2 (.inr (h.full y hy hyo d hd))
        · exact (fold_set_on _ _ hlt d).2 (.inl hd)
      · rcases (fold_set_on _ _ hlt x).1 hx with hx | hx
        · by_cases e : k = i
          · exact e ▸ .one hx
          · have hk' : On o1 k := by
              unfold On
              cases hv : o1.getD k false with
              | true => rfl
              | false => exact absurd ⟨e, hv⟩ hc
            exact .snoc (h.sound hs k hk') hx
        · exact h.sound hs x hx

theorem sweep_is (o : List Bool) (ho : o.length = n) : Swept (g := g) (n := n) i n o (sweep g n i o) := sweep_to hg i o ho n (Nat.le_refl _)

theorem sweeps_len : ∀ m, (sweeps g n i m).length = n
  | 0 => by simp [sweeps]
  | m + 1 => (sweep_is hg i _ (sweeps_len m)).len

theorem sweeps_sound : ∀ m x, On (sweeps g n i m) x → Path g i x
  | 0, x, h => by
    unfold On sweeps at h
    by_cases hx : x < n <;> simp [List.getD, hx] at h
  | m + 1, x, h => (sweep_is hg i _ (sweeps_len hg i m)).sound (sweeps_sound m) x h

omit hg in
theorem count_lt {o o' : List Bool} (hl : o'.length = o.length) (hm : ∀ x, On o x → On o' x) : o.count true ≤ o'.count true ∧ (o.count true = o'.count true → o = o') := by
  induction o generalizing o' with
  | nil => cases o' with
    | nil => simp
    | cons => simp at hl
  | cons a o ih =>
    cases o' with
    | nil => simp at hl
    | cons b o' =>
      have h0 := hm 0
      have hr := ih (o' := o') (by simpa using hl) (fun x hx => by have := hm (x + 1); simpa [On, List.getD] using this (by simpa [On, List.getD] using hx))
      simp only [On, List.getD_cons_zero] at h0
      cases a <;> cases b <;> simp_all
      omega

/-- Each sweep marks one more, or nothing is left to mark. -/
theorem sweeps_count : ∀ m, sweeps g n i (m + 1) = sweeps g n i m ∨ m < (sweeps g n i (m + 1)).count true
  | 0 => by
    have h := sweep_is hg i _ (sweeps_len hg i 0)
    have hc := count_lt (by rw [h.len, sweeps_len hg i 0]) h.mono
    by_cases e : (sweeps g n i 0).count true = (sweep g n i (sweeps g n i 0)).count true
    · exact .inl (hc.2 e).symm
    · right
      show 0 < (sweep g n i (sweeps g n i 0)).count true
      omega
  | m + 1 => by
    have h := sweep_is hg i _ (sweeps_len hg i (m + 1))
    have hc := count_lt (by rw [h.len, sweeps_len hg i (m + 1)]) h.mono
    by_cases e : (sweeps g n i (m + 1)).count true = (sweep g n i (sweeps g n i (m + 1))).count true
    · exact .inl (hc.2 e).symm
    · right
      show m + 1 < (sweep g n i (sweeps g n i (m + 1))).count true
      rcases sweeps_count m with h' | h'
      · exfalso
        apply e
        show _ = (sweep g n i (sweeps g n i (m + 1))).count true
        rw [h']
        exact congrArg (·.count true) (show sweeps g n i m = sweep g n i (sweeps g n i m) from h'.symm)
      · omega

theorem sweeps_still : sweeps g n i (n + 1) = sweeps g n i n := by
  rcases sweeps_count hg i n with h | h
  · exact h
  · have := List.count_le_length (a := true) (l := sweeps g n i (n + 1))
    rw [sweeps_len hg i] at this
    omega

theorem reach_on (hi : i < n) (x : Nat) : On (reach g n i) x ↔ Path g i x := by
  refine ⟨sweeps_sound hg i _ x, fun h => ?_⟩
  have hf := (sweep_is hg i _ (sweeps_len hg i n)).full
  have e : sweep g n i (sweeps g n i n) = sweeps g n i n := sweeps_still hg i
  have er : reach g n i = sweeps g n i n := e
  rw [er]
  rw [e] at hf
  exact h.ind (fun x => On (sweeps g n i n) x) (fun _ h => hf i hi (.inl rfl) _ h) (fun _ _ hb h => hf _ (lt_of_on (sweeps_len hg i n) hb) (.inr hb) _ h)
end

/-- What is left and what is out never grow together. -/
theorem visit_room (g : Nat → List Nat) (n : Nat) (hg : ∀ i, ∀ d ∈ g i, d < n) (f : Nat) : ∀ (i : Nat) (s : St), i < n → s.begun.length = n → ¬ isB s i → left s ≤ f →
    (visit g f i s).begun.length = n ∧ (visit g f i s).out.length + left (visit g f i s) ≤ s.out.length + left s ∧ left (visit g f i s) + 1 ≤ left s := by
  induction f with
  | zero =>
    intro i s hi hl hb hf
    have := left_mark (s := s) (i := i) (by omega) hb
    omega
  | succ f ih =>
    intro i s hi hl hb hf
    have hm := left_mark (s := s) (i := i) (by omega) hb
    have hfold : ∀ (ds : List Nat), (∀ d ∈ ds, d < n) → ∀ t : St, t.begun.length = n → left t ≤ f →
        (ds.foldl (stepV g f) t).begun.length = n ∧ (ds.foldl (stepV g f) t).out.length + left (ds.foldl (stepV g f) t) ≤ t.out.length + left t ∧ left (ds.foldl (stepV g f) t) ≤ left t := by
      intro ds
      induction ds with
      | nil => intro _ t ht _; exact ⟨ht, Nat.le_refl _, Nat.le_refl _⟩
      | cons d ds IH =>
        intro hds t ht htf
        have h1 : (stepV g f t d).begun.length = n ∧ (stepV g f t d).out.length + left (stepV g f t d) ≤ t.out.length + left t ∧ left (stepV g f t d) ≤ left t := by
          unfold stepV
          by_cases hbd : t.begun.getD d false = true
          · rw [if_pos hbd]; exact ⟨ht, Nat.le_refl _, Nat.le_refl _⟩
          · rw [if_neg hbd]
            obtain ⟨a, b, c⟩ := ih d t (hds d (by simp)) ht hbd htf
            exact ⟨a, b, by omega⟩
        obtain ⟨a, b, c⟩ := h1
        obtain ⟨a', b', c'⟩ := IH (fun x hx => hds x (by simp [hx])) (stepV g f t d) a (by omega)
        exact ⟨a', by rw [List.foldl_cons]; omega, by rw [List.foldl_cons]; omega⟩
    obtain ⟨a, b, c⟩ := hfold (g i) (hg i) ⟨s.begun.set i true, s.out⟩ (by simpa using hl) (by omega)
    rw [visit_succ]
    generalize (g i).foldl (stepV g f) ⟨s.begun.set i true, s.out⟩ = s1 at a b c ⊢
    have e : left ⟨s1.begun, s1.out ++ [i]⟩ = left s1 := rfl
    have e2 : (⟨s.begun.set i true, s.out⟩ : St).out.length = s.out.length := rfl
    refine ⟨a, ?_, ?_⟩
    · rw [e]; simp only [List.length_append, List.length_cons, List.length_nil]; omega
    · omega
theorem step_room (g : Nat → List Nat) (n : Nat) (hg : ∀ i, ∀ d ∈ g i, d < n) (f : Nat) (d : Nat) (s : St) (hd : d < n) (hl : s.begun.length = n) (hf : left s ≤ f) :
    (stepV g f s d).begun.length = n ∧ (stepV g f s d).out.length + left (stepV g f s d) ≤ s.out.length + left s ∧ left (stepV g f s d) ≤ left s := by
  unfold stepV
  by_cases hbd : s.begun.getD d false = true
  · rw [if_pos hbd]; exact ⟨hl, Nat.le_refl _, Nat.le_refl _⟩
  · rw [if_neg hbd]
    obtain ⟨a, b, c⟩ := visit_room g n hg f d s hd hl hbd hf
    exact ⟨a, b, by omega⟩
theorem fold_room (g : Nat → List Nat) (n : Nat) (hg : ∀ i, ∀ d ∈ g i, d < n) (f : Nat) (ds : List Nat) : (∀ d ∈ ds, d < n) → ∀ t : St, t.begun.length = n → left t ≤ f →
    (ds.foldl (stepV g f) t).begun.length = n ∧ (ds.foldl (stepV g f) t).out.length + left (ds.foldl (stepV g f) t) ≤ t.out.length + left t ∧ left (ds.foldl (stepV g f) t) ≤ left t := by
  induction ds with
  | nil => intro _ t ht _; exact ⟨ht, Nat.le_refl _, Nat.le_refl _⟩
  | cons d ds IH =>
    intro hds t ht htf
    obtain ⟨a, b, c⟩ := step_room g n hg f d t (hds d (by simp)) ht htf
    obtain ⟨a', b', c'⟩ := IH (fun x hx => hds x (by simp [hx])) (stepV g f t d) a (by omega)
    exact ⟨a', by rw [List.foldl_cons]; omega, by rw [List.foldl_cons]; omega⟩
end Go.Proofs.Ytepnaalgobhcdaa.Clv
