/- Which initializers an image has: how its segments lie in memory, and plain mathematics. An image's lowest address: image.Low, and the reference's. order.items, order.number, reader.pointer, reader.offset. order.Of: what it keeps while it goes over the sections. order.Of: the walk. -/
import Derived.Test.YtepnaalgobhcdaaBnE
import Derived.Test.YtepnaalgobhcdaaBnA
import Derived.Deep.RegionWith
import Derived.Test.YtepnaalgobhcdaaBnD
import Derived.Test.YtepnaalgobhcdaaBnC
namespace Go.Proofs.Ytepnaalgobhcdaa
open Go.RowKit Spm

structure OSeg where
  addr : Nat
  fsize : Nat
  prot : Int
  secs : List SecC
structure OIm where
  slide : Nat
  segs : List OSeg
def OSeg.none : OSeg := ⟨0, 0, 0, []⟩
/-- A kind that an int can hold. -/
def KB (c : SecC) : Prop := (Lit.int .i64 c.x.kind).wf = true
def OSegAt (w : World) (s : OSeg) (b o : Nat) : Prop :=
  ∃ (v0 : ByteArray) (v2 v3 : Int) (a' : Option Addr) (c' : Nat), CellsAt w b o #[.string v0, .int .u64 (s.addr : Int), .int .u64 v2, .int .u64 v3, .int .u64 (s.fsize : Int), .int .i64 s.prot, .slice a' s.secs.length c'] ∧ s.secs.length ≤ c' ∧ c' ≤ maxLen ∧ SecsC w a' s.secs ∧ (∀ c ∈ s.secs, KB c) ∧ s.addr < 18446744073709551616
def OSegs (w : World) (a : Option Addr) (l : List OSeg) : Prop := SliceOf a l.length 7 fun j => OSegAt w (l.getD j .none)
def OImP (w : World) (cs : Array Value) (o : OIm) : Prop :=
  cs.size = 27 ∧ cs.all (·.oneCell') = true ∧ cs[25]? = some (.int .u64 (o.slide : Int)) ∧ o.slide < 18446744073709551616 ∧ ∃ (a : Option Addr) (c : Nat), OSegs w a o.segs ∧ cs[5]? = some (.slice a o.segs.length c) ∧ o.segs.length ≤ c ∧ c ≤ 9223372036854775807
section
variable {w w' : World}
theorem OSegAt.keep {s : OSeg} {b o : Nat} (h : OSegAt w s b o) (hb : Below w.heap.size w w') : OSegAt w' s b o := by
  obtain ⟨v0, v2, v3, a', c', h1, h2, h3, h4, h5⟩ := h
  exact ⟨v0, v2, v3, a', c', h1.keep hb, h2, h3, h4.keep hb, h5⟩
theorem OSegs.keep {a : Option Addr} {l : List OSeg} (h : OSegs w a l) (hb : Below w.heap.size w w') : OSegs w' a l := h.mono fun _ _ _ _ h => h.keep hb
theorem OImP.keep {cs : Array Value} {o : OIm} (h : OImP w cs o) (hb : Below w.heap.size w w') : OImP w' cs o := by
  obtain ⟨h1, h2, h3, h3', a, c, h4, h5⟩ := h
  exact ⟨h1, h2, h3, h3', a, c, h4.keep hb, h5⟩
end
def OImAt (w : World) (o : OIm) (b off : Nat) : Prop := ∃ cs, CellsAt w b off cs ∧ OImP w cs o
theorem OImAt.keep {w w' : World} {o : OIm} {b off : Nat} (h : OImAt w o b off) (hb : Below w.heap.size w w') : OImAt w' o b off := by
  obtain ⟨cs, h1, h2⟩ := h
  exact ⟨cs, h1.keep hb, h2.keep hb⟩
def OIms (w : World) (a : Option Addr) (l : List OIm) : Prop := SliceOf a l.length 27 fun j => OImAt w (l.getD j ⟨0, []⟩)
theorem OIms.keep {w w' : World} {a : Option Addr} {l : List OIm} (h : OIms w a l) (hb : Below w.heap.size w w') : OIms w' a l := h.mono fun _ _ _ _ h => h.keep hb

/-! ### A run over the sections that count -/
section
variable {S : Type}
def gst (f : S → SecC → S) (q : SecC → Bool) (s0 : S) (L : List (List SecC)) (i k : Nat) : S := ((preS L i k).filter q).foldl f s0
variable {f : S → SecC → S} {q : SecC → Bool} {s0 : S} {L : List (List SecC)} {i k : Nat}
theorem gst_end (h : i < L.length) : gst f q s0 L i (L.getD i []).length = gst f q s0 L (i + 1) 0 := by unfold gst; rw [preS_end h]
theorem gst_skip (h : k < (L.getD i []).length) (hp : q ((L.getD i []).getD k .none) = false) : gst f q s0 L i (k + 1) = gst f q s0 L i k := by
  unfold gst
  have e : [(L.getD i []).getD k .none].filter q = [] := by rw [List.filter_cons, hp]; rfl
  rw [preS_next h, List.filter_append, e, List.append_nil]
theorem gst_take (h : k < (L.getD i []).length) (hp : q ((L.getD i []).getD k .none) = true) : gst f q s0 L i (k + 1) = f (gst f q s0 L i k) ((L.getD i []).getD k .none) := by
  unfold gst
  have e : [(L.getD i []).getD k .none].filter q = [(L.getD i []).getD k .none] := by rw [List.filter_cons, hp]; rfl
  rw [preS_next h, List.filter_append, e, List.foldl_append]; rfl
theorem gst_last : gst f q s0 L L.length 0 = (L.flatten.filter q).foldl f s0 := by unfold gst; rw [preS_last]
theorem gst_stop (h : i < L.length) (hs : ∀ c, f (gst f q s0 L i k) c = gst f q s0 L i k) : (L.flatten.filter q).foldl f s0 = gst f q s0 L i k := by
  obtain ⟨rest, hr⟩ := preS_split (k := k) h
  rw [hr, List.filter_append, List.foldl_append]
  show ((rest.filter q).foldl f (gst f q s0 L i k)) = _
  induction rest.filter q with
  | nil => rfl
  | cons c l ih => rw [List.foldl_cons, hs c]; exact ih
end

/-! ### Initializers -/
def execAt (M : List Pg) (a : Nat) : Bool := match pg M (a / 4096) with
  | some p => p.prot / 4 % 2 == 1
  | none => false
def isInit (c : SecC) : Bool := c.x.kind == 9 || c.x.kind == 22
def oSize (c : SecC) : Nat := if c.x.kind = 22 then 4 else 8
/-- The first j initializers of a section: each is told by so many bytes, and stands so far above. -/
def oRun (M : List Pg) (addr slide sz above : Nat) : Nat → Int × List Nat
  | 0 => (0, [])
  | j + 1 => if (oRun M addr slide sz above j).1 ≠ 0 then oRun M addr slide sz above j else
      if readErr M (secAddr addr slide (sz * j)) sz ≠ 0 then (readErr M (secAddr addr slide (sz * j)) sz, (oRun M addr slide sz above j).2) else
      if execAt M ((wordOf (readAll M (secAddr addr slide (sz * j)) sz) + above) % 18446744073709551616) = true then (0, (oRun M addr slide sz above j).2 ++ [(wordOf (readAll M (secAddr addr slide (sz * j)) sz) + above) % 18446744073709551616])
      else (19, (oRun M addr slide sz above j).2)
theorem oRun_len {M : List Pg} {addr slide sz above : Nat} : ∀ j, (oRun M addr slide sz above j).1 = 0 → (oRun M addr slide sz above j).2.length = j
  | 0, _ => rfl
  | j + 1, h => by
    have ih := oRun_len (M := M) (addr := addr) (slide := slide) (sz := sz) (above := above) j
    rw [oRun] at h ⊢
    split at h
    · contradiction
    · rename_i h1
      rw [if_neg h1]
      split at h
      · contradiction
      · rename_i h2
        rw [if_neg h2]
        split at h
        · rename_i h3
          rw [if_pos h3]
          simp only [List.length_append, List.length_singleton]
          rw [ih (by simpa using h1)]
        · cases h
theorem oRun_stuck {M : List Pg} {addr slide sz above j k : Nat} (h : (oRun M addr slide sz above j).1 ≠ 0) (hk : j ≤ k) : oRun M addr slide sz above k = oRun M addr slide sz above j := by
  induction k with
  | zero => obtain rfl : j = 0 := by omega
            rfl
  | succ k ih =>
    by_cases e : j = k + 1
    · rw [e]
    · have := ih (by omega)
      rw [oRun, this, if_pos h]
theorem oRun_next {M : List Pg} {addr slide sz above j a : Nat} (h : (oRun M addr slide sz above j).1 = 0) (ha : a = secAddr addr slide (sz * j)) :
    oRun M addr slide sz above (j + 1) = if readErr M a sz ≠ 0 then (readErr M a sz, (oRun M addr slide sz above j).2) else
      if execAt M ((wordOf (readAll M a sz) + above) % 18446744073709551616) = true then (0, (oRun M addr slide sz above j).2 ++ [(wordOf (readAll M a sz) + above) % 18446744073709551616]) else (19, (oRun M addr slide sz above j).2) := by
  subst ha
  conv => lhs; unfold oRun
  rw [if_neg (by rw [h]; simp)]
theorem oRun_exec {M : List Pg} {addr slide sz above : Nat} : ∀ j, ∀ a ∈ (oRun M addr slide sz above j).2, execAt M a = true ∧ a < 18446744073709551616
  | 0 => fun a h => by cases h
  | j + 1 => fun a h => by
    have ih := oRun_exec (M := M) (addr := addr) (slide := slide) (sz := sz) (above := above) j
    rw [oRun] at h
    split at h
    · exact ih a h
    · split at h
      · exact ih a h
      · split at h
        · rename_i h3
          rcases List.mem_append.1 h with h | h
          · exact ih a h
          · rw [List.mem_singleton] at h
            rw [h]
            exact ⟨h3, Nat.mod_lt _ (by decide)⟩
        · exact ih a h
structure OSt where
  out : List Nat
  err : Int
def oAbove (low : Nat) (c : SecC) : Nat := if c.x.kind = 22 then low else 0
def oStep (M : List Pg) (slide low : Nat) (s : OSt) (c : SecC) : OSt :=
  if s.err ≠ 0 then s else if c.x.size % oSize c ≠ 0 then { s with err := 9 } else if 20000 < s.out.length + c.x.size / oSize c then { s with err := 11 } else
    if (oRun M c.x.addr slide (oSize c) (oAbove low c) (c.x.size / oSize c)).1 ≠ 0 then { s with err := (oRun M c.x.addr slide (oSize c) (oAbove low c) (c.x.size / oSize c)).1 }
    else ⟨s.out ++ (oRun M c.x.addr slide (oSize c) (oAbove low c) (c.x.size / oSize c)).2, 0⟩
def holeB (s : OSeg) : Bool := s.prot == 0 && s.fsize == 0
def lowOf (l : List OSeg) : Nat := match l.find? fun s => !holeB s with
  | some s => s.addr
  | none => 0
def lowS (o : OIm) : Nat := (lowOf o.segs + o.slide) % 18446744073709551616
def oSt (M : List Pg) (o : OIm) (i k : Nat) : OSt := gst (oStep M o.slide (lowS o)) isInit ⟨[], 0⟩ (o.segs.map (·.secs)) i k
/-- All initializers of an image. -/
def oOf (M : List Pg) (o : OIm) : OSt := ((o.segs.map (·.secs)).flatten.filter isInit).foldl (oStep M o.slide (lowS o)) ⟨[], 0⟩
theorem oStep_stuck {M : List Pg} {slide low : Nat} {s : OSt} (h : s.err ≠ 0) (c : SecC) : oStep M slide low s c = s := by unfold oStep; rw [if_pos h]
theorem oStep_bound {M : List Pg} {slide low : Nat} {s : OSt} (h : s.out.length ≤ 20000) (c : SecC) : (oStep M slide low s c).out.length ≤ 20000 := by
  unfold oStep
  split
  · exact h
  · split
    · exact h
    · split
      · exact h
      · split
        · exact h
        · rename_i h1 h2 h3 h4
          simp only [List.length_append]
          rw [oRun_len _ (by simpa using h4)]
          omega
theorem fold_bound {M : List Pg} {slide low : Nat} : ∀ (l : List SecC) (s : OSt), s.out.length ≤ 20000 → (l.foldl (oStep M slide low) s).out.length ≤ 20000
  | [], _, h => h
  | c :: l, _s, h => fold_bound l _ (oStep_bound h c)
theorem oSt_bound (M : List Pg) (o : OIm) (i k : Nat) : (oSt M o i k).out.length ≤ 20000 := fold_bound _ _ (Nat.zero_le _)
theorem oOf_bound (M : List Pg) (o : OIm) : (oOf M o).out.length ≤ 20000 := fold_bound _ _ (Nat.zero_le _)
theorem oStep_exec {M : List Pg} {slide low : Nat} {s : OSt} (h : ∀ a ∈ s.out, execAt M a = true ∧ a < 18446744073709551616) (c : SecC) : ∀ a ∈ (oStep M slide low s c).out, execAt M a = true ∧ a < 18446744073709551616 := by
  unfold oStep
  split
  · exact h
  · split
    · exact h
    · split
      · exact h
      · split
        · exact h
        · intro a ha
          rcases List.mem_append.1 ha with ha | ha
          · exact h a ha
          · exact oRun_exec _ a ha
theorem fold_exec {M : List Pg} {slide low : Nat} : ∀ (l : List SecC) (s : OSt), (∀ a ∈ s.out, execAt M a = true ∧ a < 18446744073709551616) → ∀ a ∈ (l.foldl (oStep M slide low) s).out, execAt M a = true ∧ a < 18446744073709551616
  | [], _, h => h
  | c :: l, _, h => fold_exec l _ (oStep_exec h c)
theorem oOf_exec (M : List Pg) (o : OIm) : ∀ a ∈ (oOf M o).out, execAt M a = true ∧ a < 18446744073709551616 := fold_exec _ _ fun a h => by cases h
theorem segs_getD {l : List OSeg} {i : Nat} (_h : i < l.length) : (l.map (·.secs)).getD i [] = (l.getD i .none).secs := by
  rw [List.getD_eq_getElem?_getD, List.getElem?_map, List.getD_eq_getElem?_getD]
  cases l[i]? <;> rfl
section
variable {M : List Pg} {o : OIm} {i k : Nat}
theorem oSt_end (h : i < o.segs.length) : oSt M o i (o.segs.getD i .none).secs.length = oSt M o (i + 1) 0 := by
  unfold oSt
  rw [← segs_getD h]
  exact gst_end (by simpa using h)
theorem oSt_skip (h : i < o.segs.length) (hk : k < (o.segs.getD i .none).secs.length) (hp : isInit ((o.segs.getD i .none).secs.getD k .none) = false) : oSt M o i (k + 1) = oSt M o i k := by
  unfold oSt
  rw [← segs_getD h] at hk hp
  exact gst_skip hk hp
theorem oSt_take (h : i < o.segs.length) (hk : k < (o.segs.getD i .none).secs.length) (hp : isInit ((o.segs.getD i .none).secs.getD k .none) = true) : oSt M o i (k + 1) = oStep M o.slide (lowS o) (oSt M o i k) ((o.segs.getD i .none).secs.getD k .none) := by
  unfold oSt
  rw [← segs_getD h] at hk hp ⊢
  exact gst_take hk hp
theorem oSt_last : oOf M o = oSt M o o.segs.length 0 := by
  unfold oOf oSt
  have := gst_last (f := oStep M o.slide (lowS o)) (q := isInit) (s0 := ⟨[], 0⟩) (L := o.segs.map (·.secs))
  rw [List.length_map] at this
  exact this.symm
theorem oSt_stop (h : i < o.segs.length) (he : (oSt M o i k).err ≠ 0) : oOf M o = oSt M o i k := gst_stop (by simpa using h) fun c => oStep_stuck he c
theorem oSt_zero : oSt M o 0 0 = ⟨[], 0⟩ := by unfold oSt gst; rw [preS_zero]; rfl
end
end Go.Proofs.Ytepnaalgobhcdaa
namespace Go.Proofs.Ytepnaalgobhcdaa
open Go.RowKit Go.Shelf Spm
attribute [local go_sem] Oper.semAt_some

/-- The seven cells of a segment. -/
abbrev sgCells (s : OSeg) (v0 : ByteArray) (v2 v3 : Int) (a' : Option Addr) (c' : Nat) : Array Value := #[.string v0, .int .u64 (s.addr : Int), .int .u64 v2, .int .u64 v3, .int .u64 (s.fsize : Int), .int .i64 s.prot, .slice a' s.secs.length c']
def BoolB (w : World) (r : Bool) (e : Ending) (w' : World) : Prop := e = .returned (.bool r) ∧ Below w.heap.size w w'

set_option maxRecDepth 100000 in
theorem hole_any (w : World) (s : OSeg) (v0 : ByteArray) (v2 v3 : Int) (a' : Option Addr) (c' : Nat) : Calls Try.prog 104 #[.agg (sgCells s v0 v2 v3 a' c')] w (BoolB w (holeB s)) := by
  unfold holeB
  obtain ⟨s1, s4, s5, s6⟩ := s
  by_cases c1 : s5 = 0
  · by_cases c2 : s4 = 0
    · have b1 : ((s5 : Int) == 0) = true := by rw [beq_iff_eq]; exact c1
      have b2 : ((s4 : Int) == 0) = true := by rw [beq_iff_eq]; omega
      have e : Hid (((s5 == 0) && (s4 == 0)) = true) := by show _ = _; simp [c1, c2]
      clear c1 c2
      go_enter Try.func104, Try.ntmps104
      go_wp2_with fail
      go_ret
      exact ⟨by simp only; rw [e.out]; rfl, (Below.refl _ _).alloc (Nat.le_refl _) _⟩
    · have b1 : ((s5 : Int) == 0) = true := by rw [beq_iff_eq]; exact c1
      have b2 : ((s4 : Int) == 0) = false := by rw [beq_eq_false_iff_ne]; omega
      have e : Hid (((s5 == 0) && (s4 == 0)) = false) := by show _ = _; simp [c2]
      clear c1 c2
      go_enter Try.func104, Try.ntmps104
      go_wp2_with fail
      go_ret
      exact ⟨by simp only; rw [e.out]; rfl, (Below.refl _ _).alloc (Nat.le_refl _) _⟩
  · have b1 : ((s5 : Int) == 0) = false := by rw [beq_eq_false_iff_ne]; exact c1
    have e : Hid (((s5 == 0) && (s4 == 0)) = false) := by show _ = _; simp [c1]
    clear c1
    go_enter Try.func104, Try.ntmps104
    go_wp2_with fail
    go_ret
    exact ⟨by simp only; rw [e.out]; rfl, (Below.refl _ _).alloc (Nat.le_refl _) _⟩
set_option maxRecDepth 100000 in
theorem rhole_any (w : World) (s : OSeg) (v0 : ByteArray) (v2 v3 : Int) (a' : Option Addr) (c' : Nat) : Calls Try.prog 106 #[.agg (sgCells s v0 v2 v3 a' c')] w (BoolB w (holeB s)) := by
  unfold holeB
  obtain ⟨s1, s4, s5, s6⟩ := s
  by_cases c1 : s5 = 0
  · by_cases c2 : s4 = 0
    · have b1 : ((s5 : Int) == 0) = true := by rw [beq_iff_eq]; exact c1
      have b2 : ((s4 : Int) == 0) = true := by rw [beq_iff_eq]; omega
      have e : Hid (((s5 == 0) && (s4 == 0)) = true) := by show _ = _; simp [c1, c2]
      clear c1 c2
      go_enter Try.func106, Try.ntmps106
      go_wp2_with fail
      go_ret
      exact ⟨by simp only; rw [e.out]; rfl, (Below.refl _ _).alloc (Nat.le_refl _) _⟩
    · have b1 : ((s5 : Int) == 0) = true := by rw [beq_iff_eq]; exact c1
      have b2 : ((s4 : Int) == 0) = false := by rw [beq_eq_false_iff_ne]; omega
      have e : Hid (((s5 == 0) && (s4 == 0)) = false) := by show _ = _; simp [c2]
      clear c1 c2
      go_enter Try.func106, Try.ntmps106
      go_wp2_with fail
      go_ret
      exact ⟨by simp only; rw [e.out]; rfl, (Below.refl _ _).alloc (Nat.le_refl _) _⟩
  · have b1 : ((s5 : Int) == 0) = false := by rw [beq_eq_false_iff_ne]; exact c1
    have e : Hid (((s5 == 0) && (s4 == 0)) = false) := by show _ = _; simp [c1]
    clear c1
    go_enter Try.func106, Try.ntmps106
    go_wp2_with fail
    go_ret
    exact ⟨by simp only; rw [e.out]; rfl, (Below.refl _ _).alloc (Nat.le_refl _) _⟩
set_option maxRecDepth 100000 in
theorem first1_any (w : World) (s : OSeg) (v0 : ByteArray) (v2 v3 : Int) (a' : Option Addr) (c' : Nat) : Calls Try.prog 103 #[.agg (sgCells s v0 v2 v3 a' c')] w (BoolB w (!holeB s)) := by
  have HH : Hid (∀ W, Calls Try.prog 104 #[.agg (sgCells s v0 v2 v3 a' c')] W (BoolB W (holeB s))) := fun W => hole_any W s v0 v2 v3 a' c'
  generalize holeB s = hb at *
  go_enter Try.func103, Try.ntmps103
  go_wp2_with fail
  refine (HH.out _).mono ?_
  rintro e w1 ⟨rfl, hb1⟩
  have HB := Lib.hid (((Below.refl w.heap.size w).alloc (Nat.le_refl _) (.cells (sgCells s v0 v2 v3 a' c') 128)).trans (below_le hb1 (by simp)))
  clear hb1 HH
  go_wp2_with fail
  go_ret
  exact ⟨rfl, HB.out⟩

theorem lowOf_at {l : List OSeg} {i : Nat} (hb : ∀ j, j < i → holeB (l.getD j .none) = true) (hi : i < l.length) (hk : holeB (l.getD i .none) = false) : lowOf l = (l.getD i .none).addr := by
  induction l generalizing i with
  | nil => simp at hi
  | cons x l ih =>
    unfold lowOf
    cases i with
    | zero =>
      simp at hk
      simp [hk]
    | succ i =>
      have h0 := hb 0 (by omega)
      simp at h0
      have h2 := ih (i := i) (fun j hj => by have := hb (j + 1) (by omega); simpa using this) (by simpa using hi) (by simpa using hk)
      unfold lowOf at h2
      rw [List.find?_cons, h0]
      simp only [List.getD_cons_succ]
      exact h2
theorem lowOf_none {l : List OSeg} (hb : ∀ j, j < l.length → holeB (l.getD j .none) = true) : lowOf l = 0 := by
  unfold lowOf
  have : l.find? (fun s => !holeB s) = none := by
    rw [List.find?_eq_none]
    intro x hx
    obtain ⟨j, hj, rfl⟩ := List.mem_iff_getElem.1 hx
    have := hb j hj
    rw [List.getD_eq_getElem?_getD, List.getElem?_eq_getElem hj] at this
    simpa using this
  rw [this]
def IxRes (w : World) (l : List OSeg) (e : Ending) (w' : World) : Prop :=
  Below w.heap.size w w' ∧ ((lowOf l = 0 ∧ e = .returned (.int .i64 (-1))) ∨ ∃ i : Nat, i < l.length ∧ lowOf l = (l.getD i .none).addr ∧ e = .returned (.int .i64 i))
/-- The cells of a segment, in a world behind. -/
theorem OSegs.seg {w W : World} {a : Option Addr} {l : List OSeg} (h : OSegs w a l) (hb : Below w.heap.size w W) {i : Nat} (hi : i < l.length) :
    ∃ b o, a = some ⟨b, o, none⟩ ∧ b < w.heap.size ∧ ∃ (v0 : ByteArray) (v2 v3 : Int) (a' : Option Addr) (c' : Nat), CellsAt W b (o + i * 7) (sgCells (l.getD i .none) v0 v2 v3 a' c') ∧ (l.getD i .none).secs.length ≤ c' ∧ c' ≤ 9223372036854775807 ∧ (∀ W', Below w.heap.size w W' → SecsC W' a' (l.getD i .none).secs) ∧ (∀ c ∈ (l.getD i .none).secs, KB c) ∧ (l.getD i .none).addr < 18446744073709551616 := by
  obtain ⟨b, o, e, v0, v2, v3, a', c', k1, k2, k3, k4, k5, k6⟩ := h i hi
  exact ⟨b, o, e, k1.lt (by simp), v0, v2, v3, a', c', k1.keep hb, k2, by unfold maxLen at k3; omega, fun W' hW' => k4.keep hW', k5, k6⟩

set_option maxHeartbeats 1000000 in
set_option maxRecDepth 100000 in
theorem ixf_any (w : World) (aS : Option Addr) (c : Nat) (l : List OSeg) (h : OSegs w aS l) (hc : l.length ≤ c) (hm : c ≤ 9223372036854775807) : Calls Try.prog 102 #[.slice aS l.length c, .func (.func 103) #[] #[]] w (IxRes w l) := by
  have H := Lib.hid h
  clear h
  go_enter Try.func102, Try.ntmps102
  go_wp2_with fail
  go_loopw [8] (fun t wr => ∃ i : Nat, i ≤ l.length ∧ t = .int .i64 i ∧ Hid (∀ j, j < i → holeB (l.getD j .none) = true) ∧ Hid (Below w.heap.size w wr)) (fun t _ => l.length - (intOf t).toNat)
  case atStart => exact ⟨0, Nat.zero_le _, rfl, fun j hj => absurd hj (Nat.not_lt_zero j), Below.refl _ _⟩
  case round =>
    obtain ⟨i, hi, rfl, HA, HB⟩ := hrel
    by_cases hlt : i < l.length
    · obtain ⟨b, o, rfl, _, v0, v2, v3, a', c', hcs, _⟩ := H.out.seg HB.out hlt
      have HC := Lib.hid hcs
      have HH : Hid (∀ W, Calls Try.prog 103 #[.agg (sgCells (l.getD i .none) v0 v2 v3 a' c')] W (BoolB W (!holeB (l.getD i .none)))) := fun W => first1_any W _ v0 v2 v3 a' c'
      have HLOW := fun hk => lowOf_at HA.out hlt hk
      have HLOW2 := Lib.hid HLOW
      have HA2 : Hid (holeB (l.getD i .none) = true → ∀ j, j < i + 1 → holeB (l.getD j .none) = true) := fun hk j hj => by
        by_cases e : j = i
        · rw [e]; exact hk
        · exact HA.out j (by omega)
      obtain ⟨s, hs⟩ : ∃ s, s = l.getD i .none := ⟨_, rfl⟩
      rw [← hs] at HLOW2 HA2 HH HC
      have HS := Lib.hid hs
      clear hcs HLOW hs
      go_wp2_with (refine wpList_load_agg 128 (.tmp 14) rfl rfl b (o + i * 7) (by simp [Act.eval]) _ _ HC.out Try.underlying128 rfl size128 ?_)
      refine (HH.out _).mono ?_
      rintro e w1 ⟨rfl, hb1⟩
      have HB1 := Lib.hid (HB.out.trans (below_le hb1 HB.out.size))
      clear hb1 HH
      cases hb : holeB s with
      | true =>
        have HA3 := Lib.hid (HA2.out hb)
        clear HA2 HLOW2
        go_wp2_with fail
        go_roundw
        case rel => exact ⟨i + 1, by omega, by go_num, HA3.out, HB1.out⟩
        case measure => simp [intOf]; omega
      | false =>
        have HL3 := Lib.hid (HLOW2.out hb)
        clear HA2 HLOW2
        go_wp2_with fail
        go_ret
        exact ⟨HB1.out, .inr ⟨i, hlt, by rw [HL3.out, HS.out], rfl⟩⟩
    · obtain rfl : i = l.length := by omega
      go_wp2_with fail
      go_ret
      exact ⟨HB.out, .inl ⟨lowOf_none HA.out, rfl⟩⟩

set_option maxHeartbeats 1000000 in
set_option maxRecDepth 100000 in
theorem imfirst_any (w : World) (aS : Option Addr) (c : Nat) (l : List OSeg) (h : OSegs w aS l) (hc : l.length ≤ c) (hm : c ≤ 9223372036854775807) (img : Array Value) (hi4 : img[4]? = some (.slice aS l.length c)) : Calls Try.prog 93 #[.agg img] w (IxRes w l) := by
  have hx4 : ∀ W : World, W.heap[w.heap.size]? = some (.cells img 36 (0, 0)) → W.cell? ⟨w.heap.size, 4, none⟩ = some (.slice aS l.length c) := fun W hW => by
    simp only [World.cell?, hW]; exact hi4
  have c4 := hx4 _ (hp_new w _ _ rfl)
  have HX : Hid (∀ W, Below w.heap.size w W → Calls Try.prog 102 #[.slice aS l.length c, .func (.func 103) #[] #[]] W (IxRes W l)) := fun W hW => ixf_any W aS c l (h.keep hW) hc hm
  clear h hx4 hi4
  go_enter Try.func93, Try.ntmps93
  go_wp2_with fail
  refine (HX.out _ ((Below.refl _ w).alloc (Nat.le_refl _) _)).mono ?_
  rintro e w1 ⟨hb, hr⟩
  have HB := Lib.hid (((Below.refl w.heap.size w).alloc (Nat.le_refl _) (.cells img 36)).trans (below_le hb (by simp)))
  clear hb HX
  rcases hr with ⟨h1, rfl⟩ | ⟨i, h1, h2, rfl⟩
  · have H1 := Lib.hid h1
    clear h1
    go_wp2_with fail
    go_ret
    exact ⟨HB.out, .inl ⟨H1.out, rfl⟩⟩
  · have H2 := Lib.hid h2
    clear h2
    go_wp2_with fail
    go_ret
    exact ⟨HB.out, .inr ⟨i, h1, H2.out, rfl⟩⟩
def LowRes (w : World) (n : Nat) (e : Ending) (w' : World) : Prop := e = .returned (.int .u64 (n : Int)) ∧ Below w.heap.size w w'

set_option maxHeartbeats 1000000 in
set_option maxRecDepth 100000 in
theorem low_any (w : World) (aS : Option Addr) (c : Nat) (l : List OSeg) (h : OSegs w aS l) (hc : l.length ≤ c) (hm : c ≤ 9223372036854775807) (img : Array Value) (hisz : img.size = 24) (hi4 : img[4]? = some (.slice aS l.length c)) : Calls Try.prog 84 #[.agg img] w (LowRes w (lowOf l)) := by
  have HISZ := Lib.hid hisz
  have HI4 := Lib.hid hi4
  have HX : Hid (∀ W, Below w.heap.size w W → Calls Try.prog 93 #[.agg img] W (IxRes W l)) := fun W hW => imfirst_any W aS c l (h.keep hW) hc hm img hi4
  have HC0 : Hid (CellsAt (w.alloc (.cells img 36)) w.heap.size 0 img) := cells_whole (hp_new _ _ _ rfl)
  have H := Lib.hid h
  clear h hi4 hisz
  go_enter Try.func84, Try.ntmps84
  go_wp2_with (refine wpList_load_agg 36 (.tmp 1) rfl rfl w.heap.size 0 rfl img _ HC0.out Try.underlying36 rfl (by rw [HISZ.out]; exact size36) ?_)
  refine (HX.out _ ((Below.refl _ w).alloc (Nat.le_refl _) _)).mono ?_
  rintro e w1 ⟨hb, hr⟩
  have hB := ((Below.refl w.heap.size w).alloc (Nat.le_refl _) (.cells img 36)).trans (below_le hb (by simp))
  have HB := Lib.hid hB
  have hx : w1.heap[w.heap.size]? = some (.cells img 36 (0, 0)) := (hb.block _ (by simp)).trans (hp_new _ _ _ rfl)
  have c4 : w1.cell? ⟨w.heap.size, 4, none⟩ = some (.slice aS l.length c) := by
    simp only [World.cell?, hx]; exact HI4.out
  clear hb hB hx HX HC0
  rcases hr with ⟨h1, rfl⟩ | ⟨i, h1, h2, rfl⟩
  · have H1 := Lib.hid h1
    clear h1
    go_wp2_with fail
    go_ret
    exact ⟨by rw [H1.out]; rfl, HB.out⟩
  · obtain ⟨b, o, rfl, _, v0, v2, v3, a', c', hcs, _⟩ := H.out.seg HB.out h1
    have H2 := Lib.hid h2
    have hi0 : ¬ (i : Int) < 0 := by omega
    have cA : w1.cell? ⟨b, o + i * 7 + 1, none⟩ = some (.int .u64 ((l.getD i .none).addr : Int)) := hcs 1 _ rfl
    generalize (l.getD i .none).addr = ad at *
    clear h2 hcs
    go_wp2_with fail
    go_ret
    exact ⟨by rw [H2.out]; rfl, HB.out⟩

set_option maxHeartbeats 1000000 in
set_option maxRecDepth 100000 in
theorem rlow_any (w : World) (aS : Option Addr) (c : Nat) (l : List OSeg) (h : OSegs w aS l) (hc : l.length ≤ c) (hm : c ≤ 9223372036854775807) (img : Array Value) (hi4 : img[4]? = some (.slice aS l.length c)) : Calls Try.prog 96 #[.agg img] w (LowRes w (lowOf l)) := by
  have HI4 := Lib.hid hi4
  have H := Lib.hid h
  clear h hi4
  go_enter Try.func96, Try.ntmps96
  go_wp2_with fail
  go_loopw [3] (fun t wr => ∃ i : Nat, i ≤ l.length ∧ t = .int .i64 i ∧ Hid (∀ j, j < i → holeB (l.getD j .none) = true) ∧ Hid (Below w.heap.size w wr ∧ wr.heap[w.heap.size]? = some (.cells img 36 (0, 0)))) (fun t _ => l.length - (intOf t).toNat)
  case atStart => exact ⟨0, Nat.zero_le _, rfl, fun j hj => absurd hj (Nat.not_lt_zero j), (Below.refl _ w).alloc (Nat.le_refl _) _, hp_new _ _ _ rfl⟩
  case round =>
    obtain ⟨i, hi, rfl, HA, HB⟩ := hrel
    have c4 : wr.cell? ⟨w.heap.size, 4, none⟩ = some (.slice aS l.length c) := by
      simp only [World.cell?, HB.out.2]; exact HI4.out
    by_cases hlt : i < l.length
    · obtain ⟨b, o, rfl, hbl, v0, v2, v3, a', c', hcs, _⟩ := H.out.seg HB.out.1 hlt
      have HC := Lib.hid hcs
      have HH : Hid (∀ W, Calls Try.prog 106 #[.agg (sgCells (l.getD i .none) v0 v2 v3 a' c')] W (BoolB W (holeB (l.getD i .none)))) := fun W => rhole_any W _ v0 v2 v3 a' c'
      have HLOW2 : Hid (holeB (l.getD i .none) = false → lowOf l = (l.getD i .none).addr) := fun hk => lowOf_at HA.out hlt hk
      have HA2 : Hid (holeB (l.getD i .none) = true → ∀ j, j < i + 1 → holeB (l.getD j .none) = true) := fun hk j hj => by
        by_cases e : j = i
        · rw [e]; exact hk
        · exact HA.out j (by omega)
      generalize l.getD i .none = s at *
      clear hcs
      go_wp2_with (refine wpList_load_agg 128 (.tmp 14) rfl rfl b (o + i * 7) (by simp [Act.eval]) _ _ HC.out Try.underlying128 rfl size128 ?_)
      refine (HH.out _).mono ?_
      rintro e w1 ⟨rfl, hb1⟩
      have HX1 : Hid (w1.heap[w.heap.size]? = some (.cells img 36 (0, 0))) := (hb1.block _ (lt_of_block HB.out.2)).trans HB.out.2
      have c41 : w1.cell? ⟨w.heap.size, 4, none⟩ = some (.slice (some ⟨b, o, none⟩) l.length c) := by
        simp only [World.cell?, HX1.out]; exact HI4.out
      have cA : w1.cell? ⟨b, o + i * 7 + 1, none⟩ = some (.int .u64 (s.addr : Int)) := (hb1.cell (p := ⟨b, o + i * 7 + 1, none⟩) (Nat.lt_of_lt_of_le hbl HB.out.1.size)).trans (HC.out 1 _ rfl)
      have HB1 := Lib.hid (HB.out.1.trans (below_le hb1 HB.out.1.size))
      clear hb1 HH HC
      cases hb : holeB s with
      | true =>
        have HA3 := Lib.hid (HA2.out hb)
        clear HA2 HLOW2
        go_wp2_with fail
        go_roundw
        case rel => exact ⟨i + 1, by omega, by go_num, HA3.out, HB1.out, HX1.out⟩
        case measure => simp [intOf]; omega
      | false =>
        have HL3 := Lib.hid (HLOW2.out hb)
        clear HA2 HLOW2
        go_wp2_with fail
        go_ret
        exact ⟨by rw [HL3.out]; rfl, HB1.out⟩
    · obtain rfl : i = l.length := by omega
      have HL := Lib.hid (lowOf_none HA.out)
      go_wp2_with fail
      go_ret
      exact ⟨by rw [HL.out]; rfl, HB.out.1⟩
end Go.Proofs.Ytepnaalgobhcdaa
namespace Go.Proofs.Ytepnaalgobhcdaa
open Go.RowKit Go.Shelf Spm
open Go.Maps (Keyed)
attribute [local go_sem] Oper.semAt_some

set_option maxHeartbeats 1000000 in
set_option maxRecDepth 100000 in
theorem number105_any (w : World) (g off c : Nat) (bs : List UInt8) (hbs : BytesIn w g off bs) (h8 : bs.length ≤ 8) :
    Calls Try.prog 105 #[.slice (some ⟨g, off, none⟩) bs.length c] w fun e w' => e = .returned (.int .u64 (wordOf bs)) ∧ w = w' := by
  have HBS := Lib.hid hbs
  clear hbs
  go_enter Try.func105, Try.ntmps105
  go_wp2_with fail
  go_loop [2, 7] (fun v t => ∃ i : Nat, i ≤ bs.length ∧ t = .int .i64 i ∧ v = .int .u64 (wordOf (bs.take i))) (fun _ t => bs.length - (intOf t).toNat)
  case atStart => exact ⟨0, by omega, rfl, rfl⟩
  case round =>
    obtain ⟨i, hi, rfl, rfl⟩ := hrel
    by_cases hlt : i < bs.length
    · have hcell := HBS.out i hlt
      obtain ⟨x, hx⟩ : ∃ x, x = bs.getD i 0 := ⟨_, rfl⟩
      obtain ⟨acc, hacc⟩ : ∃ acc, acc = wordOf (bs.take i) := ⟨_, rfl⟩
      have hxl : x.toNat < 256 := x.toNat_lt
      have hal : acc < 256 ^ i := by
        have := wordOf_lt (bs.take i)
        rw [List.length_take, Nat.min_eq_left (by omega), ← hacc] at this; exact this
      have hnew : wordOf (bs.take (i + 1)) = acc + x.toNat * 256 ^ i := by
        rw [List.take_add_one, List.getElem?_eq_getElem (by omega), Option.toList_some, wordOf_append, List.length_take, Nat.min_eq_left (by omega), ← hacc, hx]
        simp [List.getD_eq_getElem?_getD, List.getElem?_eq_getElem (show i < bs.length by omega)]
      rw [← hx] at hcell
      unfold byteVal at hcell
      rw [← hacc]
      have HSO := Lib.hid (shl_or (show i < 8 by omega) hxl hal)
      have HNEW := Lib.hid hnew
      generalize x.toNat = xn at *
      clear hx hacc hnew hal
      go_wp2_with fail
      go_round
      case rel => exact ⟨i + 1, by omega, by go_num, by rw [HNEW.out, HSO.out]⟩
      case measure => simp [intOf]; omega
    · obtain rfl : i = bs.length := by omega
      have e : bs.take bs.length = bs := List.take_length
      rw [e]
      go_wp2_with fail
      go_ret
      exact ⟨rfl, rfl⟩

section
variable {H : Type} {P : Program}
theorem wpList_insert_own (w : World) {ops : Array Oper} {rest : List Oper} {o : Oper} {a : Act} {Q : Exit → Act → World → Prop}
    (hg : o.guard = none) (m x v : Operand) (t : TypeId) (hop : o.op = Op.insert t m x v)
    (k e : TypeId) (K : Keyed P k) (ht : P.underlying t = some (.map k e)) (R : Value → Option (DataW H × List MemPlace)) (b n : Nat) (D : DataW H)
    (hm : a.eval m = .map (some b)) (hown : w.ownsMap P k R b n D) (hn : n < maxLen) (key val : Value) (kl : Lit) (hx : a.eval x = key) (hv : a.eval v = val) (hkey : keyOf P k key = some kl)
    (d : DataW H) (ps : List MemPlace) (hval : R val = some (d, ps))
    (hK : ∀ w', w'.ownsMap P k R b (n + 1) (D.put kl d) → w.grownBy w' (some b) → wpList P ops Q rest (a.put o.dst undef) w') :
    wpList P ops Q (o :: rest) a w := by
  refine wpList_plain hg fun K' hK' => ?_
  obtain ⟨w', hrun, r1, r2⟩ := hown.update K ht hn hkey hval
  unfold Oper.wp
  simp [execOp, hop, hm, hx, hv, hrun, Result.andThen]
  exact hK' _ _ (hK w' r1 r2)
end
/-- How an item reads: its size, its function's number; the zero one. -/
def itElem (v : Value) : Option (DataW Unit × List MemPlace) := match v with
  | .agg cs => match cs.toList with
    | [.int .u64 s, .func (.func f) x y] => if x.size = 0 ∧ y.size = 0 then some (.agg [.lit (.int .u64 s), .lit (.int .u64 (f : Int))], []) else none
    | [.int .u64 s, .nilFunc] => if s = 0 then some (.nil, []) else none
    | _ => none
  | _ => none
def itVal (s f : Nat) : Value := .agg #[.int .u64 (s : Int), .func (.func f) #[] #[]]
def itZero : Value := .agg #[.int .u64 0, .nilFunc]
def itData (s f : Nat) : DataW Unit := .agg [.lit (.int .u64 (s : Int)), .lit (.int .u64 (f : Int))]
theorem itElem_val (s f : Nat) : itElem (itVal s f) = some (itData s f, []) := by simp [itElem, itVal, itData]
theorem itElem_zero : itElem itZero = some (.nil, []) := by simp [itElem, itZero]
theorem itElem_inv {v : Value} {s f : Nat} {ps : List MemPlace} (h : itElem v = some (itData s f, ps)) : v = itVal s f := by
  unfold itElem at h
  split at h
  · rename_i cs
    split at h
    · rename_i s' f' x y hcs
      split at h
      · rename_i hz
        unfold itData at h
        simp at h
        obtain ⟨⟨e1, e2⟩, _⟩ := h
        unfold itVal
        congr 1
        apply Array.ext'
        rw [hcs, ← e1, Array.eq_empty_of_size_eq_zero hz.1, Array.eq_empty_of_size_eq_zero hz.2]
        have : f' = f := by first | exact Int.ofNat.inj e2 | exact e2 | (simp at e2; exact e2)
        rw [this]
      · cases h
    · split at h <;> cases h
    · cases h
  · cases h
theorem itElem_nil {v : Value} {ps : List MemPlace} (h : itElem v = some (.nil, ps)) : v = itZero := by
  unfold itElem at h
  split at h
  · rename_i cs
    split at h
    · split at h <;> cases h
    · rename_i s' hcs
      split at h
      · rename_i hz
        unfold itZero
        congr 1
        apply Array.ext'
        rw [hcs, hz]
      · cases h
    · cases h
  · cases h
theorem law3 : Keyed Try.prog 3 := Maps.int_keyed Try.underlying3
theorem zero172 (w : World) : (zeroValue 172).run Try.prog w = .ok itZero w := by kernel_rfl
theorem keyOf_i64 {k : Int} (h : (Lit.int .i64 k).wf = true) : keyOf Try.prog 3 (.int .i64 k) = some (.int .i64 k) := Maps.keyOf_int_mk Try.underlying3 h
/-- Block b is the table of kinds. -/
def ItMap (w : World) (b : Nat) : Prop :=
  ∃ D : DataW Unit, w.ownsMap Try.prog 3 itElem b 2 D ∧ (Maps.has D (.int .i64 9) = true ∧ ∀ z, D.atKey (.int .i64 9) z = itData 8 94) ∧ (Maps.has D (.int .i64 22) = true ∧ ∀ z, D.atKey (.int .i64 22) z = itData 4 95) ∧ ∀ k : Int, k ≠ 9 → k ≠ 22 → Maps.has D (.int .i64 k) = false
theorem ItMap.lt {w : World} {b : Nat} (h : ItMap w b) : b < w.heap.size := by
  obtain ⟨D, h1, _⟩ := h; exact h1.lt
theorem ItMap.kept {w w' : World} {b : Nat} (h : ItMap w b) (he : w'.heap[b]? = w.heap[b]?) : ItMap w' b := by
  obtain ⟨D, ⟨es, clock, hb, r⟩, h2⟩ := h
  exact ⟨D, ⟨es, clock, he.trans hb, r⟩, h2⟩
theorem ItMap.keepB {w w' : World} {b : Nat} (h : ItMap w b) (hb : Below w.heap.size w w') : ItMap w' b := h.kept (hb.block b h.lt)
theorem ItMap.look9 {w : World} {b : Nat} (h : ItMap w b) : (Instr.lookup 168 (.map (some b)) (.int .i64 9) true).run Try.prog w = .ok (.tuple #[itVal 8 94, .bool true]) w := by
  obtain ⟨D, hown, ⟨h1, h2⟩, _, _⟩ := h
  obtain ⟨v, ps, k1, k2⟩ := hown.look_ok law3 Try.underlying168 (zero172 w) itElem_zero (keyOf_i64 (k := 9) (by decide))
  rw [h2] at k2
  rw [k1, h1, itElem_inv k2]
theorem ItMap.look22 {w : World} {b : Nat} (h : ItMap w b) : (Instr.lookup 168 (.map (some b)) (.int .i64 22) true).run Try.prog w = .ok (.tuple #[itVal 4 95, .bool true]) w := by
  obtain ⟨D, hown, _, ⟨h1, h2⟩, _⟩ := h
  obtain ⟨v, ps, k1, k2⟩ := hown.look_ok law3 Try.underlying168 (zero172 w) itElem_zero (keyOf_i64 (k := 22) (by decide))
  rw [h2] at k2
  rw [k1, h1, itElem_inv k2]
theorem ItMap.lookNo {w : World} {b : Nat} (h : ItMap w b) {k : Int} (hk : (Lit.int .i64 k).wf = true) (h9 : k ≠ 9) (h22 : k ≠ 22) : (Instr.lookup 168 (.map (some b)) (.int .i64 k) true).run Try.prog w = .ok (.tuple #[itZero, .bool false]) w := by
  obtain ⟨D, hown, _, _, h3⟩ := h
  obtain ⟨v, ps, k1, k2⟩ := hown.look_ok law3 Try.underlying168 (zero172 w) itElem_zero (keyOf_i64 hk)
  have hh := h3 k h9 h22
  rw [Maps.atKey_of_not_has hh] at k2
  rw [k1, hh, itElem_nil k2]
theorem key3_ne {a b : Int} (h : a ≠ b) : (Lit.int .i64 a) ≠ .int .i64 b := fun e => by cases e; exact h rfl
theorem ItMap.of {w : World} {b : Nat} (h : w.ownsMap Try.prog 3 itElem b 2 (DataW.put (DataW.put (.map []) (.int .i64 9) (itData 8 94)) (.int .i64 22) (itData 4 95))) (hz : Maps.IsMap (.map [] : DataW Unit)) (h0 : Maps.IsMap (DataW.put (.map [] : DataW Unit) (.int .i64 9) (itData 8 94))) : ItMap w b := by
  have hk : ∀ a : Int, WideAt.IsKeyLit (Lit.int .i64 a) := fun _ => trivial
  refine ⟨_, h, ⟨?_, fun z => ?_⟩, ⟨Maps.has_put_same h0 (hk 22) _, fun z => Maps.atKey_put_same h0 (hk 22) _ z⟩, fun k h9 h22 => ?_⟩
  · rw [Maps.has_put_other (key3_ne (by decide))]; exact Maps.has_put_same hz (hk 9) _
  · rw [Maps.atKey_put_other (key3_ne (by decide))]; exact Maps.atKey_put_same hz (hk 9) _ z
  · rw [Maps.has_put_other (key3_ne h22), Maps.has_put_other (key3_ne h9)]; rfl

set_option maxRecDepth 100000 in
theorem items_any (w : World) : Calls Try.prog 85 #[] w fun e w' => e = .returned (.map (some w.heap.size)) ∧ ItMap w' w.heap.size ∧ Below w.heap.size w w' := by
  have hmm := @run_makeMap Try.prog
  have HO : Hid ((w.alloc (.map #[] 0)).ownsMap Try.prog 3 itElem w.heap.size 0 (.map [])) := World.ownsMap_made _ _ _ _
  go_enter Try.func85, Try.ntmps85
  go_wp2_with (first
    | (refine wpList_insert_own _ rfl (.tmp 1) (.const (.int .i64 9)) (.tmp 2) 168 rfl 3 172 law3 Try.underlying168 itElem w.heap.size 0 (.map []) rfl HO.out (by unfold maxLen; omega) (.int .i64 9) (itVal 8 94) (.int .i64 9) rfl rfl (keyOf_i64 (by decide)) (itData 8 94) [] (itElem_val 8 94) ?_; intro w1 hown1 hgrow1; have HO1 := Lib.hid hown1; have HG1 := Lib.hid hgrow1; clear hown1 hgrow1)
    | (refine wpList_insert_own _ rfl (.tmp 1) (.const (.int .i64 22)) (.tmp 3) 168 rfl 3 172 law3 Try.underlying168 itElem w.heap.size 1 _ rfl HO1.out (by unfold maxLen; omega) (.int .i64 22) (itVal 4 95) (.int .i64 22) rfl rfl (keyOf_i64 (by decide)) (itData 4 95) [] (itElem_val 4 95) ?_; intro w2 hown2 hgrow2; have HO2 := Lib.hid hown2; have HG2 := Lib.hid hgrow2; clear hown2 hgrow2))
  go_ret
  exact ⟨rfl, ItMap.of HO2.out HO.out.isMap HO1.out.isMap, (((Below.refl _ w).alloc (Nat.le_refl _) _).grown HG1.out (by simp) (fun k e => by cases e; exact Nat.le_refl _)).grown HG2.out (by have := HG1.out.size; simp at this; omega) (fun k e => by cases e; exact Nat.le_refl _)⟩
set_option maxRecDepth 100000 in
theorem pointer_any (w : World) (low : Int) (g off c : Nat) (bs : List UInt8) (hbs : BytesIn w g off bs) (h8 : bs.length ≤ 8) :
    Calls Try.prog 94 #[.int .u64 low, .slice (some ⟨g, off, none⟩) bs.length c] w fun e w' => e = .returned (.int .u64 (wordOf bs)) ∧ w = w' := by
  have HN := Lib.hid (number105_any w g off c bs hbs h8)
  clear hbs
  go_enter Try.func94, Try.ntmps94
  go_wp2_with fail
  refine HN.out.mono ?_
  rintro e _ ⟨rfl, rfl⟩
  go_wp2_with fail
  go_ret
  exact ⟨rfl, rfl⟩
set_option maxRecDepth 100000 in
theorem offset_any (w : World) (low : Nat) (g off c : Nat) (bs : List UInt8) (hbs : BytesIn w g off bs) (h8 : bs.length ≤ 8) :
    Calls Try.prog 95 #[.int .u64 low, .slice (some ⟨g, off, none⟩) bs.length c] w fun e w' => e = .returned (.int .u64 (((wordOf bs + low) % 18446744073709551616 : Nat) : Int)) ∧ w = w' := by
  have HN := Lib.hid (number105_any w g off c bs hbs h8)
  have hs := u64add low (wordOf bs)
  rw [Nat.add_comm] at hs
  have HS := Lib.hid hs
  clear hbs hs
  go_enter Try.func95, Try.ntmps95
  go_wp2_with fail
  refine HN.out.mono ?_
  rintro e _ ⟨rfl, rfl⟩
  go_wp2_with fail
  go_ret
  exact ⟨by rw [← HS.out]; rfl, rfl⟩
end Go.Proofs.Ytepnaalgobhcdaa
namespace Go.Proofs.Ytepnaalgobhcdaa
open Go.RowKit Go.Shelf Spm
attribute [local go_sem] Oper.semAt_some

def u64s (l : List Nat) : List Value := l.map fun (x : Nat) => Value.int .u64 (x : Int)
theorem u64s_append (a b : List Nat) : u64s (a ++ b) = u64s a ++ u64s b := List.map_append ..
def OfRes (w : World) (er : Int) (out : List Nat) (e : Ending) (w' : World) : Prop :=
  ∃ v, e = .returned (.tuple #[v, .int .i64 er]) ∧ Below w.heap.size w w' ∧ (er ≠ 0 → v = .slice none 0 0) ∧ (er = 0 → w'.ownsRow w.heap.size 32 1 v out.length (u64s out))
theorem OfRes.stop {w : World} {er : Int} {out : List Nat} (h : er ≠ 0) {w' : World} (hb : Below w.heap.size w w') : OfRes w er out (.returned (.tuple #[.slice none 0 0, .int .i64 er])) w' :=
  ⟨_, rfl, hb, fun _ => rfl, fun e => absurd e h⟩
theorem and4 {P : Int} (h0 : 0 ≤ P) (h7 : P ≤ 7) : (bits .and .i64 P 4 == 0) = !(P / 4 % 2 == 1) := by
  have : P = 0 ∨ P = 1 ∨ P = 2 ∨ P = 3 ∨ P = 4 ∨ P = 5 ∨ P = 6 ∨ P = 7 := by omega
  rcases this with rfl | rfl | rfl | rfl | rfl | rfl | rfl | rfl <;> decide
theorem exec_and {M : List Pg} (h : Ok M) (a : Nat) : (bits .and .i64 (protM M a) 4 == 0) = !execAt M a := by
  unfold protM execAt
  cases hp : pg M (a / 4096) with
  | none => decide
  | some p =>
    have := h.pages p (pg_mem hp).1
    simp only [Option.map_some, Option.getD_some]
    exact and4 (by omega) (by omega)
structure OfSt (w : World) (cs : Array Value) (mb : Nat) (out : List Nat) (v : Value) (W : World) : Prop where
  below : Below w.heap.size w W
  x : W.heap[w.heap.size]? = some (.cells cs 38 (0, 0))
  kinds : ItMap W mb
  row : W.ownsRow w.heap.size 32 1 v out.length (u64s out)
theorem row1_other {wr : World} {B : Nat} {e : TypeId} {size : Nat} {v : Value} {n : Nat} {xs : List Value} (hv : wr.ownsRow B e size v n xs) {k : Nat} {o : Obj} (ho : ∀ cur fr, o ≠ .cells cur e fr) (hk : wr.heap[k]? = some o) : some k ≠ v.ownBlock := by
  rcases hv.2 with ⟨rfl, _⟩ | ⟨g, cap, c, rfl, _, hg, _⟩
  · simp [Value.ownBlock]
  · intro e'
    obtain rfl : k = g := by simpa [Value.ownBlock] using e'
    rw [hk] at hg
    exact ho _ _ (Option.some.inj hg)
section
variable {w W W' : World} {cs : Array Value} {mb : Nat} {out : List Nat} {v : Value}
theorem OfSt.keep (h : OfSt w cs mb out v W) (hb : Below W.heap.size W W') : OfSt w cs mb out v W' :=
  ⟨h.below.trans (below_le hb h.below.size), (hb.block _ (lt_of_block h.x)).trans h.x, h.kinds.keepB hb, owns2_same h.row fun g hg => hb.block g (h.row.lt g hg).2⟩
theorem OfSt.cell (h : OfSt w cs mb out v W) {i : Nat} {u : Value} (hi : cs[i]? = some u) : W.cell? ⟨w.heap.size, i, none⟩ = some u := by
  simp [World.cell?, h.x, hi]
theorem OfSt.push (h : OfSt w cs mb out v W) {wt : World} (hwt : Below W.heap.size W wt) {v' : Value} {w1 : World} {p : Nat}
    (hown : w1.ownsRow w.heap.size 32 1 v' (out.length + 1) (u64s out ++ [.int .u64 (p : Int)])) (hg : wt.grownBy w1 v.ownBlock) :
    OfSt w cs mb (out ++ [p]) v' w1 ∧ ∀ (k : Nat) (o : Obj), (∀ (cur : Array Value) (fr : Nat × Nat), o ≠ Obj.cells cur 32 fr) → W.heap[k]? = some o → w1.heap[k]? = some o := by
  have hk : ∀ (k : Nat) (o : Obj), (∀ (cur : Array Value) (fr : Nat × Nat), o ≠ Obj.cells cur 32 fr) → W.heap[k]? = some o → w1.heap[k]? = some o := fun k o ho hko => by
    rw [hg.block _ (Nat.lt_of_lt_of_le (lt_of_block hko) hwt.size) (row1_other h.row ho hko), hwt.block _ (lt_of_block hko)]
    exact hko
  refine ⟨⟨?_, hk _ _ (fun _ _ e => by cases e) h.x, ?_, ?_⟩, hk⟩
  · have h1 := h.below.trans (below_le hwt h.below.size)
    exact ⟨hg.os.trans h1.os, hg.tape.trans h1.tape, hg.output.trans h1.output, Nat.le_trans h1.size hg.size, fun i hi => by
      rw [hg.block i (Nat.lt_of_lt_of_le hi h1.size) (fun e => by have := (h.row.lt i e.symm).1; omega)]
      exact h1.block i hi⟩
  · obtain ⟨D, ⟨es, clock, hb, r⟩, h2⟩ := h.kinds
    exact ⟨D, ⟨es, clock, hk _ _ (fun _ _ e => by cases e) hb, r⟩, h2⟩
  · rw [List.length_append, List.length_singleton, u64s_append]; exact hown
end
section
variable {ops : Array Oper} {rest : List Oper} {o : Oper} {a : Act} {w : World} {Q : Exit → Act → World → Prop}
/-- 'it, is := kinds[k]'. -/
theorem wpList_it (hw : Region.wanted o (yielded ops a.tmps) = true) (m x : Operand) (hop : o.op = Op.lookup 168 m x true) (b : Nat) (hm : a.eval m = .map (some b)) (k : Int) (hx : a.eval x = .int .i64 k) (r : Value)
    (hr : (Instr.lookup 168 (.map (some b)) (.int .i64 k) true).run Try.prog w = .ok r w) (hK : wpList Try.prog ops Q rest (a.put o.dst r) w) : wpList Try.prog ops Q (o :: rest) a w := by
  refine wpList_run hw r ?_ hK
  simp [execOp, hop, hm, hx, hr, Result.andThen]
end
theorem step_load_agg {P : Program} {ops : Array Oper} {o : Oper} {a : Act} {w : World} {K : Act → World → Prop} {Q : Exit → Act → World → Prop} {E : Prop}
    (hg : o.guard = none) (ty : TypeId) (x : Operand) (ho : o.op = .load ty x) (b off : Nat) (hx : a.eval x = .pointer (some ⟨b, off, none⟩)) (cs : Array Value) (d : TypeDesc) (hc : CellsAt w b off cs)
    (hu : P.underlying ty = some d) (hd : (match d with | .struct _ | .array _ _ => true | _ => false) = true) (hi : (P.info? ty).map (·.size) = some cs.size)
    (hK : K (a.put o.dst (.agg cs)) w) : if Region.wanted o (yielded ops a.tmps) = true then Oper.wp P o a w K Q else E := by
  have hw : Region.wanted o (yielded ops a.tmps) = true := by simp [Region.wanted, hg]
  rw [if_pos hw]
  have : (execOp a.eval o).run P w = .ok (.value (.agg cs)) w := by
    unfold execOp
    simp only [ho, hx, Instr.loadAt, Instr.sureAddr, Sem.run_bind, Sem.run_pure, Result.andThen_ok, run_loadVar_cells b off ty cs d hc hu hd hi]
  unfold Oper.wp
  simp only [this]
  exact hK
theorem segsL_secs {w : World} {a : Option Addr} {l : List SecC} (h : SecsC w a l) {k : Nat} (hk : k < l.length) : ∃ b o, a = some ⟨b, o, none⟩ ∧ CellsAt w b (o + k * 6) (l.getD k .none).cells := h k hk

end Go.Proofs.Ytepnaalgobhcdaa
namespace Go.Proofs.Ytepnaalgobhcdaa
open Go.RowKit Go.Shelf Spm
attribute [local go_sem] Oper.semAt_some

set_option maxHeartbeats 8000000 in
set_option maxRecDepth 100000 in
theorem of_any (w : World) (b : Nat) (M : List Pg) (F : Nat → Prop) (h : SpIn w b M F) (cs : Array Value) (o : OIm) (ho : OImP w cs o) :
    Calls Try.prog 53 #[.pointer (some ⟨b, 0, none⟩), .agg cs] w (OfRes w (oOf M o).err (oOf M o).out) := by
  obtain ⟨hsz, _, h25, hsl, aS, cS, hL, h5, hcl, hcm⟩ := ho
  obtain ⟨img, himg⟩ : ∃ img : Array Value, img = cs.extract 1 25 := ⟨_, rfl⟩
  have hisz : img.size = 24 := by rw [himg]; simp [hsz]
  have hi4 : img[4]? = some (.slice aS o.segs.length cS) := by rw [himg, Array.getElem?_extract]; simp [hsz]; simpa [hsz] using h5
  have HIC : Hid (∀ (W : World) (g : Nat), W.heap[g]? = some (.cells cs 38 (0, 0)) → CellsAt W g 1 img) := fun W g hg j v hj => by
    rw [himg, Array.getElem?_extract] at hj
    simp only [World.cell?, hg]
    split at hj
    · exact hj
    · cases hj
  have HSP := Lib.hid h
  have HOK := Lib.hid h.ok
  have HISZ := Lib.hid hisz
  have HIMG := Lib.hid himg
  have HSZ := Lib.hid hsz
  have H25 := Lib.hid h25
  have HL := Lib.hid hL
  have H5 := Lib.hid h5
  have HLOWC : Hid (∀ W, Below w.heap.size w W → Calls Try.prog 84 #[.agg img] W (LowRes W (lowOf o.segs))) := fun W hW => low_any W aS cS o.segs (hL.keep hW) hcl hcm img hisz hi4
  have hx25 : ∀ W : World, W.heap[w.heap.size]? = some (.cells cs 38 (0, 0)) → W.cell? ⟨w.heap.size, 25, none⟩ = some (.int .u64 (o.slide : Int)) := fun W hW => by simp [World.cell?, hW, h25]
  have HX25 := Lib.hid hx25
  have hx5 : ∀ W : World, W.heap[w.heap.size]? = some (.cells cs 38 (0, 0)) → W.cell? ⟨w.heap.size, 5, none⟩ = some (.slice aS o.segs.length cS) := fun W hW => by simp [World.cell?, hW, h5]
  have HX5 := Lib.hid hx5
  have c25 := hx25 _ (hp_new w (.cells cs 38) _ rfl)
  have HIMG0 : Hid (CellsAt (w.alloc (.cells cs 38)) w.heap.size 1 img) := HIC.out _ _ (hp_new w _ _ rfl)
  have hwl := u64add (lowOf o.segs) o.slide
  change _ = ((lowS o : Nat) : Int) at hwl
  have HWL := Lib.hid hwl
  clear h hisz hi4 h25 hL h5 himg hsz hx25 hx5 hwl
  go_enter Try.func53, Try.ntmps53
  go_wp2_with fail
  go_cut [6] (fun s6 wx => Hid (s6 = .int .u64 (lowS o : Int) ∧ Below w.heap.size w wx ∧ wx.heap[w.heap.size]? = some (.cells cs 38 (0, 0))))
  case first =>
    have HLC : Hid (∀ W, Below w.heap.size w W → W.heap[w.heap.size]? = some (.cells cs 38 (0, 0)) → Calls Try.prog 84 #[.agg img] W fun e w' => e = .returned (.int .u64 (lowOf o.segs : Int)) ∧ Hid (Below w.heap.size w w') ∧ Hid (w'.heap[w.heap.size]? = some (.cells cs 38 (0, 0))) ∧ w'.cell? ⟨w.heap.size, 25, none⟩ = some (.int .u64 (o.slide : Int))) := fun W hW hx => by
      refine (HLOWC.out W hW).mono ?_
      rintro e w' ⟨rfl, hb⟩
      have h2 := (hb.block _ (lt_of_block hx)).trans hx
      exact ⟨rfl, hW.trans (below_le hb hW.size), h2, HX25.out _ h2⟩
    have hwl := HWL.out
    have HX0 : Hid ((w.alloc (.cells cs 38)).heap[w.heap.size]? = some (.cells cs 38 (0, 0))) := hp_new _ _ _ rfl
    clear HLOWC HIC HX25 HX5
    refine wp_region_any (by kernel_rfl) ?_
    change wpAny _ _ _ _ _ _ _ (w.alloc (.cells cs 38)).drew
    refine wpAny_take (i := 0) (v := .pointer (some ⟨w.heap.size, 1, none⟩)) rfl (by kernel_rfl) (by kernel_rfl) (by kernel_rfl) (fun _ _ _ h => h) (Or.inl ⟨by rfl, fun W => ?t0⟩) ?_
    case t0 => go_simp
    refine wpAny_take (i := 3) (v := .pointer (some ⟨w.heap.size, 25, none⟩)) rfl (by kernel_rfl) (by kernel_rfl) (by kernel_rfl) (fun _ _ _ h => h) (Or.inl ⟨by rfl, fun W => ?t3⟩) ?_
    case t3 => go_simp
    try simp only [Act.put, List.setIfInBounds_toArray]
    refine wpAny_ready (rs := [1, 4]) (by kernel_rfl) (by simp) ?_
    refine AllReady.cons rfl (fun K hK => ?_) ?_
    · refine step_load_agg rfl 36 (.tmp 21) rfl w.heap.size 1 rfl img _ HIMG0.out Try.underlying36 rfl (by rw [HISZ.out]; exact size36) ?_
      refine hK _ _ ?_
      clear hK K
      try simp only [Act.put]
      refine wpAny_ready (rs := [2, 4]) (by kernel_rfl) (by simp) ?_
      refine AllReady.cons rfl (fun K hK => ?_) ?_
      · go_simp
        go_at_call 84
        refine (HLC.out _ ?_ (by exact HX0.out)).mono ?_
        · exact ((Below.refl _ w).alloc (Nat.le_refl _) _).drew
        rintro e w1 ⟨rfl, HB1, HX1, c251⟩
        refine hK _ _ ?_
        clear hK K
        try simp only [Act.put, List.setIfInBounds_toArray, List.set_cons_zero, List.set_cons_succ]
        refine wpAny_ready (rs := [4]) (by kernel_rfl) (by simp) ?_
        refine AllReady.cons rfl (fun K hK => ?_) AllReady.nil
        go_simp
        refine hK _ _ ?_
        clear hK K
        try simp only [Act.put, List.setIfInBounds_toArray, List.set_cons_zero, List.set_cons_succ]
        refine wpAny_ready (rs := [5]) (by kernel_rfl) (by simp) ?_
        refine AllReady.cons rfl (fun K hK => ?_) AllReady.nil
        go_simp
        refine hK _ _ ?_
        clear hK K
        try simp only [Act.put, List.setIfInBounds_toArray, List.set_cons_zero, List.set_cons_succ]
        refine wpAny_ready (rs := [6]) (by kernel_rfl) (by simp) ?_
        refine AllReady.cons rfl (fun K hK => ?_) AllReady.nil
        go_simp
        refine hK _ _ ?_
        clear hK K
        try simp only [Act.put, List.setIfInBounds_toArray, List.set_cons_zero, List.set_cons_succ]
        refine wpAny_done (by kernel_rfl) ?_ _
        go_wp2_with fail
        go_meet
        exact ⟨rfl, HB1.out, HX1.out⟩
      refine AllReady.cons rfl (fun K hK => ?_) AllReady.nil
      go_simp
      refine hK _ _ ?_
      clear hK K
      try simp only [Act.put, List.setIfInBounds_toArray, List.set_cons_zero, List.set_cons_succ]
      refine wpAny_ready (rs := [2]) (by kernel_rfl) (by simp) ?_
      refine AllReady.cons rfl (fun K hK => ?_) AllReady.nil
      go_simp
      go_at_call 84
      refine (HLC.out _ ?_ (by exact HX0.out)).mono ?_
      · exact ((Below.refl _ w).alloc (Nat.le_refl _) _).drew
      rintro e w1 ⟨rfl, HB1, HX1, c251⟩
      refine hK _ _ ?_
      clear hK K
      try simp only [Act.put, List.setIfInBounds_toArray, List.set_cons_zero, List.set_cons_succ]
      refine wpAny_ready (rs := [5]) (by kernel_rfl) (by simp) ?_
      refine AllReady.cons rfl (fun K hK => ?_) AllReady.nil
      go_simp
      refine hK _ _ ?_
      clear hK K
      try simp only [Act.put, List.setIfInBounds_toArray, List.set_cons_zero, List.set_cons_succ]
      refine wpAny_ready (rs := [6]) (by kernel_rfl) (by simp) ?_
      refine AllReady.cons rfl (fun K hK => ?_) AllReady.nil
      go_simp
      refine hK _ _ ?_
      clear hK K
      try simp only [Act.put, List.setIfInBounds_toArray, List.set_cons_zero, List.set_cons_succ]
      refine wpAny_done (by kernel_rfl) ?_ _
      go_wp2_with fail
      go_meet
      exact ⟨rfl, HB1.out, HX1.out⟩
    refine AllReady.cons rfl (fun K hK => ?_) AllReady.nil
    go_simp
    refine hK _ _ ?_
    clear hK K
    try simp only [Act.put, List.setIfInBounds_toArray, List.set_cons_zero, List.set_cons_succ]
    refine wpAny_ready (rs := [1]) (by kernel_rfl) (by simp) ?_
    refine AllReady.cons rfl (fun K hK => ?_) AllReady.nil
    refine step_load_agg rfl 36 (.tmp 21) rfl w.heap.size 1 rfl img _ HIMG0.out Try.underlying36 rfl (by rw [HISZ.out]; exact size36) ?_
    refine hK _ _ ?_
    clear hK K
    try simp only [Act.put, List.setIfInBounds_toArray]
    refine wpAny_ready (rs := [2]) (by kernel_rfl) (by simp) ?_
    refine AllReady.cons rfl (fun K hK => ?_) AllReady.nil
    go_simp
    go_at_call 84
    refine (HLC.out _ ?_ (by exact HX0.out)).mono ?_
    · exact ((Below.refl _ w).alloc (Nat.le_refl _) _).drew
    rintro e w1 ⟨rfl, HB1, HX1, c251⟩
    refine hK _ _ ?_
    clear hK K
    try simp only [Act.put, List.setIfInBounds_toArray, List.set_cons_zero, List.set_cons_succ]
    refine wpAny_ready (rs := [5]) (by kernel_rfl) (by simp) ?_
    refine AllReady.cons rfl (fun K hK => ?_) AllReady.nil
    go_simp
    refine hK _ _ ?_
    clear hK K
    try simp only [Act.put, List.setIfInBounds_toArray, List.set_cons_zero, List.set_cons_succ]
    refine wpAny_ready (rs := [6]) (by kernel_rfl) (by simp) ?_
    refine AllReady.cons rfl (fun K hK => ?_) AllReady.nil
    go_simp
    refine hK _ _ ?_
    clear hK K
    try simp only [Act.put, List.setIfInBounds_toArray, List.set_cons_zero, List.set_cons_succ]
    refine wpAny_done (by kernel_rfl) ?_ _
    go_wp2_with fail
    go_meet
    exact ⟨rfl, HB1.out, HX1.out⟩
  case rest =>
    obtain ⟨rfl, hb0, hx0⟩ := hcut.out
    have HB0 := Lib.hid hb0
    have HX0 := Lib.hid hx0
    clear hcut hb0 hx0 c25 HIMG0 HLOWC HIMG HIC HISZ HSZ HWL H5
    obtain ⟨i32, hi32, hz32, hs32, hy32⟩ := info_parts info32
    go_wp2_with fail
    refine (items_any _).mono ?_
    rintro e w2 ⟨rfl, hit, hb2⟩
    have HR0 : Hid (OfSt w cs wc.heap.size [] (.slice none 0 0) w2) := ⟨HB0.out.trans (below_le hb2 HB0.out.size), (hb2.block _ (lt_of_block HX0.out)).trans HX0.out, hit, World.ownsRow_nil _ _ _ _⟩
    have c5 := HX5.out w2 HR0.out.x
    clear hit hb2 HB0 HX0
    go_wp2_with fail
    go_loopw [4, 8, 32] (fun t4 t8 t32 wr => ∃ (i : Nat) (ad : Option Addr) (cp : Nat), i ≤ o.segs.length ∧ t32 = .int .i64 i ∧ t8 = .int .u64 ((oSt M o i 0).out.length : Int) ∧ t4 = .slice ad (oSt M o i 0).out.length cp ∧ Hid ((oSt M o i 0).err = 0) ∧ Hid (OfSt w cs wc.heap.size (oSt M o i 0).out (.slice ad (oSt M o i 0).out.length cp) wr)) (fun _ _ t _ => o.segs.length - (intOf t).toNat)
    case atStart => exact ⟨0, none, 0, Nat.zero_le _, rfl, by rw [oSt_zero]; rfl, by rw [oSt_zero]; rfl, by show _ = _; rw [oSt_zero], by show OfSt _ _ _ _ _ _; rw [oSt_zero]; exact HR0.out⟩
    case round =>
      clear HR0 c5
      obtain ⟨i, ad, cp, hi, rfl, rfl, rfl, HE, HR⟩ := hrel
      by_cases hlt : i < o.segs.length
      · obtain ⟨bS, oS, rfl, hbS, v0, v2, v3, a', c', hcs, hl1, hl2, hsecs, hkb, _⟩ := HL.out.seg HR.out.below hlt
        have HCS := Lib.hid hcs
        have HSW := Lib.hid hsecs
        have HKB := Lib.hid hkb
        have HEND := Lib.hid (oSt_end (M := M) hlt)
        have HSTOP : Hid (∀ k, (oSt M o i k).err ≠ 0 → oOf M o = oSt M o i k) := fun k hk => oSt_stop hlt hk
        have HTAKE : Hid (∀ k, k < (o.segs.getD i .none).secs.length → isInit ((o.segs.getD i .none).secs.getD k .none) = true → oSt M o i (k + 1) = oStep M o.slide (lowS o) (oSt M o i k) ((o.segs.getD i .none).secs.getD k .none)) := fun k h1 h2 => oSt_take hlt h1 h2
        have HSKIP : Hid (∀ k, k < (o.segs.getD i .none).secs.length → isInit ((o.segs.getD i .none).secs.getD k .none) = false → oSt M o i (k + 1) = oSt M o i k) := fun k h1 h2 => oSt_skip hlt h1 h2
        have HBD : Hid (∀ k, (oSt M o i k).out.length ≤ 20000) := fun k => oSt_bound M o i k
        obtain ⟨sg, hsg⟩ : ∃ sg, sg = o.segs.getD i .none := ⟨_, rfl⟩
        rw [← hsg] at hl1 HCS HSW HKB HEND HTAKE HSKIP
        have HR0 := Lib.hid (HR.out.keep ((Below.refl _ wr).alloc (Nat.le_refl _) (.cells (sgCells sg v0 v2 v3 a' c') 128)))
        clear hcs hsecs hkb hsg HR
        go_wp2_with (refine wpList_load_agg 128 (.tmp 34) rfl rfl bS (oS + i * 7) (by simp [Act.eval]) _ _ HCS.out Try.underlying128 rfl size128 ?_)
        obtain ⟨wo, rfl⟩ : ∃ wo : World, wo = wr := ⟨_, rfl⟩
        go_loopw [4, 8, 39] (fun t4 t8 t39 wr => ∃ (k : Nat) (ad : Option Addr) (cp : Nat), k ≤ sg.secs.length ∧ t39 = .int .i64 k ∧ t8 = .int .u64 ((oSt M o i k).out.length : Int) ∧ t4 = .slice ad (oSt M o i k).out.length cp ∧ Hid ((oSt M o i k).err = 0) ∧ Hid (OfSt w cs wc.heap.size (oSt M o i k).out (.slice ad (oSt M o i k).out.length cp) wr)) (fun _ _ t _ => sg.secs.length - (intOf t).toNat)
        case atStart => exact ⟨0, ad, cp, Nat.zero_le _, rfl, rfl, rfl, HE.out, HR0.out⟩
        case round =>
          clear HR0 HE HCS
          obtain ⟨k, ad1, cp1, hk, rfl, rfl, rfl, HE1, HR1⟩ := hrel
          by_cases hkt : k < sg.secs.length
          · obtain ⟨bb, ob, rfl, hsc⟩ := segsL_secs (HSW.out _ HR1.out.below) hkt
            have hbd := HBD.out k
            have hkb := HKB.out (sg.secs.getD k .none) (by rw [List.getD_eq_getElem?_getD, List.getElem?_eq_getElem hkt]; exact List.getElem_mem hkt)
            obtain ⟨c, hc⟩ : ∃ c, c = sg.secs.getD k .none := ⟨_, rfl⟩
            rw [← hc] at hsc hkb
            have HC0 := Lib.hid hc
            unfold SecC.cells at hsc
            have HSC := Lib.hid hsc
            obtain ⟨st, hst⟩ : ∃ st, st = oSt M o i k := ⟨_, rfl⟩
            rw [← hst] at hbd HE1 HR1 ⊢
            obtain ⟨st', hst'⟩ : ∃ st', st' = oSt M o i (k + 1) := ⟨_, rfl⟩
            have HST := Lib.hid hst
            have HST' := Lib.hid hst'
            obtain ⟨out, er0⟩ := st
            simp only at hbd HR1 ⊢
            have her0 : er0 = 0 := HE1.out
            subst her0
            have HAL : Hid (Below wr.heap.size wr (wr.alloc (.cells #[.string c.nm, .string c.sg, .int .u64 (c.x.addr : Int), .int .u64 (c.x.size : Int), .int .u64 c.off, .int .i64 c.x.kind] 164))) := (Below.refl _ wr).alloc (Nat.le_refl _) _
            clear hc hsc hst hst' HE1
            by_cases hkind : c.x.kind = 9
            · have hoS : oSize c = 8 := by unfold oSize; rw [hkind]; rfl
              have hoA : oAbove (lowS o) c = 0 := by unfold oAbove; rw [hkind]; rfl
              have hT := HTAKE.out k hkt (by rw [← HC0.out]; unfold isInit; rw [hkind]; rfl)
              rw [← HST'.out, ← HST.out, ← HC0.out] at hT
              have hps : oStep M o.slide (lowS o) ⟨out, 0⟩ c = if c.x.size % 8 ≠ 0 then ⟨out, 9⟩ else if 20000 < out.length + c.x.size / 8 then ⟨out, 11⟩ else if (oRun M c.x.addr o.slide 8 (0) (c.x.size / 8)).1 ≠ 0 then ⟨out, (oRun M c.x.addr o.slide 8 (0) (c.x.size / 8)).1⟩ else ⟨out ++ (oRun M c.x.addr o.slide 8 (0) (c.x.size / 8)).2, 0⟩ := by
                unfold oStep; rw [hoS, hoA]; simp only [ne_eq, not_true_eq_false, if_false]
              have HLOOK : Hid (∀ W, ItMap W wc.heap.size → (Instr.lookup 168 (.map (some wc.heap.size)) (.int .i64 c.x.kind) true).run Try.prog W = .ok (.tuple #[.agg #[.int .u64 8, .func (.func 94) #[] #[]], .bool true]) W) := fun W hW => by
                rw [hkind]; exact hW.look9
              have HFIN : Hid (∀ er : Int, (oStep M o.slide (lowS o) ⟨out, 0⟩ c).err = er → er ≠ 0 → ∀ w', Below w.heap.size w w' → OfRes w (oOf M o).err (oOf M o).out (.returned (.tuple #[.slice none 0 0, .int .i64 er])) w') := fun er h1 h2 w' hb => by
                have e1 : st'.err = er := by rw [hT, h1]
                rw [HSTOP.out (k + 1) (by rw [← HST'.out, e1]; exact h2), ← HST'.out, e1]
                exact OfRes.stop h2 hb
              have HT := Lib.hid hT
              have hxl := c.ha
              have hsl2 := c.hs
              obtain ⟨adr, hadr⟩ : ∃ adr, adr = c.x.addr := ⟨_, rfl⟩
              obtain ⟨sz, hsz⟩ : ∃ sz, sz = c.x.size := ⟨_, rfl⟩
              rw [← hadr] at hps hxl HSC HAL
              rw [← hsz] at hps hsl2 HSC HAL
              generalize c.x.kind = kd at *
              clear hoS hoA hkind hT hadr hsz
              by_cases c1 : sz % 8 = 0
              · have b1 : ((sz : Int) % 8 != 0) = false := by rw [bne_eq_false_iff_eq]; omega
                rw [if_neg (by omega)] at hps
                have hcast : ((out.length : Int) + (sz : Int) / 8) = ((out.length + sz / 8 : Nat) : Int) := by omega
                have HCAST := Lib.hid hcast
                clear hcast
                by_cases c2 : 20000 < out.length + sz / 8
                · rw [if_pos c2] at hps
                  have HF := Lib.hid (HFIN.out 11 (by rw [hps]) (by decide))
                  by_cases c3 : 20000 < sz / 8
                  · have b2 : (20000 : Int) < (sz : Int) / 8 := by omega
                    clear hps HFIN c1 c2 c3
                    go_wp2_with (first
                      | (refine wpList_load_agg 164 (.tmp 41) rfl rfl bb (ob + k * 6) (by simp [Act.eval]) _ _ HSC.out Try.underlying164 rfl size164 ?_)
                      | (refine wpList_it rfl (.tmp 44) (.tmp 46) rfl wc.heap.size rfl kd rfl _ (HLOOK.out _ (HR1.out.keep HAL.out).kinds) ?_))
                    go_ret2
                    exact HF.out _ (((HR1.out.keep HAL.out).below.alloc (by simp; have := HR1.out.below.size; omega) _))
                  · have b2 : ¬ (20000 : Int) < (sz : Int) / 8 := by omega
                    have b3 : (20000 : Int) < (out.length : Int) + (sz : Int) / 8 := by omega
                    clear hps HFIN c1 c2 c3
                    go_wp2_with (first
                      | (refine wpList_load_agg 164 (.tmp 41) rfl rfl bb (ob + k * 6) (by simp [Act.eval]) _ _ HSC.out Try.underlying164 rfl size164 ?_)
                      | (refine wpList_it rfl (.tmp 44) (.tmp 46) rfl wc.heap.size rfl kd rfl _ (HLOOK.out _ (HR1.out.keep HAL.out).kinds) ?_))
                    go_ret2
                    exact HF.out _ (((HR1.out.keep HAL.out).below.alloc (by simp; have := HR1.out.below.size; omega) _))
                · rw [if_neg c2] at hps
                  have b2 : ¬ (20000 : Int) < (sz : Int) / 8 := by omega
                  have b3 : ¬ (20000 : Int) < (out.length : Int) + (sz : Int) / 8 := by omega
                  have HPS := Lib.hid hps
                  obtain ⟨q, hq⟩ : ∃ q, q = sz / 8 := ⟨_, rfl⟩
                  rw [← hq] at HPS HCAST
                  have hq16 : sz = 8 * q := by omega
                  have HQ16 := Lib.hid hq16
                  have hmq : out.length + q ≤ 20000 := by omega
                  have hqb : q ≤ 20000 := by omega
                  have hBA : Below wr.heap.size wr ((wr.alloc (.cells #[.string c.nm, .string c.sg, .int .u64 (adr : Int), .int .u64 (sz : Int), .int .u64 c.off, .int .i64 kd] 164)).alloc (.cells #[.int .u64 8, .func (.func 94) #[] #[]] 172)) := HAL.out.alloc (by simp) _
                  have HR2' := Lib.hid (HR1.out.keep hBA)
                  have HG12 : Hid (((wr.alloc (.cells #[.string c.nm, .string c.sg, .int .u64 (adr : Int), .int .u64 (sz : Int), .int .u64 c.off, .int .i64 kd] 164)).alloc (.cells #[.int .u64 8, .func (.func 94) #[] #[]] 172)).heap[wr.heap.size]? = some (.cells #[.string c.nm, .string c.sg, .int .u64 (adr : Int), .int .u64 (sz : Int), .int .u64 c.off, .int .i64 kd] 164 (0, 0))) := (hp_old _ _ _ (by simp)).trans (hp_new _ _ _ rfl)
                  have HG13 : Hid (((wr.alloc (.cells #[.string c.nm, .string c.sg, .int .u64 (adr : Int), .int .u64 (sz : Int), .int .u64 c.off, .int .i64 kd] 164)).alloc (.cells #[.int .u64 8, .func (.func 94) #[] #[]] 172)).heap[wr.heap.size + 1]? = some (.cells #[.int .u64 8, .func (.func 94) #[] #[]] 172 (0, 0))) := hp_new _ _ _ (by simp)
                  clear hps hq hq16 c1 c2 hBA
                  go_wp2_with (first
                    | (refine wpList_load_agg 164 (.tmp 41) rfl rfl bb (ob + k * 6) (by simp [Act.eval]) _ _ HSC.out Try.underlying164 rfl size164 ?_)
                    | (refine wpList_it rfl (.tmp 44) (.tmp 46) rfl wc.heap.size rfl kd rfl _ (HLOOK.out _ (HR1.out.keep HAL.out).kinds) ?_))
                  obtain ⟨wo3, rfl⟩ : ∃ wo3 : World, wo3 = wr := ⟨_, rfl⟩
                  go_loopw [4, 15] (fun t4 t15 wr => ∃ (j : Nat) (ad : Option Addr) (cp : Nat), j ≤ q ∧ t15 = .int .u64 (8 * (j : Int)) ∧ t4 = .slice ad (out ++ (oRun M adr o.slide 8 (0) j).2).length cp ∧ Hid ((oRun M adr o.slide 8 (0) j).1 = 0) ∧ Hid (OfSt w cs wc.heap.size (out ++ (oRun M adr o.slide 8 (0) j).2) (.slice ad (out ++ (oRun M adr o.slide 8 (0) j).2).length cp) wr) ∧ Hid (wr.heap[wo3.heap.size]? = some (.cells #[.string c.nm, .string c.sg, .int .u64 (adr : Int), .int .u64 (sz : Int), .int .u64 c.off, .int .i64 kd] 164 (0, 0))) ∧ Hid (wr.heap[wo3.heap.size + 1]? = some (.cells #[.int .u64 8, .func (.func 94) #[] #[]] 172 (0, 0)))) (fun _ t _ => 8 * q - (intOf t).toNat)
                  case atStart => exact ⟨0, ad1, cp1, Nat.zero_le _, rfl, by simp [oRun], rfl, by simp only [Hid, oRun, List.append_nil]; exact HR2'.out, HG12.out, HG13.out⟩
                  case round =>
                    clear HR2' HG12 HG13
                    obtain ⟨j, ad2, cp2, hj, rfl, rfl, HR0, HR2, HG12, HG13⟩ := hrel
                    obtain ⟨r2, hr2⟩ : ∃ r2, r2 = out ++ (oRun M adr o.slide 8 (0) j).2 := ⟨_, rfl⟩
                    have hrl : r2.length = out.length + j := by rw [hr2, List.length_append, oRun_len j HR0.out]
                    rw [← hr2] at HR2 ⊢
                    have HRR := Lib.hid hr2
                    have HRL := Lib.hid hrl
                    clear hr2 hrl
                    have ca : wr.cell? ⟨wo3.heap.size, 2, none⟩ = some (.int .u64 (adr : Int)) := by simp [World.cell?, HG12.out]
                    have cz : wr.cell? ⟨wo3.heap.size, 3, none⟩ = some (.int .u64 (sz : Int)) := by simp [World.cell?, HG12.out]
                    have ci : wr.cell? ⟨wo3.heap.size + 1, 0, none⟩ = some (.int .u64 8) := by simp [World.cell?, HG13.out]
                    by_cases hjq : j < q
                    · have i1 : 8 * (j : Int) < (sz : Int) := by have := HQ16.out; omega
                      have c25 := HX25.out wr HR2.out.x
                      obtain ⟨a1, ha1⟩ : ∃ a1, a1 = (adr + o.slide) % 18446744073709551616 := ⟨_, rfl⟩
                      obtain ⟨a, ha⟩ : ∃ a, a = secAddr adr o.slide (8 * j) := ⟨_, rfl⟩
                      have hab : a < 18446744073709551616 := by rw [ha]; unfold secAddr; exact Nat.mod_lt _ (by decide)
                      have hw1 : IntKind.u64.wrap ((adr : Int) + (o.slide : Int)) = (a1 : Int) := by rw [u64add, ha1]
                      have hw2 : IntKind.u64.wrap ((a1 : Int) + 8 * (j : Int)) = (a : Int) := by
                        rw [show 8 * (j : Int) = ((8 * j : Nat) : Int) by omega, u64add, ha, ha1]; rfl
                      have HNEXT := Lib.hid (oRun_next HR0.out ha)
                      have HRD := Lib.hid (read_any wr b M F (HSP.out.keepB HR2.out.below) a 8 hab)
                      clear ha1 ha
                      by_cases he : readErr M a 8 = 0
                      · have HRD2 : Hid (Calls Try.prog 35 #[.pointer (some ⟨b, 0, none⟩), .int .u64 a, .int .u64 8] wr fun e w' => ∃ g cp, e = .returned (.tuple #[.slice (some ⟨g, 0, none⟩) 8 cp, .int .i64 0]) ∧ Hid (Below wr.heap.size wr w') ∧ Hid (BytesIn w' g 0 (readAll M a 8))) := by
                          refine HRD.out.mono ?_
                          rintro e w' ⟨v', rfl, k1, k2, k3⟩
                          rw [he] at k3 ⊢
                          have k4 := k3 rfl
                          rcases k4.2 with ⟨_, h0⟩ | ⟨g, cp, cur, rfl, _, hg, h16, hmx, _, _⟩
                          · omega
                          · refine ⟨g, cp, rfl, k1, fun jj hjj => ?_⟩
                            rw [readAll_length] at hjj
                            obtain ⟨g', e', hcell⟩ := row_cell k4 (i := jj) (by omega)
                            cases e'
                            rw [Nat.zero_add]; exact hcell
                        have hnx := HNEXT.out
                        rw [if_neg (by simp [he])] at hnx
                        obtain ⟨at_, hat⟩ : ∃ at_, at_ = (wordOf (readAll M a 8) + (0)) % 18446744073709551616 := ⟨_, rfl⟩
                        rw [← hat] at hnx
                        have hatl : at_ < 18446744073709551616 := by rw [hat]; exact Nat.mod_lt _ (by decide)
                        have HCON : Hid (∀ (W : World) (g cp : Nat), BytesIn W g 0 (readAll M a 8) → Calls Try.prog 94 #[.int .u64 (lowS o : Int), .slice (some ⟨g, 0, none⟩) 8 cp] W fun e w' => e = .returned (.int .u64 (at_ : Int)) ∧ W = w') := fun W g cp hby => by
                          have hlen := readAll_length M a 8
                          have := pointer_any W (lowS o : Int) g 0 cp (readAll M a 8) hby (by omega)
                          rw [hlen] at this
                          have hw := wordOf_lt (readAll M a 8)
                          rw [hlen] at hw
                          rwa [hat, Nat.add_zero, Nat.mod_eq_of_lt (by omega)]
                        have hexec := exec_and HOK.out at_
                        have HNX := Lib.hid hnx
                        have HPR : Hid (∀ W, Below w.heap.size w W → Calls Try.prog 40 #[.pointer (some ⟨b, 0, none⟩), .int .u64 at_] W fun e w' => e = .returned (.int .i64 (protM M at_)) ∧ W = w') := fun W hW => prot_any W b M F (HSP.out.keepB hW) at_ hatl
                        generalize protM M at_ = pv at *
                        clear HRD HNEXT he hnx hat
                        go_wp2_with fail
                        refine HRD2.out.mono ?_
                        rintro e w9 ⟨g, cp, rfl, HB9, HBY⟩
                        have HR3 := Lib.hid (HR2.out.keep HB9.out)
                        have HH12 : Hid (w9.heap[wo3.heap.size]? = some (.cells #[.string c.nm, .string c.sg, .int .u64 (adr : Int), .int .u64 (sz : Int), .int .u64 c.off, .int .i64 kd] 164 (0, 0))) := (HB9.out.block _ (lt_of_block HG12.out)).trans HG12.out
                        have HH13 : Hid (w9.heap[wo3.heap.size + 1]? = some (.cells #[.int .u64 8, .func (.func 94) #[] #[]] 172 (0, 0))) := (HB9.out.block _ (lt_of_block HG13.out)).trans HG13.out
                        have cf : w9.cell? ⟨wo3.heap.size + 1, 1, none⟩ = some (.func (.func 94) #[] #[]) := by simp [World.cell?, HH13.out]
                        clear ca cz ci c25 hw1 hw2 HRD2 HG12 HG13 HB9
                        go_wp2_with fail
                        refine (HCON.out _ g cp HBY.out).mono ?_
                        rintro e _ ⟨rfl, rfl⟩
                        go_wp2_with fail
                        refine (HPR.out _ HR3.out.below).mono ?_
                        rintro e _ ⟨rfl, rfl⟩
                        have ci : w9.cell? ⟨wo3.heap.size + 1, 0, none⟩ = some (.int .u64 8) := by simp [World.cell?, HH13.out]
                        clear cf HCON HPR HBY
                        cases hx : execAt M at_ with
                        | true =>
                          rw [hx] at hexec
                          have hnx := HNX.out
                          rw [if_pos hx] at hnx
                          have HNX2 := Lib.hid hnx
                          have b4 : (bits .and .i64 pv 4 == 0) = false := hexec
                          have hz4 := HR3.out.below.size
                          have hlen : r2.length ≤ 20000 := by rw [HRL.out]; omega
                          have HL1 : Hid (r2.length + 1 ≤ maxLen) := by show r2.length + 1 ≤ maxLen; unfold maxLen; omega
                          have HL2 : Hid ((r2.length + 1) * 8 ≤ 140737488355328) := by show (r2.length + 1) * 8 ≤ _; omega
                          clear hx hexec hnx HNX
                          go_wp2_with (at_builtin; refine wpList_append_own _ rfl _ _ 52 rfl w.heap.size 32 i32 (.int .u64 0) 1 8 Try.underlying52 hi32 hz32 hs32 hy32 rfl (by decide) _ _ _ rfl (HR3.out.row.alloc _) ⟨w9.heap.size, 0, none⟩ 1 1 [.int .u64 (at_ : Int)] rfl rfl (World.news_of_block (hp_new w9 _ _ rfl)) (by simp [Value.oneCell']) HL1.out HL2.out (by simp; omega) ?_; intro v5 w5 hown5 hgrow5 _; obtain ⟨a5, c5', rfl⟩ := ownsRow_shape hown5; have hpush := (HR3.out.push ((Below.refl _ w9).alloc (Nat.le_refl _) _) hown5 hgrow5); have HR5 := Lib.hid hpush.1; have HJ12 := Lib.hid (hpush.2 _ _ (fun _ _ e => by cases e) HH12.out); have HJ13 := Lib.hid (hpush.2 _ _ (fun _ _ e => by cases e) HH13.out); have ci5 : w5.cell? ⟨wo3.heap.size + 1, 0, none⟩ = some (.int .u64 8) := (by simp [World.cell?, HJ13.out]); clear hown5 hgrow5 hpush)
                          go_roundw
                          case rel => exact ⟨j + 1, a5, c5', by omega, by go_num, by rw [HNX2.out, HRR.out]; simp only [List.length_append, List.length_singleton, Nat.add_assoc], by show (oRun M adr o.slide 8 (0) (j + 1)).1 = 0; rw [HNX2.out], by show OfSt _ _ _ _ _ _; rw [HNX2.out]; simp only; rw [← List.append_assoc, ← HRR.out, List.length_append]; exact HR5.out, HJ12.out, HJ13.out⟩
                          case measure => simp [intOf]; omega
                        | false =>
                          rw [hx] at hexec
                          have hnx := HNX.out
                          rw [if_neg (by rw [hx]; simp)] at hnx
                          have b4 : (bits .and .i64 pv 4 == 0) = true := hexec
                          have hse : (oRun M adr o.slide 8 (0) q).1 = 19 := by rw [oRun_stuck (j := j + 1) (by rw [hnx]; simp) (by omega), hnx]
                          have HF := Lib.hid (HFIN.out 19 (by rw [HPS.out, if_pos (by rw [hse]; decide), hse]) (by decide))
                          clear hx hexec hnx HNX hse HFIN
                          go_wp2_with fail
                          go_ret2
                          exact HF.out _ HR3.out.below
                      · have hnx := HNEXT.out
                        rw [if_pos he] at hnx
                        have hse : (oRun M adr o.slide 8 (0) q).1 = readErr M a 8 := by rw [oRun_stuck (j := j + 1) (by rw [hnx]; exact he) (by omega), hnx]
                        obtain ⟨er, her⟩ : ∃ er, er = readErr M a 8 := ⟨_, rfl⟩
                        rw [← her] at he hse
                        have HF := Lib.hid (HFIN.out er (by rw [HPS.out, if_pos (by rw [hse]; exact he), hse]) he)
                        have HRD2 : Hid (Calls Try.prog 35 #[.pointer (some ⟨b, 0, none⟩), .int .u64 a, .int .u64 8] wr fun e w' => e = .returned (.tuple #[.slice none 0 0, .int .i64 er]) ∧ Hid (Below wr.heap.size wr w')) := by
                          refine HRD.out.mono ?_
                          rintro e w' ⟨v', rfl, k1, k2, _⟩
                          rw [k2 (by rw [← her]; exact he), her]
                          exact ⟨rfl, k1⟩
                        have i2 : ((er : Int) != 0) = true := by rw [bne_iff_ne]; exact he
                        clear HRD hnx hse her he HNEXT HFIN
                        go_wp2_with fail
                        refine HRD2.out.mono ?_
                        rintro e w9 ⟨rfl, HB9⟩
                        have HB := Lib.hid (HR2.out.below.trans (below_le HB9.out HR2.out.below.size))
                        clear HB9 HRD2
                        go_wp2_with fail
                        go_ret2
                        exact HF.out _ HB.out
                    · obtain rfl : j = q := by omega
                      have i1 : ¬ 8 * (j : Int) < (sz : Int) := by have := HQ16.out; omega
                      have e : st' = ⟨r2, 0⟩ := by
                        rw [HT.out, HPS.out, if_neg (by rw [HR0.out]; simp), HRR.out]
                      have E := Lib.hid e
                      clear e
                      go_wp2_with fail
                      go_roundw
                      case rel => exact ⟨k + 1, ad2, cp2, by omega, by go_num, by rw [← HST'.out, E.out, HCAST.out, HRL.out], by rw [← HST'.out, E.out], by show (oSt M o i (k + 1)).err = 0; rw [← HST'.out, E.out], by show OfSt _ _ _ _ _ _; rw [← HST'.out, E.out]; exact HR2.out⟩
                      case measure => simp [intOf]; omega
              · have b1 : ((sz : Int) % 8 != 0) = true := by rw [bne_iff_ne]; omega
                rw [if_pos (by omega)] at hps
                have HF := Lib.hid (HFIN.out 9 (by rw [hps]) (by decide))
                clear hps HFIN c1
                go_wp2_with (first
                  | (refine wpList_load_agg 164 (.tmp 41) rfl rfl bb (ob + k * 6) (by simp [Act.eval]) _ _ HSC.out Try.underlying164 rfl size164 ?_)
                  | (refine wpList_it rfl (.tmp 44) (.tmp 46) rfl wc.heap.size rfl kd rfl _ (HLOOK.out _ (HR1.out.keep HAL.out).kinds) ?_))
                go_ret2
                exact HF.out _ (((HR1.out.keep HAL.out).below.alloc (by simp; have := HR1.out.below.size; omega) _))
            by_cases hkind2 : c.x.kind = 22
            · have hkind := hkind2
              clear hkind2
              have hoS : oSize c = 4 := by unfold oSize; rw [hkind]; rfl
              have hoA : oAbove (lowS o) c = lowS o := by unfold oAbove; rw [hkind]; rfl
              have hT := HTAKE.out k hkt (by rw [← HC0.out]; unfold isInit; rw [hkind]; rfl)
              rw [← HST'.out, ← HST.out, ← HC0.out] at hT
              have hps : oStep M o.slide (lowS o) ⟨out, 0⟩ c = if c.x.size % 4 ≠ 0 then ⟨out, 9⟩ else if 20000 < out.length + c.x.size / 4 then ⟨out, 11⟩ else if (oRun M c.x.addr o.slide 4 (lowS o) (c.x.size / 4)).1 ≠ 0 then ⟨out, (oRun M c.x.addr o.slide 4 (lowS o) (c.x.size / 4)).1⟩ else ⟨out ++ (oRun M c.x.addr o.slide 4 (lowS o) (c.x.size / 4)).2, 0⟩ := by
                unfold oStep; rw [hoS, hoA]; simp only [ne_eq, not_true_eq_false, if_false]
              have HLOOK : Hid (∀ W, ItMap W wc.heap.size → (Instr.lookup 168 (.map (some wc.heap.size)) (.int .i64 c.x.kind) true).run Try.prog W = .ok (.tuple #[.agg #[.int .u64 4, .func (.func 95) #[] #[]], .bool true]) W) := fun W hW => by
                rw [hkind]; exact hW.look22
              have HFIN : Hid (∀ er : Int, (oStep M o.slide (lowS o) ⟨out, 0⟩ c).err = er → er ≠ 0 → ∀ w', Below w.heap.size w w' → OfRes w (oOf M o).err (oOf M o).out (.returned (.tuple #[.slice none 0 0, .int .i64 er])) w') := fun er h1 h2 w' hb => by
                have e1 : st'.err = er := by rw [hT, h1]
                rw [HSTOP.out (k + 1) (by rw [← HST'.out, e1]; exact h2), ← HST'.out, e1]
                exact OfRes.stop h2 hb
              have HT := Lib.hid hT
              have hxl := c.ha
              have hsl2 := c.hs
              obtain ⟨adr, hadr⟩ : ∃ adr, adr = c.x.addr := ⟨_, rfl⟩
              obtain ⟨sz, hsz⟩ : ∃ sz, sz = c.x.size := ⟨_, rfl⟩
              rw [← hadr] at hps hxl HSC HAL
              rw [← hsz] at hps hsl2 HSC HAL
              generalize c.x.kind = kd at *
              clear hoS hoA hkind hT hadr hsz
              by_cases c1 : sz % 4 = 0
              · have b1 : ((sz : Int) % 4 != 0) = false := by rw [bne_eq_false_iff_eq]; omega
                rw [if_neg (by omega)] at hps
                have hcast : ((out.length : Int) + (sz : Int) / 4) = ((out.length + sz / 4 : Nat) : Int) := by omega
                have HCAST := Lib.hid hcast
                clear hcast
                by_cases c2 : 20000 < out.length + sz / 4
                · rw [if_pos c2] at hps
                  have HF := Lib.hid (HFIN.out 11 (by rw [hps]) (by decide))
                  by_cases c3 : 20000 < sz / 4
                  · have b2 : (20000 : Int) < (sz : Int) / 4 := by omega
                    clear hps HFIN c1 c2 c3
                    go_wp2_with (first
                      | (refine wpList_load_agg 164 (.tmp 41) rfl rfl bb (ob + k * 6) (by simp [Act.eval]) _ _ HSC.out Try.underlying164 rfl size164 ?_)
                      | (refine wpList_it rfl (.tmp 44) (.tmp 46) rfl wc.heap.size rfl kd rfl _ (HLOOK.out _ (HR1.out.keep HAL.out).kinds) ?_))
                    go_ret2
                    exact HF.out _ (((HR1.out.keep HAL.out).below.alloc (by simp; have := HR1.out.below.size; omega) _))
                  · have b2 : ¬ (20000 : Int) < (sz : Int) / 4 := by omega
                    have b3 : (20000 : Int) < (out.length : Int) + (sz : Int) / 4 := by omega
                    clear hps HFIN c1 c2 c3
                    go_wp2_with (first
                      | (refine wpList_load_agg 164 (.tmp 41) rfl rfl bb (ob + k * 6) (by simp [Act.eval]) _ _ HSC.out Try.underlying164 rfl size164 ?_)
                      | (refine wpList_it rfl (.tmp 44) (.tmp 46) rfl wc.heap.size rfl kd rfl _ (HLOOK.out _ (HR1.out.keep HAL.out).kinds) ?_))
                    go_ret2
                    exact HF.out _ (((HR1.out.keep HAL.out).below.alloc (by simp; have := HR1.out.below.size; omega) _))
                · rw [if_neg c2] at hps
                  have b2 : ¬ (20000 : Int) < (sz : Int) / 4 := by omega
                  have b3 : ¬ (20000 : Int) < (out.length : Int) + (sz : Int) / 4 := by omega
                  have HPS := Lib.hid hps
                  obtain ⟨q, hq⟩ : ∃ q, q = sz / 4 := ⟨_, rfl⟩
                  rw [← hq] at HPS HCAST
                  have hq16 : sz = 4 * q := by omega
                  have HQ16 := Lib.hid hq16
                  have hmq : out.length + q ≤ 20000 := by omega
                  have hqb : q ≤ 20000 := by omega
                  have hBA : Below wr.heap.size wr ((wr.alloc (.cells #[.string c.nm, .string c.sg, .int .u64 (adr : Int), .int .u64 (sz : Int), .int .u64 c.off, .int .i64 kd] 164)).alloc (.cells #[.int .u64 4, .func (.func 95) #[] #[]] 172)) := HAL.out.alloc (by simp) _
                  have HR2' := Lib.hid (HR1.out.keep hBA)
                  have HG12 : Hid (((wr.alloc (.cells #[.string c.nm, .string c.sg, .int .u64 (adr : Int), .int .u64 (sz : Int), .int .u64 c.off, .int .i64 kd] 164)).alloc (.cells #[.int .u64 4, .func (.func 95) #[] #[]] 172)).heap[wr.heap.size]? = some (.cells #[.string c.nm, .string c.sg, .int .u64 (adr : Int), .int .u64 (sz : Int), .int .u64 c.off, .int .i64 kd] 164 (0, 0))) := (hp_old _ _ _ (by simp)).trans (hp_new _ _ _ rfl)
                  have HG13 : Hid (((wr.alloc (.cells #[.string c.nm, .string c.sg, .int .u64 (adr : Int), .int .u64 (sz : Int), .int .u64 c.off, .int .i64 kd] 164)).alloc (.cells #[.int .u64 4, .func (.func 95) #[] #[]] 172)).heap[wr.heap.size + 1]? = some (.cells #[.int .u64 4, .func (.func 95) #[] #[]] 172 (0, 0))) := hp_new _ _ _ (by simp)
                  clear hps hq hq16 c1 c2 hBA
                  go_wp2_with (first
                    | (refine wpList_load_agg 164 (.tmp 41) rfl rfl bb (ob + k * 6) (by simp [Act.eval]) _ _ HSC.out Try.underlying164 rfl size164 ?_)
                    | (refine wpList_it rfl (.tmp 44) (.tmp 46) rfl wc.heap.size rfl kd rfl _ (HLOOK.out _ (HR1.out.keep HAL.out).kinds) ?_))
                  obtain ⟨wo3, rfl⟩ : ∃ wo3 : World, wo3 = wr := ⟨_, rfl⟩
                  go_loopw [4, 15] (fun t4 t15 wr => ∃ (j : Nat) (ad : Option Addr) (cp : Nat), j ≤ q ∧ t15 = .int .u64 (4 * (j : Int)) ∧ t4 = .slice ad (out ++ (oRun M adr o.slide 4 (lowS o) j).2).length cp ∧ Hid ((oRun M adr o.slide 4 (lowS o) j).1 = 0) ∧ Hid (OfSt w cs wc.heap.size (out ++ (oRun M adr o.slide 4 (lowS o) j).2) (.slice ad (out ++ (oRun M adr o.slide 4 (lowS o) j).2).length cp) wr) ∧ Hid (wr.heap[wo3.heap.size]? = some (.cells #[.string c.nm, .string c.sg, .int .u64 (adr : Int), .int .u64 (sz : Int), .int .u64 c.off, .int .i64 kd] 164 (0, 0))) ∧ Hid (wr.heap[wo3.heap.size + 1]? = some (.cells #[.int .u64 4, .func (.func 95) #[] #[]] 172 (0, 0)))) (fun _ t _ => 4 * q - (intOf t).toNat)
                  case atStart => exact ⟨0, ad1, cp1, Nat.zero_le _, rfl, by simp [oRun], rfl, by simp only [Hid, oRun, List.append_nil]; exact HR2'.out, HG12.out, HG13.out⟩
                  case round =>
                    clear HR2' HG12 HG13
                    obtain ⟨j, ad2, cp2, hj, rfl, rfl, HR0, HR2, HG12, HG13⟩ := hrel
                    obtain ⟨r2, hr2⟩ : ∃ r2, r2 = out ++ (oRun M adr o.slide 4 (lowS o) j).2 := ⟨_, rfl⟩
                    have hrl : r2.length = out.length + j := by rw [hr2, List.length_append, oRun_len j HR0.out]
                    rw [← hr2] at HR2 ⊢
                    have HRR := Lib.hid hr2
                    have HRL := Lib.hid hrl
                    clear hr2 hrl
                    have ca : wr.cell? ⟨wo3.heap.size, 2, none⟩ = some (.int .u64 (adr : Int)) := by simp [World.cell?, HG12.out]
                    have cz : wr.cell? ⟨wo3.heap.size, 3, none⟩ = some (.int .u64 (sz : Int)) := by simp [World.cell?, HG12.out]
                    have ci : wr.cell? ⟨wo3.heap.size + 1, 0, none⟩ = some (.int .u64 4) := by simp [World.cell?, HG13.out]
                    by_cases hjq : j < q
                    · have i1 : 4 * (j : Int) < (sz : Int) := by have := HQ16.out; omega
                      have c25 := HX25.out wr HR2.out.x
                      obtain ⟨a1, ha1⟩ : ∃ a1, a1 = (adr + o.slide) % 18446744073709551616 := ⟨_, rfl⟩
                      obtain ⟨a, ha⟩ : ∃ a, a = secAddr adr o.slide (4 * j) := ⟨_, rfl⟩
                      have hab : a < 18446744073709551616 := by rw [ha]; unfold secAddr; exact Nat.mod_lt _ (by decide)
                      have hw1 : IntKind.u64.wrap ((adr : Int) + (o.slide : Int)) = (a1 : Int) := by rw [u64add, ha1]
                      have hw2 : IntKind.u64.wrap ((a1 : Int) + 4 * (j : Int)) = (a : Int) := by
                        rw [show 4 * (j : Int) = ((4 * j : Nat) : Int) by omega, u64add, ha, ha1]; rfl
                      have HNEXT := Lib.hid (oRun_next HR0.out ha)
                      have HRD := Lib.hid (read_any wr b M F (HSP.out.keepB HR2.out.below) a 4 hab)
                      clear ha1 ha
                      by_cases he : readErr M a 4 = 0
                      · have HRD2 : Hid (Calls Try.prog 35 #[.pointer (some ⟨b, 0, none⟩), .int .u64 a, .int .u64 4] wr fun e w' => ∃ g cp, e = .returned (.tuple #[.slice (some ⟨g, 0, none⟩) 4 cp, .int .i64 0]) ∧ Hid (Below wr.heap.size wr w') ∧ Hid (BytesIn w' g 0 (readAll M a 4))) := by
                          refine HRD.out.mono ?_
                          rintro e w' ⟨v', rfl, k1, k2, k3⟩
                          rw [he] at k3 ⊢
                          have k4 := k3 rfl
                          rcases k4.2 with ⟨_, h0⟩ | ⟨g, cp, cur, rfl, _, hg, h16, hmx, _, _⟩
                          · omega
                          · refine ⟨g, cp, rfl, k1, fun jj hjj => ?_⟩
                            rw [readAll_length] at hjj
                            obtain ⟨g', e', hcell⟩ := row_cell k4 (i := jj) (by omega)
                            cases e'
                            rw [Nat.zero_add]; exact hcell
                        have hnx := HNEXT.out
                        rw [if_neg (by simp [he])] at hnx
                        obtain ⟨at_, hat⟩ : ∃ at_, at_ = (wordOf (readAll M a 4) + (lowS o)) % 18446744073709551616 := ⟨_, rfl⟩
                        rw [← hat] at hnx
                        have hatl : at_ < 18446744073709551616 := by rw [hat]; exact Nat.mod_lt _ (by decide)
                        have HCON : Hid (∀ (W : World) (g cp : Nat), BytesIn W g 0 (readAll M a 4) → Calls Try.prog 95 #[.int .u64 (lowS o : Int), .slice (some ⟨g, 0, none⟩) 4 cp] W fun e w' => e = .returned (.int .u64 (at_ : Int)) ∧ W = w') := fun W g cp hby => by
                          have hlen := readAll_length M a 4
                          have := offset_any W (lowS o) g 0 cp (readAll M a 4) hby (by omega)
                          rw [hlen] at this
                          rwa [hat]
                        have hexec := exec_and HOK.out at_
                        have HNX := Lib.hid hnx
                        have HPR : Hid (∀ W, Below w.heap.size w W → Calls Try.prog 40 #[.pointer (some ⟨b, 0, none⟩), .int .u64 at_] W fun e w' => e = .returned (.int .i64 (protM M at_)) ∧ W = w') := fun W hW => prot_any W b M F (HSP.out.keepB hW) at_ hatl
                        generalize protM M at_ = pv at *
                        clear HRD HNEXT he hnx hat
                        go_wp2_with fail
                        refine HRD2.out.mono ?_
                        rintro e w9 ⟨g, cp, rfl, HB9, HBY⟩
                        have HR3 := Lib.hid (HR2.out.keep HB9.out)
                        have HH12 : Hid (w9.heap[wo3.heap.size]? = some (.cells #[.string c.nm, .string c.sg, .int .u64 (adr : Int), .int .u64 (sz : Int), .int .u64 c.off, .int .i64 kd] 164 (0, 0))) := (HB9.out.block _ (lt_of_block HG12.out)).trans HG12.out
                        have HH13 : Hid (w9.heap[wo3.heap.size + 1]? = some (.cells #[.int .u64 4, .func (.func 95) #[] #[]] 172 (0, 0))) := (HB9.out.block _ (lt_of_block HG13.out)).trans HG13.out
                        have cf : w9.cell? ⟨wo3.heap.size + 1, 1, none⟩ = some (.func (.func 95) #[] #[]) := by simp [World.cell?, HH13.out]
                        clear ca cz ci c25 hw1 hw2 HRD2 HG12 HG13 HB9
                        go_wp2_with fail
                        refine (HCON.out _ g cp HBY.out).mono ?_
                        rintro e _ ⟨rfl, rfl⟩
                        go_wp2_with fail
                        refine (HPR.out _ HR3.out.below).mono ?_
                        rintro e _ ⟨rfl, rfl⟩
                        have ci : w9.cell? ⟨wo3.heap.size + 1, 0, none⟩ = some (.int .u64 4) := by simp [World.cell?, HH13.out]
                        clear cf HCON HPR HBY
                        cases hx : execAt M at_ with
                        | true =>
                          rw [hx] at hexec
                          have hnx := HNX.out
                          rw [if_pos hx] at hnx
                          have HNX2 := Lib.hid hnx
                          have b4 : (bits .and .i64 pv 4 == 0) = false := hexec
                          have hz4 := HR3.out.below.size
                          have hlen : r2.length ≤ 20000 := by rw [HRL.out]; omega
                          have HL1 : Hid (r2.length + 1 ≤ maxLen) := by show r2.length + 1 ≤ maxLen; unfold maxLen; omega
                          have HL2 : Hid ((r2.length + 1) * 8 ≤ 140737488355328) := by show (r2.length + 1) * 8 ≤ _; omega
                          clear hx hexec hnx HNX
                          go_wp2_with (at_builtin; refine wpList_append_own _ rfl _ _ 52 rfl w.heap.size 32 i32 (.int .u64 0) 1 8 Try.underlying52 hi32 hz32 hs32 hy32 rfl (by decide) _ _ _ rfl (HR3.out.row.alloc _) ⟨w9.heap.size, 0, none⟩ 1 1 [.int .u64 (at_ : Int)] rfl rfl (World.news_of_block (hp_new w9 _ _ rfl)) (by simp [Value.oneCell']) HL1.out HL2.out (by simp; omega) ?_; intro v5 w5 hown5 hgrow5 _; obtain ⟨a5, c5', rfl⟩ := ownsRow_shape hown5; have hpush := (HR3.out.push ((Below.refl _ w9).alloc (Nat.le_refl _) _) hown5 hgrow5); have HR5 := Lib.hid hpush.1; have HJ12 := Lib.hid (hpush.2 _ _ (fun _ _ e => by cases e) HH12.out); have HJ13 := Lib.hid (hpush.2 _ _ (fun _ _ e => by cases e) HH13.out); have ci5 : w5.cell? ⟨wo3.heap.size + 1, 0, none⟩ = some (.int .u64 4) := (by simp [World.cell?, HJ13.out]); clear hown5 hgrow5 hpush)
                          go_roundw
                          case rel => exact ⟨j + 1, a5, c5', by omega, by go_num, by rw [HNX2.out, HRR.out]; simp only [List.length_append, List.length_singleton, Nat.add_assoc], by show (oRun M adr o.slide 4 (lowS o) (j + 1)).1 = 0; rw [HNX2.out], by show OfSt _ _ _ _ _ _; rw [HNX2.out]; simp only; rw [← List.append_assoc, ← HRR.out, List.length_append]; exact HR5.out, HJ12.out, HJ13.out⟩
                          case measure => simp [intOf]; omega
                        | false =>
                          rw [hx] at hexec
                          have hnx := HNX.out
                          rw [if_neg (by rw [hx]; simp)] at hnx
                          have b4 : (bits .and .i64 pv 4 == 0) = true := hexec
                          have hse : (oRun M adr o.slide 4 (lowS o) q).1 = 19 := by rw [oRun_stuck (j := j + 1) (by rw [hnx]; simp) (by omega), hnx]
                          have HF := Lib.hid (HFIN.out 19 (by rw [HPS.out, if_pos (by rw [hse]; decide), hse]) (by decide))
                          clear hx hexec hnx HNX hse HFIN
                          go_wp2_with fail
                          go_ret2
                          exact HF.out _ HR3.out.below
                      · have hnx := HNEXT.out
                        rw [if_pos he] at hnx
                        have hse : (oRun M adr o.slide 4 (lowS o) q).1 = readErr M a 4 := by rw [oRun_stuck (j := j + 1) (by rw [hnx]; exact he) (by omega), hnx]
                        obtain ⟨er, her⟩ : ∃ er, er = readErr M a 4 := ⟨_, rfl⟩
                        rw [← her] at he hse
                        have HF := Lib.hid (HFIN.out er (by rw [HPS.out, if_pos (by rw [hse]; exact he), hse]) he)
                        have HRD2 : Hid (Calls Try.prog 35 #[.pointer (some ⟨b, 0, none⟩), .int .u64 a, .int .u64 4] wr fun e w' => e = .returned (.tuple #[.slice none 0 0, .int .i64 er]) ∧ Hid (Below wr.heap.size wr w')) := by
                          refine HRD.out.mono ?_
                          rintro e w' ⟨v', rfl, k1, k2, _⟩
                          rw [k2 (by rw [← her]; exact he), her]
                          exact ⟨rfl, k1⟩
                        have i2 : ((er : Int) != 0) = true := by rw [bne_iff_ne]; exact he
                        clear HRD hnx hse her he HNEXT HFIN
                        go_wp2_with fail
                        refine HRD2.out.mono ?_
                        rintro e w9 ⟨rfl, HB9⟩
                        have HB := Lib.hid (HR2.out.below.trans (below_le HB9.out HR2.out.below.size))
                        clear HB9 HRD2
                        go_wp2_with fail
                        go_ret2
                        exact HF.out _ HB.out
                    · obtain rfl : j = q := by omega
                      have i1 : ¬ 4 * (j : Int) < (sz : Int) := by have := HQ16.out; omega
                      have e : st' = ⟨r2, 0⟩ := by
                        rw [HT.out, HPS.out, if_neg (by rw [HR0.out]; simp), HRR.out]
                      have E := Lib.hid e
                      clear e
                      go_wp2_with fail
                      go_roundw
                      case rel => exact ⟨k + 1, ad2, cp2, by omega, by go_num, by rw [← HST'.out, E.out, HCAST.out, HRL.out], by rw [← HST'.out, E.out], by show (oSt M o i (k + 1)).err = 0; rw [← HST'.out, E.out], by show OfSt _ _ _ _ _ _; rw [← HST'.out, E.out]; exact HR2.out⟩
                      case measure => simp [intOf]; omega
              · have b1 : ((sz : Int) % 4 != 0) = true := by rw [bne_iff_ne]; omega
                rw [if_pos (by omega)] at hps
                have HF := Lib.hid (HFIN.out 9 (by rw [hps]) (by decide))
                clear hps HFIN c1
                go_wp2_with (first
                  | (refine wpList_load_agg 164 (.tmp 41) rfl rfl bb (ob + k * 6) (by simp [Act.eval]) _ _ HSC.out Try.underlying164 rfl size164 ?_)
                  | (refine wpList_it rfl (.tmp 44) (.tmp 46) rfl wc.heap.size rfl kd rfl _ (HLOOK.out _ (HR1.out.keep HAL.out).kinds) ?_))
                go_ret2
                exact HF.out _ (((HR1.out.keep HAL.out).below.alloc (by simp; have := HR1.out.below.size; omega) _))
            · have hK := HSKIP.out k hkt (by rw [← HC0.out]; unfold isInit; simp [hkind, hkind2])
              rw [← HST'.out, ← HST.out] at hK
              have HK := Lib.hid hK
              have HLOOK : Hid (∀ W, ItMap W wc.heap.size → (Instr.lookup 168 (.map (some wc.heap.size)) (.int .i64 c.x.kind) true).run Try.prog W = .ok (.tuple #[.agg #[.int .u64 0, .nilFunc], .bool false]) W) := fun W hW => hW.lookNo hkb hkind hkind2
              clear hK hkind hkind2
              go_wp2_with (first
                | (refine wpList_load_agg 164 (.tmp 41) rfl rfl bb (ob + k * 6) (by simp [Act.eval]) _ _ HSC.out Try.underlying164 rfl size164 ?_)
                | (refine wpList_it rfl (.tmp 44) (.tmp 46) rfl wc.heap.size rfl c.x.kind rfl _ (HLOOK.out _ (HR1.out.keep HAL.out).kinds) ?_))
              go_roundw
              case rel => exact ⟨k + 1, ad1, cp1, by omega, by go_num, by rw [← HST'.out, HK.out], by rw [← HST'.out, HK.out], by show (oSt M o i (k + 1)).err = 0; rw [← HST'.out, HK.out], by show OfSt _ _ _ _ _ _; rw [← HST'.out, HK.out]; exact HR1.out.keep (HAL.out.alloc (by simp) _)⟩
              case measure => simp [intOf]; omega
          · obtain rfl : k = sg.secs.length := by omega
            go_wp2_with fail
            go_roundw
            case rel => exact ⟨i + 1, ad1, cp1, by omega, by go_num, by rw [HEND.out], by rw [HEND.out], by show (oSt M o (i + 1) 0).err = 0; rw [← HEND.out]; exact HE1.out, by show OfSt _ _ _ _ _ _; rw [← HEND.out]; exact HR1.out⟩
            case measure => simp [intOf]; omega
      · obtain rfl : i = o.segs.length := by omega
        have HZ := Lib.hid (oSt_last (M := M) (o := o))
        go_wp2_with fail
        go_ret2
        rw [HZ.out, HE.out]
        exact ⟨_, rfl, HR.out.below, fun h0 => absurd rfl h0, fun _ => HR.out.row⟩
end Go.Proofs.Ytepnaalgobhcdaa
