/- A map from page numbers to pages, told as a function: what each operation on it does. -/
import Derived.Test.YtepnaalgobhcdaaSpA
import Derived.Maps.OwnSet
import Derived.Maps.RangeWalk
import Derived.OpenShut
namespace Go.Proofs.Ytepnaalgobhcdaa
open Go.RowKit Spm
open Go.Maps (Keyed)

/-- How a page reads: its block's number and its protection; the zero page. -/
def pgElem (v : Value) : Option (DataW Unit × List MemPlace) := match v with
  | .agg cs => match cs.toList with
    | [.pointer (some a), .int .i64 pr] => if a = ⟨a.block, 0, none⟩ then some (.agg [.lit (.int .u64 a.block), .lit (.int .i64 pr)], []) else none
    | [.pointer none, .int .i64 pr] => if pr = 0 then some (.nil, []) else none
    | _ => none
  | _ => none
def pgVal (p : Nat × Int) : Value := .agg #[.pointer (some ⟨p.1, 0, none⟩), .int .i64 p.2]
def pgZero : Value := .agg #[.pointer none, .int .i64 0]
def pgData (p : Nat × Int) : DataW Unit := .agg [.lit (.int .u64 p.1), .lit (.int .i64 p.2)]
theorem pgElem_val (p : Nat × Int) : pgElem (pgVal p) = some (pgData p, []) := by simp [pgElem, pgVal, pgData]
theorem pgElem_zero : pgElem pgZero = some (.nil, []) := by simp [pgElem, pgZero]
theorem pgElem_cases {v : Value} {d : DataW Unit} {ps : List MemPlace} (h : pgElem v = some (d, ps)) : (∃ p, v = pgVal p ∧ d = pgData p) ∨ (v = pgZero ∧ d = .nil) := by
  unfold pgElem at h
  split at h
  · rename_i cs
    split at h
    · rename_i a pr hcs
      split at h
      · rename_i ha
        left
        cases h
        refine ⟨(a.block, pr), ?_, rfl⟩
        unfold pgVal
        rw [← ha]
        congr 1
        apply Array.ext'
        rw [hcs]
      · cases h
    · rename_i pr hcs
      split at h
      · rename_i hp
        right
        cases h
        subst hp
        refine ⟨?_, rfl⟩
        unfold pgZero
        congr 1
        apply Array.ext'
        rw [hcs]
      · cases h
    · cases h
  · cases h
theorem pgElem_inv {v : Value} {p : Nat × Int} {ps : List MemPlace} (h : pgElem v = some (pgData p, ps)) : v = pgVal p := by
  rcases pgElem_cases h with ⟨q, rfl, e⟩ | ⟨_, e⟩
  · unfold pgData at e
    simp at e
    obtain ⟨e1, e2⟩ := e
    have : p = q := Prod.ext (by omega) e2
    rw [this]
  · cases e
theorem pgElem_nil {v : Value} {ps : List MemPlace} (h : pgElem v = some (.nil, ps)) : v = pgZero := by
  rcases pgElem_cases h with ⟨q, rfl, e⟩ | ⟨e, _⟩
  · cases e
  · exact e

def key (n : Nat) : Lit := .int .u64 n
theorem law76 : Keyed Try.prog 32 := Maps.int_keyed Try.underlying32
theorem zero142 (w : World) : (zeroValue 142).run Try.prog w = .ok pgZero w := by kernel_rfl
theorem keyOf_u64 {n : Nat} (h : n < 18446744073709551616) : keyOf Try.prog 32 (.int .u64 (n : Int)) = some (key n) := Maps.keyOf_int_mk Try.underlying32 (WalkArith.wf_u64 (by omega))
theorem key_ne {a b : Nat} (h : a ≠ b) : key a ≠ key b := by unfold key; intro e; cases e; exact h rfl

/-- Block b is a map of c pages; f says which. -/
def PgMap (w : World) (b : Nat) (f : Nat → Option (Nat × Int)) (c : Nat) : Prop :=
  ∃ D : DataW Unit, w.ownsMap Try.prog 32 pgElem b c D ∧ Maps.size D = c ∧ ∀ n, n < 18446744073709551616 → (f n = none → Maps.has D (key n) = false) ∧ ∀ p, f n = some p → Maps.has D (key n) = true ∧ ∀ z, D.atKey (key n) z = pgData p

theorem PgMap.lt {w : World} {b : Nat} {f : Nat → Option (Nat × Int)} {c : Nat} (h : PgMap w b f c) : b < w.heap.size := by
  obtain ⟨D, h1, _⟩ := h; exact h1.lt
theorem PgMap.kept {w w' : World} {b : Nat} {f : Nat → Option (Nat × Int)} {c : Nat} (h : PgMap w b f c) (he : w'.heap[b]? = w.heap[b]?) : PgMap w' b f c := by
  obtain ⟨D, ⟨es, clock, hb, r⟩, h2⟩ := h
  exact ⟨D, ⟨es, clock, he.trans hb, r⟩, h2⟩
theorem PgMap.made (w : World) : PgMap (w.alloc (.map #[] 0)) w.heap.size (fun _ => none) 0 :=
  ⟨.map [], World.ownsMap_made _ _ _ _, rfl, fun n _ => ⟨fun _ => rfl, fun p hp => by cases hp⟩⟩
theorem PgMap.notCells {w : World} {b : Nat} {f : Nat → Option (Nat × Int)} {c : Nat} (h : PgMap w b f c) {cs : Array Value} {t : TypeId} {fr : Nat × Nat} : w.heap[b]? ≠ some (.cells cs t fr) := by
  obtain ⟨D, ⟨es, clock, hb, r⟩, h2⟩ := h
  rw [hb]; intro e; cases e

section
variable {ops : Array Oper} {rest : List Oper} {o : Oper} {a : Act} {w : World} {Q : Exit → Act → World → Prop}
theorem PgMap.look {b : Nat} {f : Nat → Option (Nat × Int)} {c : Nat} (h : PgMap w b f c) {n : Nat} (hn : n < 18446744073709551616) :
    (Instr.lookup 76 (.map (some b)) (.int .u64 (n : Int)) true).run Try.prog w = .ok (.tuple #[((f n).map pgVal).getD pgZero, .bool (f n).isSome]) w ∧
    (Instr.lookup 76 (.map (some b)) (.int .u64 (n : Int)) false).run Try.prog w = .ok (((f n).map pgVal).getD pgZero) w := by
  obtain ⟨D, hown, hs, hf⟩ := h
  obtain ⟨v, ps, h1, h2⟩ := hown.look_ok law76 Try.underlying76 (zero142 w) pgElem_zero (keyOf_u64 hn)
  obtain ⟨v', ps', h1', h2'⟩ := hown.lookup law76 Try.underlying76 (zero142 w) pgElem_zero (keyOf_u64 hn)
  cases hfn : f n with
  | none =>
    have hh := (hf n hn).1 hfn
    rw [Maps.atKey_of_not_has hh] at h2 h2'
    rw [h1, h1', hh, pgElem_nil h2, pgElem_nil h2']
    exact ⟨rfl, rfl⟩
  | some p =>
    obtain ⟨hh, ha⟩ := (hf n hn).2 p hfn
    rw [ha] at h2 h2'
    rw [h1, h1', hh, pgElem_inv h2, pgElem_inv h2']
    exact ⟨rfl, rfl⟩
/-- 'p, is := m[n]'. -/
theorem wpList_page_ok (hg : o.guard = none) (m x : Operand) (hop : o.op = Op.lookup 76 m x true) (b : Nat) {f : Nat → Option (Nat × Int)} {c : Nat} (h : PgMap w b f c) (hm : a.eval m = .map (some b)) (n : Nat) (hn : n < 18446744073709551616) (hx : a.eval x = .int .u64 (n : Int))
    (hK : wpList Try.prog ops Q rest (a.put o.dst (.tuple #[((f n).map pgVal).getD pgZero, .bool (f n).isSome])) w) : wpList Try.prog ops Q (o :: rest) a w := by
  refine wpList_plain hg fun K' hK' => ?_
  unfold Oper.wp
  simp [execOp, hop, hm, hx, (h.look hn).1, Result.andThen]
  exact hK' _ _ hK
/-- 'm[n]'. -/
theorem wpList_page (hg : o.guard = none) (m x : Operand) (hop : o.op = Op.lookup 76 m x false) (b : Nat) {f : Nat → Option (Nat × Int)} {c : Nat} (h : PgMap w b f c) (hm : a.eval m = .map (some b)) (n : Nat) (hn : n < 18446744073709551616) (hx : a.eval x = .int .u64 (n : Int))
    (hK : wpList Try.prog ops Q rest (a.put o.dst (((f n).map pgVal).getD pgZero)) w) : wpList Try.prog ops Q (o :: rest) a w := by
  refine wpList_plain hg fun K' hK' => ?_
  unfold Oper.wp
  simp [execOp, hop, hm, hx, (h.look hn).2, Result.andThen]
  exact hK' _ _ hK
/-- 'len(m)'. -/
theorem wpList_pages_len (hg : o.guard = none) (m : Operand) (hop : o.op = Op.call { callee := Callee.builtin Builtin.len, args := #[m], argTypes := #[76] }) (b : Nat) {f : Nat → Option (Nat × Int)} {c : Nat} (h : PgMap w b f c) (hm : a.eval m = .map (some b))
    (hK : wpList Try.prog ops Q rest (a.put o.dst (.int .i64 c)) w) : wpList Try.prog ops Q (o :: rest) a w := by
  obtain ⟨D, hown, hs, _⟩ := h
  refine wpList_len_own w hg m 76 hop 32 142 Try.underlying76 pgElem b c D hm hown ?_
  rw [hs]; exact hK
/-- 'm[n] = page{..}', n not there before. -/
theorem wpList_page_put (hg : o.guard = none) (m x v : Operand) (hop : o.op = Op.mapUpdate 76 m x v) (b : Nat) {f : Nat → Option (Nat × Int)} {c : Nat} (h : PgMap w b f c) (hm : a.eval m = .map (some b)) (hc : c < 1000000) (n : Nat) (hn : n < 18446744073709551616) (hx : a.eval x = .int .u64 (n : Int))
    (hnone : f n = none) (p : Nat × Int) (hv : a.eval v = pgVal p)
    (hK : ∀ w', PgMap w' b (fun k => if k = n then some p else f k) (c + 1) → w.grownBy w' (some b) → wpList Try.prog ops Q rest (a.put o.dst undef) w') : wpList Try.prog ops Q (o :: rest) a w := by
  obtain ⟨D, hown, hs, hf⟩ := h
  refine wpList_mapUpdate_own w hg m x v 76 hop 32 142 law76 Try.underlying76 pgElem b c D hm hown (by unfold maxLen; omega) _ _ (key n) hx hv (keyOf_u64 hn) (pgData p) [] (pgElem_val p) ?_
  intro w' hown' hg'
  have hmap := hown.isMap
  have hk : WideAt.IsKeyLit (key n) := trivial
  refine hK w' ⟨_, hown', ?_, fun k hk' => ⟨fun (hkn : (if k = n then some p else f k) = none) => ?_, fun q (hq : (if k = n then some p else f k) = some q) => ?_⟩⟩ hg'
  · rw [Maps.size_put (hown.tidy law76), (hf n hn).1 hnone, hs]; rfl
  · by_cases e : k = n
    · rw [if_pos e] at hkn; cases hkn
    · rw [if_neg e] at hkn
      rw [Maps.has_put_other (key_ne e)]
      exact (hf k hk').1 hkn
  · by_cases e : k = n
    · subst e
      rw [if_pos rfl] at hq
      cases hq
      exact ⟨Maps.has_put_same hmap hk _, fun z => Maps.atKey_put_same hmap hk _ z⟩
    · rw [if_neg e] at hq
      obtain ⟨q1, q2⟩ := (hf k hk').2 q hq
      exact ⟨by rw [Maps.has_put_other (key_ne e)]; exact q1, fun z => by rw [Maps.atKey_put_other (key_ne e)]; exact q2 z⟩
end
end Go.Proofs.Ytepnaalgobhcdaa
