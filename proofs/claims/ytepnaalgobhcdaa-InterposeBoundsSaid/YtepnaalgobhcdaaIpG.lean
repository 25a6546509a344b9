/- A map from addresses to swaps, told as a table: what each operation on it does. -/
import Derived.Test.YtepnaalgobhcdaaIpF
import Derived.Maps.OwnSet
import Derived.OpenShut
namespace Go.Proofs.Ytepnaalgobhcdaa
open Go.RowKit Spm
open Go.Maps (Keyed)

def swElem (v : Value) : Option (DataW Unit × List MemPlace) := match v with
  | .agg cs => match cs.toList with
    | [.int .u64 t, .int .i64 i] => if t = 0 ∧ i = 0 then some (.nil, []) else some (.agg [.lit (.int .u64 t), .lit (.int .i64 i)], [])
    | _ => none
  | _ => none
def swVal (p : Nat × Nat) : Value := .agg #[.int .u64 (p.1 : Int), .int .i64 (p.2 : Int)]
def swData (p : Nat × Nat) : DataW Unit := .agg [.lit (.int .u64 (p.1 : Int)), .lit (.int .i64 (p.2 : Int))]
theorem swElem_val (p : Nat × Nat) (h : p.1 ≠ 0) : swElem (swVal p) = some (swData p, []) := by
  simp only [swElem, swVal, swData]
  rw [if_neg (by omega)]
theorem swElem_zero : swElem (swVal (0, 0)) = some (.nil, []) := by simp [swElem, swVal]
theorem swElem_inv {v : Value} {p : Nat × Nat} {ps : List MemPlace} (h : swElem v = some (swData p, ps)) : v = swVal p := by
  unfold swElem at h
  split at h
  · rename_i cs
    split at h
    · rename_i t i hcs
      split at h
      · cases h
      · unfold swData at h
        simp at h
        obtain ⟨⟨e1, e2⟩, _⟩ := h
        unfold swVal
        congr 1
        apply Array.ext'
        rw [hcs, ← e1, ← e2]
    · cases h
  · cases h
theorem swElem_nil {v : Value} {ps : List MemPlace} (h : swElem v = some (.nil, ps)) : v = swVal (0, 0) := by
  unfold swElem at h
  split at h
  · rename_i cs
    split at h
    · rename_i t i hcs
      split at h
      · rename_i hz
        unfold swVal
        congr 1
        apply Array.ext'
        rw [hcs, hz.1, hz.2]; rfl
      · cases h
    · cases h
  · cases h
theorem zero97 (w : World) : (zeroValue 97).run Try.prog w = .ok (swVal (0, 0)) w := by kernel_rfl

/-- Block b is a map that holds the table. -/
def SwMap (w : World) (b : Nat) (T : Tab) : Prop :=
  ∃ D : DataW Unit, w.ownsMap Try.prog 32 swElem b T.length D ∧ Maps.size D = T.length ∧ ∀ n, n < 18446744073709551616 → (tget T n = none → Maps.has D (key n) = false) ∧ ∀ p, tget T n = some p → Maps.has D (key n) = true ∧ ∀ z, D.atKey (key n) z = swData p
theorem SwMap.lt {w : World} {b : Nat} {T : Tab} (h : SwMap w b T) : b < w.heap.size := by
  obtain ⟨D, h1, _⟩ := h; exact h1.lt
theorem SwMap.kept {w w' : World} {b : Nat} {T : Tab} (h : SwMap w b T) (he : w'.heap[b]? = w.heap[b]?) : SwMap w' b T := by
  obtain ⟨D, ⟨es, clock, hb, r⟩, h2⟩ := h
  exact ⟨D, ⟨es, clock, he.trans hb, r⟩, h2⟩
theorem SwMap.keepB {w w' : World} {b : Nat} {T : Tab} (h : SwMap w b T) (hb : Below w.heap.size w w') : SwMap w' b T := h.kept (hb.block b h.lt)
theorem SwMap.made (w : World) : SwMap (w.alloc (.map #[] 0)) w.heap.size [] :=
  ⟨.map [], World.ownsMap_made _ _ _ _, rfl, fun n _ => ⟨fun _ => rfl, fun p hp => by cases hp⟩⟩
theorem SwMap.notCells {w : World} {b : Nat} {T : Tab} (h : SwMap w b T) {cs : Array Value} {t : TypeId} {fr : Nat × Nat} : w.heap[b]? ≠ some (.cells cs t fr) := by
  obtain ⟨D, ⟨es, clock, hb, r⟩, h2⟩ := h
  rw [hb]; intro e; cases e
theorem SwMap.look {w : World} {b : Nat} {T : Tab} (h : SwMap w b T) {n : Nat} (hn : n < 18446744073709551616) :
    (Instr.lookup 90 (.map (some b)) (.int .u64 (n : Int)) true).run Try.prog w = .ok (.tuple #[swVal ((tget T n).getD (0, 0)), .bool (tget T n).isSome]) w ∧
    (Instr.lookup 90 (.map (some b)) (.int .u64 (n : Int)) false).run Try.prog w = .ok (swVal ((tget T n).getD (0, 0))) w := by
  obtain ⟨D, hown, hs, hf⟩ := h
  obtain ⟨v, ps, h1, h2⟩ := hown.look_ok law76 Try.underlying90 (zero97 w) swElem_zero (keyOf_u64 hn)
  obtain ⟨v', ps', h1', h2'⟩ := hown.lookup law76 Try.underlying90 (zero97 w) swElem_zero (keyOf_u64 hn)
  cases hfn : tget T n with
  | none =>
    have hh := (hf n hn).1 hfn
    rw [Maps.atKey_of_not_has hh] at h2 h2'
    rw [h1, h1', hh, swElem_nil h2, swElem_nil h2']
    exact ⟨rfl, rfl⟩
  | some p =>
    obtain ⟨hh, ha⟩ := (hf n hn).2 p hfn
    rw [ha] at h2 h2'
    rw [h1, h1', hh, swElem_inv h2, swElem_inv h2']
    exact ⟨rfl, rfl⟩
/-- A map value: one of a table, or the nil one with none. -/
def SwVal (w : World) (v : Value) (T : Tab) : Prop := (∃ b, v = .map (some b) ∧ SwMap w b T) ∨ (v = .map none ∧ T = [])
theorem SwVal.keepB {w w' : World} {v : Value} {T : Tab} (h : SwVal w v T) (hb : Below w.heap.size w w') : SwVal w' v T := by
  rcases h with ⟨b, rfl, h⟩ | h
  · exact .inl ⟨b, rfl, h.keepB hb⟩
  · exact .inr h
theorem SwVal.look {w : World} {v : Value} {T : Tab} (h : SwVal w v T) {n : Nat} (hn : n < 18446744073709551616) :
    (Instr.lookup 90 v (.int .u64 (n : Int)) true).run Try.prog w = .ok (.tuple #[swVal ((tget T n).getD (0, 0)), .bool (tget T n).isSome]) w ∧
    (Instr.lookup 90 v (.int .u64 (n : Int)) false).run Try.prog w = .ok (swVal ((tget T n).getD (0, 0))) w := by
  rcases h with ⟨b, rfl, h⟩ | ⟨rfl, rfl⟩
  · exact h.look hn
  · exact ⟨Maps.look_nil true law76 Try.underlying90 (zero97 w) (keyOf_u64 hn), Maps.look_nil false law76 Try.underlying90 (zero97 w) (keyOf_u64 hn)⟩
section
variable {ops : Array Oper} {rest : List Oper} {o : Oper} {a : Act} {w : World} {Q : Exit → Act → World → Prop}
/-- 's, is := m[n]'. -/
theorem wpList_sw_ok (hw : Region.wanted o (yielded ops a.tmps) = true) (m x : Operand) (hop : o.op = Op.lookup 90 m x true) {v : Value} {T : Tab} (h : SwVal w v T) (hm : a.eval m = v) (n : Nat) (hn : n < 18446744073709551616) (hx : a.eval x = .int .u64 (n : Int))
    (hK : wpList Try.prog ops Q rest (a.put o.dst (.tuple #[swVal ((tget T n).getD (0, 0)), .bool (tget T n).isSome])) w) : wpList Try.prog ops Q (o :: rest) a w := by
  refine wpList_run hw (.tuple #[swVal ((tget T n).getD (0, 0)), .bool (tget T n).isSome]) ?_ hK
  simp [execOp, hop, hm, hx, (h.look hn).1, Result.andThen]
/-- 'm[n]'. -/
theorem wpList_sw (hw : Region.wanted o (yielded ops a.tmps) = true) (m x : Operand) (hop : o.op = Op.lookup 90 m x false) {v : Value} {T : Tab} (h : SwVal w v T) (hm : a.eval m = v) (n : Nat) (hn : n < 18446744073709551616) (hx : a.eval x = .int .u64 (n : Int))
    (hK : wpList Try.prog ops Q rest (a.put o.dst (swVal ((tget T n).getD (0, 0)))) w) : wpList Try.prog ops Q (o :: rest) a w := by
  refine wpList_run hw (swVal ((tget T n).getD (0, 0))) ?_ hK
  simp [execOp, hop, hm, hx, (h.look hn).2, Result.andThen]
/-- 'len(m)'. -/
theorem wpList_sw_len (hw : Region.wanted o (yielded ops a.tmps) = true) (m : Operand) (hop : o.op = Op.call { callee := Callee.builtin Builtin.len, args := #[m], argTypes := #[90] }) {v : Value} {T : Tab} (h : SwVal w v T) (hm : a.eval m = v)
    (hK : wpList Try.prog ops Q rest (a.put o.dst (.int .i64 (T.length : Int))) w) : wpList Try.prog ops Q (o :: rest) a w := by
  have hl : ∀ ty, (Builtin.len_ #[90] ty #[v]).run Try.prog w = .ok (.int .i64 (T.length : Int)) w := fun ty => by
    rcases h with ⟨b, rfl, D, hown, hs, _⟩ | ⟨rfl, rfl⟩
    · rw [hown.len Try.underlying90 ty, hs]
    · exact Maps.len_nil Try.underlying90 ty
  refine wpList_step fun K hK' => ?_
  rw [if_pos hw]
  unfold Oper.wp
  simp [execOp, hop, resolve, invoke, builtin, hm, hl o.type, Result.andThen]
  exact hK' _ _ hK
/-- 'm[n] = swap{..}', n not there before. -/
theorem wpList_sw_put (hg : o.guard = none) (m x v : Operand) (hop : o.op = Op.mapUpdate 90 m x v) (b : Nat) {T : Tab} (h : SwMap w b T) (hm : a.eval m = .map (some b)) (hc : T.length < 1000000) (p : Nat × Nat) (i : Nat) (hn : p.2 < 18446744073709551616) (hx : a.eval x = .int .u64 (p.2 : Int))
    (hnone : tget T p.2 = none) (h0 : p.1 ≠ 0) (hv : a.eval v = swVal (p.1, i))
    (hK : ∀ w', SwMap w' b (tput T i p) → w.grownBy w' (some b) → wpList Try.prog ops Q rest (a.put o.dst undef) w') : wpList Try.prog ops Q (o :: rest) a w := by
  obtain ⟨D, hown, hs, hf⟩ := h
  refine wpList_mapUpdate_own w hg m x v 90 hop 32 97 law76 Try.underlying90 swElem b T.length D hm hown (by unfold maxLen; omega) _ _ (key p.2) hx hv (keyOf_u64 hn) (swData (p.1, i)) [] (swElem_val _ h0) ?_
  intro w' hown' hg'
  have hmap := hown.isMap
  have hk : WideAt.IsKeyLit (key p.2) := trivial
  have hlen : (tput T i p).length = T.length + 1 := by unfold tput; rw [hnone, if_neg (by simp)]; simp
  refine hK w' ⟨_, by rw [hlen]; exact hown', ?_, fun k hk' => ?_⟩ hg'
  · rw [Maps.size_put (hown.tidy law76), (hf p.2 hn).1 hnone, hs, hlen]; rfl
  · rw [tget_put_new T i p hnone]
    refine ⟨fun hkn => ?_, fun q hq => ?_⟩
    · by_cases e : k = p.2
      · rw [if_pos e] at hkn; cases hkn
      · rw [if_neg e] at hkn
        rw [Maps.has_put_other (key_ne e)]
        exact (hf k hk').1 hkn
    · by_cases e : k = p.2
      · subst e
        rw [if_pos rfl] at hq
        cases hq
        exact ⟨Maps.has_put_same hmap hk _, fun z => Maps.atKey_put_same hmap hk _ z⟩
      · rw [if_neg e] at hq
        obtain ⟨q1, q2⟩ := (hf k hk').2 q hq
        exact ⟨by rw [Maps.has_put_other (key_ne e)]; exact q1, fun z => by rw [Maps.atKey_put_other (key_ne e)]; exact q2 z⟩
end
end Go.Proofs.Ytepnaalgobhcdaa
