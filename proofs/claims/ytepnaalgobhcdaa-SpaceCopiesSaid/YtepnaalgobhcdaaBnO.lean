/- Two memories with the same pieces are the same. Plain mathematics. The comparison of two pages: '==' of two arrays of 4096 bytes. The closure of *Space.Same: are two pages the same? maps.EqualFunc over two maps of pages; *Space.Same. *Space.Copy: what its rounds leave. *Space.Copy: one that goes on apart. -/
import Derived.Test.YtepnaalgobhcdaaBnL
import Derived.Test.YtepnaalgobhcdaaBnN
import Derived.DeepKeys
import Derived.Deep.RegionHeld3
import Derived.Deep.RegionWith
import Derived.Deep.Cut
namespace Go.Proofs.Ytepnaalgobhcdaa
open Spm

theorem sorted_ext : ∀ {M N : List Pg}, M.Pairwise (fun p q => p.num < q.num) → N.Pairwise (fun p q => p.num < q.num) → (∀ p, p ∈ M ↔ p ∈ N) → M = N
  | [], [], _, _, _ => rfl
  | [], q :: N, _, _, h => absurd ((h q).2 (by simp)) (by simp)
  | p :: M, [], _, _, h => absurd ((h p).1 (by simp)) (by simp)
  | p :: M, q :: N, h1, h2, h => by
    obtain ⟨a1, b1⟩ := List.pairwise_cons.1 h1
    obtain ⟨a2, b2⟩ := List.pairwise_cons.1 h2
    have hpq : p = q := by
      rcases List.mem_cons.1 ((h p).1 (by simp)) with e | hp
      · exact e
      · rcases List.mem_cons.1 ((h q).2 (by simp)) with e | hq
        · exact e.symm
        · have := a2 p hp; have := a1 q hq; omega
    subst hpq
    congr 1
    refine sorted_ext b1 b2 fun x => ⟨fun hx => ?_, fun hx => ?_⟩
    · rcases List.mem_cons.1 ((h x).1 (by simp [hx])) with e | hx'
      · subst e; have := a1 x hx; omega
      · exact hx'
    · rcases List.mem_cons.1 ((h x).2 (by simp [hx])) with e | hx'
      · subst e; have := a2 x hx; omega
      · exact hx'
theorem same_of_pg {M N : List Pg} (hM : Ok M) (hN : Ok N) (h1 : ∀ p ∈ M, pg N p.num = some p) (h2 : ∀ p ∈ N, pg M p.num = some p) : M = N :=
  sorted_ext hM.sorted hN.sorted fun p => ⟨fun hp => (pg_mem (h1 p hp)).1, fun hp => (pg_mem (h2 p hp)).1⟩
/-- Every page lies in a run. -/
def Cov (l : List Rn) (p : Pg) : Prop := ∃ r ∈ l, r.first ≤ p.num ∧ p.num < r.first + r.cnt
theorem addPg_cov (l : List Rn) (p : Pg) : Cov (addPg l p) p ∧ ∀ q, Cov l q → Cov (addPg l p) q := by
  rcases List.eq_nil_or_concat l with rfl | ⟨l', r, rfl⟩
  · exact ⟨⟨rn1 p, by simp [addPg_nil], Nat.le_refl _, Nat.lt_succ_self _⟩, fun q ⟨r, hr, _⟩ => absurd hr (by simp)⟩
  · rw [List.concat_eq_append, addPg_snoc]
    by_cases hj : joins r p = true
    · rw [if_pos hj]
      have hj2 := hj
      simp only [joins, Bool.and_eq_true, beq_iff_eq] at hj2
      refine ⟨⟨rnUp r p, by simp, ?_, ?_⟩, fun q ⟨s, hs, h1, h2⟩ => ?_⟩
      · show r.first ≤ p.num; omega
      · show p.num < r.first + (r.cnt + 1); omega
      · rcases List.mem_append.1 hs with hs | hs
        · exact ⟨s, by simp [hs], h1, h2⟩
        · obtain rfl := List.mem_singleton.1 hs
          exact ⟨rnUp s p, by simp, h1, by show q.num < s.first + (s.cnt + 1); omega⟩
    · rw [if_neg hj]
      exact ⟨⟨rn1 p, by simp, Nat.le_refl _, Nat.lt_succ_self _⟩, fun q ⟨s, hs, h1, h2⟩ => ⟨s, List.mem_append.2 (.inl hs), h1, h2⟩⟩
theorem foldl_cov : ∀ (M : List Pg) (l : List Rn), (∀ q, Cov l q → Cov (M.foldl addPg l) q) ∧ ∀ p ∈ M, Cov (M.foldl addPg l) p
  | [], l => ⟨fun _ h => h, fun p hp => absurd hp (by simp)⟩
  | p :: M, l => by
    obtain ⟨h1, h2⟩ := foldl_cov M (addPg l p)
    obtain ⟨h3, h4⟩ := addPg_cov l p
    refine ⟨fun q hq => h1 q (h4 q hq), fun q hq => ?_⟩
    rcases List.mem_cons.1 hq with rfl | hq
    · exact h1 _ h3
    · exact h2 q hq
theorem runs_cov (M : List Pg) {p : Pg} (hp : p ∈ M) : Cov (runsM M) p := (foldl_cov M []).2 p hp
theorem catB_chunk {M : List Pg} (hM : Ok M) (f : Nat) : ∀ k, (∀ j, j < k → ∃ p, pg M (f + j) = some p) → ∀ j, j < k → ((catB M f k).drop (j * 4096)).take 4096 = pgB M (f + j)
  | 0, _, j, hj => absurd hj (Nat.not_lt_zero _)
  | k + 1, h, j, hj => by
    have hl := catB_length hM k (fun j hj => h j (by omega))
    obtain ⟨p, hp⟩ := h j hj
    have hlp := pgB_length hM hp
    rw [catB]
    by_cases e : j = k
    · subst e
      rw [← hl, List.drop_left, List.take_of_length_le (by omega)]
    · rw [List.drop_append_of_le_length (by omega), List.take_append_of_le_length (by rw [List.length_drop]; omega)]
      exact catB_chunk hM f k (fun j hj => h j (by omega)) j (by omega)
theorem eqRns_get {l m : List Rn} (h : eqRns l m = true) {r : Rn} (hr : r ∈ l) : ∃ s ∈ m, r.first = s.first ∧ r.prot = s.prot ∧ r.bytes = s.bytes := by
  unfold eqRns eqTo at h
  simp only [Bool.and_eq_true, beq_iff_eq, List.all_eq_true, List.mem_range] at h
  obtain ⟨hl, ha⟩ := h
  obtain ⟨i, hi, rfl⟩ := List.mem_iff_getElem.1 hr
  have := ha i hi
  unfold eqRn at this
  simp only [Bool.and_eq_true, beq_iff_eq, List.getD_eq_getElem?_getD, List.getElem?_eq_getElem hi, List.getElem?_eq_getElem (show i < m.length by omega), Option.getD_some] at this
  exact ⟨m[i], List.getElem_mem _, this.1.1, this.1.2, this.2⟩
theorem eqRns_symm {l m : List Rn} (h : eqRns l m = true) : eqRns m l = true := by
  unfold eqRns eqTo eqRn at *
  simp only [Bool.and_eq_true, beq_iff_eq, List.all_eq_true, List.mem_range] at *
  obtain ⟨hl, ha⟩ := h
  exact ⟨hl.symm, fun i hi => by obtain ⟨⟨a, b⟩, c⟩ := ha i (by omega); exact ⟨⟨a.symm, b.symm⟩, c.symm⟩⟩
theorem runs_pages {M N : List Pg} (hM : Ok M) (hN : Ok N) (h : eqRns (runsM M) (runsM N) = true) : ∀ p ∈ M, pg N p.num = some p := fun p hp => by
  obtain ⟨r, hr, h1, h2⟩ := runs_cov M hp
  obtain ⟨s, hs, e1, e2, e3⟩ := eqRns_get h hr
  have hro := (runsM_ok hM).1 r hr
  have hso := (runsM_ok hN).1 s hs
  have hc : r.cnt = s.cnt := by
    have a := hro.length hM
    have b := hso.length hN
    rw [e3] at a
    omega
  obtain ⟨j, hj⟩ : ∃ j, p.num = r.first + j := ⟨p.num - r.first, by omega⟩
  have hjc : j < r.cnt := by omega
  obtain ⟨q, hq, hqp⟩ := hro.there j hjc
  rw [← hj, pg_of_mem hM hp] at hq
  cases hq
  obtain ⟨t, ht, htp⟩ := hso.there j (by omega)
  rw [← e1, ← hj] at ht
  have c1 := catB_chunk hM r.first r.cnt (fun j hj => by obtain ⟨p, hp, _⟩ := hro.there j hj; exact ⟨p, hp⟩) j hjc
  have c2 := catB_chunk hN s.first s.cnt (fun j hj => by obtain ⟨p, hp, _⟩ := hso.there j hj; exact ⟨p, hp⟩) j (by omega)
  rw [← hro.bytes, e3, hso.bytes, c2, ← e1, ← hj] at c1
  unfold pgB at c1
  rw [ht, pg_of_mem hM hp] at c1
  have hn := (pg_mem ht).2
  rw [ht]
  obtain ⟨a, b, c⟩ := t
  obtain ⟨a', b', c'⟩ := p
  simp_all
theorem eqRns_iff {M N : List Pg} (hM : Ok M) (hN : Ok N) : eqRns (runsM M) (runsM N) = true ↔ M = N :=
  ⟨fun h => same_of_pg hM hN (runs_pages hM hN h) (runs_pages hN hM (eqRns_symm h)), fun h => by rw [h]; exact eqRns_refl _⟩
end Go.Proofs.Ytepnaalgobhcdaa
namespace Go.Proofs.Ytepnaalgobhcdaa
open Go.RowKit Spm

def litB (x : UInt8) : Lit := .int .u8 (x.toNat : Int)
theorem litB_wf (x : UInt8) : (litB x).wf = true := by
  have h := x.toNat_lt
  unfold litB
  exact WalkArith.wf_u8 (by omega)
theorem cells140 : Try.prog.cellsOf 140 = 4096 := by kernel_rfl
theorem cells5 : Try.prog.cellsOf 5 = 1 := by kernel_rfl
theorem keyLits5 (d : Nat) (x : UInt8) : Try.prog.keyLits (d + 1) 5 [byteVal x] = some [litB x] := by
  unfold Program.keyLits
  rw [Try.underlying5]
  have h := litB_wf x
  unfold litB at *
  unfold byteVal
  simp [h]
theorem mapM_litB (L : List UInt8) (d : Nat) : ∀ k, k ≤ L.length → (List.range k).mapM (fun i => Try.prog.keyLits (d + 1) 5 (((L.map byteVal).drop (i * Try.prog.cellsOf 5)).take (Try.prog.cellsOf 5))) = some ((L.take k).map fun x => [litB x])
  | 0, _ => rfl
  | k + 1, h => by
    have hk : k < L.length := by omega
    rw [List.range_succ, List.mapM_append, mapM_litB L d k (by omega)]
    have e : ((L.map byteVal).drop (k * Try.prog.cellsOf 5)).take (Try.prog.cellsOf 5) = [byteVal L[k]] := by
      rw [cells5, Nat.mul_one, List.drop_eq_getElem_cons (by rw [List.length_map]; exact hk)]
      simp
    rw [List.take_add_one, List.getElem?_eq_getElem hk, List.map_append]
    simp only [List.mapM_cons, List.mapM_nil, e, keyLits5]
    rfl
theorem flat_litB : ∀ L : List UInt8, (L.map fun x => [litB x]).flatten = L.map litB
  | [] => rfl
  | x :: L => by simp [flat_litB L]
theorem keyLits140 {L : List UInt8} (h : L.length = 4096) : Try.prog.keyLits 5 140 (Value.agg (bytesArr L)).cells.toList = some (L.map litB) := by
  show Try.prog.keyLits 5 140 (bytesArr L).toList = _
  have e : (bytesArr L).toList = L.map byteVal := rfl
  rw [e]
  unfold Program.keyLits
  rw [under140, cells140]
  have e5 : Try.prog.elem 140 = 5 := by kernel_rfl
  have e6 : Try.prog.arrayLen 140 = 4096 := by kernel_rfl
  simp only [List.length_map, h, if_true, e5, e6]
  rw [mapM_litB L 3 4096 (by omega), List.take_of_length_le (by omega)]
  show some (List.flatten _) = _
  rw [flat_litB]
theorem litB_inj {L L' : List UInt8} : L.map litB = L'.map litB ↔ L = L' := by
  constructor
  · intro h
    exact List.map_inj_right (f := litB) (fun x y e => by
      unfold litB at e
      injection e with _ e
      exact UInt8.toNat_inj.1 (by omega)) |>.1 h
  · intro h; rw [h]
theorem formed140 {L : List UInt8} (h : L.length = 4096) : (Value.agg (bytesArr L)).formed Try.prog 140 = true := by
  unfold Value.formed
  rw [under140, cells140]
  have : (bytesArr L).size = 4096 := by unfold bytesArr; simp [h]
  simp [this]
theorem eq140 (L L' : List UInt8) (w : World) (h : L.length = 4096) (h' : L'.length = 4096) :
    ∃ r : Bool, (Op.equalIn 10000 140 (.agg (bytesArr L)) (.agg (bytesArr L'))).run Try.prog w = .ok r w ∧ (r = true ↔ L = L') := by
  obtain ⟨r, h1, h2⟩ := run_equalIn_deep (P := Try.prog) 9990 10 140 (by kernel_rfl) w 5 5 (.agg (bytesArr L)) (.agg (bytesArr L')) _ _ (formed140 h) (formed140 h') (keyLits140 h) (keyLits140 h')
  exact ⟨r, h1, by rw [h2]; exact litB_inj⟩
/-- It answers whether C is so. -/
def TellsB (w : World) (C : Prop) (e : Ending) (w' : World) : Prop := ∃ b : Bool, e = .returned (.bool b) ∧ (b = true ↔ C) ∧ Below w.heap.size w w'
end Go.Proofs.Ytepnaalgobhcdaa
namespace Go.Proofs.Ytepnaalgobhcdaa
open Go.RowKit Spm

theorem size140b {L : List UInt8} (h : L.length = 4096) : (Try.prog.info? 140).map (·.size) = some (bytesArr L).size := by
  obtain ⟨i, hi, hz⟩ := Option.map_eq_some_iff.1 info140
  simp only [Prod.mk.injEq] at hz
  have : (bytesArr L).size = 4096 := by unfold bytesArr; simp [h]
  rw [hi, this]
  simp [hz.2]
set_option maxHeartbeats 4000000 in
set_option maxRecDepth 100000 in
theorem cmp_any (w : World) (A1 A2 : Nat) (p1 p2 : Int) (L1 L2 : List UInt8) (h1 : w.heap[A1]? = some (.cells (bytesArr L1) 140 (0, 0))) (h2 : w.heap[A2]? = some (.cells (bytesArr L2) 140 (0, 0))) (l1 : L1.length = 4096) (l2 : L2.length = 4096) :
    Calls Try.prog 74 #[.agg #[.pointer (some ⟨A1, 0, none⟩), .int .i64 p1], .agg #[.pointer (some ⟨A2, 0, none⟩), .int .i64 p2]] w (TellsB w (p1 = p2 ∧ L1 = L2)) := by
  have hex := fun W : World => eq140 L1 L2 W l1 l2
  obtain ⟨r, hr1, hr2⟩ := hex w
  have HQ : Hid (∀ W : World, (Op.equalIn 10000 140 (.agg (bytesArr L1)) (.agg (bytesArr L2))).run Try.prog W = .ok r W) := fun W => by
    obtain ⟨r', a, b⟩ := hex W
    rw [a]
    have : r' = r := by rw [Bool.eq_iff_iff, b, hr2]
    rw [this]
  have HR := Lib.hid hr2
  have size1 := size140b l1
  have size2 := size140b l2
  have hc1 : CellsAt w A1 0 (bytesArr L1) := fun j v hv => by simp only [World.cell?, h1, Nat.zero_add]; exact hv
  have hc2 : CellsAt w A2 0 (bytesArr L2) := fun j v hv => by simp only [World.cell?, h2, Nat.zero_add]; exact hv
  obtain ⟨C1, hC1⟩ : ∃ C1, C1 = bytesArr L1 := ⟨_, rfl⟩
  obtain ⟨C2, hC2⟩ : ∃ C2, C2 = bytesArr L2 := ⟨_, rfl⟩
  rw [← hC1] at HQ size1 hc1
  rw [← hC2] at HQ size2 hc2
  have SZ1 := Lib.hid size1
  have SZ2 := Lib.hid size2
  have HC1 := Lib.hid hc1
  have HC2 := Lib.hid hc2
  clear hex hr1 hr2 h1 h2 l1 l2 hC1 hC2 size1 size2 hc1 hc2
  go_enter Try.func74, Try.ntmps74
  go_upto_region 1 with fail
  obtain ⟨W, hW⟩ : ∃ W, W = (w.alloc (.cells #[.pointer (some ⟨A1, 0, none⟩), .int .i64 p1] 142)).alloc (.cells #[.pointer (some ⟨A2, 0, none⟩), .int .i64 p2] 142) := ⟨_, rfl⟩
  rw [← hW]
  have hB : Below w.heap.size w W := by rw [hW]; exact ((Below.refl _ w).alloc (Nat.le_refl _) _).alloc (by simp) _
  have HB := Lib.hid hB
  have b1 : W.heap[w.heap.size]? = some (.cells #[.pointer (some ⟨A1, 0, none⟩), .int .i64 p1] 142 (0, 0)) := by rw [hW]; exact (hp_old _ _ _ (by simp)).trans (hp_new _ _ _ rfl)
  have b2 : W.heap[w.heap.size + 1]? = some (.cells #[.pointer (some ⟨A2, 0, none⟩), .int .i64 p2] 142 (0, 0)) := by rw [hW]; exact hp_new _ _ _ (by simp)
  have hS0 : (fun W' : World => W'.cell? ⟨w.heap.size, 0, none⟩ = some (.pointer (some ⟨A1, 0, none⟩)) ∧ W'.cell? ⟨w.heap.size, 1, none⟩ = some (.int .i64 p1) ∧ W'.cell? ⟨w.heap.size + 1, 0, none⟩ = some (.pointer (some ⟨A2, 0, none⟩)) ∧ W'.cell? ⟨w.heap.size + 1, 1, none⟩ = some (.int .i64 p2) ∧ CellsAt W' A1 0 C1 ∧ CellsAt W' A2 0 C2) W.drew :=
    ⟨by show W.cell? _ = _; simp [World.cell?, b1], by show W.cell? _ = _; simp [World.cell?, b1], by show W.cell? _ = _; simp [World.cell?, b2], by show W.cell? _ = _; simp [World.cell?, b2], HC1.out.keep (hB.trans (below_le (Below.refl _ W).drew hB.size)), HC2.out.keep (hB.trans (below_le (Below.refl _ W).drew hB.size))⟩
  clear hW hB b1 b2
  refine wp_region_held (S := fun W' : World => W'.cell? ⟨w.heap.size, 0, none⟩ = some (.pointer (some ⟨A1, 0, none⟩)) ∧ W'.cell? ⟨w.heap.size, 1, none⟩ = some (.int .i64 p1) ∧ W'.cell? ⟨w.heap.size + 1, 0, none⟩ = some (.pointer (some ⟨A2, 0, none⟩)) ∧ W'.cell? ⟨w.heap.size + 1, 1, none⟩ = some (.int .i64 p2) ∧ CellsAt W' A1 0 C1 ∧ CellsAt W' A2 0 C2) (by kernel_rfl) ?_
  change wpAnyH _ _ _ _ _ _ _ _ W.drew
  refine takeH (i := 0) (v := .pointer (some ⟨w.heap.size, 1, none⟩)) rfl rfl (by kernel_rfl) (by kernel_rfl) (by kernel_rfl) (fun _ _ _ h => h) (.inl ⟨by rfl, fun W' hS => ?y0⟩) hS0 ?_
  case y0 => obtain ⟨s1, s2, s3, s4, s5, s6⟩ := hS; go_simp
  simp only [List.setIfInBounds_toArray, List.set_cons_zero, List.set_cons_succ]
  refine takeH (i := 1) (v := .int .i64 p1) rfl rfl (by kernel_rfl) (by kernel_rfl) (by kernel_rfl) (fun _ _ _ h => h) (.inl ⟨by rfl, fun W' hS => ?y1⟩) hS0 ?_
  case y1 => obtain ⟨s1, s2, s3, s4, s5, s6⟩ := hS; go_simp
  simp only [List.setIfInBounds_toArray, List.set_cons_zero, List.set_cons_succ]
  refine takeH (i := 2) (v := .pointer (some ⟨(w.heap.size + 1), 1, none⟩)) rfl rfl (by kernel_rfl) (by kernel_rfl) (by kernel_rfl) (fun _ _ _ h => h) (.inl ⟨by rfl, fun W' hS => ?y2⟩) hS0 ?_
  case y2 => obtain ⟨s1, s2, s3, s4, s5, s6⟩ := hS; go_simp
  simp only [List.setIfInBounds_toArray, List.set_cons_zero, List.set_cons_succ]
  refine takeH (i := 3) (v := .int .i64 p2) rfl rfl (by kernel_rfl) (by kernel_rfl) (by kernel_rfl) (fun _ _ _ h => h) (.inl ⟨by rfl, fun W' hS => ?y3⟩) hS0 ?_
  case y3 => obtain ⟨s1, s2, s3, s4, s5, s6⟩ := hS; go_simp
  simp only [List.setIfInBounds_toArray, List.set_cons_zero, List.set_cons_succ]
  by_cases hp : p1 = p2
  · subst hp
    refine takeH (i := 4) (v := .bool true) rfl rfl (by kernel_rfl) (by kernel_rfl) (by kernel_rfl) (fun _ _ _ h => h) (.inl ⟨by rfl, fun W' hS => ?y4⟩) hS0 ?_
    case y4 => obtain ⟨s1, s2, s3, s4, s5, s6⟩ := hS; go_simp
    simp only [List.setIfInBounds_toArray, List.set_cons_zero, List.set_cons_succ]
    refine takeH (i := 5) (v := .bool true) rfl rfl (by kernel_rfl) (by kernel_rfl) (by kernel_rfl) (fun _ _ _ h => h) (.inl ⟨by rfl, fun W' hS => ?y5⟩) hS0 ?_
    case y5 => obtain ⟨s1, s2, s3, s4, s5, s6⟩ := hS; go_simp
    simp only [List.setIfInBounds_toArray, List.set_cons_zero, List.set_cons_succ]
    refine takeH (i := 6) (v := .pointer (some ⟨w.heap.size, 0, none⟩)) rfl rfl (by kernel_rfl) (by kernel_rfl) (by kernel_rfl) (fun _ _ _ h => h) (.inl ⟨by rfl, fun W' hS => ?y6⟩) hS0 ?_
    case y6 => obtain ⟨s1, s2, s3, s4, s5, s6⟩ := hS; go_simp
    simp only [List.setIfInBounds_toArray, List.set_cons_zero, List.set_cons_succ]
    refine takeH (i := 7) (v := .pointer (some ⟨A1, 0, none⟩)) rfl rfl (by kernel_rfl) (by kernel_rfl) (by kernel_rfl) (fun _ _ _ h => h) (.inl ⟨by rfl, fun W' hS => ?y7⟩) hS0 ?_
    case y7 => obtain ⟨s1, s2, s3, s4, s5, s6⟩ := hS; go_simp
    simp only [List.setIfInBounds_toArray, List.set_cons_zero, List.set_cons_succ]
    refine takeH (i := 8) (v := .pointer (some ⟨A1, 0, none⟩)) rfl rfl (by kernel_rfl) (by kernel_rfl) (by kernel_rfl) (fun _ _ _ h => h) (.inl ⟨by rfl, fun W' hS => ?y8⟩) hS0 ?_
    case y8 => obtain ⟨s1, s2, s3, s4, s5, s6⟩ := hS; go_simp
    simp only [List.setIfInBounds_toArray, List.set_cons_zero, List.set_cons_succ]
    refine takeH (i := 9) (v := .agg C1) rfl rfl (by kernel_rfl) (by kernel_rfl) (by kernel_rfl) (fun _ _ _ h => h) (.inl ⟨by rfl, fun W' hS => ?y9⟩) hS0 ?_
    case y9 => obtain ⟨s1, s2, s3, s4, s5, s6⟩ := hS; exact run_load_agg3 rfl A1 0 rfl _ _ s5 under140 rfl SZ1.out
    simp only [List.setIfInBounds_toArray, List.set_cons_zero, List.set_cons_succ]
    refine takeH (i := 10) (v := .pointer (some ⟨(w.heap.size + 1), 0, none⟩)) rfl rfl (by kernel_rfl) (by kernel_rfl) (by kernel_rfl) (fun _ _ _ h => h) (.inl ⟨by rfl, fun W' hS => ?y10⟩) hS0 ?_
    case y10 => obtain ⟨s1, s2, s3, s4, s5, s6⟩ := hS; go_simp
    simp only [List.setIfInBounds_toArray, List.set_cons_zero, List.set_cons_succ]
    refine takeH (i := 11) (v := .pointer (some ⟨A2, 0, none⟩)) rfl rfl (by kernel_rfl) (by kernel_rfl) (by kernel_rfl) (fun _ _ _ h => h) (.inl ⟨by rfl, fun W' hS => ?y11⟩) hS0 ?_
    case y11 => obtain ⟨s1, s2, s3, s4, s5, s6⟩ := hS; go_simp
    simp only [List.setIfInBounds_toArray, List.set_cons_zero, List.set_cons_succ]
    refine takeH (i := 12) (v := .pointer (some ⟨A2, 0, none⟩)) rfl rfl (by kernel_rfl) (by kernel_rfl) (by kernel_rfl) (fun _ _ _ h => h) (.inl ⟨by rfl, fun W' hS => ?y12⟩) hS0 ?_
    case y12 => obtain ⟨s1, s2, s3, s4, s5, s6⟩ := hS; go_simp
    simp only [List.setIfInBounds_toArray, List.set_cons_zero, List.set_cons_succ]
    refine takeH (i := 13) (v := .agg C2) rfl rfl (by kernel_rfl) (by kernel_rfl) (by kernel_rfl) (fun _ _ _ h => h) (.inl ⟨by rfl, fun W' hS => ?y13⟩) hS0 ?_
    case y13 => obtain ⟨s1, s2, s3, s4, s5, s6⟩ := hS; exact run_load_agg3 rfl A2 0 rfl _ _ s6 under140 rfl SZ2.out
    simp only [List.setIfInBounds_toArray, List.set_cons_zero, List.set_cons_succ]
    refine takeH (i := 14) (v := .bool r) rfl rfl (by kernel_rfl) (by kernel_rfl) (by kernel_rfl) (fun _ _ _ h => h) (.inl ⟨by rfl, fun W' hS => ?y14⟩) hS0 ?_
    case y14 => obtain ⟨s1, s2, s3, s4, s5, s6⟩ := hS; have hq := HQ.out W'; go_simp
    simp only [List.setIfInBounds_toArray, List.set_cons_zero, List.set_cons_succ]
    refine takeH (i := 15) (v := .bool r) rfl rfl (by kernel_rfl) (by kernel_rfl) (by kernel_rfl) (fun _ _ _ h => h) (.inl ⟨by rfl, fun W' hS => ?y15⟩) hS0 ?_
    case y15 => obtain ⟨s1, s2, s3, s4, s5, s6⟩ := hS; go_simp
    simp only [List.setIfInBounds_toArray, List.set_cons_zero, List.set_cons_succ]
    refine takeH (i := 16) (v := .bool r) rfl rfl (by kernel_rfl) (by kernel_rfl) (by kernel_rfl) (fun _ _ _ h => h) (.inl ⟨by rfl, fun W' hS => ?y16⟩) hS0 ?_
    case y16 => obtain ⟨s1, s2, s3, s4, s5, s6⟩ := hS; go_simp
    simp only [List.setIfInBounds_toArray, List.set_cons_zero, List.set_cons_succ]
    refine wpAnyH_done (by kernel_rfl) ?_ _
    go_wp2_with fail
    go_ret
    exact ⟨r, rfl, by rw [HR.out], HB.out.trans (below_le (Below.refl _ W).drew HB.out.size)⟩
  · have hp' : (p1 == p2) = false := by simpa using hp
    refine takeH (i := 4) (v := .bool false) rfl rfl (by kernel_rfl) (by kernel_rfl) (by kernel_rfl) (fun _ _ _ h => h) (.inl ⟨by rfl, fun W' hS => ?y4⟩) hS0 ?_
    case y4 => obtain ⟨s1, s2, s3, s4, s5, s6⟩ := hS; go_simp
    simp only [List.setIfInBounds_toArray, List.set_cons_zero, List.set_cons_succ]
    refine takeH (i := 5) (v := .bool false) rfl rfl (by kernel_rfl) (by kernel_rfl) (by kernel_rfl) (fun _ _ _ h => h) (.inl ⟨by rfl, fun W' hS => ?y5⟩) hS0 ?_
    case y5 => obtain ⟨s1, s2, s3, s4, s5, s6⟩ := hS; go_simp
    simp only [List.setIfInBounds_toArray, List.set_cons_zero, List.set_cons_succ]
    refine takeH (i := 6) (v := undef) rfl rfl (by kernel_rfl) (by kernel_rfl) (by kernel_rfl) (fun _ _ _ h => h) (.inr ⟨by rfl, rfl⟩) hS0 ?_
    simp only [List.setIfInBounds_toArray, List.set_cons_zero, List.set_cons_succ]
    refine takeH (i := 7) (v := undef) rfl rfl (by kernel_rfl) (by kernel_rfl) (by kernel_rfl) (fun _ _ _ h => h) (.inr ⟨by rfl, rfl⟩) hS0 ?_
    simp only [List.setIfInBounds_toArray, List.set_cons_zero, List.set_cons_succ]
    refine takeH (i := 8) (v := undef) rfl rfl (by kernel_rfl) (by kernel_rfl) (by kernel_rfl) (fun _ _ _ h => h) (.inr ⟨by rfl, rfl⟩) hS0 ?_
    simp only [List.setIfInBounds_toArray, List.set_cons_zero, List.set_cons_succ]
    refine takeH (i := 9) (v := undef) rfl rfl (by kernel_rfl) (by kernel_rfl) (by kernel_rfl) (fun _ _ _ h => h) (.inr ⟨by rfl, rfl⟩) hS0 ?_
    simp only [List.setIfInBounds_toArray, List.set_cons_zero, List.set_cons_succ]
    refine takeH (i := 10) (v := undef) rfl rfl (by kernel_rfl) (by kernel_rfl) (by kernel_rfl) (fun _ _ _ h => h) (.inr ⟨by rfl, rfl⟩) hS0 ?_
    simp only [List.setIfInBounds_toArray, List.set_cons_zero, List.set_cons_succ]
    refine takeH (i := 11) (v := undef) rfl rfl (by kernel_rfl) (by kernel_rfl) (by kernel_rfl) (fun _ _ _ h => h) (.inr ⟨by rfl, rfl⟩) hS0 ?_
    simp only [List.setIfInBounds_toArray, List.set_cons_zero, List.set_cons_succ]
    refine takeH (i := 12) (v := undef) rfl rfl (by kernel_rfl) (by kernel_rfl) (by kernel_rfl) (fun _ _ _ h => h) (.inr ⟨by rfl, rfl⟩) hS0 ?_
    simp only [List.setIfInBounds_toArray, List.set_cons_zero, List.set_cons_succ]
    refine takeH (i := 13) (v := undef) rfl rfl (by kernel_rfl) (by kernel_rfl) (by kernel_rfl) (fun _ _ _ h => h) (.inr ⟨by rfl, rfl⟩) hS0 ?_
    simp only [List.setIfInBounds_toArray, List.set_cons_zero, List.set_cons_succ]
    refine takeH (i := 14) (v := undef) rfl rfl (by kernel_rfl) (by kernel_rfl) (by kernel_rfl) (fun _ _ _ h => h) (.inr ⟨by rfl, rfl⟩) hS0 ?_
    simp only [List.setIfInBounds_toArray, List.set_cons_zero, List.set_cons_succ]
    refine takeH (i := 15) (v := .bool false) rfl rfl (by kernel_rfl) (by kernel_rfl) (by kernel_rfl) (fun _ _ _ h => h) (.inl ⟨by rfl, fun W' hS => ?y15⟩) hS0 ?_
    case y15 => obtain ⟨s1, s2, s3, s4, s5, s6⟩ := hS; go_simp
    simp only [List.setIfInBounds_toArray, List.set_cons_zero, List.set_cons_succ]
    refine takeH (i := 16) (v := .bool false) rfl rfl (by kernel_rfl) (by kernel_rfl) (by kernel_rfl) (fun _ _ _ h => h) (.inl ⟨by rfl, fun W' hS => ?y16⟩) hS0 ?_
    case y16 => obtain ⟨s1, s2, s3, s4, s5, s6⟩ := hS; go_simp
    simp only [List.setIfInBounds_toArray, List.set_cons_zero, List.set_cons_succ]
    refine wpAnyH_done (by kernel_rfl) ?_ _
    go_wp2_with fail
    go_ret
    exact ⟨false, rfl, by simp, HB.out.trans (below_le (Below.refl _ W).drew HB.out.size)⟩
end Go.Proofs.Ytepnaalgobhcdaa
namespace Go.Proofs.Ytepnaalgobhcdaa
open Go.RowKit Spm

theorem sub_of_sorted : ∀ {M N : List Pg}, M.Pairwise (fun p q => p.num < q.num) → N.Pairwise (fun p q => p.num < q.num) → (∀ p, p ∈ M → p ∈ N) → M.Sublist N
  | [], N, _, _, _ => List.nil_sublist N
  | p :: M, [], _, _, h => absurd (h p (by simp)) (by simp)
  | p :: M, q :: N, h1, h2, h => by
    obtain ⟨a1, b1⟩ := List.pairwise_cons.1 h1
    obtain ⟨a2, b2⟩ := List.pairwise_cons.1 h2
    rcases List.mem_cons.1 (h p (by simp)) with e | hp
    · subst e
      refine (sub_of_sorted b1 b2 fun x hx => ?_).cons_cons p
      rcases List.mem_cons.1 (h x (by simp [hx])) with e | hx'
      · subst e; have := a1 x hx; omega
      · exact hx'
    · refine (sub_of_sorted h1 b2 fun x hx => ?_).cons q
      rcases List.mem_cons.1 (h x hx) with e | hx'
      · subst e
        have h3 := a2 p hp
        rcases List.mem_cons.1 hx with e | hx2
        · subst e; omega
        · have := a1 x hx2; omega
      · exact hx'
theorem same_of_sub {M N : List Pg} (hM : Ok M) (hN : Ok N) (hl : M.length = N.length) (h : ∀ p, p ∈ M → p ∈ N) : M = N := (sub_of_sorted hM.sorted hN.sorted h).eq_of_length hl
theorem pg_two {M N : List Pg} {p q : Pg} (hp : pg M p.num = some p) (hq : pg N p.num = some q) (h1 : p.prot = q.prot) (h2 : p.bytes = q.bytes) : p = q := by
  have := (pg_mem hq).2
  obtain ⟨a, b, c⟩ := p
  obtain ⟨a', b', c'⟩ := q
  simp_all

theorem TellsB.yes {w w' : World} {C : Prop} (h : C) (hb : Below w.heap.size w w') : TellsB w C (.returned (.bool true)) w' := ⟨true, rfl, ⟨fun _ => h, fun _ => rfl⟩, hb⟩
theorem TellsB.no {w w' : World} {C : Prop} (h : ¬ C) (hb : Below w.heap.size w w') : TellsB w C (.returned (.bool false)) w' := ⟨false, rfl, ⟨fun e => Bool.noConfusion e, fun e => absurd e h⟩, hb⟩

/-- What is still to come of the first map; all that has come is in the second. -/
structure EqSt (w0 : World) (D : DataW Unit) (M N : List Pg) (mb r c : Nat) (cnt : Nat) (wr : World) : Prop where
  below : Below w0.heap.size w0 wr
  it : ∃ left, wr.ranges Try.prog 32 pgElem mb r c D left cnt ∧ (∀ z, left z = true → Maps.has D z = true) ∧ ∀ n : Nat, Maps.has D (key n) = true → left (key n) = false → ∃ p, pg M n = some p ∧ pg N n = some p

set_option maxHeartbeats 8000000 in
set_option maxRecDepth 100000 in
theorem equal_any (w : World) (m1 m2 : Nat) (M N : List Pg) (A1 A2 : Nat → Nat) (F1 F2 : Nat → Prop) (hM : Ok M) (hN : Ok N) (h1 : Pages w m1 A1 M F1) (h2 : Pages w m2 A2 N F2) :
    Calls Try.prog 73 #[.map (some m1), .map (some m2), .func (.func 74) #[] #[]] w (TellsB w (M = N)) := by
  obtain ⟨⟨D, hown, hsz, hf⟩, _, hpg1, _⟩ := h1
  have HM1 : Hid (PgMap w m1 (pgFn M A1) M.length) := ⟨D, hown, hsz, hf⟩
  have HM2 := Lib.hid h2.map
  have HP1 := Lib.hid hpg1
  have HP2 := Lib.hid h2.page
  have HOWN := Lib.hid hown
  have HF := Lib.hid hf
  have HOK := Lib.hid hM
  have HOK2 := Lib.hid hN
  have HCMP : Hid (∀ W p q, Below w.heap.size w W → p ∈ M → q ∈ N → Calls Try.prog 74 #[.agg #[.pointer (some ⟨A1 p.num, 0, none⟩), .int .i64 p.prot], .agg #[.pointer (some ⟨A2 q.num, 0, none⟩), .int .i64 q.prot]] W (TellsB W (p.prot = q.prot ∧ p.bytes = q.bytes))) := fun W p q hW hp hq => by
    have e1 := (hpg1 p hp).2
    have e2 := (h2.page q hq).2
    exact cmp_any W (A1 p.num) (A2 q.num) p.prot q.prot p.bytes q.bytes ((hW.block _ (lt_of_block e1)).trans e1) ((hW.block _ (lt_of_block e2)).trans e2) (hM.pages p hp).2.2.2 (hN.pages q hq).2.2.2
  clear hown hsz hf hM hN h2 hpg1
  by_cases hlen : M.length = N.length
  · have hl1 : ((M.length : Int) == (N.length : Int)) = true := by simp [hlen]
    have HLEN := Lib.hid hlen
    obtain ⟨c1, hc1⟩ : ∃ c1, c1 = M.length := ⟨_, rfl⟩
    rw [← hlen, ← hc1] at HM2
    rw [← hc1] at HM1 HOWN
    clear hlen hl1 hc1
    go_enter Try.func73, Try.ntmps73
    go_wp2_with (first
      | (refine wpList_pages_len rfl (.tmp 11) rfl m1 HM1.out rfl ?_)
      | (refine wpList_pages_len rfl (.tmp 13) rfl m2 HM2.out rfl ?_)
      | (at_range; refine wpList_range_own _ rfl _ 76 rfl 32 142 law76 Try.underlying76 pgElem m1 c1 D rfl HOWN.out ?_; intro w0 hrg0 hg0 hs0))
    go_frame
    have hst : EqSt w D M N m1 w.heap.size c1 (Maps.size D) w0 :=
      ⟨⟨hg0.os, hg0.tape, hg0.output, hg0.size, fun k hk => hg0.block k hk (by simp)⟩, Maps.has D, hrg0, fun _ h => h, fun n h1 h2 => by rw [h1] at h2; cases h2⟩
    have HST := Lib.hid hst
    clear hst hrg0 hg0 hs0
    go_loopw [7] (fun _ wr => ∃ cnt, Hid (EqSt w D M N m1 w.heap.size c1 cnt wr)) (fun _ wr => wr.rangeLeft m1 w.heap.size)
    case atStart => exact ⟨_, HST.out⟩
    case round =>
      obtain ⟨cnt, HR⟩ := hrel
      obtain ⟨left, hrg, hl1, hl2⟩ := HR.out.it
      have HRG := Lib.hid hrg
      have HL1 := Lib.hid hl1
      have HL2 := Lib.hid hl2
      clear hrg hl1 hl2
      go_wp2_with (at_next; refine wpList_next_ranges _ rfl _ rfl 32 law76 pgElem (fun n : Int => .int .u64 n) optVal (fun kv kl hk => by obtain ⟨x, rfl, _⟩ := Maps.keyOf_int_inv Try.underlying32 hk; exact ⟨x, rfl⟩) (fun v y hv => pgElem_opt hv) m1 w.heap.size c1 D left cnt rfl HRG.out ?_ ?_)
      · intro hc0 hl0
        have e : M = N := same_of_sub HOK.out HOK2.out HLEN.out fun p hp => by
          have hh := (has_page HF.out HOK.out p.num (by have := (HOK.out.pages p hp).1; omega)).2 ⟨p, hp, rfl⟩
          obtain ⟨q, q1, q2⟩ := HL2.out p.num hh (hl0 _)
          rw [pg_of_mem HOK.out hp] at q1
          cases q1
          exact (pg_mem q2).1
        have E := Lib.hid e
        clear e hl0
        go_wp2_with fail
        go_ret
        exact TellsB.yes E.out HR.out.below
      · intro x c kl yd yp w1 cnt1 hkey hlk hv hat hrg1 hlt hg1 hs1 hen
        obtain ⟨nx, hnx, e1, rfl⟩ := key_cases hkey
        obtain rfl : x = (nx : Int) := by simpa using e1
        have hh := HL1.out _ hlk
        obtain ⟨p, hp, hpn⟩ := (has_page HF.out HOK.out nx hnx).1 hh
        have hpp : pg M nx = some p := by rw [← hpn]; exact pg_of_mem HOK.out hp
        have hfn : pgFn M A1 nx = some (A1 nx, p.prot) := by unfold pgFn; rw [hpp]; rfl
        have hya : yd = pgData (A1 nx, p.prot) := by
          rw [← hat .nil]
          exact ((HF.out nx hnx).2 _ hfn).2 .nil
        subst hya
        have hcv : optVal c = pgVal (A1 nx, p.prot) := pgElem_inv hv
        rw [hcv] at hen ⊢
        have HRG1 := Lib.hid hrg1
        have HPP := Lib.hid hpp
        have HPM := Lib.hid hp
        have B1 : Hid (Below w.heap.size w w1) := HR.out.below.grown hg1 HR.out.below.size (fun k e => by cases e; exact Nat.le_refl _)
        have HMB : Hid (∀ W, Below w.heap.size w W → PgMap W m2 (pgFn N A2) c1) := fun W hW => HM2.out.kept (hW.block m2 HM2.out.lt)
        clear e1 hkey hlk hv hat hrg1 hg1 hs1 hh hcv hfn hpp hp
        subst hpn
        unfold pgVal at hen ⊢
        cases hq : pg N p.num with
        | none =>
          have HFN : Hid (pgFn N A2 p.num = none) := by show pgFn N A2 p.num = none; unfold pgFn; rw [hq]; rfl
          have HNE : Hid (M ≠ N) := fun e => by
            have := HPP.out
            rw [e, hq] at this; cases this
          clear hq
          go_wp2_with (refine wpList_page_ok rfl (.tmp 24) (.tmp 25) rfl m2 (HMB.out _ (B1.out.alloc B1.out.size _)) rfl p.num hnx rfl ?_; rw [HFN.out]; unfold pgZero)
          go_ret
          exact TellsB.no HNE.out ((B1.out.alloc B1.out.size _).alloc (by have := B1.out.size; simp; omega) _)
        | some q =>
          have HFN : Hid (pgFn N A2 p.num = some (A2 p.num, q.prot)) := by show pgFn N A2 p.num = _; unfold pgFn; rw [hq]; rfl
          have HQQ := Lib.hid hq
          have hqn := (pg_mem hq).2
          have HC : Hid (∀ W, Below w.heap.size w W → Calls Try.prog 74 #[.agg #[.pointer (some ⟨A1 p.num, 0, none⟩), .int .i64 p.prot], .agg #[.pointer (some ⟨A2 p.num, 0, none⟩), .int .i64 q.prot]] W (TellsB W (p.prot = q.prot ∧ p.bytes = q.bytes))) := fun W hW => by
            have := HCMP.out W p q hW HPM.out (pg_mem hq).1
            rwa [hqn] at this
          clear hq hqn
          go_wp2_with (first
            | (refine wpList_page_ok rfl (.tmp 24) (.tmp 25) rfl m2 (HMB.out _ (B1.out.alloc B1.out.size _)) rfl p.num hnx rfl ?_; rw [HFN.out]; simp only [Option.map_some, Option.getD_some, Option.isSome_some]; unfold pgVal)
            | (go_at_call 74; refine (HC.out _ ((B1.out.alloc B1.out.size _).alloc (by have := B1.out.size; simp; omega) _)).mono ?_; rintro e w2 ⟨b, rfl, hb1, hb2⟩; have HB1 := Lib.hid hb1; have HB0 := Lib.hid ((((Below.refl _ w1).alloc (Nat.le_refl _) _).alloc (by simp) _).trans (below_le hb2 (by simp; omega))); have HB2 := Lib.hid (B1.out.trans (below_le HB0.out B1.out.size)); clear hb1 hb2; cases b))
          · have HNE : Hid (M ≠ N) := fun e => by
              have h1 := HPP.out
              rw [e, HQQ.out] at h1
              cases h1
              exact Bool.noConfusion (HB1.out.2 ⟨rfl, rfl⟩)
            go_ret
            exact TellsB.no HNE.out HB2.out
          · have HRG2 : Hid (w2.ranges Try.prog 32 pgElem m1 w.heap.size c1 D (fun z => left z && !z.sameKey (key p.num)) cnt1) := HRG1.out.kept (row := none) ⟨HB0.out.os, HB0.out.tape, HB0.out.output, HB0.out.size, fun k hk _ => HB0.out.block k hk⟩ (by simp) (by simp)
            have hrel2 : EqSt w D M N m1 w.heap.size c1 cnt1 w2 :=
              ⟨HB2.out, _, HRG2.out, fun z hz => HL1.out z (by simp at hz; exact hz.1), fun k h1 h2 => by
                by_cases e : k = p.num
                · subst e
                  have hb := HB1.out.1 (by simp)
                  have hpq := pg_two HPP.out HQQ.out hb.1 hb.2
                  exact ⟨p, HPP.out, by rw [hpq]; rw [hpq] at HQQ; exact HQQ.out⟩
                · refine HL2.out k h1 ?_
                  have : (key k).sameKey (key p.num) = false := Maps.sameKey_ne (key_ne e)
                  simpa [this] using h2⟩
            have HREL := Lib.hid hrel2
            clear hrel2
            refine ⟨⟨cnt1, HREL.out⟩, ?_⟩
            rw [HRG2.out.left_eq, HRG.out.left_eq]; exact hlt
  · have hl1 : ((M.length : Int) == (N.length : Int)) = false := by simp; omega
    go_enter Try.func73, Try.ntmps73
    have HNE : Hid (M ≠ N) := fun e => hlen (by rw [e])
    go_wp2_with (first
      | (refine wpList_pages_len rfl (.tmp 11) rfl m1 HM1.out rfl ?_)
      | (refine wpList_pages_len rfl (.tmp 13) rfl m2 HM2.out rfl ?_))
    go_ret
    exact TellsB.no HNE.out (Below.refl _ _)
set_option maxHeartbeats 4000000 in
set_option maxRecDepth 100000 in
theorem same_any (w : World) (b1 b2 : Nat) (M N : List Pg) (F1 F2 : Nat → Prop) (h1 : SpIn w b1 M F1) (h2 : SpIn w b2 N F2) :
    Calls Try.prog 31 #[.pointer (some ⟨b1, 0, none⟩), .pointer (some ⟨b2, 0, none⟩)] w (TellsB w (M = N)) := by
  obtain ⟨hM, ⟨m1, A1, hb1, hp1⟩, _, _⟩ := h1
  obtain ⟨hN, ⟨m2, A2, hb2, hp2⟩, _, _⟩ := h2
  have c1 := cell_of_one hb1
  have c2 := cell_of_one hb2
  have HE : Hid (∀ W : World, W.heap = w.heap → Calls Try.prog 73 #[.map (some m1), .map (some m2), .func (.func 74) #[] #[]] W (TellsB W (M = N))) := fun W hW =>
    equal_any W m1 m2 M N A1 A2 F1 F2 hM hN ⟨hp1.map.kept (by rw [hW]), hp1.fmap, fun p hp => by rw [hW]; exact hp1.page p hp, hp1.apart⟩ ⟨hp2.map.kept (by rw [hW]), hp2.fmap, fun p hp => by rw [hW]; exact hp2.page p hp, hp2.apart⟩
  clear hM hN hp1 hp2 hb1 hb2
  go_enter Try.func31, Try.ntmps31
  go_wp2_with fail
  go_region_with (go_at_call 73; refine (HE.out _ (by rfl)).mono ?_; rintro e w9 ⟨b9, rfl, hi9, hb9⟩; have B9 := Lib.hid hb9; have I9 := Lib.hid hi9; clear hb9 hi9)
  all_goals
    go_wp2_with fail
    go_ret
    exact ⟨_, rfl, I9.out, Below.trans (by first | exact (Below.refl _ w).drew | exact (Below.refl _ w).drew.drew) B9.out⟩
end Go.Proofs.Ytepnaalgobhcdaa
namespace Go.Proofs.Ytepnaalgobhcdaa
open Go.RowKit Spm

/-- New since w0, but for the block r. -/
def Gr (w0 : World) (r : Nat) (wr : World) (k : Nat) : Prop := w0.heap.size ≤ k ∧ k < wr.heap.size ∧ k ≠ r
theorem filter_one : ∀ {M : List Pg} {q : Nat → Bool} {p : Pg}, M.Pairwise (fun p q => p.num < q.num) → p ∈ M → q p.num = false → (M.filter fun x => q x.num || x.num == p.num).length = (M.filter fun x => q x.num).length + 1
  | [], q, p, _, h, _ => absurd h (by simp)
  | x :: M, q, p, hs, h, hq => by
    obtain ⟨a, b⟩ := List.pairwise_cons.1 hs
    by_cases e : x.num = p.num
    · have hxq : q x.num = false := by rw [e]; exact hq
      have htl : (M.filter fun x => q x.num || x.num == p.num) = M.filter fun x => q x.num := List.filter_congr fun y hy => by
        have := a y hy
        have : (y.num == p.num) = false := by rw [beq_eq_false_iff_ne]; omega
        rw [this, Bool.or_false]
      rw [List.filter_cons_of_pos (by simp [e]), List.filter_cons_of_neg (by simp [hxq]), htl]
      rfl
    · have hpM : p ∈ M := by
        rcases List.mem_cons.1 h with h | h
        · exact absurd (by rw [h]) e
        · exact h
      have ih := filter_one b hpM hq
      have e' : (x.num == p.num) = false := by rw [beq_eq_false_iff_ne]; exact e
      by_cases hx : q x.num = true
      · rw [List.filter_cons_of_pos (by simp [hx]), List.filter_cons_of_pos (by simpa using hx)]
        simp only [List.length_cons, ih]
      · simp only [Bool.not_eq_true] at hx
        rw [List.filter_cons_of_neg (by simp [hx, e']), List.filter_cons_of_neg (by simp [hx])]
        exact ih
theorem copy_push {w0 w1 wa w2 : World} {M : List Pg} {q : Nat → Bool} {mo r P : Nat} {Ao : Nat → Nat} {p : Pg} (hp : Pages w1 mo Ao (M.filter fun p => q p.num) (Gr w0 r w1)) (hM : Ok M) (hpm : p ∈ M) (hq : q p.num = false)
    (hwa : Below w1.heap.size w1 wa) (hP : w1.heap.size ≤ P) (hPa : wa.heap[P]? = some (.cells (bytesArr p.bytes) 140 (0, 0))) (h01 : w0.heap.size ≤ w1.heap.size) (hr : r < w1.heap.size)
    (hm : PgMap w2 mo (fun k => if k = p.num then some (P, p.prot) else pgFn (M.filter fun p => q p.num) Ao k) ((M.filter fun p => q p.num).length + 1)) (hg : wa.grownBy w2 (some mo)) :
    Pages w2 mo (fun k => if k = p.num then P else Ao k) (M.filter fun x => q x.num || x.num == p.num) (Gr w0 r w2) := by
  have hz1 := hwa.size
  have hz2 := hg.size
  have hPl := lt_of_block hPa
  have hmo := hp.fmap
  have hgr : ∀ k, Gr w0 r w1 k → Gr w0 r w2 k := fun k hk => ⟨hk.1, by have := hk.2.1; omega, hk.2.2⟩
  refine ⟨?_, hgr _ hmo, fun x hx => ?_, fun x hx y hy hxy => ?_⟩
  · rw [filter_one hM.sorted hpm hq]
    have e : pgFn (M.filter fun x => q x.num || x.num == p.num) (fun k => if k = p.num then P else Ao k) = fun k => if k = p.num then some (P, p.prot) else pgFn (M.filter fun p => q p.num) Ao k := by
      funext k
      unfold pgFn
      rw [pg_filter (q := fun n => q n || n == p.num), pg_filter]
      by_cases e : k = p.num
      · subst e
        simp [pg_of_mem hM hpm]
      · have : (k == p.num) = false := by rw [beq_eq_false_iff_ne]; exact e
        simp [e, this]
    rw [e]; exact hm
  · obtain ⟨hxM, hxq⟩ := List.mem_filter.1 hx
    by_cases e : x.num = p.num
    · have hxp : x = p := by
        have h1 := pg_of_mem hM hxM
        rw [e, pg_of_mem hM hpm] at h1
        exact (Option.some.inj h1).symm
      subst hxp
      rw [if_pos rfl]
      have hne : P ≠ mo := by have := hmo.2.1; omega
      exact ⟨⟨by omega, by omega, by omega⟩, (hg.block P hPl (by simpa using hne)).trans hPa⟩
    · rw [if_neg e]
      have hxq' : q x.num = true := by
        have : (x.num == p.num) = false := by rw [beq_eq_false_iff_ne]; exact e
        simpa [this] using hxq
      obtain ⟨a, b⟩ := hp.page x (List.mem_filter.2 ⟨hxM, hxq'⟩)
      have hba := (hwa.block _ (lt_of_block b)).trans b
      have hne : Ao x.num ≠ mo := fun e' => hp.map.notCells (e' ▸ b)
      exact ⟨hgr _ a, (hg.block _ (lt_of_block hba) (by simpa using hne)).trans hba⟩
  · obtain ⟨hxM, hxq⟩ := List.mem_filter.1 hx
    obtain ⟨hyM, hyq⟩ := List.mem_filter.1 hy
    have old : ∀ z, z ∈ M → (q z.num || z.num == p.num) = true → z.num ≠ p.num → z ∈ M.filter fun p => q p.num := fun z hz hzq hne => by
      have : (z.num == p.num) = false := by rw [beq_eq_false_iff_ne]; exact hne
      exact List.mem_filter.2 ⟨hz, by simpa [this] using hzq⟩
    by_cases e1 : x.num = p.num
    · by_cases e2 : y.num = p.num
      · omega
      · rw [if_pos e1, if_neg e2] at hxy
        have := lt_of_block (hp.page y (old y hyM hyq e2)).2
        omega
    · by_cases e2 : y.num = p.num
      · rw [if_neg e1, if_pos e2] at hxy
        have := lt_of_block (hp.page x (old x hxM hxq e1)).2
        omega
      · rw [if_neg e1, if_neg e2] at hxy
        exact hp.apart x (old x hxM hxq e1) y (old y hyM hyq e2) hxy
theorem Pages.keepR {w w' : World} {mb r : Nat} {A : Nat → Nat} {M : List Pg} {w0 : World} (h : Pages w mb A M (Gr w0 r w)) (hb : ∀ k, k < w.heap.size → k ≠ r → w'.heap[k]? = w.heap[k]?) (hs : w.heap.size ≤ w'.heap.size) : Pages w' mb A M (Gr w0 r w') :=
  ⟨h.map.kept (hb mb h.map.lt h.fmap.2.2), ⟨h.fmap.1, by have := h.fmap.2.1; omega, h.fmap.2.2⟩, fun p hp => by
    obtain ⟨a, b⟩ := h.page p hp
    exact ⟨⟨a.1, by have := a.2.1; omega, a.2.2⟩, (hb _ a.2.1 a.2.2).trans b⟩, h.apart⟩
/-- What Copy has laid so far. -/
structure CpSt (w0 : World) (M : List Pg) (D : DataW Unit) (m1 r o cnt : Nat) (wr : World) : Prop where
  below : Below w0.heap.size w0 wr
  ho : w0.heap.size ≤ o ∧ o ≠ r
  it : ∃ left, wr.ranges Try.prog 32 pgElem m1 r M.length D left cnt ∧ (∀ z, left z = true → Maps.has D z = true) ∧
    ∃ mo Ao, wr.heap[o]? = some (.cells #[.map (some mo)] 78 (0, 0)) ∧ Pages wr mo Ao (M.filter fun p => !left (key p.num)) (Gr w0 r wr)
theorem left_step (left : Lit → Bool) (n m : Nat) : (!(left (key n) && !(key n).sameKey (key m))) = (!left (key n) || n == m) := by
  by_cases e : n = m
  · subst e
    have : (key n).sameKey (key n) = true := WideAt.sameKey_self (a := key n) (show WideAt.IsKeyLit (.int .u64 n) from trivial)
    simp [this]
  · have h1 : (key n).sameKey (key m) = false := Maps.sameKey_ne (key_ne e)
    have h2 : (n == m) = false := by rw [beq_eq_false_iff_ne]; exact e
    rw [h1, h2]; simp
end Go.Proofs.Ytepnaalgobhcdaa
namespace Go.Proofs.Ytepnaalgobhcdaa
open Go.RowKit Spm

theorem wpOp_of_list {P : Program} {ops : Array Oper} {Q : Exit → Act → World → Prop} {K : Act → World → Prop} {o : Oper} {a : Act} {w : World} {i : Nat} (hi : ops[i]? = some o) (hw : Region.wanted o (yielded ops a.tmps) = true) (h : wpList P ops (Exit.then K Q) [o] a w) : wpOp P ops Q i K a w := by
  unfold wpOp
  simp only [hi, hw, if_true]
  unfold wpList at h
  simp only [hw, if_true] at h
  exact h
theorem bytesArr_size (L : List UInt8) : (bytesArr L).size = L.length := by unfold bytesArr; simp
theorem one140 (L : List UInt8) : (bytesArr L).all (·.oneCell') = true := by
  show (L.map byteVal).toArray.all _ = true
  rw [List.all_toArray, List.all_map]
  exact List.all_eq_true.2 fun x _ => rfl
theorem size140c (L : List UInt8) (h : L.length = 4096) : (bytesArr noughts).size = (bytesArr L).size := by
  rw [bytesArr_size, bytesArr_size, h]
  unfold noughts
  rw [List.length_replicate]
def CopyRes (w : World) (M : List Pg) (e : Ending) (w' : World) : Prop := ∃ o : Nat, e = .returned (.pointer (some ⟨o, 0, none⟩)) ∧ SpIn w' o M (fun k => w.heap.size ≤ k ∧ k < w'.heap.size) ∧ Below w.heap.size w w'
set_option maxHeartbeats 8000000 in
set_option maxRecDepth 100000 in
theorem copy_any (w : World) (b : Nat) (M : List Pg) (F : Nat → Prop) (h : SpIn w b M F) : Calls Try.prog 29 #[.pointer (some ⟨b, 0, none⟩)] w (CopyRes w M) := by
  have hOk := h.ok
  obtain ⟨_, ⟨m1, A, hb, hp⟩, _, _⟩ := h
  obtain ⟨⟨D, hown, hsz, hf⟩, _, hpg, _⟩ := hp
  have HN : Hid (Calls Try.prog 24 #[] w fun e w' => e = .returned (.pointer (some ⟨w.heap.size + 1, 0, none⟩)) ∧ SpIn w' (w.heap.size + 1) [] (fun k => w.heap.size ≤ k ∧ k < w.heap.size + 2) ∧ Below w.heap.size w w' ∧ w'.heap.size = w.heap.size + 2) := new_any w
  have HOWN := Lib.hid hown
  have HF := Lib.hid hf
  have HOK := Lib.hid hOk
  have HPG := Lib.hid hpg
  have HB := Lib.hid hb
  have hfew := hOk.few
  clear hown hsz hf hOk hpg hb
  go_enter Try.func29, Try.ntmps29
  go_upto_region 4 with (go_at_call 24; refine HN.out.mono ?_; rintro e w1 ⟨rfl, h1, h2, h3⟩; have HSP := Lib.hid h1; have HB1 := Lib.hid h2; have HSZ := Lib.hid h3; clear h1 h2 h3)
  have cb : w1.cell? ⟨b, 0, none⟩ = some (.map (some m1)) := (cell_of_heap (HB1.out.block b (lt_of_block HB.out))).trans (cell_of_one HB.out)
  have HOWN1 : Hid (w1.ownsMap Try.prog 32 pgElem m1 M.length D) := HOWN.out.kept (row := none) ⟨HB1.out.os, HB1.out.tape, HB1.out.output, HB1.out.size, fun k hk _ => HB1.out.block k hk⟩ (by simp)
  go_wp2_with (at_range; refine wpList_range_own _ rfl _ 76 rfl 32 142 law76 Try.underlying76 pgElem m1 M.length D rfl HOWN1.out ?_; intro w0 hrg0 hg0 hs0)
  go_frame
  obtain ⟨o, ho⟩ : ∃ o, o = w.heap.size + 1 := ⟨_, rfl⟩
  obtain ⟨r, hr⟩ : ∃ r, r = w1.heap.size := ⟨_, rfl⟩
  have hor : w.heap.size ≤ o ∧ o ≠ r := by have := HSZ.out; omega
  have hwr : w.heap.size ≤ r := by have := HSZ.out; omega
  have hst : CpSt w M D m1 r o (Maps.size D) w0 := by
    rw [← hr] at hrg0
    obtain ⟨_, ⟨mo, Ao, q1, q2⟩, _, _⟩ := HSP.out
    rw [← ho] at q1
    have hkeep : ∀ k, k < w1.heap.size → w0.heap[k]? = w1.heap[k]? := fun k hk => hg0.block k hk (by simp)
    have hb0 : Below w1.heap.size w1 w0 := ⟨hg0.os, hg0.tape, hg0.output, hg0.size, hkeep⟩
    refine ⟨HB1.out.trans (below_le hb0 HB1.out.size), hor, Maps.has D, hrg0, fun _ h => h, mo, Ao, (hkeep o (lt_of_block q1)).trans q1, ?_⟩
    have he : (M.filter fun p => !Maps.has D (key p.num)) = [] := List.filter_eq_nil_iff.2 fun p hp => by
      have := (has_page HF.out HOK.out p.num (by have := (HOK.out.pages p hp).1; omega)).2 ⟨p, hp, rfl⟩
      simp [this]
    rw [he]
    have hmo := q2.fmap
    have hz := HSZ.out
    exact ⟨q2.map.kept (hkeep mo q2.map.lt), ⟨hmo.1, by have := hb0.size; omega, by omega⟩, fun p hp => absurd hp (by simp), fun p hp => absurd hp (by simp)⟩
  have HST := Lib.hid hst
  have hro : w.heap.size + 1 = o := ho.symm
  rw [← hr, ← ho]
  clear hst hrg0 hg0 hs0 HN HSP HOWN1 cb ho hro hr
  go_loopw [4] (fun _ wr => ∃ cnt, Hid (CpSt w M D m1 r o cnt wr)) (fun _ wr => wr.rangeLeft m1 r)
  case atStart => exact ⟨_, HST.out⟩
  case round =>
    obtain ⟨cnt, HR⟩ := hrel
    obtain ⟨left, hrg, hl1, mo, Ao, hob, hpp⟩ := HR.out.it
    have HRG := Lib.hid hrg
    have HL1 := Lib.hid hl1
    have HOB := Lib.hid hob
    have HPP := Lib.hid hpp
    clear hrg hl1 hob hpp
    go_wp2_with (at_next; refine wpList_next_ranges _ rfl _ rfl 32 law76 pgElem (fun n : Int => .int .u64 n) optVal (fun kv kl hk => by obtain ⟨x, rfl, _⟩ := Maps.keyOf_int_inv Try.underlying32 hk; exact ⟨x, rfl⟩) (fun v y hv => pgElem_opt hv) m1 r M.length D left cnt rfl HRG.out ?_ ?_)
    · intro hc0 hl0
      have HRES : Hid (CopyRes w M (.returned (.pointer (some ⟨o, 0, none⟩))) wr) := by
        have he : (M.filter fun p => !left (key p.num)) = M := List.filter_eq_self.2 fun p _ => by rw [hl0]; rfl
        have hq := HPP.out
        rw [he] at hq
        exact ⟨o, rfl, ⟨HOK.out, ⟨mo, Ao, HOB.out, hq.map, ⟨hq.fmap.1, hq.fmap.2.1⟩, fun p hp => ⟨⟨(hq.page p hp).1.1, (hq.page p hp).1.2.1⟩, (hq.page p hp).2⟩, hq.apart⟩, ⟨HR.out.ho.1, lt_of_block HOB.out⟩, fun k hk => hk.2⟩, HR.out.below⟩
      clear hl0
      go_wp2_with fail
      go_ret
      exact HRES.out
    · intro x c kl yd yp w1 cnt1 hkey hlk hv hat hrg1 hlt hg1 hs1 hen
      obtain ⟨nx, hnx, e1, rfl⟩ := key_cases hkey
      obtain rfl : x = (nx : Int) := by simpa using e1
      have hh := HL1.out _ hlk
      obtain ⟨p, hp, hpn⟩ := (has_page HF.out HOK.out nx hnx).1 hh
      have hpp : pg M nx = some p := by rw [← hpn]; exact pg_of_mem HOK.out hp
      have hfn : pgFn M A nx = some (A nx, p.prot) := by unfold pgFn; rw [hpp]; rfl
      have hya : yd = pgData (A nx, p.prot) := by
        rw [← hat .nil]
        exact ((HF.out nx hnx).2 _ hfn).2 .nil
      subst hya
      have hcv : optVal c = pgVal (A nx, p.prot) := pgElem_inv hv
      rw [hcv] at hen ⊢
      have HRG1 := Lib.hid hrg1
      have HPM := Lib.hid hp
      have B1 : Hid (Below w.heap.size w w1) := HR.out.below.grown hg1 HR.out.below.size (fun k e => by cases e; exact hwr)
      have HPW : Hid (Pages w1 mo Ao (M.filter fun p => !left (key p.num)) (Gr w r w1)) := HPP.out.keepR (fun k hk hkr => hg1.block k hk (by simpa using hkr)) hg1.size
      have HOW : Hid (w1.heap[o]? = some (.cells #[.map (some mo)] 78 (0, 0))) := (hg1.block o (lt_of_block HOB.out) (by simpa using hor.2)).trans HOB.out
      have HPA : Hid (w1.heap[A nx]? = some (.cells (bytesArr p.bytes) 140 (0, 0))) := by
        have hq := (HPG.out p hp).2
        rw [hpn] at hq
        exact (B1.out.block _ (lt_of_block hq)).trans hq
      have HLEFT : Hid (left (key nx) = true) := hlk
      have HPL : Hid (p.bytes.length = 4096) := (HOK.out.pages p hp).2.2.2
      have HRL : Hid (r < w1.heap.size) := HRG1.out.lt
      clear e1 hkey hlk hv hat hrg1 hg1 hs1 hh hcv hfn hpp hp
      subst hpn
      unfold pgVal at hen ⊢
      have HC140 : Hid (∀ W, Below w1.heap.size w1 W → CellsAt W (A p.num) 0 (bytesArr p.bytes)) := fun W hW j v hv => by
        have := (hW.block _ (lt_of_block HPA.out)).trans HPA.out
        simp only [World.cell?, this, Nat.zero_add]; exact hv
      obtain ⟨C1, hC1⟩ : ∃ C1, C1 = bytesArr p.bytes := ⟨_, rfl⟩
      have HS1 : Hid ((Try.prog.info? 140).map (·.size) = some C1.size) := by rw [hC1]; exact size140b HPL.out
      have HS2 : Hid ((bytesArr noughts).size = C1.size) := by rw [hC1]; exact size140c _ HPL.out
      have HS3 : Hid (C1.all (·.oneCell') = true) := by rw [hC1]; exact one140 _
      rw [← hC1] at HC140
      have HC1 := Lib.hid hC1
      clear hC1
      have hb142 : Below w1.heap.size w1 (w1.alloc (.cells #[.pointer (some ⟨A p.num, 0, none⟩), .int .i64 p.prot] 142)) := (Below.refl _ w1).alloc (Nat.le_refl _) _
      have HB142 := Lib.hid hb142
      clear hb142
      go_upto_region 7 with fail
      obtain ⟨wa, hwa⟩ : ∃ wa, wa = w1.alloc (.cells #[.pointer (some ⟨A p.num, 0, none⟩), .int .i64 p.prot] 142) := ⟨_, rfl⟩
      rw [← hwa]
      rw [← hwa] at HB142
      have hwz : wa.heap.size = w1.heap.size + 1 := by rw [hwa]; simp
      have hbx : wa.heap[w1.heap.size]? = some (.cells #[.pointer (some ⟨A p.num, 0, none⟩), .int .i64 p.prot] 142 (0, 0)) := by rw [hwa]; exact hp_new _ _ _ rfl
      have HBX := Lib.hid hbx
      have HWZ := Lib.hid hwz
      have cbx0 : wa.cell? ⟨w1.heap.size, 0, none⟩ = some (.pointer (some ⟨A p.num, 0, none⟩)) := by simp [World.cell?, hbx]
      have HNEWP : Hid ((wa.alloc (.cells (bytesArr noughts) 140)).heap[wa.heap.size]? = some (.cells (bytesArr noughts) 140 (0, 0))) := hp_new _ _ _ rfl
      clear hwa hwz hbx
      go_upto_region 8 with (first
        | (refine wpList_load_agg 140 (.tmp 22) rfl rfl (A p.num) 0 rfl _ _ (HC140.out _ HB142.out) under140 rfl HS1.out ?_)
        | (refine wpList_newpage rfl rfl ?_)
        | (refine wpList_store_whole rfl 140 (.tmp 6) (.tmp 23) rfl wa.heap.size C1 rfl rfl 140 (bytesArr noughts) HNEWP.out HS1.out HS2.out HS3.out ?_; intro w3 hw3 hg3 hs3; have HW3 := Lib.hid hw3; have HG3 := Lib.hid hg3; clear hw3 hg3 hs3))
      have hz3 := HG3.out.size
      simp only [World.size_alloc] at hz3
      have hk3 : ∀ k, k < wa.heap.size → w3.heap[k]? = wa.heap[k]? := fun k hk => (HG3.out.block k (by simp; omega) (by simp; omega)).trans ((Below.refl _ wa).alloc (Nat.le_refl _) _ |>.block k hk)
      have hb3 : Below wa.heap.size wa w3 := ⟨HG3.out.os, HG3.out.tape, HG3.out.output, by omega, hk3⟩
      have hb13 : Below w1.heap.size w1 w3 := HB142.out.trans (below_le hb3 HB142.out.size)
      have hb1d : Below w1.heap.size w1 w3.drew := hb13.trans (below_le (Below.refl _ w3).drew hb13.size)
      have c1 : w3.drew.cell? ⟨o, 0, none⟩ = some (.map (some mo)) := cell_of_one ((hb1d.block o (lt_of_block HOW.out)).trans HOW.out)
      have hbx3 : w3.drew.heap[w1.heap.size]? = some (.cells #[.pointer (some ⟨A p.num, 0, none⟩), .int .i64 p.prot] 142 (0, 0)) := (hk3 _ (by have := HWZ.out; omega)).trans HBX.out
      have c2 : w3.drew.cell? ⟨w1.heap.size, 1, none⟩ = some (.int .i64 p.prot) := by simp [World.cell?, hbx3]
      have hpm3 : PgMap w3.drew mo (pgFn (M.filter fun p => !left (key p.num)) Ao) (M.filter fun p => !left (key p.num)).length := HPW.out.map.kept (hb1d.block mo HPW.out.map.lt)
      have HPM3 := Lib.hid hpm3
      have hfl : (M.filter fun p => !left (key p.num)).length < 1000000 := by have := List.length_filter_le (fun p : Pg => !left (key p.num)) M; omega
      have HFL := Lib.hid hfl
      have hnone : pgFn (M.filter fun p => !left (key p.num)) Ao p.num = none := by
        unfold pgFn
        rw [pg_filter (q := fun n => !left (key n)), HLEFT.out]; rfl
      have HNONE := Lib.hid hnone
      have HPUT : Hid (∀ w4, PgMap w4 mo (fun k => if k = p.num then some (wa.heap.size, p.prot) else pgFn (M.filter fun p => !left (key p.num)) Ao k) ((M.filter fun p => !left (key p.num)).length + 1) → w3.drew.grownBy w4 (some mo) →
          (w4.cell? ⟨o, 0, none⟩ = some (.map (some mo)) ∧ w4.cell? ⟨w1.heap.size, 1, none⟩ = some (.int .i64 p.prot)) ∧ CpSt w M D m1 r o cnt1 w4 ∧ w4.rangeLeft m1 r = cnt1) := fun w4 g1 g2 => by
        have hom : o ≠ mo := fun e => HPW.out.map.notCells (e ▸ HOW.out)
        have hxm : w1.heap.size ≠ mo := by have := HPW.out.fmap.2.1; omega
        have ho4 : w4.heap[o]? = some (.cells #[.map (some mo)] 78 (0, 0)) := (g2.block o (lt_of_block ((hb1d.block o (lt_of_block HOW.out)).trans HOW.out)) (by simpa using hom)).trans ((hb1d.block o (lt_of_block HOW.out)).trans HOW.out)
        have hx4 := (g2.block w1.heap.size (lt_of_block hbx3) (by simpa using hxm)).trans hbx3
        have hpp := copy_push (q := fun n => !left (key n)) HPW.out HOK.out HPM.out (by rw [HLEFT.out]; rfl) hb1d (by have := HWZ.out; omega) (show w3.drew.heap[wa.heap.size]? = some (.cells (bytesArr p.bytes) 140 (0, 0)) by rw [← HC1.out]; exact HW3.out) B1.out.size HRL.out g1 g2
        have hmm : m1 ≠ mo := by
          have h1 := HPW.out.fmap.1
          have h2 := HOWN.out.lt
          omega
        have hrm : r ≠ mo := fun e => HPW.out.fmap.2.2 e.symm
        have hrg := (HRG1.out.kept (row := none) ⟨hb1d.os, hb1d.tape, hb1d.output, hb1d.size, fun k hk _ => hb1d.block k hk⟩ (by simp) (by simp)).kept g2 (by simpa using hmm) (by simpa using hrm)
        refine ⟨⟨cell_of_one ho4, by simp [World.cell?, hx4]⟩, ⟨(B1.out.trans (below_le hb1d B1.out.size)).grown g2 (by have := B1.out.size; have := hb1d.size; omega) (fun k e => by cases e; exact HPW.out.fmap.1), HR.out.ho, (fun z => left z && !z.sameKey (key p.num)), hrg, fun z hz => HL1.out z (by simp at hz; exact hz.1), mo, (fun k => if k = p.num then wa.heap.size else Ao k), ho4, ?_⟩, hrg.left_eq⟩
        have he : (M.filter fun x => !(left (key x.num) && !(key x.num).sameKey (key p.num))) = M.filter fun x => !left (key x.num) || x.num == p.num := List.filter_congr fun x _ => left_step left x.num p.num
        rw [he]
        exact hpp
      have hS0 : (fun W' : World => W'.cell? ⟨o, 0, none⟩ = some (.map (some mo)) ∧ W'.cell? ⟨w1.heap.size, 1, none⟩ = some (.int .i64 p.prot)) w3.drew := ⟨c1, c2⟩
      clear hz3 hk3 hb3 hb13 hb1d c1 c2 hbx3 hpm3 hfl hnone
      simp only [Act.put]
      refine wp_region_held (S := fun W' : World => W'.cell? ⟨o, 0, none⟩ = some (.map (some mo)) ∧ W'.cell? ⟨w1.heap.size, 1, none⟩ = some (.int .i64 p.prot)) (by kernel_rfl) ?_
      change wpAnyH _ _ _ _ _ _ _ _ w3.drew
      refine takeH (i := 0) (v := .pointer (some ⟨o, 0, none⟩)) rfl rfl (by kernel_rfl) (by kernel_rfl) (by kernel_rfl) (fun _ _ _ h => h) (.inl ⟨by rfl, fun W' hS => ?y0⟩) hS0 ?_
      case y0 => obtain ⟨s1, s2⟩ := hS; go_simp
      simp only [List.setIfInBounds_toArray, List.set_cons_zero, List.set_cons_succ]
      refine takeH (i := 1) (v := .pointer (some ⟨o, 0, none⟩)) rfl rfl (by kernel_rfl) (by kernel_rfl) (by kernel_rfl) (fun _ _ _ h => h) (.inl ⟨by rfl, fun W' hS => ?y1⟩) hS0 ?_
      case y1 => obtain ⟨s1, s2⟩ := hS; go_simp
      simp only [List.setIfInBounds_toArray, List.set_cons_zero, List.set_cons_succ]
      refine takeH (i := 2) (v := .pointer (some ⟨o, 0, none⟩)) rfl rfl (by kernel_rfl) (by kernel_rfl) (by kernel_rfl) (fun _ _ _ h => h) (.inl ⟨by rfl, fun W' hS => ?y2⟩) hS0 ?_
      case y2 => obtain ⟨s1, s2⟩ := hS; go_simp
      simp only [List.setIfInBounds_toArray, List.set_cons_zero, List.set_cons_succ]
      refine takeH (i := 3) (v := .map (some mo)) rfl rfl (by kernel_rfl) (by kernel_rfl) (by kernel_rfl) (fun _ _ _ h => h) (.inl ⟨by rfl, fun W' hS => ?y3⟩) hS0 ?_
      case y3 => obtain ⟨s1, s2⟩ := hS; go_simp
      simp only [List.setIfInBounds_toArray, List.set_cons_zero, List.set_cons_succ]
      refine takeH (i := 4) (v := .int .u64 (p.num : Int)) rfl rfl (by kernel_rfl) (by kernel_rfl) (by kernel_rfl) (fun _ _ _ h => h) (.inl ⟨by rfl, fun W' hS => ?y4⟩) hS0 ?_
      case y4 => obtain ⟨s1, s2⟩ := hS; go_simp
      simp only [List.setIfInBounds_toArray, List.set_cons_zero, List.set_cons_succ]
      refine takeH (i := 5) (v := .pointer (some ⟨w1.heap.size, 1, none⟩)) rfl rfl (by kernel_rfl) (by kernel_rfl) (by kernel_rfl) (fun _ _ _ h => h) (.inl ⟨by rfl, fun W' hS => ?y5⟩) hS0 ?_
      case y5 => obtain ⟨s1, s2⟩ := hS; go_simp
      simp only [List.setIfInBounds_toArray, List.set_cons_zero, List.set_cons_succ]
      refine takeH (i := 6) (v := .int .i64 p.prot) rfl rfl (by kernel_rfl) (by kernel_rfl) (by kernel_rfl) (fun _ _ _ h => h) (.inl ⟨by rfl, fun W' hS => ?y6⟩) hS0 ?_
      case y6 => obtain ⟨s1, s2⟩ := hS; go_simp
      simp only [List.setIfInBounds_toArray, List.set_cons_zero, List.set_cons_succ]
      refine takeH (i := 7) (v := .agg #[.pointer (some ⟨wa.heap.size, 0, none⟩), .int .i64 p.prot]) rfl rfl (by kernel_rfl) (by kernel_rfl) (by kernel_rfl) (fun _ _ _ h => h) (.inl ⟨by rfl, fun W' hS => ?y7⟩) hS0 ?_
      case y7 => obtain ⟨s1, s2⟩ := hS; go_simp
      simp only [List.setIfInBounds_toArray, List.set_cons_zero, List.set_cons_succ]
      refine wpAnyH_one (i := 8) (by kernel_rfl) ?_
      refine wpOp_of_list (i := 8) rfl (by rfl) ?_
      refine wpList_page_put rfl (.tmp 27) (.tmp 28) (.tmp 31) rfl mo HPM3.out rfl HFL.out p.num hnx rfl HNONE.out (wa.heap.size, p.prot) rfl ?_
      intro w4 g1 g2
      obtain ⟨k1, k2, k3⟩ := HPUT.out w4 g1 g2
      have HK2 := Lib.hid k2
      have HK3 := Lib.hid k3
      refine ⟨k1, ?_⟩
      refine wpAnyH_done (by kernel_rfl) ?_ _
      clear k1 k2 k3 g1 g2
      go_wp2_with fail
      refine ⟨⟨cnt1, HK2.out⟩, ?_⟩
      rw [HK3.out, HRG.out.left_eq]; exact hlt
end Go.Proofs.Ytepnaalgobhcdaa
