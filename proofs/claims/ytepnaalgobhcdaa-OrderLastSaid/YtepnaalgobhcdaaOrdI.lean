/- The images of the statement's own rows: what 'on' makes. -/
import Derived.Test.YtepnaalgobhcdaaOrdF
import Derived.Maps.AppendAt
namespace Go.Proofs.Ytepnaalgobhcdaa
open Go.RowKit Clv

/-- The cells of an image that has nothing but dependencies. -/
def onCells (ups deps : Value) : Array Value := #[.string { data := #[] }, .int .i64 0, .int .i64 0, .int .u32 0,
    .string { data := #[] }, .slice none 0 0, ups, .int .u64 0, .int .u64 0, .int .u64 0, .int .u64 0, .int .u64 0,
    .int .u64 0, .int .u64 0, .int .u64 0, .int .u64 0, .int .u64 0, .int .u64 0, .int .u64 0, .int .u64 0,
    .int .u64 0, .int .u64 0, .int .u64 0, .int .u64 0, .bool false, .int .u64 0, deps]
def onUp (n u j : Nat) : Int := if n ≤ j + u then 4 else 1
def onUps (n u : Nat) : List Int := (List.range n).map (onUp n u)
def upCells (n u k : Nat) : List Value := (List.range k).flatMap fun j => [.string { data := #[] }, .int .i64 (onUp n u j)]
theorem upCells_succ (n u k : Nat) : upCells n u (k + 1) = upCells n u k ++ [.string { data := #[] }, .int .i64 (onUp n u k)] := by
  unfold upCells; rw [List.range_succ, List.flatMap_append]; simp
theorem upCells_length (n u k : Nat) : (upCells n u k).length = k * 2 := by
  induction k with
  | zero => rfl
  | succ k ih => rw [upCells_succ, List.length_append, ih]; simp; omega
theorem upCells_get (n u k j : Nat) (h : j < k) : (upCells n u k)[j * 2 + 1]? = some (.int .i64 (onUp n u j)) := by
  induction k with
  | zero => omega
  | succ k ih =>
    rw [upCells_succ]
    have hl := upCells_length n u k
    by_cases e : j = k
    · subst e
      rw [List.getElem?_append_right (by omega), hl, show j * 2 + 1 - j * 2 = 1 by omega]
      rfl
    · rw [List.getElem?_append_left (by omega)]
      exact ih (by omega)
theorem ownsRow_ups {W : World} {base n u : Nat} {a : Option Addr} {c : Nat} (h : W.ownsRow base 136 2 (.slice a n c) n (upCells n u n)) : n ≤ c ∧ c ≤ maxLen ∧ SliceOf a n 2 fun j => DepAt W ((onUps n u).getD j 0) := by
  rcases h.2 with ⟨e, h0⟩ | ⟨g, cap, cur, e, _, hg, h1, h2, h3, h4⟩
  · cases e; exact ⟨Nat.le_refl _, Nat.zero_le _, fun j hj => by omega⟩
  · cases e
    refine ⟨h1, h2, fun j hj => ⟨g, 0, rfl, ?_⟩⟩
    have e := upCells_get n u n j hj
    rw [← h4, List.getElem?_take] at e
    have hj' : j * 2 + 1 < n * 2 := by omega
    simp only [hj', if_true, Array.getElem?_toList] at e
    unfold DepAt
    simp only [World.cell?, hg, Nat.zero_add]
    simp [e, onUps, hj]
theorem Try.info136 : (Try.prog.info? 136).map (fun i => (i.zero, i.size, i.bytes)) = some (some (.agg #[.string { data := #[] }, .int .i64 0]), 2, 24) := by kernel_rfl
theorem cell_two_new (w : World) (x y : Value) (t : TypeId) : ∀ j u, [x, y][j]? = some u → (w.alloc (.cells #[x, y] t)).cell? ((⟨w.heap.size, 0, none⟩ : Addr).add j) = some u := by
  intro j u h
  match j, h with
  | 0, h => simp at h; subst h; simp [Addr.add]
  | 1, h => simp at h; subst h; simp [Addr.add]

theorem on_cell6 {wr : World} {b : Nat} {v dv : Value} (h : wr.heap[b]? = some (.cells (onCells v dv) 38 (0, 0))) : wr.cell? ⟨b, 6, none⟩ = some v := by simp [World.cell?, h, onCells]
theorem on_free6 {wr : World} {b : Nat} {v dv : Value} (h : wr.heap[b]? = some (.cells (onCells v dv) 38 (0, 0))) : wr.frozen? ⟨b, 6, none⟩ = false := by simp [World.frozen?, h]
theorem on_at {wr : World} {b : Nat} {v dv : Value} (h : wr.heap[b]? = some (.cells (onCells v dv) 38 (0, 0))) : CellsAt wr b 0 (onCells v dv) := fun j x hx => by
  simp only [World.cell?, h, Nat.zero_add]; exact hx
structure OnSt (w : World) (dv : Value) (n u k : Nat) (wr : World) : Prop where
  res : wr.heap[w.heap.size]? = some (.cells (onCells (.slice none 0 0) (.slice none 0 0)) 38 (0, 0))
  x : ∃ v, wr.heap[w.heap.size + 1]? = some (.cells (onCells v dv) 38 (0, 0)) ∧ wr.ownsRow (w.heap.size + 2) 136 2 v k (upCells n u k)
  below : Below w.heap.size w wr

theorem OnSt.push {w wr w1 : World} {dv v v' : Value} {n u k : Nat} (h : OnSt w dv n u k wr) (hv : wr.heap[w.heap.size + 1]? = some (.cells (onCells v dv) 38 (0, 0))) (ho : wr.ownsRow (w.heap.size + 2) 136 2 v k (upCells n u k))
    {x : Obj} (hg : (wr.alloc x).grownBy w1 v.ownBlock) (ho' : w1.ownsRow (w.heap.size + 2) 136 2 v' (k + 1) (upCells n u (k + 1))) :
    OnSt w dv n u (k + 1) (w1.setCell ⟨w.heap.size + 1, 6, none⟩ v') := by
  obtain ⟨h1, _, h7⟩ := h
  refine ⟨?_, ⟨v', ?_, ?_⟩, ?_⟩
  · rw [heap_setCell_other _ _ _ _ (by simp)]; exact var_grown h1 (by omega) ho hg
  · rw [heap_setCell_same _ _ _ _ _ _ (var_grown hv (by omega) ho hg)]; rfl
  · exact ownsRow_setCell_below (a := ⟨w.heap.size + 1, 6, none⟩) ho' (by simp) v'
  · exact ((h7.alloc h7.size _).grown hg (by simp; have := h7.size; omega) (fun k e => by have := ho.lt k e; omega)).setCell (by simp) _

def OnRes (w : World) (n u : Nat) (D : List Int) (e : Ending) (w' : World) : Prop := ∃ cs, e = .returned (.agg cs) ∧ ImgCells w' ⟨0, D, onUps n u, []⟩ cs ∧ Below w.heap.size w w'

set_option maxHeartbeats 400000 in
set_option maxRecDepth 100000 in
theorem on_img (w : World) (u : Nat) (a : Option Addr) (c : Nat) (D : List Int) (hu : u ≤ D.length) (hD : D.length ≤ 10) (hc : D.length ≤ c) (hcm : c ≤ maxLen) (hs : SliceOf a D.length 1 fun j => IntAt w (D.getD j 0)) :
    Calls Try.prog 60 #[.int .i64 u, .slice a D.length c] w (OnRes w D.length u D) := by
  have HS := Lib.hid hs
  clear hs
  go_enter Try.func60, Try.ntmps60
  go_wp2_with (first
    | (refine wpList_store_whole rfl 38 (.tmp 5) (.tmp 9) rfl (w.heap.size + 1) (onCells (.slice none 0 0) (.slice a D.length c)) rfl rfl 38 (onCells (.slice none 0 0) (.slice none 0 0)) (hp_new (w.alloc _) _ _ (by simp)) size38 rfl (by kernel_rfl) ?_; intro w1 hw1 hg1 hz1))
  have hst : OnSt w (.slice a D.length c) D.length u 0 w1 := by
    refine ⟨?_, ⟨_, hw1, World.ownsRow_nil _ _ _ _⟩, ?_⟩
    · rw [hg1.block _ (by simp; omega) (by simp), hp_old _ _ _ (by simp), hp_new _ _ _ rfl]; rfl
    · exact (((Below.refl _ w).alloc (Nat.le_refl _) _).alloc (by simp) _).grown hg1 (by simp; omega) (fun k e => by cases e; omega)
  have HST := Lib.hid hst
  clear hst hw1 hg1 hz1
  go_loopw [6] (fun t wr => ∃ k : Nat, k ≤ D.length ∧ t = .int .i64 k ∧ Hid (OnSt w (.slice a D.length c) D.length u k wr)) (fun t _ => D.length - (intOf t).toNat)
  case atStart => exact ⟨0, Nat.zero_le _, rfl, HST.out⟩
  case round =>
    obtain ⟨k, hk, rfl, HR⟩ := hrel
    obtain ⟨v, hv1, hown⟩ := HR.out.x
    by_cases hlt : k < D.length
    · have cv := on_cell6 hv1
      obtain ⟨i0, hi0, hz0, hz1, hz2⟩ := info_parts Try.info136
      have hsz : w.heap.size + 2 ≤ wr.heap.size := by have := lt_of_block hv1; omega
      by_cases hge : D.length ≤ k + u
      · have HUP : Hid (onUp D.length u k = 4) := by show onUp D.length u k = 4; unfold onUp; rw [if_pos hge]
        go_wp2_with (first
          | (at_builtin; refine wpList_append_own _ rfl _ _ 31 rfl (w.heap.size + 2) 136 i0 _ 2 24 Try.underlying31 hi0 hz0 hz1 hz2 rfl (by decide) _ _ _ rfl (hown.alloc _) ⟨wr.heap.size, 0, none⟩ 1 1 [.string { data := #[] }, .int .i64 4] rfl rfl (cell_two_new _ _ _ _) (by simp [Value.oneCell']) (by unfold maxLen; omega) (by omega) (by simp; omega) ?_; intro v' w1 hown' hgrow _; obtain ⟨g', cap', rfl⟩ := ownsRow_succ hown'; have hq1 := var_grown hv1 (by omega) hown hgrow; have cq := on_cell6 hq1; have fq := on_free6 hq1))
        go_roundw
        case rel => exact ⟨k + 1, by omega, by go_num, HR.out.push hv1 hown hgrow (by rw [upCells_succ, HUP.out]; exact hown')⟩
        case measure => simp [intOf]; omega
      · have HUP : Hid (onUp D.length u k = 1) := by show onUp D.length u k = 1; unfold onUp; rw [if_neg hge]
        go_wp2_with (first
          | (at_builtin; refine wpList_append_own _ rfl _ _ 31 rfl (w.heap.size + 2) 136 i0 _ 2 24 Try.underlying31 hi0 hz0 hz1 hz2 rfl (by decide) _ _ _ rfl (hown.alloc _) ⟨wr.heap.size, 0, none⟩ 1 1 [.string { data := #[] }, .int .i64 1] rfl rfl (cell_two_new _ _ _ _) (by simp [Value.oneCell']) (by unfold maxLen; omega) (by omega) (by simp; omega) ?_; intro v' w1 hown' hgrow _; obtain ⟨g', cap', rfl⟩ := ownsRow_succ hown'; have hq1 := var_grown hv1 (by omega) hown hgrow; have cq := on_cell6 hq1; have fq := on_free6 hq1))
        go_roundw
        case rel => exact ⟨k + 1, by omega, by go_num, HR.out.push hv1 hown hgrow (by rw [upCells_succ, HUP.out]; exact hown')⟩
        case measure => simp [intOf]; omega
    · obtain rfl : k = D.length := by omega
      have hres := HR.out.res
      obtain ⟨va, vc, rfl⟩ := ownsRow_shape hown
      go_wp2_with (first
        | (refine wpList_load_agg 38 (.tmp 5) rfl rfl (w.heap.size + 1) 0 rfl (onCells (.slice va D.length vc) (.slice a D.length c)) _ (on_at hv1) Try.underlying38 rfl size38 ?_)
        | (refine wpList_store_whole rfl 38 (.tmp 4) (.tmp 31) rfl (w.heap.size) (onCells (.slice va D.length vc) (.slice a D.length c)) rfl rfl 38 (onCells (.slice none 0 0) (.slice none 0 0)) hres size38 rfl (by kernel_rfl) ?_; intro w1 hw1 hg1 hz1))
      refine bodyPost_ret (v := .agg (onCells (.slice va D.length vc) (.slice a D.length c))) (results_cell_row rfl _ _ (w.heap.size) 38 _ (0, 0) _ rfl hw1 Try.underlying38 rfl size38) rfl ?_
      have hb1 : Below w.heap.size w w1 := HR.out.below.grown hg1 HR.out.below.size (fun k e => by cases e; omega)
      obtain ⟨hn1, hn2, hn3⟩ := ownsRow_ups (hown.kept hg1 (.inr (fun e => by have := hown.lt _ e; omega)))
      have hlen : (onUps D.length u).length = D.length := by simp [onUps]
      refine ⟨_, rfl, ⟨rfl, by show (0 : Nat) < 18446744073709551616; decide, ⟨none, 0, rfl, Nat.le_refl _, Nat.zero_le _, fun j hj => absurd hj (Nat.not_lt_zero _)⟩, ⟨va, vc, by rw [hlen]; rfl, by rw [hlen]; exact hn1, hn2, by rw [hlen]; exact hn3⟩, rfl, ⟨a, c, rfl, hc, hcm, ?_⟩⟩, hb1⟩
      exact HS.out.mono fun j b o _ h => ⟨cell_keep h.1 hb1, h.2⟩
end Go.Proofs.Ytepnaalgobhcdaa
