/- order.Run gives the order that 'runOut' gives. -/
import Derived.Test.YtepnaalgobhcdaaOrdC
namespace Go.Proofs.Ytepnaalgobhcdaa
open Go.RowKit Clv

/-- The call hands back a slice of its own that holds these numbers, and has turned nothing that was there. -/
def NumsRes (w : World) (os : List Nat) (e : Ending) (w' : World) : Prop := ∃ v, e = .returned v ∧ w'.ownsRow w.heap.size 3 1 v os.length (nums os) ∧ Below w.heap.size w w'

theorem run_make_rowN {P : Program} (t e : TypeId) (i : TypeInfo) (z : Value) (ht : P.underlying t = some (.slice e)) (hi : P.info? e = some i) (hz : i.zero = some z)
    (kl kc : IntKind) (n c : Nat) (hnc : n ≤ c) (hbytes : i.bytes * c ≤ 281474976710656) (h63 : c ≤ 9223372036854775807) (w : World) :
    (Instr.makeSlice t (.int kl (n : Int)) (.int kc (c : Int))).run P w = .ok (.slice (some ⟨w.heap.size, 0, none⟩) n c) (w.alloc (.cells (madeCells z.cells (c * i.size)) e)) := by
  have hb : (i.bytes : Int) * (c : Int) ≤ 281474976710656 := by
    have h : ((i.bytes * c : Nat) : Int) ≤ 281474976710656 := by omega
    rwa [Int.natCast_mul] at h
  have hr := run_make (P := P) w t e i z ht hi hz kl kc n c (by omega) (by omega) hb (by omega)
  simp only [Int.toNat_natCast] at hr
  exact hr
theorem Try.info4 : (Try.prog.info? 4).map (fun i => (i.zero, i.size, i.bytes)) = some (some (.bool false), 1, 1) := by kernel_rfl
theorem made_one (v : Value) (n : Nat) : madeCells #[v] n = Array.replicate n v := by
  apply Array.ext
  · simp [madeCells]
  · intro i h1 h2
    simp [madeCells, Nat.mod_one]
theorem made_bools (n : Nat) : madeCells (Value.cells (.bool false)) (n * 1) = bools (List.replicate n false) := by
  rw [Nat.mul_one]
  show madeCells #[Value.bool false] n = _
  rw [made_one]
  simp [bools]
theorem make_bools (n : Nat) (hn : n ≤ 1000000) (w : World) : (Instr.makeSlice 40 (.int .i64 (n : Int)) (.int .i64 (n : Int))).run Try.prog w = .ok (.slice (some ⟨w.heap.size, 0, none⟩) n n) (w.alloc (.cells (bools (List.replicate n false)) 4)) := by
  obtain ⟨i, hi, hz, hs, hb⟩ := info_parts Try.info4
  have := run_make_rowN (P := Try.prog) 40 4 i (.bool false) Try.underlying40 hi hz .i64 .i64 n n (Nat.le_refl _) (by rw [hb]; omega) (by omega) w
  rw [hs, made_bools] at this
  exact this

theorem room_run (l : List ImgM) (k : Nat) (hk : k ≤ l.length) : (runTo (gOf l) l.length k).out.length + left (runTo (gOf l) l.length k) ≤ l.length := by
  have hs : left (startSt l.length) = l.length := by simp [left, startSt]
  have := fold_room (gOf l) l.length (gOf_lt l) l.length (List.range k) (fun d hd => by have := List.mem_range.1 hd; omega) (startSt l.length) (by simp [startSt]) (by omega)
  have e : (startSt l.length).out.length = 0 := rfl
  show ((List.range k).foldl (stepV (gOf l) l.length) (startSt l.length)).out.length + left ((List.range k).foldl (stepV (gOf l) l.length) (startSt l.length)) ≤ _
  omega
theorem ownsRow_shape {W : World} {base : Nat} {e : TypeId} {size : Nat} {v : Value} {k : Nat} {xs : List Value} (h : W.ownsRow base e size v k xs) : ∃ a cap, v = .slice a k cap := by
  rcases h.2 with ⟨rfl, rfl⟩ | ⟨g, cap, _, rfl, _⟩
  · exact ⟨_, _, rfl⟩
  · exact ⟨_, cap, rfl⟩

theorem ownsRow_base {W : World} {base base' : Nat} {e : TypeId} {size : Nat} {v : Value} {k : Nat} {xs : List Value} (h : W.ownsRow base e size v k xs) (hb : base' ≤ base) : W.ownsRow base' e size v k xs := by
  refine ⟨h.1, ?_⟩
  rcases h.2 with h | ⟨g, cap, cur, h1, h2, r⟩
  · exact .inl h
  · exact .inr ⟨g, cap, cur, h1, by omega, r⟩

theorem startSt_ord {w wr : World} {la : Option Addr} {lc n : Nat} (h1 : wr.heap[w.heap.size]? = some (.cells #[.slice la n lc] 22 (0, 0)))
    (h2 : wr.heap[w.heap.size + 1]? = some (.cells #[.slice none 0 0] 25 (0, 0))) (h3 : wr.heap[w.heap.size + 2]? = some (.cells (bools (List.replicate n false)) 4 (0, 0)))
    (h4 : wr.heap[w.heap.size + 3]? = some (.cells #[.slice (some ⟨w.heap.size + 2, 0, none⟩) n n] 40 (0, 0))) (h5 : wr.heap[w.heap.size + 4]? = some (.cells #[onFn w.heap.size] 130 (0, 0)))
    (hb : Below w.heap.size w wr) : OrdSt w la lc n (startSt n) wr :=
  ⟨h1, h4, h3, h5, ⟨_, h2, World.ownsRow_nil _ _ _ _⟩, hb, by simp [startSt]⟩

set_option maxHeartbeats 400000 in
set_option maxRecDepth 100000 in
theorem run_any (w : World) (la : Option Addr) (lc : Nat) (l : List ImgM) (hI : Imgs w la lc l) (hn : l.length ≤ 1000) :
    Calls Try.prog 18 #[.slice la l.length lc] w (NumsRes w (runOut (gOf l) l.length)) := by
  have hmk := make_bools l.length (by omega)
  have HI := Lib.hid hI
  clear hI
  go_enter Try.func18, Try.ntmps18
  go_wp2_with fail
  simp only [Nat.add_assoc, Nat.reduceAdd]
  go_loopw [12] (fun t wr => ∃ k : Nat, k ≤ l.length ∧ t = .int .i64 k ∧ Hid (OrdSt w la lc l.length (runTo (gOf l) l.length k) wr)) (fun t _ => l.length - (intOf t).toNat)
  case atStart =>
    refine ⟨0, Nat.zero_le _, rfl, startSt_ord ?_ ?_ ?_ ?_ ?_ ?_⟩
    case refine_6 => exact (((((Below.refl _ w).alloc (Nat.le_refl _) _).alloc (by simp only [World.size_alloc]; omega) _).alloc (by simp only [World.size_alloc]; omega) _).alloc (by simp only [World.size_alloc]; omega) _).alloc (by simp only [World.size_alloc]; omega) _
    all_goals (simp (disch := ((try simp only [World.size_alloc]); first | done | omega)) only [hp_old, hp_new])
    rfl
  case round =>
    obtain ⟨k, hk, rfl, HR⟩ := hrel
    have c_b := cell_of_one HR.out.begunv
    have c_o := cell_of_one HR.out.onv
    unfold onFn at c_o
    by_cases hlt : k < l.length
    · have HT := Lib.hid (runTo_top (gOf_lt l) k hk)
      cases hbg : (runTo (gOf l) l.length k).begun.getD k false with
      | true =>
        have HBG := Lib.hid hbg
        clear hbg
        have c_k := begun_cell HR.out hlt HBG.out
        go_wp2_with fail
        go_roundw
        case rel => exact ⟨k + 1, by omega, by go_num, by rw [runTo_succ, stepV_yes HBG.out]; exact HR.out⟩
        case measure => simp [intOf]; omega
      | false =>
        have HBG := Lib.hid hbg
        clear hbg
        have c_k := begun_cell HR.out hlt HBG.out
        have HC := Lib.hid (on_any w la lc l HI.out hn l.length k _ wr hlt HR.out (by unfold isB; rw [HBG.out]; simp) (by have := left_le_len (runTo (gOf l) l.length k); rw [HT.out.inv.len] at this; exact this) (room_run l k hk))
        go_wp2_with (go_at_call 61; refine HC.out.mono ?_; rintro e w2 ⟨rfl, hr2⟩; have HR2 := Lib.hid hr2; clear hr2)
        go_roundw
        case rel => exact ⟨k + 1, by omega, by go_num, by rw [runTo_succ, stepV_no HBG.out]; exact HR2.out⟩
        case measure => simp [intOf]; omega
    · obtain ⟨v, hv1, hown⟩ := HR.out.out
      obtain rfl : k = l.length := by omega
      obtain ⟨va, vc, rfl⟩ := ownsRow_shape hown
      have cv := cell_of_one hv1
      have fv := free_of_one hv1
      go_wp2_with fail
      have hq := one_setCell (u := .slice va (runTo (gOf l) l.length l.length).out.length vc) hv1
      have cq := cell_of_one hq
      refine bodyPost_ret (v := .slice va (runTo (gOf l) l.length l.length).out.length vc) (by simp [results, Try.results18, go_sem, cq]) rfl ?_
      refine ⟨_, rfl, ?_, ?_⟩
      · have := ownsRow_setCell_below (a := ⟨w.heap.size + 1, 0, none⟩) hown (by simp) (.slice va (runTo (gOf l) l.length l.length).out.length vc)
        exact ownsRow_base this (by omega)
      · exact HR.out.below.setCell (by simp) _
end Go.Proofs.Ytepnaalgobhcdaa
