/- memory of clevislaw23: both spaces hold what the ranges say. -/
import Derived.Test.YtepnaalgobhcdaaBnC
namespace Go.Proofs.Ytepnaalgobhcdaa
open Go.RowKit Spm

def MemRes23 (w : World) (l : List RngM) (e : Ending) (w' : World) : Prop :=
  (memOk l = false ∧ e = .returned (.tuple #[.pointer none, .pointer none, .bool false]) ∧ Below w.heap.size w w') ∨
  (memOk l = true ∧ ∃ s r : Nat, e = .returned (.tuple #[.pointer (some ⟨s, 0, none⟩), .pointer (some ⟨r, 0, none⟩), .bool true]) ∧ Two w s r (memM l) (memM l) w')
theorem size175 : (Try.prog.info? 175).map (·.size) = some 4 := by kernel_rfl

set_option maxHeartbeats 4000000 in
set_option maxRecDepth 100000 in
theorem memory23_any (w : World) (a : Option Addr) (c : Nat) (l : List RngM) (h : Rngs w a c l) : Calls Try.prog 56 #[.slice a l.length c] w (MemRes23 w l) := by
  have HN : Hid (∀ W : World, Calls Try.prog 24 #[] W fun e w' => e = .returned (.pointer (some ⟨W.heap.size + 1, 0, none⟩)) ∧ SpIn w' (W.heap.size + 1) [] (newF W) ∧ Below W.heap.size W w' ∧ w'.heap.size = W.heap.size + 2) := new_any
  have hm := h.2.1
  unfold maxLen at hm
  have hlc := h.1
  have HL := Lib.hid h
  by_cases h6 : 6 < l.length
  · have e : memOk l = false := by unfold memOk; simp; omega
    have E := Lib.hid e
    have i1 : (6 : Int) < (l.length : Int) := by omega
    clear h e
    go_enter Try.func56, Try.ntmps56
    go_wp2_with (go_at_call 24; refine (HN.out _).mono ?_; rintro e w1 ⟨rfl, h1, h2, h3⟩; have B1 := Lib.hid h2; clear h1 h2 h3)
    go_ret3
    exact .inl ⟨E.out, rfl, B1.out.alloc B1.out.size _⟩
  · have i1 : ¬ (6 : Int) < (l.length : Int) := by omega
    clear h
    go_enter Try.func56, Try.ntmps56
    go_wp2_with (go_at_call 24; refine (HN.out _).mono ?_; rintro e w1 ⟨rfl, h1, h2, h3⟩; have HT0 : Hid (Two w (w.heap.size + 1) w1.heap.size [] [] (w1.alloc (.cells #[.slice none 0 0, .slice none 0 0, .slice none 0 0] 55))) := two_new h1 h2; have S1 := Lib.hid h3; clear h1 h2 h3)
    clear HN i1
    go_loopw [7] (fun t wr => ∃ i : Nat, i ≤ l.length ∧ t = .int .i64 i ∧ Hid ((l.take i).all (fun x => !rngBad x) = true) ∧ Hid (Two w (w.heap.size + 1) w1.heap.size (memM (l.take i)) (memM (l.take i)) wr)) (fun t _ => l.length - (intOf t).toNat)
    case atStart => exact ⟨0, Nat.zero_le _, rfl, rfl, HT0.out⟩
    case round =>
      obtain ⟨i, hi, rfl, HA, HT⟩ := hrel
      by_cases hlt : i < l.length
      · obtain ⟨x, hx⟩ : ∃ x, l[i]? = some x := ⟨l[i], List.getElem?_eq_getElem hlt⟩
        have hxd : l.getD i ⟨0, 0, 0, []⟩ = x := by rw [List.getD_eq_getElem?_getD, hx]; rfl
        obtain ⟨b, o, rfl, hr⟩ := HL.out.2.2.get (by omega)
        have hri := hr i hlt
        rw [hxd] at hri
        obtain ⟨ad, cp, x1, x2, x3, x4, x5, x6⟩ := hri
        have HX := Lib.hid hx
        have HX6 := Lib.hid x6
        have hbl := x5.lt (by simp)
        have HC5 := Lib.hid (x5.keep HT.out.below)
        have hwz := HT.out.below.size
        unfold maxLen at x4
        have hoff : i * 4 = i * 4 := rfl
        have hm1 := @memM_snoc l i x hx
        have HM1 := Lib.hid hm1
        have ha1 : rngBad x = false → (l.take (i + 1)).all (fun x => !rngBad x) = true := fun hb => all_take (q := fun x => !rngBad x) hx HA.out (show (!rngBad x) = true by rw [hb]; rfl)
        have HA1 := Lib.hid ha1
        have HBAD : Hid (rngBad x = true → memOk l = false) := fun hb => by
          unfold memOk
          rw [List.all_eq_false.2 ⟨x, List.mem_of_getElem? hx, by rw [hb]; simp⟩]; simp
        obtain ⟨M, hM⟩ : ∃ M, M = memM (l.take i) := ⟨_, rfl⟩
        rw [← hM] at HT HM1
        obtain ⟨xa, xp, xr, xb⟩ := x
        simp only at x1 x2 x3 x4 HC5 HX6
        clear hx hxd hr x5 x6 hm1 ha1 hM hoff
        by_cases c1 : xp < 0
        · have E := Lib.hid (HBAD.out (by simp [rngBad, c1]))
          go_wp2_with (refine wpList_load_agg 175 (.tmp 24) rfl rfl b (o + i * 4) (by simp [Act.eval]) _ _ HC5.out Try.underlying175 rfl size175 ?_)
          go_ret3
          exact .inl ⟨E.out, rfl, HT.out.below.alloc hwz _⟩
        by_cases c2 : 4 < xp
        · have E := Lib.hid (HBAD.out (by simp [rngBad, c2]))
          go_wp2_with (refine wpList_load_agg 175 (.tmp 24) rfl rfl b (o + i * 4) (by simp [Act.eval]) _ _ HC5.out Try.underlying175 rfl size175 ?_)
          go_ret3
          exact .inl ⟨E.out, rfl, HT.out.below.alloc hwz _⟩
        by_cases c3 : 4096 * xp < (xb.length : Int)
        · have E := Lib.hid (HBAD.out (by simp [rngBad, c3]))
          go_wp2_with (refine wpList_load_agg 175 (.tmp 24) rfl rfl b (o + i * 4) (by simp [Act.eval]) _ _ HC5.out Try.underlying175 rfl size175 ?_)
          go_ret3
          exact .inl ⟨E.out, rfl, HT.out.below.alloc hwz _⟩
        obtain ⟨xn, rfl⟩ : ∃ xn : Nat, xp = (xn : Int) := ⟨xp.toNat, by omega⟩
        have hxn : xn ≤ 4 := by omega
        have HALL := Lib.hid (HA1.out (by simp [rngBad, c1, c2, c3]))
        obtain ⟨OB, hOB⟩ : ∃ OB : Obj, OB = .cells #[.int .u64 (xa : Int), .int .i64 (xn : Int), .int .i64 xr, .slice ad xb.length cp] 175 := ⟨_, rfl⟩
        obtain ⟨wx, hwx⟩ : ∃ wx, wx = wr.alloc OB := ⟨_, rfl⟩
        have HTX : Hid (TwoX (fun k => k = wr.heap.size) wx w (w.heap.size + 1) w1.heap.size M M wx) := by
          rw [hwx]; exact HT.out.hold ((Below.refl _ wr).alloc (Nat.le_refl _) _) (fun k hk => by subst hk; simp)
        have HCX : Hid (∀ N1 N2 u, TwoX (fun k => k = wr.heap.size) wx w (w.heap.size + 1) w1.heap.size N1 N2 u → u.cell? ⟨wr.heap.size, 0, none⟩ = some (.int .u64 (xa : Int)) ∧ u.cell? ⟨wr.heap.size, 1, none⟩ = some (.int .i64 (xn : Int)) ∧ u.cell? ⟨wr.heap.size, 2, none⟩ = some (.int .i64 xr) ∧ u.cell? ⟨wr.heap.size, 3, none⟩ = some (.slice ad xb.length cp)) := fun N1 N2 u hu => by
          have h1 := (hu.xs _ rfl).2
          have h2 : wx.heap[wr.heap.size]? = some OB := by rw [hwx]; exact hp_new _ _ _ rfl
          rw [h2, hOB] at h1
          simp [World.cell?, h1]
        have HWX := Lib.hid hwx
        have HOB := Lib.hid hOB
        have HS : Hid (∀ u, Below w.heap.size w u → SrcOld (fun k => k = wr.heap.size) w u ad xb) := fun u hu h0 => by
          obtain ⟨sb, so, k1, k2⟩ := HX6.out h0
          have hsb := block_lt_of_cell (k2 0 h0)
          exact ⟨sb, so, k1, k2.keep (hu.block sb hsb), .inl hsb⟩
        obtain ⟨PX, hPX⟩ : ∃ PX : List Pg → List Pg → World → Prop, PX = TwoX (fun k => k = wr.heap.size) wx w (w.heap.size + 1) w1.heap.size := ⟨_, rfl⟩
        clear HA1 HBAD HX6 c1 c2 hwx hOB
        have HMP : Hid (∀ u, PX M M u → Calls Try.prog 25 #[.pointer (some ⟨w.heap.size + 1, 0, none⟩), .int .u64 (xa : Int), .int .u64 (4096 * (xn : Int)), .int .i64 xr] u fun e u' => e = .returned (.int .i64 (mapErr M xa (4096 * xn) xr)) ∧ PX (mapM M xa (4096 * xn) xr) M u') := fun u hu => by
          subst hPX
          have := two_map hu xa (4096 * xn) x1 xr
          rwa [show ((4096 * xn : Nat) : Int) = 4096 * (xn : Int) by omega] at this
        have HRM : Hid (∀ u, PX (mapM M xa (4096 * xn) xr) M u → Calls Try.prog 66 #[.pointer (some ⟨w1.heap.size, 0, none⟩), .int .u64 (xa : Int), .int .u64 (4096 * (xn : Int)), .int .i64 xr] u fun e u' => e = .returned (.int .i64 (mapErr M xa (4096 * xn) xr)) ∧ PX (mapM M xa (4096 * xn) xr) (mapM M xa (4096 * xn) xr) u') := fun u hu => by
          subst hPX
          have := two_rmap hu xa (4096 * xn) x1 xr
          rwa [show ((4096 * xn : Nat) : Int) = 4096 * (xn : Int) by omega] at this
        have hst : memM (l.take (i + 1)) = if mapErr M xa (4096 * xn) xr = 0 then writeM (mapM M xa (4096 * xn) xr) xa xb 0 else M := by
          rw [HM1.out]; unfold rngStep; simp only [Int.toNat_natCast]
        have HFL : Hid (∀ u M2, PX M2 M2 u → Calls Try.prog 37 #[.pointer (some ⟨w.heap.size + 1, 0, none⟩), .int .u64 (xa : Int), .slice ad xb.length cp] u fun e u' => e = .returned (.int .i64 (lookErr M2 xa xb.length 0)) ∧ PX (writeM M2 xa xb 0) M2 u') := fun u M2 hu => by
          subst hPX
          exact two_fill hu xa x1 xb ad cp (HS.out u hu.below) x3 x4
        have HRW : Hid (∀ u M2, PX (writeM M2 xa xb 0) M2 u → Calls Try.prog 67 #[.pointer (some ⟨w1.heap.size, 0, none⟩), .int .u64 (xa : Int), .slice ad xb.length cp, .int .i64 0] u fun e u' => e = .returned (.int .i64 (lookErr M2 xa xb.length 0)) ∧ PX (writeM M2 xa xb 0) (writeM M2 xa xb 0) u') := fun u M2 hu => by
          subst hPX
          exact two_rwrite hu xa x1 xb ad cp (HS.out u hu.below) x3 x4 0 (by decide)
        have HTX2 : Hid (PX M M wx) := by show PX M M wx; rw [hPX]; exact HTX.out
        have HCX2 : Hid (∀ N1 N2 u, PX N1 N2 u → u.cell? ⟨wr.heap.size, 0, none⟩ = some (.int .u64 (xa : Int)) ∧ u.cell? ⟨wr.heap.size, 1, none⟩ = some (.int .i64 (xn : Int)) ∧ u.cell? ⟨wr.heap.size, 2, none⟩ = some (.int .i64 xr) ∧ u.cell? ⟨wr.heap.size, 3, none⟩ = some (.slice ad xb.length cp)) := by rw [hPX]; exact HCX.out
        have HPXX : Hid (∀ N u, PX N N u → Two w (w.heap.size + 1) w1.heap.size N N u) := fun N u hu => by subst hPX; exact hu.drop
        clear hPX HTX HCX HM1
        obtain ⟨f0, f1, f2, f3⟩ := HCX2.out _ _ _ HTX2.out
        rw [HWX.out, HOB.out] at HTX2 f0 f1 f2 f3
        clear HWX HOB
        by_cases he : mapErr M xa (4096 * xn) xr = 0
        · rw [if_pos he] at hst
          rw [he] at HMP HRM
          have HST := Lib.hid hst
          generalize mapM M xa (4096 * xn) xr = M2 at *
          have hb2 : ((mapErr M xa (4096 * xn) xr : Int) == 0) = true := by simp [he]
          clear hst he
          go_wp2_with (first
            | (refine wpList_load_agg 175 (.tmp 24) rfl rfl b (o + i * 4) (by simp [Act.eval]) _ _ HC5.out Try.underlying175 rfl size175 ?_)
            | (go_at_call 25; refine (HMP.out _ HTX2.out).mono ?_; rintro e u1 ⟨rfl, k1⟩; have K1 := Lib.hid k1; clear f0 f1 f2 f3; obtain ⟨f0, f1, f2, f3⟩ := HCX2.out _ _ _ K1.out; clear k1 HMP)
            | (go_at_call 66; refine (HRM.out _ K1.out).mono ?_; rintro e u2 ⟨rfl, k1⟩; have K2 := Lib.hid k1; clear f0 f1 f2 f3; obtain ⟨f0, f1, f2, f3⟩ := HCX2.out _ _ _ K2.out; clear k1 HRM)
            | (go_at_call 37; refine (HFL.out _ _ K2.out).mono ?_; rintro e u3 ⟨rfl, k1⟩; have K3 := Lib.hid k1; clear f0 f1 f2 f3; obtain ⟨f0, f1, f2, f3⟩ := HCX2.out _ _ _ K3.out; clear k1 HFL)
            | (go_at_call 67; refine (HRW.out _ _ K3.out).mono ?_; rintro e u4 ⟨rfl, k1⟩; have K4 := Lib.hid k1; clear f0 f1 f2 f3; clear k1 HRW))
          exact ⟨⟨i + 1, by omega, by go_num, HALL.out, by show Two _ _ _ _ _ _; rw [HST.out]; exact HPXX.out _ _ K4.out⟩, by simp [intOf]; omega⟩
        · rw [if_neg he] at hst
          have hmm : mapM M xa (4096 * xn) xr = M := by unfold mapM; rw [if_neg he]
          rw [hmm] at HMP HRM
          have HST := Lib.hid hst
          generalize mapErr M xa (4096 * xn) xr = er at *
          have hb2 : ((er : Int) == 0) = false := by simpa using he
          clear hst he hmm HFL HRW
          go_wp2_with (first
            | (refine wpList_load_agg 175 (.tmp 24) rfl rfl b (o + i * 4) (by simp [Act.eval]) _ _ HC5.out Try.underlying175 rfl size175 ?_)
            | (go_at_call 25; refine (HMP.out _ HTX2.out).mono ?_; rintro e u1 ⟨rfl, k1⟩; have K1 := Lib.hid k1; clear f0 f1 f2 f3; obtain ⟨f0, f1, f2, f3⟩ := HCX2.out _ _ _ K1.out; clear k1 HMP)
            | (go_at_call 66; refine (HRM.out _ K1.out).mono ?_; rintro e u2 ⟨rfl, k1⟩; have K2 := Lib.hid k1; clear f0 f1 f2 f3; clear k1 HRM))
          exact ⟨⟨i + 1, by omega, by go_num, HALL.out, by show Two _ _ _ _ _ _; rw [HST.out]; exact HPXX.out _ _ K2.out⟩, by simp [intOf]; omega⟩
      · obtain rfl : i = l.length := by omega
        have hall := HA.out
        have ht := HT.out
        rw [List.take_length] at hall ht
        have E : Hid (memOk l = true) := by show memOk l = true; unfold memOk; rw [hall]; simp; omega
        have HT2 := Lib.hid ht
        clear hall ht
        go_wp2_with fail
        go_ret3
        exact .inr ⟨E.out, _, _, rfl, HT2.out⟩
end Go.Proofs.Ytepnaalgobhcdaa
