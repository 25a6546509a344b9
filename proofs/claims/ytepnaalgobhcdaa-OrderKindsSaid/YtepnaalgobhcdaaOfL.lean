/- OrderInits: the walk. -/
import Derived.Test.YtepnaalgobhcdaaBnH
import Derived.Test.YtepnaalgobhcdaaTwC
import Derived.Test.YtepnaalgobhcdaaBnF
import Derived.DeepKeys
import Derived.BigQuiet
import Derived.Deep.QuietTactic
namespace Go.Proofs.Ytepnaalgobhcdaa
open Go.RowKit Go.Shelf Spm Clv
attribute [local go_sem] Oper.semAt_some

theorem lits118 (a b : Int) (ha : (Lit.int .i64 a).wf = true) (hb : (Lit.int .u64 b).wf = true) : Try.prog.keyLits 3 118 [.int .i64 a, .int .u64 b] = some [.int .i64 a, .int .u64 b] := by
  have c1 : Try.prog.cellsOf 118 = 2 := by kernel_rfl
  have c2 : Try.prog.cellsOf 32 = 1 := by kernel_rfl
  have c3 : Try.prog.cellsOf 3 = 1 := by kernel_rfl
  simp [Program.keyLits, Try.underlying118, Try.underlying32, Try.underlying3, ha, hb, c1, c2, c3]
theorem neq118_same (a b : Nat) (ha : a < 9223372036854775808) (hb : b < 18446744073709551616) (w : World) : (binOp .neq 118 (.agg #[.int .i64 (a : Int), .int .u64 (b : Int)]) (.agg #[.int .i64 (a : Int), .int .u64 (b : Int)])).run Try.prog w = .ok (.bool false) w := by
  have h1 : (Lit.int .i64 (a : Int)).wf = true := WalkArith.wf_i64 (by omega)
  have h2 : (Lit.int .u64 (b : Int)).wf = true := WalkArith.wf_u64 (by omega)
  obtain ⟨r, k1, k2⟩ := run_equalIn_deep (P := Try.prog) 9990 10 118 (by kernel_rfl) w 3 3 (.agg #[.int .i64 (a : Int), .int .u64 (b : Int)]) (.agg #[.int .i64 (a : Int), .int .u64 (b : Int)]) _ _ (by kernel_rfl) (by kernel_rfl) (lits118 a b h1 h2) (lits118 a b h1 h2)
  have e : r = true := k2.2 rfl
  subst e
  have : (Op.equal 118 (.agg #[.int .i64 (a : Int), .int .u64 (b : Int)]) (.agg #[.int .i64 (a : Int), .int .u64 (b : Int)])).run Try.prog w = .ok true w := k1
  simp only [binOp, Sem.run_bind, this, Result.andThen_ok]
  rfl
/-- What Inits answers, told in one way. -/
structure AllI where
  rows : List (Nat × Nat)
  at_ : Nat
  err : Int
def iAll (M : List Pg) (ls : List OIm) (r : List Nat) : AllI := match iErrAt M ls ls.length with
  | some p => ⟨[], p.1, p.2⟩
  | none => ⟨iRow M ls r, 0, 0⟩
theorem InitRes.all {w w' : World} {M : List Pg} {ls : List OIm} {r : List Nat} {e : Ending} (h : InitRes w M ls r e w') :
    ∃ v, e = .returned (.tuple #[v, .int .i64 ((iAll M ls r).at_ : Int), .int .i64 (iAll M ls r).err]) ∧ Below w.heap.size w w' ∧ w'.ownsRow w.heap.size 118 2 v (iAll M ls r).rows.length (flatI (iAll M ls r).rows) := by
  obtain ⟨v, hb, ⟨i, er, h1, rfl, rfl⟩ | ⟨h1, rfl, h2⟩⟩ := h
  · have e : iAll M ls r = ⟨[], i, er⟩ := by unfold iAll; rw [h1]
    rw [e]
    exact ⟨_, rfl, hb, World.ownsRow_nil _ _ _ _⟩
  · have e : iAll M ls r = ⟨iRow M ls r, 0, 0⟩ := by unfold iAll; rw [h1]
    rw [e]
    exact ⟨_, rfl, hb, h2⟩
theorem iAll_good {M : List Pg} {ls : List OIm} {r : List Nat} (hr : ∀ x ∈ r, x < 1000) : ∀ p ∈ (iAll M ls r).rows, execAt M p.2 = true ∧ p.2 < 18446744073709551616 ∧ p.1 < 1000 := by
  unfold iAll
  split
  · exact fun p hp => by cases hp
  · intro p hp
    unfold iRow at hp
    obtain ⟨i, hi, hp⟩ := List.mem_flatMap.1 hp
    obtain ⟨a, ha, rfl⟩ := List.mem_map.1 hp
    have := oOf_exec M (imO ls i) a ha
    exact ⟨this.1, this.2, hr i hi⟩
theorem iAll_len {M : List Pg} {ls : List OIm} {r : List Nat} : (iAll M ls r).rows.length ≤ 20000 * r.length := by
  unfold iAll
  split
  · exact Nat.zero_le _
  · exact iRow_len r
theorem OfRes.all {w w' : World} {er : Int} {out ol : List Nat} {e : Ending} (h : OfRes w er out e w') (hol : ol = if er = 0 then out else []) :
    ∃ v, e = .returned (.tuple #[v, .int .i64 er]) ∧ Below w.heap.size w w' ∧ w'.ownsRow w.heap.size 32 1 v ol.length (u64s ol) := by
  subst hol
  obtain ⟨v, rfl, hb, h1, h2⟩ := h
  by_cases he : er = 0
  · rw [if_pos he]; exact ⟨v, rfl, hb, h2 he⟩
  · rw [if_neg he, h1 he]; exact ⟨_, rfl, hb, World.ownsRow_nil _ _ _ _⟩
theorem init_at {W : World} {B : Nat} {v : Value} {l : List (Nat × Nat)} (h : W.ownsRow B 118 2 v l.length (flatI l)) {k : Nat} (hk : k < l.length) : ∃ g cap, v = .slice (some ⟨g, 0, none⟩) l.length cap ∧ l.length ≤ cap ∧ cap ≤ 9223372036854775807 ∧ W.cell? ⟨g, k * 2, none⟩ = some (.int .i64 ((l.getD k (0, 0)).1 : Int)) ∧ W.cell? ⟨g, k * 2 + 1, none⟩ = some (.int .u64 ((l.getD k (0, 0)).2 : Int)) := by
  have hl := flatI_len l
  rcases h.2 with ⟨rfl, h0⟩ | ⟨g, cap, cur, rfl, hb, hg, hc1, hc2, hs, ht⟩
  · omega
  · obtain ⟨f1, f2⟩ := flatI_at hk
    refine ⟨g, cap, rfl, hc1, by unfold maxLen at hc2; omega, ?_, ?_⟩
    · rw [h.cellAt (k * 2) (by omega)]; exact f1
    · rw [h.cellAt (k * 2 + 1) (by omega)]; exact f2

set_option maxHeartbeats 4000000 in
set_option maxRecDepth 100000 in
theorem oinits_any (w : World) (aR : Option Addr) (cR : Nat) (lR : List RngM) (hR : Rngs w aR cR lR) (aI : Option Addr) (cI : Nat) (ls : List OIm) (hI : OIms w aI ls) (l : List ImgM) (hG : Imgs w aI cI l) (hll : l.length = ls.length) :
    Calls Try.prog 14 #[.slice aR lR.length cR, .slice aI ls.length cI] w fun e w' => e = .returned (.bool true) ∧ Below w.heap.size w w' := by
  have HK : Hid (∀ W, Calls Try.prog 17 #[] W fun e w' => e = .returned (.bool true) ∧ Below W.heap.size W w') := known_true
  have HM := Lib.hid (memory23_any w aR cR lR hR)
  have HFW : Hid (Calls Try.prog 16 #[.slice aI ls.length cI, .int .i64 8] w (FewRes w ls.length 8)) := by
    have := few_any w aI cI l hG 8
    rw [hll] at this; exact this
  have HI := Lib.hid hI
  have HG := Lib.hid hG
  have HLL := Lib.hid hll
  have hcap : ls.length ≤ cI := by rw [← hll]; exact hG.1
  clear hR hI hG hll
  go_enter Try.func14, Try.ntmps14
  go_wp2_with fail
  refine HFW.out.mono ?_
  rintro e w2' ⟨bv, rfl, hbv, rfl⟩
  cases bv with
  | false =>
    clear hbv
    go_wp2_with fail
    refine (HK.out _).mono ?_
    rintro e w3 ⟨rfl, hb⟩
    have B3 := Lib.hid hb
    clear hb
    go_wp2_with fail
    go_ret
    exact ⟨rfl, B3.out⟩
  | true =>
    have hl8 : ls.length ≤ 8 := by have := hbv rfl; omega
    clear hbv HFW
    go_wp2_with fail
    refine HM.out.mono ?_
    rintro e w3 (⟨_, rfl, hb3⟩ | ⟨_, s, r, rfl, htwo⟩)
    · have B3 := Lib.hid hb3
      clear hb3
      go_wp2_with fail
      refine (HK.out _).mono ?_
      rintro e w4 ⟨rfl, hb⟩
      have B4 := Lib.hid (B3.out.trans (below_le hb B3.out.size))
      clear hb
      go_wp2_with fail
      go_ret
      exact ⟨rfl, B4.out⟩
    · have B3 := Lib.hid htwo.below
      obtain ⟨F, G, hsp, hrf, _⟩ := htwo.own
      have hokM := hsp.ok
      generalize memM lR = M at *
      have HOKM := Lib.hid hokM
      have HSPW : Hid (∀ W, Below w3.heap.size w3 W → SpIn W s M F) := fun W hW => hsp.keepB hW
      have HRFW : Hid (∀ W, Below w3.heap.size w3 W → RfIn W r M G) := fun W hW => hrf.keepB hW
      have HSP := Lib.hid (inits_any w3 s M F hsp aI cI ls (hI := HI.out.keep B3.out) l (HG.out.keep B3.out) HLL.out (by omega))
      have HRF : Hid (∀ W, Below w3.heap.size w3 W → Calls Try.prog 57 #[.pointer (some ⟨r, 0, none⟩), .slice aI ls.length cI] W (InitRes W M ls (runOut (gOf l) l.length))) := fun W hW =>
        rinits_any W r M G (hrf.keepB hW) aI cI ls (HI.out.keep (B3.out.trans (below_le hW B3.out.size))) l (HG.out.keep (B3.out.trans (below_le hW B3.out.size))) HLL.out (by omega)
      have hrl : (runOut (gOf l) l.length).length ≤ 8 := by rw [runOut_length (gOf_lt l), HLL.out]; omega
      have hrm : ∀ x ∈ runOut (gOf l) l.length, x < 1000 := fun x hx => by have := (runOut_mem (gOf_lt l) (n := l.length) x).1 hx; have := HLL.out; omega
      generalize runOut (gOf l) l.length = ro at *
      have hgood := iAll_good (M := M) (ls := ls) hrm
      have hlen := iAll_len (M := M) (ls := ls) (r := ro)
      have HGOOD := Lib.hid hgood
      clear htwo hsp hrf hokM hgood hrm
      go_wp2_with fail
      refine HSP.out.mono ?_
      rintro e w4 hres
      obtain ⟨v1, rfl, hb4, hv1⟩ := hres.all
      have B4 := Lib.hid hb4
      obtain ⟨a1, c1, rfl⟩ := ownsRow_shape hv1
      have HRF4 := Lib.hid (HRF.out w4 hb4)
      clear hres hb4 HSP HRF
      go_wp2_with fail
      refine HRF4.out.mono ?_
      rintro e w5 hres
      obtain ⟨v2, rfl, hb5, hv2⟩ := hres.all
      obtain ⟨a2, c2, rfl⟩ := ownsRow_shape hv2
      have B5 := Lib.hid (B4.out.trans (below_le hb5 B4.out.size))
      have HV1 : Hid (w5.ownsRow w3.heap.size 118 2 (.slice a1 (iAll M ls ro).rows.length c1) (iAll M ls ro).rows.length (flatI (iAll M ls ro).rows)) := owns2_same hv1 fun g hg => hb5.block g (hv1.lt g hg).2
      have HV2 := Lib.hid hv2
      generalize (iAll M ls ro).rows = rows at *
      generalize (iAll M ls ro).at_ = ia at *
      generalize (iAll M ls ro).err = ie at *
      clear hres hb5 hv1 hv2 HRF4 B4
      have e1 : ((ie : Int) != ie) = false := by simp
      have e2 : ((ia : Int) != (ia : Int)) = false := by simp
      have e3 : ((rows.length : Int) != (rows.length : Int)) = false := by simp
      go_wp2_with fail
      go_loopw [14] (fun t wr => ∃ k : Nat, k ≤ rows.length ∧ t = .int .i64 k ∧ ∃ n, Hid (wr = w5.drewN n)) (fun t _ => rows.length - (intOf t).toNat)
      case atStart => exact ⟨0, Nat.zero_le _, rfl, 0, rfl⟩
      case round =>
        obtain ⟨k, hk, rfl, n0, HWR⟩ := hrel
        by_cases hlt : k < rows.length
        · obtain ⟨g1, cap1, hva, p1, p2, x1, x2⟩ := init_at HV1.out hlt
          obtain ⟨g2, cap2, hvb, q1, q2, y1, y2⟩ := init_at HV2.out hlt
          cases hva
          cases hvb
          obtain ⟨hex, hpl, hpi⟩ := HGOOD.out (rows.getD k (0, 0)) (by rw [List.getD_eq_getElem?_getD, List.getElem?_eq_getElem hlt]; exact List.getElem_mem hlt)
          generalize rows.getD k (0, 0) = pp at *
          obtain ⟨pi, pa⟩ := pp
          simp only at x1 x2 y1 y2 hex hpl hpi
          have hne := fun W => neq118_same pi pa (by omega) hpl W
          have hpr := exec_and HOKM.out pa
          rw [hex] at hpr
          have HPR : Hid (∀ n, Calls Try.prog 40 #[.pointer (some ⟨s, 0, none⟩), .int .u64 pa] (w5.drewN n) fun e w' => e = .returned (.int .i64 (protM M pa)) ∧ w' = w5.drewN n) := fun n => (prot_any (w5.drewN n) s M F (HSPW.out _ (below_drewN B5.out n)) pa hpl).mono fun _ _ h => ⟨h.1, h.2.symm⟩
          have hwr := HWR.out
          subst hwr
          generalize protM M pa = pv at *
          have b4 : (bits .and .i64 pv 4 == 0) = false := hpr
          have x1' : (w5.drewN n0).cell? ⟨g1, k * 2, none⟩ = some (.int .i64 (pi : Int)) := x1
          have x2' : (w5.drewN n0).cell? ⟨g1, k * 2 + 1, none⟩ = some (.int .u64 (pa : Int)) := x2
          have y1' : (w5.drewN n0).cell? ⟨g2, k * 2, none⟩ = some (.int .i64 (pi : Int)) := y1
          have y2' : (w5.drewN n0).cell? ⟨g2, k * 2 + 1, none⟩ = some (.int .u64 (pa : Int)) := y2
          obtain ⟨wd, hwd⟩ : ∃ wd, wd = w5.drewN n0 := ⟨_, rfl⟩
          have HPR2 : Hid (∀ n, Calls Try.prog 40 #[.pointer (some ⟨s, 0, none⟩), .int .u64 pa] (wd.drewN n) fun e w' => e = .returned (.int .i64 pv) ∧ w' = wd.drewN n) := fun n => by
            rw [hwd, World.drewN_drewN]; exact HPR.out _
          rw [← hwd] at x1' x2' y1' y2' ⊢
          have HWD := Lib.hid hwd
          clear x1 x2 y1 y2 hex hpr HPR HWR hwd
          go_wp2_with fail
          go_quiet (first | (go_at_call 40; exact Calls.quiet_of_same (HPR2.out _)))
          go_wp2_with fail
          go_roundw
          case rel => exact ⟨k + 1, by omega, by go_num, n0 + nq, by show _ = _; rw [HWD.out, World.drewN_drewN]⟩
          case measure => simp [intOf]; omega
        · obtain rfl : k = rows.length := by omega
          have hwr := HWR.out
          subst hwr
          have B6 : Hid (Below w3.heap.size w3 (w5.drewN n0)) := below_drewN B5.out n0
          generalize w5.drewN n0 = w6 at *
          clear HV1 HV2 HGOOD hlen hlt HWR B5
          go_wp2_with fail
          go_loopw [15] (fun t wr => ∃ k : Nat, k ≤ ls.length ∧ t = .int .i64 k ∧ Hid (Below w3.heap.size w3 wr)) (fun t _ => ls.length - (intOf t).toNat)
          case atStart => exact ⟨0, Nat.zero_le _, rfl, B6.out⟩
          case round =>
            clear B6
            obtain ⟨k, hk, rfl, HB⟩ := hrel
            by_cases hlt : k < ls.length
            · have HBW : Hid (Below w.heap.size w wr) := B3.out.trans (below_le HB.out B3.out.size)
              obtain ⟨bI, oI, cs, rfl, hcs, him, hs38, _, hbl⟩ := HI.out.at_ HBW.out hlt
              have HS38 := Lib.hid hs38
              have HCW := Lib.hid hcs
              have HO1 : Hid (Calls Try.prog 53 #[.pointer (some ⟨s, 0, none⟩), .agg cs] wr (OfRes wr (oOf M (imO ls k)).err (oOf M (imO ls k)).out)) := of_any wr s M F (HSPW.out wr HB.out) cs _ (him wr HBW.out)
              have HO2 : Hid (∀ W, Below wr.heap.size wr W → Calls Try.prog 58 #[.pointer (some ⟨r, 0, none⟩), .agg cs] W (OfRes W (oOf M (imO ls k)).err (oOf M (imO ls k)).out)) := fun W hW => rof_any W r M G (HRFW.out W (HB.out.trans (below_le hW HB.out.size))) cs _ (him W (HBW.out.trans (below_le hW HBW.out.size)))
              have HCW2 : Hid (∀ W, Below wr.heap.size wr W → CellsAt W bI (oI + k * 27) cs) := fun W hW => HCW.out.keep hW
              have hob := oOf_bound M (imO ls k)
              clear hcs him hs38
              generalize (oOf M (imO ls k)).err = oe at *
              generalize (oOf M (imO ls k)).out = oo at *
              have e1 : ((oe : Int) != oe) = false := by simp
              obtain ⟨ol, hol⟩ : ∃ ol, ol = if oe = 0 then oo else [] := ⟨_, rfl⟩
              have HOL := Lib.hid hol
              have ho2 : ol.length ≤ 20000 := by
                rw [hol]
                by_cases h0 : oe = 0
                · rw [if_pos h0]; exact hob
                · rw [if_neg h0]; exact Nat.zero_le _
              have e3 : ((ol.length : Int) != (ol.length : Int)) = false := by simp
              clear hol hob
              go_wp2_with (first
                | (refine wpList_load_agg 38 (.tmp 99) rfl rfl bI (oI + k * 27) rfl cs _ HCW.out Try.underlying38 rfl (by rw [HS38.out]; kernel_rfl) ?_)
                | (go_at_call 53; refine HO1.out.mono ?_; rintro e w7 hres; obtain ⟨v1, rfl, hb7, hv1⟩ := hres.all HOL.out; obtain ⟨ax, cx, rfl⟩ := ownsRow_shape hv1; have B7 := Lib.hid hb7; have HV1 := Lib.hid hv1; clear hres hb7 hv1)
                | (refine wpList_load_agg 38 (.tmp 108) rfl rfl bI (oI + k * 27) rfl cs _ (HCW2.out _ B7.out) Try.underlying38 rfl (by rw [HS38.out]; kernel_rfl) ?_)
                | (go_at_call 58; refine (HO2.out _ B7.out).mono ?_; rintro e w8 hres; obtain ⟨v2, rfl, hb8, hv2⟩ := hres.all HOL.out; obtain ⟨ay, cy, rfl⟩ := ownsRow_shape hv2; have B8 := Lib.hid (HB.out.trans (below_le (B7.out.trans (below_le hb8 B7.out.size)) HB.out.size)); have HV2 := Lib.hid hv2; have HV1b := Lib.hid (owns2_same HV1.out fun g hg => hb8.block g (HV1.out.lt g hg).2); clear hres hb8 hv2))
              clear HO1 HO2 B7 HV1 HCW HCW2
              go_wp2_with fail
              go_loopw [20] (fun t wr => ∃ m : Nat, m ≤ ol.length ∧ t = .int .i64 m ∧ ∃ n, Hid (wr = w8.drewN n)) (fun t _ => ol.length - (intOf t).toNat)
              case atStart => exact ⟨0, Nat.zero_le _, rfl, 0, rfl⟩
              case round =>
                obtain ⟨m, hm, rfl, n1, HWR⟩ := hrel
                by_cases hlt2 : m < ol.length
                · obtain ⟨g1, cap1, hva, p1, p2, x1⟩ := u64_at HV1b.out hlt2
                  obtain ⟨g2, cap2, hvb, q1, q2, y1⟩ := u64_at HV2.out hlt2
                  cases hva
                  cases hvb
                  generalize ol.getD m 0 = ov at *
                  have hwr := HWR.out
                  subst hwr
                  have x1' : (w8.drewN n1).cell? ⟨g1, m, none⟩ = some (.int .u64 (ov : Int)) := x1
                  have y1' : (w8.drewN n1).cell? ⟨g2, m, none⟩ = some (.int .u64 (ov : Int)) := y1
                  have e5 : ((ov : Int) != (ov : Int)) = false := by simp
                  obtain ⟨wd, hwd⟩ : ∃ wd, wd = w8.drewN n1 := ⟨_, rfl⟩
                  rw [← hwd] at x1' y1' ⊢
                  have HWD := Lib.hid hwd
                  clear x1 y1 HWR hwd
                  go_wp2_with fail
                  go_quiet (fail)
                  go_wp2_with fail
                  go_roundw
                  case rel => exact ⟨m + 1, by omega, by go_num, n1 + nq, by show _ = _; rw [HWD.out, World.drewN_drewN]⟩
                  case measure => simp [intOf]; omega
                · obtain rfl : m = ol.length := by omega
                  have hwr := HWR.out
                  subst hwr
                  have B9 : Hid (Below w3.heap.size w3 (w8.drewN n1)) := below_drewN B8.out n1
                  clear HWR B8 HV1b HV2
                  go_wp2_with fail
                  go_roundw
                  case rel => exact ⟨k + 1, by omega, by go_num, B9.out⟩
                  case measure => simp [intOf]; omega
            · obtain rfl : k = ls.length := by omega
              go_wp2_with fail
              refine (HK.out _).mono ?_
              rintro e w8 ⟨rfl, hb⟩
              have B8 := Lib.hid ((B3.out.trans (below_le HB.out B3.out.size)).trans (below_le hb (Nat.le_trans B3.out.size HB.out.size)))
              clear hb
              go_wp2_with fail
              go_ret
              exact ⟨rfl, B8.out⟩
end Go.Proofs.Ytepnaalgobhcdaa
