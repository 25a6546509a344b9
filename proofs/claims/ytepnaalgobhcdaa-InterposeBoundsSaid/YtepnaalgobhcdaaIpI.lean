/- interpose.Map: the walk. -/
import Derived.Test.YtepnaalgobhcdaaIpH
namespace Go.Proofs.Ytepnaalgobhcdaa
open Go.RowKit Go.Shelf Spm
theorem i64n {n : Nat} (h : n < 9223372036854775808) : IntKind.i64.wrap (n : Int) = (n : Int) := by
  rw [IntKind.wrap_i64]; omega

theorem cells_whole {W : World} {g : Nat} {cs : Array Value} {t : TypeId} (h : W.heap[g]? = some (.cells cs t (0, 0))) : CellsAt W g 0 cs := fun j v hj => by
  simp only [World.cell?, h, Nat.zero_add]; exact hj
theorem below_whole {w w1 : World} {o : Obj} {g : Nat} (h : (w.alloc o).grownBy w1 (some g)) (hg : w.heap.size ≤ g := by exact Nat.le_refl _) : Below w.heap.size w w1 :=
  ⟨h.os, h.tape, h.output, by have := h.size; simp at this; omega, fun k hk => by
    rw [h.block k (by simp; omega) (fun e => by have := Option.some.inj e; omega)]
    exact hp_old w o k hk⟩

section
variable {ops : Array Oper} {rest : List Oper} {o : Oper} {a : Act} {w : World} {Q : Exit → Act → World → Prop}
theorem wpList_sw_miss (hw : Region.wanted o (yielded ops a.tmps) = true) (m x : Operand) (hop : o.op = Op.lookup 90 m x true) {v : Value} {T : Tab} (h : SwVal w v T) (hm : a.eval m = v) (n : Nat) (hn : n < 18446744073709551616) (hx : a.eval x = .int .u64 (n : Int)) (hf : tget T n = none)
    (hK : wpList Try.prog ops Q rest (a.put o.dst (.tuple #[.agg #[.int .u64 0, .int .i64 0], .bool false])) w) : wpList Try.prog ops Q (o :: rest) a w := by
  refine wpList_sw_ok hw m x hop h hm n hn hx ?_
  rw [hf]; exact hK
theorem wpList_sw_hit (hw : Region.wanted o (yielded ops a.tmps) = true) (m x : Operand) (hop : o.op = Op.lookup 90 m x true) {v : Value} {T : Tab} (h : SwVal w v T) (hm : a.eval m = v) (n : Nat) (hn : n < 18446744073709551616) (hx : a.eval x = .int .u64 (n : Int)) {r1 r2 : Nat} (hf : tget T n = some (r1, r2))
    (hK : wpList Try.prog ops Q rest (a.put o.dst (.tuple #[.agg #[.int .u64 (r1 : Int), .int .i64 (r2 : Int)], .bool true])) w) : wpList Try.prog ops Q (o :: rest) a w := by
  refine wpList_sw_ok hw m x hop h hm n hn hx ?_
  rw [hf]; exact hK
end
set_option maxHeartbeats 2000000 in
set_option maxRecDepth 100000 in
theorem tmap_any (w : World) (b : Nat) (M : List Pg) (F : Nat → Prop) (h : SpIn w b M F) (aI : Option Addr) (cI : Nat) (l : List Im) (hI : ImsP w aI l) (hl : l.length < 50) (_hcI : l.length ≤ cI) :
    Calls Try.prog 48 #[.pointer (some ⟨b, 0, none⟩), .slice aI l.length cI] w (TabRes w (tMap M l)) := by
  have HSP := Lib.hid h
  have HI := Lib.hid hI
  clear h hI
  have hmm := @run_makeMap Try.prog
  go_enter Try.func48, Try.ntmps48
  go_wp2_with fail
  go_loopw [21] (fun t wr => ∃ j : Nat, j ≤ l.length ∧ t = .int .i64 j ∧ Hid ((tRun M l j).err = 0) ∧ Hid (MpSt w (tRun M l j).tab wr)) (fun t _ => l.length - (intOf t).toNat)
  case atStart => exact ⟨0, Nat.zero_le _, rfl, rfl, ⟨(Below.refl _ w).alloc (Nat.le_refl _) _, SwMap.made w⟩⟩
  case round =>
    obtain ⟨j, hj, rfl, HE, HM⟩ := hrel
    by_cases hlt : j < l.length
    · obtain ⟨bI, oI, rfl, hp⟩ := HI.out.at_ hlt
      obtain ⟨cs, hcs, him⟩ := hp
      have hbl : bI < w.heap.size := hcs.lt (by rw [him.1]; omega)
      have HIM := Lib.hid him
      have HST : Hid (tRun M l (j + 1) = tStep M j (l.getD j (0, [])) (tRun M l j)) := rfl
      have hlen := tRun_len (M := M) (l := l) j
      generalize l.getD j (0, []) = im at *
      have HS38 : Hid (cs.size = 27) := him.1
      have HONE : Hid (cs.all (·.oneCell') = true) := him.2.1
      have HCW : Hid (CellsAt wr bI (oI + j * 27) cs) := hcs.below HM.out.below (fun _ => hbl)
      have hwz := HM.out.below.size
      have HIMW : Hid (∀ W, Below w.heap.size w W → ImP W cs im) := fun W hW => him.keep hW
      obtain ⟨zs, hzs⟩ : ∃ zs : Array Value, zs = #[.string { data := #[] }, .int .i64 0, .int .i64 0, .int .u32 0, .string { data := #[] }, .slice none 0 0, .slice none 0 0, .int .u64 0, .int .u64 0, .int .u64 0, .int .u64 0, .int .u64 0, .int .u64 0, .int .u64 0, .int .u64 0, .int .u64 0, .int .u64 0, .int .u64 0, .int .u64 0, .int .u64 0, .int .u64 0, .int .u64 0, .int .u64 0, .int .u64 0, .bool false, .int .u64 0, .slice none 0 0] := ⟨_, rfl⟩
      have hzz : zs.size = 27 := by rw [hzs]; rfl
      clear hcs him
      by_cases he : (pOf M im).err = 0
      · have HST2 : Hid (tRun M l (j + 1) = ⟨tadd (tRun M l j).tab j (pOf M im).out, 0, 0⟩) := by
          show _ = _
          rw [HST.out]; unfold tStep; rw [if_neg (by rw [HE.out]; simp), if_neg (by rw [he]; simp)]
        have hgood := pFold_good M im.1 im.2
        have hbound := pFold_bound M im.1 im.2
        change ∀ p ∈ (pOf M im).out, _ at hgood
        change (pOf M im).out.length ≤ (pOf M im).many ∧ (pOf M im).many ≤ 20000 at hbound
        have hpairs : ∀ W, Below w.heap.size w W → Calls Try.prog 46 #[.pointer (some ⟨b, 0, none⟩), .agg cs] W fun e w' => ∃ v, e = .returned (.tuple #[v, .int .i64 0]) ∧ Below W.heap.size W w' ∧ w'.ownsRow W.heap.size 88 2 v (pOf M im).out.length (flat (pOf M im).out) := fun W hW => by
          refine (pairs_im W b M F (HSP.out.keepB hW) cs im (HIMW.out W hW)).mono ?_
          rintro e w' ⟨v, rfl, k1, k2, k3⟩
          rw [he]
          exact ⟨v, rfl, k1, k3 he⟩
        obtain ⟨out, hout⟩ : ∃ out, out = (pOf M im).out := ⟨_, rfl⟩
        rw [← hout] at HST2 hgood hbound hpairs
        have HPAIRS := Lib.hid hpairs
        have HGOOD := Lib.hid hgood
        have hol : out.length ≤ 20000 := by omega
        obtain ⟨T, hT⟩ : ∃ T, T = (tRun M l j).tab := ⟨_, rfl⟩
        rw [← hT] at HST2 hlen HM
        have hTl : T.length < 980001 := by omega
        clear hgood hbound hpairs hout hT he
        go_wp2_with (first
          | (refine wpList_load_agg 38 _ rfl rfl bI (oI + j * 27) rfl cs _ HCW.out Try.underlying38 rfl (by rw [HS38.out]; kernel_rfl) ?_)
          | (refine wpList_store_whole rfl 38 (.tmp 9) (.tmp 25) rfl wr.heap.size cs rfl rfl 38 _ (hp_new wr _ _ rfl) (by rw [HS38.out]; kernel_rfl) (by rw [HS38.out]; rfl) HONE.out ?_; intro w1 hw1 hg1 hz1; have CW1 : Hid (CellsAt w1 wr.heap.size 0 cs) := (cells_whole hw1); have BW1 : Hid (Below wr.heap.size wr w1) := (below_whole hg1); clear hw1 hg1 hz1)
          | (refine wpList_load_agg 38 _ rfl rfl wr.heap.size 0 rfl cs _ CW1.out Try.underlying38 rfl (by rw [HS38.out]; kernel_rfl) ?_)
          | (go_at_call 46; refine (HPAIRS.out w1 (HM.out.keep BW1.out).below).mono ?_; rintro e w2 ⟨v, rfl, hb2, hr2⟩; obtain ⟨va, vc, rfl⟩ := ownsRow_shape hr2; have B2 := Lib.hid hb2; have R2 := Lib.hid hr2; clear hb2 hr2))
        have HM2 := Lib.hid ((HM.out.keep BW1.out).keep B2.out)
        have hs1 : w.heap.size < w1.heap.size := by have := BW1.out.size; have := HM.out.map.lt; omega
        clear HM CW1 BW1 B2 HCW HIMW
        obtain ⟨wb, rfl⟩ : ∃ wb : World, wb = wr := ⟨_, rfl⟩
        go_loopw [38] (fun t wr => ∃ k : Nat, k ≤ out.length ∧ t = .int .i64 k ∧ Hid (MpSt w (tadd T j (out.take k)) wr) ∧ Hid (wr.ownsRow w1.heap.size 88 2 (.slice va out.length vc) out.length (flat out))) (fun t _ => out.length - (intOf t).toNat)
        case atStart => exact ⟨0, Nat.zero_le _, rfl, HM2.out, R2.out⟩
        case round =>
          obtain ⟨k, hk, rfl, HMK, HRK⟩ := hrel
          by_cases hkt : k < out.length
          · obtain ⟨g, cap, hg, hgc, hgm, hcp⟩ := row_pair HRK.out hkt
            obtain ⟨q0, q1, q2⟩ := HGOOD.out (out.getD k (0, 0)) (by rw [List.getD_eq_getElem?_getD, List.getElem?_eq_getElem hkt]; exact List.getElem_mem hkt)
            have hstep := tadd_take T j out hkt
            have hnl := tadd_len T j (out.take k)
            rw [List.length_take] at hnl
            cases hg
            obtain ⟨pp, hpp⟩ : ∃ pp, pp = out.getD k (0, 0) := ⟨_, rfl⟩
            rw [← hpp] at q0 q1 q2 hstep hcp
            obtain ⟨p1, p2⟩ := pp
            simp only at q0 q1 q2 hcp
            have HCP := Lib.hid hcp
            have HSTEP := Lib.hid hstep
            have HSV : Hid (∀ W, Below wr.heap.size wr W → SwVal W (.map (some w.heap.size)) (tadd T j (out.take k))) := fun W hW => .inl ⟨_, rfl, HMK.out.map.keepB hW⟩
            have hnc : (tadd T j (out.take k)).length < 1000000 := by omega
            obtain ⟨TK, hTK⟩ : ∃ TK, TK = tadd T j (out.take k) := ⟨_, rfl⟩
            rw [← hTK] at HMK HSTEP HSV hnc
            clear hpp hcp hstep hnl hTK
            cases hfn : tget TK p2 with
            | none =>
              have HFN := Lib.hid hfn
              clear hfn
              have B88 : Hid (Below wr.heap.size wr (wr.alloc (.cells #[.int .u64 (p1 : Int), .int .u64 (p2 : Int)] 88))) := (Below.refl _ wr).alloc (Nat.le_refl _) _
              have B97 : Hid (Below wr.heap.size wr ((wr.alloc (.cells #[.int .u64 (p1 : Int), .int .u64 (p2 : Int)] 88)).alloc (.cells #[.int .u64 0, .int .i64 0] 97))) := B88.out.alloc (by simp) _
              go_wp2_with (first
                | (refine wpList_load_agg 88 _ rfl rfl g (k * 2) (by simp [Act.eval]) #[.int .u64 (p1 : Int), .int .u64 (p2 : Int)] _ HCP.out Try.underlying88 rfl size88 ?_)
                | (refine wpList_sw_miss rfl (.tmp 43) (.tmp 45) rfl (HSV.out _ B88.out) rfl p2 q2 rfl HFN.out ?_)
                | (refine wpList_sw_put rfl (.tmp 51) (.tmp 53) (.tmp 57) rfl w.heap.size (HMK.out.keep B97.out).map rfl hnc (p1, p2) j q2 rfl HFN.out q0 rfl ?_; intro w5 hm5 hg5; have M5 := Lib.hid ((HMK.out.keep B97.out).put hm5 hg5); have R5 := Lib.hid (row_put (row_keep HRK.out B97.out) hg5 hs1); clear hm5 hg5))
              go_roundw
              case rel => exact ⟨k + 1, by omega, by go_num, by show MpSt _ _ _; rw [HSTEP.out]; exact M5.out, R5.out⟩
              case measure => simp [intOf]; omega
            | some q =>
              obtain ⟨r1, r2⟩ := q
              have HFN := Lib.hid hfn
              have HSTEP2 : Hid (tadd T j (out.take (k + 1)) = TK) := by
                show _ = _
                rw [HSTEP.out]; unfold tput; rw [if_pos (by rw [hfn]; rfl)]
              clear hfn
              have B88 : Hid (Below wr.heap.size wr (wr.alloc (.cells #[.int .u64 (p1 : Int), .int .u64 (p2 : Int)] 88))) := (Below.refl _ wr).alloc (Nat.le_refl _) _
              have B97 : Hid (Below wr.heap.size wr ((wr.alloc (.cells #[.int .u64 (p1 : Int), .int .u64 (p2 : Int)] 88)).alloc (.cells #[.int .u64 (r1 : Int), .int .i64 (r2 : Int)] 97))) := B88.out.alloc (by simp) _
              go_wp2_with (first
                | (refine wpList_load_agg 88 _ rfl rfl g (k * 2) (by simp [Act.eval]) #[.int .u64 (p1 : Int), .int .u64 (p2 : Int)] _ HCP.out Try.underlying88 rfl size88 ?_)
                | (refine wpList_sw_hit rfl (.tmp 43) (.tmp 45) rfl (HSV.out _ B88.out) rfl p2 q2 rfl HFN.out ?_))
              go_roundw
              case rel => exact ⟨k + 1, by omega, by go_num, by show MpSt _ _ _; rw [HSTEP2.out]; exact HMK.out.keep B97.out, row_keep HRK.out B97.out⟩
              case measure => simp [intOf]; omega
          · obtain rfl : k = out.length := by omega
            rw [List.take_length] at HMK
            go_wp2_with fail
            go_roundw
            case rel => exact ⟨j + 1, by omega, by go_num, by show _ = _; rw [HST2.out], by show MpSt _ _ _; rw [HST2.out]; exact HMK.out⟩
            case measure => simp [intOf]; omega
      · have HST2 : Hid (tRun M l (j + 1) = ⟨[], j, (pOf M im).err⟩) := by
          show _ = _
          rw [HST.out]; unfold tStep; rw [if_neg (by rw [HE.out]; simp), if_pos he]
        obtain ⟨er, her⟩ : ∃ er, er = (pOf M im).err := ⟨_, rfl⟩
        rw [← her] at HST2 he
        have HER := Lib.hid he
        have b1 : ((er : Int) != 0) = true := by rw [bne_iff_ne]; exact he
        have HPAIRS : Hid (∀ W, Below w.heap.size w W → Calls Try.prog 46 #[.pointer (some ⟨b, 0, none⟩), .agg cs] W fun e w' => e = .returned (.tuple #[.slice none 0 0, .int .i64 er]) ∧ Below W.heap.size W w') := fun W hW => by
          refine (pairs_im W b M F (HSP.out.keepB hW) cs im (HIMW.out W hW)).mono ?_
          rintro e w' ⟨v, rfl, k1, k2, _⟩
          rw [k2 (by rw [← her]; exact he), her]
          exact ⟨rfl, k1⟩
        clear he her
        go_wp2_with (first
          | (refine wpList_load_agg 38 _ rfl rfl bI (oI + j * 27) rfl cs _ HCW.out Try.underlying38 rfl (by rw [HS38.out]; kernel_rfl) ?_)
          | (refine wpList_store_whole rfl 38 (.tmp 9) (.tmp 25) rfl wr.heap.size cs rfl rfl 38 _ (hp_new wr _ _ rfl) (by rw [HS38.out]; kernel_rfl) (by rw [HS38.out]; rfl) HONE.out ?_; intro w1 hw1 hg1 hz1; have CW1 : Hid (CellsAt w1 wr.heap.size 0 cs) := (cells_whole hw1); have BW1 : Hid (Below wr.heap.size wr w1) := (below_whole hg1); clear hw1 hg1 hz1)
          | (refine wpList_load_agg 38 _ rfl rfl wr.heap.size 0 rfl cs _ CW1.out Try.underlying38 rfl (by rw [HS38.out]; kernel_rfl) ?_)
          | (go_at_call 46; refine (HPAIRS.out w1 (HM.out.keep BW1.out).below).mono ?_; rintro e w2 ⟨rfl, hb2⟩; have B2 := Lib.hid hb2; clear hb2))
        go_ret3
        have hst : tMap M l = ⟨[], j, er⟩ := by
          unfold tMap
          rw [tRun_stuck (j := j + 1) (by rw [HST2.out]; exact HER.out) (by omega), HST2.out]
        rw [hst]
        exact ⟨_, rfl, ((HM.out.keep BW1.out).keep B2.out).below, .inr ⟨rfl, rfl⟩⟩
    · obtain rfl : j = l.length := by omega
      have HE2 : Hid ((tMap M l).err = 0) := HE.out
      have HM2 : Hid (MpSt w (tMap M l).tab wr) := HM.out
      clear HE HM
      go_wp2_with fail
      go_ret3
      exact ⟨.map (some w.heap.size), by rw [HE2.out, show (tMap M l).at_ = 0 from tRun_at HE2.out]; rfl, HM2.out.below, .inl ⟨_, rfl, HM2.out.map⟩⟩

set_option maxRecDepth 100000 in
theorem tmap_nil (w : World) (v : Value) : Calls Try.prog 48 #[.pointer none, v] w (TabRes w ⟨[], 0, 1⟩) := by
  go_enter Try.func48, Try.ntmps48
  go_wp2_with fail
  go_ret3
  exact ⟨.map none, rfl, Below.refl _ _, .inr ⟨rfl, rfl⟩⟩
end Go.Proofs.Ytepnaalgobhcdaa
