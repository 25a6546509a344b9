/- interpose.sections: an iterator over the sections of pairs, in their order. -/
import Derived.Test.YtepnaalgobhcdaaIpA
namespace Go.Proofs.Ytepnaalgobhcdaa
open Go.RowKit Go.Shelf
attribute [local go_sem] Oper.semAt_some

theorem sections_any (w : World) (img : Array Value) : Calls Try.prog 80 #[.agg img] w fun e w' => e = .returned (.func (.func 91) #[] #[.pointer (some ⟨w.heap.size, 0, none⟩)]) ∧ w' = w.alloc (.cells img 36) := by
  go_enter Try.func80, Try.ntmps80
  go_wp2_with fail
  go_ret
  exact ⟨rfl, rfl⟩

theorem want_take_hit {l : List SecC} {k : Nat} {c : SecC} (h : l[k]? = some c) (hc : isPairs c = true) (pre : List SecC) : want (pre ++ l.take (k + 1)) = want (pre ++ l.take k) ++ [c] := by
  rw [List.take_add_one, h, ← List.append_assoc, want_append]
  simp [want, hc]
theorem want_take_miss {l : List SecC} {k : Nat} {c : SecC} (h : l[k]? = some c) (hc : isPairs c = false) (pre : List SecC) : want (pre ++ l.take (k + 1)) = want (pre ++ l.take k) := by
  rw [List.take_add_one, h, ← List.append_assoc, want_append]
  simp [want, hc]
theorem flat_take {L : List (List SecC)} {i : Nat} {l : List SecC} (h : L[i]? = some l) : (L.take (i + 1)).flatten = (L.take i).flatten ++ l := by
  rw [List.take_add_one, h]; simp
theorem prefix_want {L : List (List SecC)} {i : Nat} {l : List SecC} (h : L[i]? = some l) (k : Nat) : want ((L.take i).flatten ++ l.take k) <+: want L.flatten := by
  have e : L.flatten = ((L.take i).flatten ++ l.take k) ++ (l.drop k ++ (L.drop (i + 1)).flatten) := by
    have h1 : L = L.take i ++ (l :: L.drop (i + 1)) := by
      have := List.take_append_drop i L
      rw [List.drop_eq_getElem_cons (List.getElem?_eq_some_iff.1 h).1, (List.getElem?_eq_some_iff.1 h).2] at this
      exact this.symm
    conv => lhs; rw [h1]
    rw [List.flatten_append, List.flatten_cons, List.append_assoc, ← List.append_assoc (l.take k), List.take_append_drop]
  rw [e, want_append (_ ++ _)]
  exact List.prefix_append _ _
theorem prefix_len {L : List (List SecC)} {i : Nat} {l : List SecC} (h : L[i]? = some l) {k : Nat} {c : SecC} (hk : l[k]? = some c) (hc : isPairs c = true) : (want ((L.take i).flatten ++ l.take k)).length < (want L.flatten).length := by
  have := (prefix_want h (k + 1)).length_le
  rw [want_take_hit hk hc] at this
  simp at this
  omega

theorem below_le' {B k : Nat} {w w' : World} (h : Below k w w') (hB : B ≤ k) : Below B w w' := ⟨h.os, h.tape, h.output, h.size, fun i hi => h.block i (by omega)⟩
set_option maxHeartbeats 4000000 in
set_option maxRecDepth 100000 in
/-- 'func(yield func(api.Section) bool) { for .. for .. if x.Kind == .. && !yield(x) { return } }': for every loop body that keeps what lay in w. -/
theorem sec1_in (F : Fence) (n : Nat) (h91 : F.fn 91) (hro : F.round = none) (hn : 1 ≤ n) (l bx : Nat) (w : World) (img : Array Value) (aS : Option Addr) (cS : Nat) (L : List (List SecC)) (hS : SegsC w aS L) (himg : img[4]? = some (.slice aS L.length cS)) (hcap : L.length ≤ cS ∧ cS ≤ maxLen)
    (J Jx : List SecC → World → Prop)
    (hY : ∀ pre x W, J pre W → pre.length < (want L.flatten).length → YieldAt F (n - 1) Try.prog l #[.agg x.cells] W fun e W' =>
      (e = .returned (.bool true) ∧ J (pre ++ [x]) W' ∧ Below w.heap.size W W') ∨ (e = .returned (.bool false) ∧ Jx (pre ++ [x]) W'))
    (hJ : ∀ pre W o, J pre W → J pre (W.alloc o))
    (W : World) (hW : Below w.heap.size w W) (hbx : W.heap[bx]? = some (.cells img 36 (0, 0))) (h0 : J [] W) :
    CallsIn F n Try.prog 91 #[.func (.yield l) #[] #[], .pointer (some ⟨bx, 0, none⟩)] W fun e W' => (∃ v, e = .returned v) ∧
      ((∃ ys, ys = want L.flatten ∧ J ys W') ∨ (∃ pre, pre <+: want L.flatten ∧ Jx pre W')) := by
  refine callsIn_of_wp Try.func91 rfl h91 ?_ hro
  have c4 : W.cell? ⟨bx, 4, none⟩ = some (.slice aS L.length cS) := by simp [World.cell?, hbx, himg]
  have hcm := hcap.2
  unfold maxLen at hcm
  have hcl := hcap.1
  have HSEG := Lib.hid hS
  have HY := Lib.hid hY
  have HJ := Lib.hid hJ
  have HW := Lib.hid hW
  have H0 := Lib.hid h0
  clear hS hY hJ hW h0 hbx himg hcap
  simp only [Try.ntmps91, List.size_toArray, List.length_cons, List.length_nil, Nat.reduceAdd, Nat.reduceSub, Array.replicate_succ, Array.replicate_zero, List.push_toArray, List.append_toArray, List.nil_append, List.cons_append]
  gi_wp2_with fail
  clear c4
  gi_loopw [10] (fun t wr => ∃ i : Nat, i ≤ L.length ∧ t = .int .i64 i ∧ Hid (J (want (L.take i).flatten) wr) ∧ Hid (Below w.heap.size w wr)) (fun t _ => L.length - (intOf t).toNat)
  case atStart => exact ⟨0, Nat.zero_le _, rfl, H0.out, HW.out⟩
  case round =>
    obtain ⟨i, hi, rfl, HJ1, HB1⟩ := hrel
    by_cases hlt : i < L.length
    · obtain ⟨b, o, rfl, hseg⟩ := HSEG.out.get (by omega)
      obtain ⟨v0, v1, v2, v3, v4, v5, a', c', k1, k2, k3, k4⟩ := hseg i hlt
      obtain ⟨ls, hls⟩ : ∃ ls, L[i]? = some ls := ⟨L[i], List.getElem?_eq_getElem hlt⟩
      have hld : L.getD i [] = ls := by rw [List.getD_eq_getElem?_getD, hls]; rfl
      rw [hld] at k1 k2 k4
      have HLS := Lib.hid hls
      have HC := Lib.hid (k1.below HB1.out (fun _ => k1.lt (by simp)))
      have HS4 := Lib.hid k4
      unfold maxLen at k3
      have z1 : (i : Int) < (L.length : Int) := by omega
      clear hseg k1 k4 hls hld
      obtain ⟨OB, hOB⟩ : ∃ OB : Obj, OB = .cells #[.string v0, .int .u64 v1, .int .u64 v2, .int .u64 v3, .int .u64 v4, .int .i64 v5, .slice a' ls.length c'] 128 := ⟨_, rfl⟩
      have HJ2 : Hid (J (want (L.take i).flatten) (wr.alloc OB)) := HJ.out _ _ _ HJ1.out
      have HB2 : Hid (Below w.heap.size w (wr.alloc OB)) := HB1.out.alloc HB1.out.size _
      have hcl2 := k2
      rw [hOB] at HJ2 HB2
      clear hOB
      gi_wp2_with (refine wpListIn_load_agg rfl 128 (.tmp 12) rfl b (o + i * 7) (by simp [Act.eval]) _ _ HC.out Try.underlying128 rfl size128 ?_)
      gi_loopw [17] (fun t wr => ∃ k : Nat, k ≤ ls.length ∧ t = .int .i64 k ∧ Hid (J (want ((L.take i).flatten ++ ls.take k)) wr) ∧ Hid (Below w.heap.size w wr)) (fun t _ => ls.length - (intOf t).toNat)
      case atStart => exact ⟨0, Nat.zero_le _, rfl, by show J _ _; rw [List.take_zero, List.append_nil]; exact HJ2.out, HB2.out⟩
      case round =>
        obtain ⟨k, hk, rfl, HK1, HKB⟩ := hrel
        by_cases hkl : k < ls.length
        · obtain ⟨b2, o2, rfl, hsec⟩ := HS4.out.get (by omega)
          have hs1 := hsec k hkl
          obtain ⟨c, hc⟩ : ∃ c, ls[k]? = some c := ⟨ls[k], List.getElem?_eq_getElem hkl⟩
          have hcd : ls.getD k .none = c := by rw [List.getD_eq_getElem?_getD, hc]; rfl
          rw [hcd] at hs1
          have HCC := Lib.hid (hs1.below HKB.out (fun _ => hs1.lt (by simp [SecC.cells])))
          have y1 : (k : Int) < (ls.length : Int) := by omega
          have HCK := Lib.hid hc
          obtain ⟨OC, hOC⟩ : ∃ OC : Obj, OC = .cells c.cells 164 := ⟨_, rfl⟩
          have hj3 : J (want ((L.take i).flatten ++ ls.take k)) (wr.alloc OC) := HJ.out _ _ _ HK1.out
          have hb3 : Below w.heap.size w (wr.alloc OC) := HKB.out.alloc HKB.out.size _
          unfold SecC.cells at HCC hOC
          clear hsec hs1 hcd hc
          by_cases hp : isPairs c = true
          · have hyy := HY.out _ c (wr.alloc OC) hj3 (prefix_len HLS.out HCK.out hp)
            have HEQ := Lib.hid (want_take_hit HCK.out hp (L.take i).flatten)
            have e13 : ((c.x.kind : Int) == 13) = true := hp
            rw [hOC] at hyy hb3
            unfold SecC.cells at hyy
            have HB3 := Lib.hid hb3
            obtain ⟨fn, tmps, assign, body, hy, hR⟩ := hyy
            have HRR := Lib.hid hR
            clear hR hb3 hj3 hp hOC
            gi_wp2_with (refine wpListIn_load_agg rfl 164 (.tmp 19) rfl b2 (o2 + k * 6) (by simp [Act.eval]) _ _ HCC.out Try.underlying164 rfl size164 ?_)
            refine HRR.out.mono ?_
            rintro e W3 (⟨rfl, hJ3, hk3⟩ | ⟨rfl, hJx3⟩)
            · have HJ3 : Hid (J (want ((L.take i).flatten ++ ls.take (k + 1))) W3) := by show J _ _; rw [HEQ.out]; exact hJ3
              have HB4 := Lib.hid (HB3.out.trans hk3)
              clear hJ3 hk3
              gi_wp2_with fail
              go_roundw
              case rel => exact ⟨k + 1, by omega, by go_num, HJ3.out, HB4.out⟩
              case measure => simp [intOf]; omega
            · have HJX := Lib.hid hJx3
              have HPF : Hid (want ((L.take i).flatten ++ ls.take k) ++ [c] <+: want L.flatten) := by
                show _ <+: _
                rw [← HEQ.out]; exact prefix_want HLS.out (k + 1)
              clear hJx3
              gi_wp2_with fail
              refine bodyPost_ret (results_none rfl _ _ _) rfl ?_
              exact ⟨⟨_, rfl⟩, .inr ⟨_, HPF.out, HJX.out⟩⟩
          · have hpf : isPairs c = false := by simpa using hp
            have HEQ := Lib.hid (want_take_miss HCK.out hpf (L.take i).flatten)
            have e13 : ((c.x.kind : Int) == 13) = false := hpf
            rw [hOC] at hj3 hb3
            have HB3 := Lib.hid hb3
            have HJ3 := Lib.hid hj3
            clear hb3 hj3 hp hpf hOC
            gi_wp2_with (refine wpListIn_load_agg rfl 164 (.tmp 19) rfl b2 (o2 + k * 6) (by simp [Act.eval]) _ _ HCC.out Try.underlying164 rfl size164 ?_)
            refine ⟨fun f hf => (by cases hf), ?_⟩
            gi_wp2_with fail
            go_roundw
            case rel => exact ⟨k + 1, by omega, by go_num, by show J _ _; rw [HEQ.out]; exact HJ3.out, HB3.out⟩
            case measure => simp [intOf]; omega
        · obtain rfl : k = ls.length := by omega
          have HJ4 : Hid (J (want (L.take (i + 1)).flatten) wr) := by
            show J _ _
            have := HK1.out
            rw [List.take_length] at this
            rw [flat_take HLS.out]; exact this
          gi_wp2_with fail
          go_roundw
          case rel => exact ⟨i + 1, by omega, by go_num, HJ4.out, HKB.out⟩
          case measure => simp [intOf]; omega
    · obtain rfl : i = L.length := by omega
      have HJ5 := Lib.hid HJ1.out
      rw [List.take_length] at HJ5
      gi_wp2_with fail
      go_end0
      exact ⟨⟨_, rfl⟩, .inl ⟨_, rfl, HJ5.out⟩⟩

theorem sections_stops (F : Fence) (n : Nat) (h91 : F.fn 91) (hro : F.round = none) (hn : 1 ≤ n) (bx : Nat) (w : World) (img : Array Value) (aS : Option Addr) (cS : Nat) (L : List (List SecC)) (hS : SegsC w aS L) (himg : img[4]? = some (.slice aS L.length cS)) (hcap : L.length ≤ cS ∧ cS ≤ maxLen)
    (w0 : World) (hw0 : Below w.heap.size w w0) (hbx : w0.heap[bx]? = some (.cells img 36 (0, 0))) :
    SeqStopsK F n Try.prog 91 #[.pointer (some ⟨bx, 0, none⟩)] (fun x : SecC => #[.agg x.cells]) (Below w.heap.size) (fun ys => ys = want L.flatten) (fun pre => pre <+: want L.flatten) (want L.flatten).length w0 := fun l J Jx W hW hJ hJx hY h0 =>
  sec1_in F n h91 hro hn l bx w img aS cS L hS himg hcap J Jx hY (fun pre W' o h => hJ pre W' _ none h (World.grownBy_alloc W' o none) (fun r e => by cases e)) W (hw0.trans (below_le' hW hw0.size)) ((hW.block bx (lt_of_block hbx)).trans hbx) h0
end Go.Proofs.Ytepnaalgobhcdaa
