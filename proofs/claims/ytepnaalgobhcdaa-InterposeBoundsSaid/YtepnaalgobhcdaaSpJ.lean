/- *Space.Read: the bytes that are there, page by page. -/
import Derived.Test.YtepnaalgobhcdaaSpI
import Derived.Test.YtepnaalgobhcdaaOrdD
namespace Go.Proofs.Ytepnaalgobhcdaa
open Go.RowKit Spm

def bvs (bs : List UInt8) : List Value := bs.map byteVal
theorem bvs_len {L : List UInt8} (hl : L.length = 4096) {r j : Nat} (h : j ≤ 4096 - r) : (bvs ((L.drop r).take j)).length = j * 1 := by
  unfold bvs
  rw [List.length_map, List.length_take, List.length_drop, hl]
  omega
theorem infoU8 : (Try.prog.info? 5).map (fun i => (i.zero, i.size, i.bytes)) = some (some (.int .u8 0), 1, 1) := by kernel_rfl
def ReadRes (w : World) (M : List Pg) (a n : Nat) (e : Ending) (w' : World) : Prop :=
  ∃ v, e = .returned (.tuple #[v, .int .i64 (readErr M a n)]) ∧ Below w.heap.size w w' ∧ (readErr M a n ≠ 0 → v = .slice none 0 0) ∧ (readErr M a n = 0 → w'.ownsRow w.heap.size 5 1 v n (bvs (readAll M a n)))
/-- k bytes have been read. -/
structure ReadSt (w : World) (M : List Pg) (a k : Nat) (v : Value) (wr : World) : Prop where
  own : wr.ownsRow w.heap.size 5 1 v k (bvs (readAll M a k))
  below : Below w.heap.size w wr
theorem bytes_page {w : World} {g : Nat} {L : List UInt8} (h : w.heap[g]? = some (.cells (bytesArr L) 140 (0, 0))) {r m : Nat} (j : Nat) (u : Value) (hu : (bvs ((L.drop r).take m))[j]? = some u) : w.cell? ((⟨g, r, none⟩ : Addr).add j) = some u := by
  have e : (⟨g, r, none⟩ : Addr).add j = ⟨g, r + j, none⟩ := by simp [Addr.add]
  rw [e]
  unfold bvs at hu
  rw [List.getElem?_map, List.getElem?_take] at hu
  by_cases hj : j < m
  · rw [if_pos hj, List.getElem?_drop] at hu
    simp only [World.cell?, h]
    unfold bytesArr
    show (Array.mk (L.map byteVal))[r + j]? = some u
    simpa using hu
  · rw [if_neg hj] at hu; cases hu
theorem below_row {w w' : World} {e : TypeId} {sz : Nat} {v : Value} {k : Nat} {xs : List Value} (hb : Below w.heap.size w w') (h : w'.ownsRow w.heap.size e sz v k xs) {w2 : World} (hg : w'.grownBy w2 v.ownBlock) : Below w.heap.size w w2 := by
  refine hb.trans ⟨hg.os, hg.tape, hg.output, hg.size, fun i hi => ?_⟩
  rcases h.2 with ⟨rfl, _⟩ | ⟨g, cap, cur, rfl, hbg, hgb, _⟩
  · exact hg.block i (by have := hb.size; omega) (by simp [Value.ownBlock])
  · exact hg.block i (by have := hb.size; omega) (by simp [Value.ownBlock]; omega)
theorem bvs_one (bs : List UInt8) : ∀ u ∈ bvs bs, u.oneCell' = true := fun u hu => by
  obtain ⟨x, _, rfl⟩ := List.mem_map.1 hu; rfl

set_option maxHeartbeats 2000000 in
set_option maxRecDepth 100000 in
theorem read_good (w : World) (b : Nat) (M : List Pg) (F : Nat → Prop) (h : SpIn w b M F) (a n : Nat) (ha : a < 18446744073709551616) (he : readErr M a n = 0) :
    Calls Try.prog 35 #[.pointer (some ⟨b, 0, none⟩), .int .u64 a, .int .u64 n] w (ReadRes w M a n) := by
  have hbig : ¬ 1048576 < n := fun hb => by unfold readErr at he; rw [if_pos hb] at he; cases he
  have hl : lookErr M a n 1 = 0 := by unfold readErr at he; rw [if_neg hbig] at he; exact he
  have HL : Hid (Calls Try.prog 75 #[.pointer (some ⟨b, 0, none⟩), .int .u64 a, .int .u64 n, .int .i64 1] w (LookRes w 0)) := by
    have := look_any w b M F h a n ha 1 (by decide); rw [hl] at this; exact this
  have hall : 0 < n → a + n ≤ 140737488355328 ∧ missing M (fst a) (lst a n) = false := fun h0 => by
    unfold lookErr at hl
    rw [if_neg (by omega)] at hl
    cases hi : inB a n with
    | false => rw [hi] at hl; cases hl
    | true =>
      rw [hi, if_neg (by decide)] at hl
      cases hm : missing M (fst a) (lst a n) with
      | false => simp [inB] at hi; exact ⟨hi.2, rfl⟩
      | true => rw [hm] at hl; cases hl
  have HALL := Lib.hid hall
  have HE := Lib.hid he
  have HH := Lib.hid h
  obtain ⟨i0, hi0, hz0, hz1, hz2⟩ := info_parts infoU8
  have hfld := field142
  clear h hl hall he
  go_enter Try.func35, Try.ntmps35
  go_wp2_with (go_at_call 75; refine HL.out.mono ?_; rintro e w1 ⟨rfl, hb1⟩; obtain ⟨wm, hmk, hown, hgrow⟩ := run_make_own (P := Try.prog) (w := w1) w.heap.size 57 5 i0 (.int .u8 0) 1 Try.underlying57 hi0 hz0 hz1 .i64 .u64 n (by rw [hz2]; omega) (by unfold maxLen; omega) hb1.size; have HBM : Hid (Below w.heap.size w wm) := hb1.trans ⟨hgrow.os, hgrow.tape, hgrow.output, hgrow.size, fun i hi => hgrow.block i (by have := hb1.size; omega) (by simp)⟩; have HOM := Lib.hid hown; clear hb1 hown hgrow)
  clear hmk
  go_loopw [9, 10] (fun v t wr => ∃ (k m : Nat) (ad : Option Addr) (cp : Nat), v = .slice ad k cp ∧ t = .int .u64 m ∧ k + m = n ∧ Hid (ReadSt w M a k (.slice ad k cp) wr)) (fun _ t _ => (intOf t).toNat)
  case atStart => exact ⟨0, n, _, _, rfl, rfl, Nat.zero_add _, ⟨by have := HOM.out; unfold bvs readAll; simpa using this, HBM.out⟩⟩
  case round =>
    obtain ⟨k, m, ad, cp, rfl, rfl, hkm, HP⟩ := hrel
    by_cases hm : 0 < m
    · obtain ⟨hin, hmiss⟩ := HALL.out (by omega)
      have hsp := HH.out.keepB HP.out.below
      obtain ⟨mb, A, hb, hpg⟩ := hsp.own
      have cb := cell_of_one hb
      have HPM := Lib.hid hpg.map
      obtain ⟨at_, hat⟩ : ∃ at_, at_ = a + k := ⟨_, rfl⟩
      obtain ⟨q, hq⟩ : ∃ q, q = at_ / 4096 := ⟨_, rfl⟩
      obtain ⟨r, hr⟩ : ∃ r, r = at_ % 4096 := ⟨_, rfl⟩
      have hr' : r < 4096 := by omega
      obtain ⟨p, hp⟩ := missing_false hmiss (n := q) (by unfold fst; omega) (by unfold lst; omega)
      have hf : pgFn M A q = some (A q, p.prot) := by unfold pgFn; rw [hp]; rfl
      have HF := Lib.hid hf
      have hpm := hpg.page p (pg_mem hp).1
      rw [(pg_mem hp).2] at hpm
      have HPG := Lib.hid hpm.2
      have hpl := (hsp.ok.pages p (pg_mem hp).1).2.2.2
      obtain ⟨e, he⟩ : ∃ e, e = min 4096 (r + m) := ⟨_, rfl⟩
      have hre : r < e := by omega
      have hle : e ≤ 4096 := by omega
      obtain ⟨j, hj⟩ : ∃ j, j = e - r := ⟨_, rfl⟩
      have hjm : j ≤ m := by omega
      have hj0 : 0 < j := by omega
      have hjr : j ≤ 4096 - r := by omega
      have hstep : ∀ v' w2, w2.ownsRow w.heap.size 5 1 v' (k + j) (bvs (readAll M a k) ++ bvs ((p.bytes.drop r).take j)) → wr.grownBy w2 (Value.slice ad k cp).ownBlock → ReadSt w M a (k + j) v' w2 := fun v' w2 h1 h2 => by
        refine ⟨?_, below_row HP.out.below HP.out.own h2⟩
        rw [readAll_add, ← hat, readAll_chunk (a := at_) (p := p) (by rw [← hq]; exact hp) hpl (by omega), ← hr]
        unfold bvs at h1 ⊢
        rw [List.map_append]; exact h1
      have HSTEP := Lib.hid hstep
      have HNL := Lib.hid (bvs_len hpl hjr)
      have ea : (a : Int) + (k : Int) = (at_ : Int) := by omega
      have ed : (at_ : Int) / 4096 = (q : Int) := by omega
      have em : (at_ : Int) % 4096 = (r : Int) := by omega
      have hqb : q < 34359738368 := by omega
      have hslc := fun W : World => slice140' W (A q) r e (by omega) hle hr'
      have HAT := Lib.hid hat
      clear hf hp hpg hb hq hr hpm hstep hpl hsp hmiss hat
      by_cases hs : 4096 ≤ r + m
      · have hee : e = 4096 := by omega
        subst hee
        have i1 : ¬ (r : Int) + (m : Int) < (4096 : Int) := by omega
        have hslc' : ∀ W : World, (Instr.sliceAt 140 (.pointer (some ⟨A q, 0, none⟩)) (some (.int .u64 (r : Int))) (some (.int .u64 4096)) none).run Try.prog W = .ok (.slice (some ⟨A q, r, none⟩) j (4096 - r)) W := fun W => by rw [hj]; exact hslc W
        have HJ : Hid (r + j = 4096) := by show r + j = 4096; omega
        clear he hslc hj
        go_wp2_with (first
          | (refine wpList_page_there rfl (.tmp 47) (.tmp 49) rfl mb HPM.out rfl q (by omega) (by simp [Act.eval]) _ HF.out ?_)
          | (at_builtin; refine wpList_append_own _ rfl _ _ 57 rfl w.heap.size 5 i0 (.int .u8 0) 1 1 Try.underlying57 hi0 hz0 hz1 hz2 rfl (by decide) _ _ _ rfl HP.out.own ⟨A q, r, none⟩ j (4096 - r) (bvs ((p.bytes.drop r).take j)) rfl HNL.out (fun j u hu => bytes_page HPG.out j u hu) (bvs_one _) (by unfold maxLen; omega) (by omega) HP.out.below.size ?_; intro v' w2 hown' hgrow _; have HS2 := Lib.hid (HSTEP.out v' w2 hown' hgrow); obtain ⟨ad2, cp2, rfl⟩ := ownsRow_shape hown'; clear hown' hgrow))
        refine ⟨⟨k + j, m - j, ad2, cp2, rfl, by go_num, by omega, HS2.out⟩, ?_⟩
        show (((n : Int) - ((k : Int) + (j : Int))).toNat) < ((m : Int)).toNat
        omega
      · have hee : e = r + m := by omega
        subst hee
        have i1 : (r : Int) + (m : Int) < (4096 : Int) := by omega
        have hslc' : ∀ W : World, (Instr.sliceAt 140 (.pointer (some ⟨A q, 0, none⟩)) (some (.int .u64 (r : Int))) (some (.int .u64 ((r : Int) + (m : Int)))) none).run Try.prog W = .ok (.slice (some ⟨A q, r, none⟩) j (4096 - r)) W := fun W => by
          have := hslc W
          rw [← hj] at this
          rw [show (r : Int) + (m : Int) = ((r + m : Nat) : Int) by omega]; exact this
        have HJ : Hid (j = m) := by show j = m; omega
        clear he hslc hj hle hre
        go_wp2_with (first
          | (refine wpList_page_there rfl (.tmp 47) (.tmp 49) rfl mb HPM.out rfl q (by omega) (by simp [Act.eval]) _ HF.out ?_)
          | (at_builtin; refine wpList_append_own _ rfl _ _ 57 rfl w.heap.size 5 i0 (.int .u8 0) 1 1 Try.underlying57 hi0 hz0 hz1 hz2 rfl (by decide) _ _ _ rfl HP.out.own ⟨A q, r, none⟩ j (4096 - r) (bvs ((p.bytes.drop r).take j)) rfl HNL.out (fun j u hu => bytes_page HPG.out j u hu) (bvs_one _) (by unfold maxLen; omega) (by omega) HP.out.below.size ?_; intro v' w2 hown' hgrow _; have HS2 := Lib.hid (HSTEP.out v' w2 hown' hgrow); obtain ⟨ad2, cp2, rfl⟩ := ownsRow_shape hown'; clear hown' hgrow))
        refine ⟨⟨k + j, m - j, ad2, cp2, rfl, by go_num, by omega, HS2.out⟩, ?_⟩
        show (((n : Int) - ((k : Int) + (j : Int))).toNat) < ((m : Int)).toNat
        omega
    · obtain rfl : m = 0 := by omega
      obtain rfl : k = n := by omega
      go_wp2_with fail
      go_ret2
      exact ⟨_, by rw [HE.out]; rfl, HP.out.below, fun h0 => absurd HE.out h0, fun _ => HP.out.own⟩
end Go.Proofs.Ytepnaalgobhcdaa
