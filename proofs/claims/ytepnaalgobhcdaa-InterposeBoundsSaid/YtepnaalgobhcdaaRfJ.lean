/- The reference's Read. -/
import Derived.Test.YtepnaalgobhcdaaRfI
import Derived.Deep.AppendLies
import Derived.Deep.RegionLaw
namespace Go.Proofs.Ytepnaalgobhcdaa
open Go.RowKit Spm

theorem readAll_succ (M : List Pg) (a k : Nat) : readAll M a (k + 1) = readAll M a k ++ [byteAt M (a + k)] := by
  unfold readAll; rw [List.range_succ, List.map_append]; rfl
structure RRSt (w : World) (M : List Pg) (a k : Nat) (v : Value) (wr : World) : Prop where
  own : wr.ownsRow w.heap.size 5 1 v k (bvs (readAll M a k))
  below : Below w.heap.size w wr

set_option maxHeartbeats 4000000 in
set_option maxRecDepth 100000 in
theorem rread_any (w : World) (b : Nat) (M : List Pg) (F : Nat → Prop) (h : RfIn w b M F) (a n : Nat) (ha : a < 18446744073709551616) :
    Calls Try.prog 68 #[.pointer (some ⟨b, 0, none⟩), .int .u64 a, .int .u64 n] w (ReadRes w M a n) := by
  by_cases hbig : 1048576 < n
  · have HR := Lib.hid (ReadRes.no (w := w) (M := M) (a := a) (n := n) (er := 4) (by unfold readErr; rw [if_pos hbig]) (by decide) (Below.refl _ w))
    have i1 : (1048576 : Int) < (n : Int) := by omega
    clear h hbig
    go_enter Try.func68, Try.ntmps68
    go_wp2_with fail
    go_ret2
    exact HR.out
  · have e : readErr M a n = lookErr M a n 1 := by unfold readErr; rw [if_neg hbig]
    have HL : Hid (Calls Try.prog 88 #[.pointer (some ⟨b, 0, none⟩), .int .u64 a, .int .u64 n, .int .i64 1] w fun e w' => e = .returned (.int .i64 (readErr M a n)) ∧ w = w') := by
      have := rlook_any w b M F h a n ha 1 (by decide); rw [← e] at this; exact this
    have i1 : ¬ (1048576 : Int) < (n : Int) := by omega
    by_cases he : readErr M a n = 0
    · have hx : 0 < n → inB a n = true ∧ missing M (fst a) (lst a n) = false := fun h0 => by
        rw [he] at e
        unfold lookErr at e
        rw [if_neg (by omega)] at e
        cases hi : inB a n with
        | false => rw [hi] at e; cases e
        | true =>
          rw [hi, if_neg (by decide)] at e
          cases hm : missing M (fst a) (lst a n) with
          | false => exact ⟨rfl, rfl⟩
          | true => rw [hm] at e; cases e
      have HX := Lib.hid hx
      have HE := Lib.hid he
      rw [he] at HL
      have HH := Lib.hid h
      obtain ⟨i0, hi0, hz0, hz1, hz2⟩ := info_parts infoU8
      clear he hx h e
      go_enter Try.func68, Try.ntmps68
      go_wp2_with (go_at_call 88; refine HL.out.mono ?_; rintro e _ ⟨rfl, rfl⟩)
      clear HL i1
      go_loopw [9, 10] (fun v t wr => ∃ (k : Nat) (ad : Option Addr) (cp : Nat), k ≤ n ∧ t = .int .u64 k ∧ v = .slice ad k cp ∧ Hid (RRSt w M a k (.slice ad k cp) wr)) (fun _ t _ => n - (intOf t).toNat)
      case atStart => exact ⟨0, none, 0, Nat.zero_le _, rfl, rfl, World.ownsRow_nil _ _ _ _, Below.refl _ _⟩
      case round =>
        obtain ⟨k, ad, cp, hk, rfl, rfl, HS⟩ := hrel
        by_cases hlt : k < n
        · obtain ⟨hin, hmiss⟩ := HX.out (by omega)
          have hab : a + n ≤ 140737488355328 := by simp [inB] at hin; exact hin.2
          obtain ⟨cc, hcc⟩ : ∃ cc, cc = a + k := ⟨_, rfl⟩
          obtain ⟨p, hp⟩ := missing_false hmiss (n := cc / 4096) (by unfold fst; omega) (by unfold lst; omega)
          have hsp := HH.out.keepB HS.out.below
          obtain ⟨aA, cA, aB, cB, aP, cP, A, C, hb, hpg⟩ := hsp.own
          have hhas := rhas_any wr b _ F hsp cc (by omega)
          obtain ⟨i, hix, hpi⟩ := hasIx_some hp
          rw [hix] at hhas
          have hil := (List.getElem?_eq_some_iff.1 hpi).1
          have hpm := List.mem_of_getElem? hpi
          have hfew := hsp.ok.few
          have hpb := hsp.ok.pages p hpm
          obtain ⟨ga, rfl, _, hga⟩ := hpg.ats.get (by omega)
          obtain ⟨gb, rfl, _, hgb⟩ := hpg.bys.get (by omega)
          have ca := hga i (.int .u64 ((p.num * 4096 : Nat) : Int)) (by unfold atVals; rw [List.getElem?_map, hpi]; rfl)
          have cb := hgb i (.slice (some ⟨A p.num, 0, none⟩) 4096 (C p.num)) (by unfold bsVals; rw [List.getElem?_map, hpi]; rfl)
          obtain ⟨ix, hixx⟩ : ∃ ix, ix = cc % 4096 := ⟨_, rfl⟩
          have hix4 : ix < 4096 := by omega
          have hnum := (pg_mem hp).2
          obtain ⟨cx, fx⟩ := (hpg.page p hpm).cell (i := ix) (by rw [hpb.2.2.2]; exact hix4) hix4
          have hbyte : byteAt M (a + k) = p.bytes.getD ix 0 := by unfold byteAt; rw [← hcc, hp, ← hixx]
          have c0 : wr.cell? ⟨b, 0, none⟩ = some (.slice (some ⟨ga, 0, none⟩) M.length cA) := by simp [World.cell?, hb, rfCells]
          have c1 : wr.cell? ⟨b, 1, none⟩ = some (.slice (some ⟨gb, 0, none⟩) M.length cB) := by simp [World.cell?, hb, rfCells]
          obtain ⟨x, hxx⟩ : ∃ x, x = p.bytes.getD ix 0 := ⟨_, rfl⟩
          rw [← hxx] at cx hbyte
          have hnext : ∀ v' w2 wt, Below wr.heap.size wr wt → w2.ownsRow w.heap.size 5 1 v' (k + 1) (bvs (readAll M a k) ++ [byteVal x]) → wt.grownBy w2 (Value.slice ad k cp).ownBlock → RRSt w M a (k + 1) v' w2 := fun v' w2 wt h0 h1 h2 => by
            refine ⟨?_, (push_core HS.out.below HS.out.own h0 h2).2⟩
            rw [readAll_succ, hbyte]
            unfold bvs at h1 ⊢
            rw [List.map_append]; exact h1
          have HNEXT := Lib.hid hnext
          have HH2 := Lib.hid hhas
          have hcap1 := hpg.ats.cap
          have hcap2 := hpg.bys.cap
          obtain ⟨at_, hat⟩ : ∃ at_, at_ = p.num * 4096 := ⟨_, rfl⟩
          rw [← hat] at ca
          have hcat : cc = at_ + ix := by omega
          have hatb : at_ < 140737488355328 := by omega
          have hccb : cc < 140737488355328 := by omega
          have e1 : (a : Int) + (k : Int) = (cc : Int) := by omega
          have e2 : (cc : Int) - (at_ : Int) = (ix : Int) := by omega
          have z1 : (i : Int) < (M.length : Int) := by omega
          have z2 : (ix : Int) < 4096 := by omega
          generalize A p.num = AA at *
          generalize C p.num = CC at *
          unfold byteVal at cx HNEXT
          have hx1 : x.toNat < 256 := x.toNat_lt
          generalize x.toNat = bx at *
          clear hin hmiss hcc hp hhas hix hpi hga hgb hixx hnum hb hpg hat hcat hpm hpb hsp hnext hbyte hxx
          go_wp2_with (go_at_call 71; refine HH2.out.mono ?_; rintro e _ ⟨rfl, rfl⟩)
          have hbz := HS.out.below.size
          have hkn : k + 1 ≤ 1048576 := by omega
          have HWT : Hid (∀ o, Below wr.heap.size wr (wr.alloc o).drew) := fun o => ((Below.refl _ wr).alloc (Nat.le_refl _) o).drew
          have HM1 : Hid (k + 1 ≤ maxLen) := by show k + 1 ≤ maxLen; unfold maxLen; omega
          have HM2 : Hid ((k + 1) * 1 ≤ 140737488355328) := by show (k + 1) * 1 ≤ _; omega
          have HM3 : Hid (w.heap.size ≤ wr.heap.size + 1) := by show w.heap.size ≤ _; omega
          have w1 := u64n (n := k) (by omega)
          have w2 := u64n (n := cc) (by omega)
          have w3 := u64n (n := ix) (by omega)
          go_region_law (refine step_append_lies _ rfl (.tmp 31) (.tmp 52) 57 rfl w.heap.size 5 i0 (.int .u8 0) 1 1 Try.underlying57 hi0 hz0 hz1 hz2 rfl (by decide) (.slice ad k cp) k (bvs (readAll M a k)) rfl (owns_same (HS.out.own.alloc _) fun _ _ => rfl) ⟨wr.heap.size, 0, none⟩ 1 1 [.int .u8 (bx : Int)] rfl rfl (World.news_of_block (hp_new wr _ _ rfl)) (by simp [Value.oneCell']) (by decide) HM1.out HM2.out (by simp; exact HM3.out) _ rfl ?_; intro gN cN w2' hown' hgrow _ _; have HS2 := Lib.hid (HNEXT.out _ w2' _ (HWT.out _) hown' hgrow); clear hown' hgrow)
          all_goals
            clear w1 w2 w3
            go_wp2_with fail
            go_roundw
            case rel => exact ⟨k + 1, _, _, by omega, by go_num, rfl, HS2.out⟩
            case measure => simp [intOf]; omega
        · obtain rfl : k = n := by omega
          go_wp2_with fail
          go_ret2
          exact ⟨_, by rw [HE.out]; rfl, HS.out.below, fun h0 => absurd HE.out h0, fun _ => HS.out.own⟩
    · have hres : ReadRes w M a n (.returned (.tuple #[.slice none 0 0, .int .i64 (readErr M a n)])) w := ReadRes.no rfl he (Below.refl _ w)
      have HR := Lib.hid hres
      generalize readErr M a n = er at *
      have i2 : ((er : Int) != 0) = true := by rw [bne_iff_ne]; exact he
      clear h he hbig hres e
      go_enter Try.func68, Try.ntmps68
      go_wp2_with (go_at_call 88; refine HL.out.mono ?_; rintro e _ ⟨rfl, rfl⟩)
      go_ret2
      exact HR.out
end Go.Proofs.Ytepnaalgobhcdaa
