/- The reference's Write: what a stored byte does. -/
import Derived.Test.YtepnaalgobhcdaaRfH
import Derived.Test.YtepnaalgobhcdaaRfC
import Derived.StillTailTactics
namespace Go.Proofs.Ytepnaalgobhcdaa
open Go.RowKit Spm

theorem u64n {n : Nat} (h : n < 18446744073709551616) : IntKind.u64.wrap (n : Int) = (n : Int) := by
  rw [show IntKind.u64.wrap (n : Int) = ((n : Int) % 18446744073709551616) from rfl]; omega
theorem atVals_wr1 (M : List Pg) (c : Nat) (x : UInt8) : atVals (wr1 M c x) = atVals M := by
  unfold atVals wr1; rw [List.map_map]; refine List.map_congr_left fun p _ => ?_; simp only [Function.comp]; split <;> rfl
theorem prVals_wr1 (M : List Pg) (c : Nat) (x : UInt8) : prVals (wr1 M c x) = prVals M := by
  unfold prVals wr1; rw [List.map_map]; refine List.map_congr_left fun p _ => ?_; simp only [Function.comp]; split <;> rfl
theorem bsVals_wr1 (A C : Nat → Nat) (M : List Pg) (c : Nat) (x : UInt8) : bsVals A C (wr1 M c x) = bsVals A C M := by
  unfold bsVals wr1; rw [List.map_map]; refine List.map_congr_left fun p _ => ?_; simp only [Function.comp]; split <;> rfl
theorem wr1_length (M : List Pg) (c : Nat) (x : UInt8) : (wr1 M c x).length = M.length := by simp [wr1]
theorem mem_wr1 {M : List Pg} {c : Nat} {x : UInt8} {p : Pg} (h : p ∈ wr1 M c x) : ∃ q ∈ M, p.num = q.num ∧ p.prot = q.prot ∧ ((q.num = c / 4096 ∧ p.bytes = q.bytes.set (c % 4096) x) ∨ (q.num ≠ c / 4096 ∧ p = q)) := by
  unfold wr1 at h
  obtain ⟨q, hq, rfl⟩ := List.mem_map.1 h
  refine ⟨q, hq, ?_⟩
  by_cases e : q.num = c / 4096
  · rw [if_pos e]; exact ⟨rfl, rfl, .inl ⟨e, rfl⟩⟩
  · rw [if_neg e]; exact ⟨rfl, rfl, .inr ⟨e, rfl⟩⟩
/-- A row of another type is not the block of bytes. -/
theorem RfRow.other {w w' : World} {R : Nat → Prop} {e : TypeId} {a : Option Addr} {n c : Nat} {xs : List Value} (h : RfRow w R e a n c xs) {g : Nat} {cur : Array Value} (hg : w.heap[g]? = some (.cells cur 5 (0, 0))) (he : (5 : TypeId) ≠ e) (hs : ∀ k, k ≠ g → w'.heap[k]? = w.heap[k]?) : RfRow w' R e a n c xs :=
  ⟨owns_same h.own fun k hk => hs k fun e' => row_other h.own he hg (by rw [hk, e']), h.inF⟩
theorem RfIn.set {w w' : World} {b : Nat} {M : List Pg} {F : Nat → Prop} (h : RfIn w b M F) {aA : Option Addr} {cA : Nat} {aB : Option Addr} {cB : Nat} {aP : Option Addr} {cP : Nat} {A C : Nat → Nat}
    (hb : w.heap[b]? = some (rfCells M.length aA cA aB cB aP cP)) (hp : RfPages w F F M aA cA aB cB aP cP A C) {p : Pg} (hpm : p ∈ M) {c : Nat} (hc : p.num = c / 4096) (x : UInt8) (hw : w' = (w.drew.setCell ⟨A p.num, c % 4096, none⟩ (byteVal x))) :
    RfIn w' b (wr1 M c x) F ∧ Chg F w w' ∧ w'.heap.size = w.heap.size := by
  obtain ⟨hF, cur, h1, h2, h3, h4, h5⟩ := hp.page p hpm
  have hs : ∀ k, k ≠ A p.num → w'.heap[k]? = w.heap[k]? := fun k hk => by rw [hw]; exact heap_setCell_other _ _ _ _ hk
  have hsz : w'.heap.size = w.heap.size := by rw [hw]; simp [World.setCell]
  have hnew : w'.heap[A p.num]? = some (.cells (cur.setIfInBounds (c % 4096) (byteVal x)) 5 (0, 0)) := by
    rw [hw]; exact heap_setCell_same w.drew _ _ _ _ _ h1
  have hbA : b ≠ A p.num := fun e => by
    rw [← e, hb] at h1
    have := Option.some.inj h1
    unfold rfCells at this
    injection this with _ h6 _
    revert h6; decide
  have hpl : p.bytes.length = 4096 := (h.ok.pages p hpm).2.2.2
  refine ⟨⟨(wrAll_alike [x] M c).ok h.ok, ⟨aA, cA, aB, cB, aP, cP, A, C, by rw [wr1_length, hs b hbA]; exact hb, ?_, ?_, ?_, fun q hq => ?_, fun q hq q' hq' e => ?_⟩, h.fb, fun k hk => by rw [hsz]; exact h.lt k hk⟩, ?_, hsz⟩
  · rw [wr1_length, atVals_wr1]; exact hp.ats.other h1 (by decide) hs
  · rw [wr1_length, bsVals_wr1]; exact hp.bys.other h1 (by decide) hs
  · rw [wr1_length, prVals_wr1]; exact hp.prs.other h1 (by decide) hs
  · obtain ⟨q0, hq0, e1, e2, e3⟩ := mem_wr1 hq
    rcases e3 with ⟨e3, e4⟩ | ⟨e3, e4⟩
    · have e5 : q0 = p := ok_unique h.ok hq0 hpm (by rw [e3, hc])
      subst e5
      refine ⟨by rw [e1]; exact hF, _, by rw [e1]; exact hnew, by rw [e1]; simpa using h2, by rw [e1]; exact h3, by rw [e1]; exact h4, ?_⟩
      rw [e4, Array.toList_setIfInBounds, List.take_set, h5]
      unfold bvs
      rw [List.map_set]
    · rw [e4]
      refine (hp.page q0 hq0).same (hs _ fun e => e3 ?_)
      rw [hp.apart q0 hq0 p hpm e, hc]
  · obtain ⟨q0, hq0, e1, _⟩ := mem_wr1 hq
    obtain ⟨q1, hq1, e1', _⟩ := mem_wr1 hq'
    rw [e1, e1'] at e ⊢
    exact hp.apart q0 hq0 q1 hq1 e
  · rw [hw]
    exact ⟨rfl, rfl, rfl, by simp [World.setCell], fun k _ hn => heap_setCell_other _ _ _ _ (fun e => hn (by rw [e]; exact hF))⟩
/-- What lies at a page's byte. -/
theorem BsIn.cell {w : World} {F : Nat → Prop} {A C : Nat → Nat} {p : Pg} (h : BsIn w F A C p) {i : Nat} (hi : i < p.bytes.length) (h4 : i < 4096) : w.cell? ⟨A p.num, i, none⟩ = some (byteVal (p.bytes.getD i 0)) ∧ w.frozen? ⟨A p.num, i, none⟩ = false := by
  obtain ⟨hF, cur, h1, h2, h3, h5, h6⟩ := h
  refine ⟨?_, by simp [World.frozen?, h1]⟩
  simp only [World.cell?, h1]
  have : (cur.toList.take 4096)[i]? = (bvs p.bytes)[i]? := by rw [h6]
  rw [List.getElem?_take, if_pos h4] at this
  rw [← Array.getElem?_toList, this]
  unfold bvs
  rw [List.getElem?_map, List.getElem?_eq_getElem hi]
  simp [List.getD_eq_getElem?_getD, List.getElem?_eq_getElem hi]
theorem wrAll_take {M : List Pg} {a k : Nat} {bs : List UInt8} (h : k < bs.length) : wrAll M a (bs.take (k + 1)) = wr1 (wrAll M a (bs.take k)) (a + k) (bs.getD k 0) := by
  rw [List.take_add_one, List.getElem?_eq_getElem h, Option.toList_some, wrAll_append, List.length_take, Nat.min_eq_left (Nat.le_of_lt h)]
  simp [wrAll, List.getD_eq_getElem?_getD, List.getElem?_eq_getElem h]
structure RWSt (w : World) (b : Nat) (M : List Pg) (F : Nat → Prop) (a : Nat) (bs : List UInt8) (k : Nat) (wr : World) : Prop where
  sp : RfIn wr b (wrAll M a (bs.take k)) F
  chg : Chg F w wr
  size : wr.heap.size = w.heap.size
def RWriteRes (w : World) (b : Nat) (M : List Pg) (F : Nat → Prop) (a : Nat) (bs : List UInt8) (r : Int) (e : Ending) (w' : World) : Prop :=
  e = .returned (.int .i64 (lookErr M a bs.length r)) ∧ RfIn w' b (writeM M a bs r) F ∧ Chg F w w' ∧ w'.heap.size = w.heap.size

set_option maxHeartbeats 4000000 in
set_option maxRecDepth 100000 in
theorem rwrite_any (w : World) (b : Nat) (M : List Pg) (F : Nat → Prop) (h : RfIn w b M F) (a : Nat) (ha : a < 18446744073709551616) (bs : List UInt8) (ad : Option Addr) (c : Nat) (hbs : SrcIn w F ad bs) (hc : bs.length ≤ c) (hcm : c ≤ 9223372036854775807) (r : Int) (hr : r = 0 ∨ r = 1 ∨ r = 2) :
    Calls Try.prog 67 #[.pointer (some ⟨b, 0, none⟩), .int .u64 a, .slice ad bs.length c, .int .i64 r] w (RWriteRes w b M F a bs r) := by
  have HL : Hid (Calls Try.prog 88 #[.pointer (some ⟨b, 0, none⟩), .int .u64 a, .int .u64 bs.length, .int .i64 r] w fun e w' => e = .returned (.int .i64 (lookErr M a bs.length r)) ∧ w = w') := rlook_any w b M F h a bs.length ha r hr
  by_cases he : lookErr M a bs.length r = 0
  · have hres : ∀ wr, RWSt w b M F a bs bs.length wr → RWriteRes w b M F a bs r (.returned (.int .i64 0)) wr := fun wr hs => by
      refine ⟨by rw [he], ?_, hs.chg, hs.size⟩
      unfold writeM; rw [if_pos he]
      have := hs.sp; rwa [List.take_length] at this
    have HRES := Lib.hid hres
    have hx : 0 < bs.length → inB a bs.length = true ∧ missing M (fst a) (lst a bs.length) = false := fun h0 => by
      unfold lookErr at he
      rw [if_neg (by omega)] at he
      cases hi : inB a bs.length with
      | false => rw [hi] at he; cases he
      | true =>
        rw [hi, if_neg (by decide)] at he
        cases hm : missing M (fst a) (lst a bs.length) with
        | false => exact ⟨rfl, rfl⟩
        | true => rw [hm] at he; cases he
    have HX := Lib.hid hx
    rw [he] at HL
    have HST : Hid (RWSt w b M F a bs 0 w) := ⟨h, Chg.refl _ _, rfl⟩
    have HBS := Lib.hid hbs
    clear he hres hx h hbs hr
    go_enter Try.func67, Try.ntmps67
    go_wp2_with (go_at_call 88; refine HL.out.mono ?_; rintro e _ ⟨rfl, rfl⟩)
    clear HL
    go_loopw [10] (fun t wr => ∃ k : Nat, k ≤ bs.length ∧ t = .int .i64 k ∧ Hid (RWSt w b M F a bs k wr)) (fun t _ => bs.length - (intOf t).toNat)
    case atStart => exact ⟨0, Nat.zero_le _, rfl, HST.out⟩
    case round =>
      obtain ⟨k, hk, rfl, HS⟩ := hrel
      by_cases hlt : k < bs.length
      · obtain ⟨hin, hmiss⟩ := HX.out (by omega)
        obtain ⟨sb, so, rfl, hsrc, hnF, hsl⟩ := HBS.out (by omega)
        have hab : a + bs.length ≤ 140737488355328 := by simp [inB] at hin; exact hin.2
        obtain ⟨cc, hcc⟩ : ∃ cc, cc = a + k := ⟨_, rfl⟩
        obtain ⟨p0, hp0⟩ := missing_false hmiss (n := cc / 4096) (by unfold fst; omega) (by unfold lst; omega)
        obtain ⟨p, hp⟩ : ∃ p, pg (wrAll M a (bs.take k)) (cc / 4096) = some p := by
          have := Spm.pg_alike_none (wrAll_alike (bs.take k) M a) (cc / 4096)
          rw [hp0] at this
          cases hq : pg (wrAll M a (bs.take k)) (cc / 4096) with
          | none => rw [hq] at this; cases this
          | some p => exact ⟨p, rfl⟩
        obtain ⟨aA, cA, aB, cB, aP, cP, A, C, hb, hpg⟩ := HS.out.sp.own
        have hhas := rhas_any wr b _ F HS.out.sp cc (by omega)
        obtain ⟨i, hix, hpi⟩ := hasIx_some hp
        rw [hix] at hhas
        have hil := (List.getElem?_eq_some_iff.1 hpi).1
        have hpm := List.mem_of_getElem? hpi
        have hfew := HS.out.sp.ok.few
        have hpb := HS.out.sp.ok.pages p hpm
        obtain ⟨ga, rfl, _, hga⟩ := hpg.ats.get (by omega)
        obtain ⟨gb, rfl, _, hgb⟩ := hpg.bys.get (by omega)
        have ca := hga i (.int .u64 ((p.num * 4096 : Nat) : Int)) (by unfold atVals; rw [List.getElem?_map, hpi]; rfl)
        have cb := hgb i (.slice (some ⟨A p.num, 0, none⟩) 4096 (C p.num)) (by unfold bsVals; rw [List.getElem?_map, hpi]; rfl)
        obtain ⟨ix, hixx⟩ : ∃ ix, ix = cc % 4096 := ⟨_, rfl⟩
        have hix4 : ix < 4096 := by omega
        have hnum := (pg_mem hp).2
        obtain ⟨cx, fx⟩ := (hpg.page p hpm).cell (i := ix) (by rw [hpb.2.2.2]; exact hix4) hix4
        have c0 : wr.cell? ⟨b, 0, none⟩ = some (.slice (some ⟨ga, 0, none⟩) (wrAll M a (bs.take k)).length cA) := by simp [World.cell?, hb, rfCells]
        have c1 : wr.cell? ⟨b, 1, none⟩ = some (.slice (some ⟨gb, 0, none⟩) (wrAll M a (bs.take k)).length cB) := by simp [World.cell?, hb, rfCells]
        have csrc : wr.cell? ⟨sb, so + k, none⟩ = some (byteVal (bs.getD k 0)) := (hsrc.keep (HS.out.chg.block sb hsl hnF)) k hlt
        have hst := fun w' hw => HS.out.sp.set hb hpg hpm (c := cc) hnum (bs.getD k 0) (w' := w') hw
        have HNEXT : Hid (∀ w', w' = (wr.drew.setCell ⟨A p.num, ix, none⟩ (byteVal (bs.getD k 0))) → RWSt w b M F a bs (k + 1) w') := fun w' hw => by
          obtain ⟨s1, s2, s3⟩ := hst w' (by rw [hw, hixx])
          exact ⟨by rw [wrAll_take hlt, ← hcc]; exact s1, HS.out.chg.trans (s2.mono fun k _ hk => .inl hk), by rw [s3]; exact HS.out.size⟩
        have HH := Lib.hid hhas
        have hcap1 := hpg.ats.cap
        have hcap2 := hpg.bys.cap
        obtain ⟨at_, hat⟩ : ∃ at_, at_ = p.num * 4096 := ⟨_, rfl⟩
        rw [← hat] at ca
        have hcat : cc = at_ + ix := by omega
        have hatb : at_ < 140737488355328 := by omega
        have hccb : cc < 140737488355328 := by omega
        have e1 : (a : Int) + (k : Int) = (cc : Int) := by omega
        have e2 : (cc : Int) - (at_ : Int) = (ix : Int) := by omega
        have z1 : (i : Int) < ((wrAll M a (bs.take k)).length : Int) := by omega
        have z2 : (ix : Int) < 4096 := by omega
        have z3 : (k : Int) < (bs.length : Int) := by omega
        generalize wrAll M a (bs.take k) = MM at *
        generalize A p.num = AA at *
        generalize C p.num = CC at *
        unfold byteVal at csrc cx HNEXT
        have hx1 : (bs.getD k 0).toNat < 256 := (bs.getD k 0).toNat_lt
        have hx2 : (p.bytes.getD ix 0).toNat < 256 := (p.bytes.getD ix 0).toNat_lt
        generalize (bs.getD k 0).toNat = bx at *
        generalize (p.bytes.getD ix 0).toNat = by_ at *
        clear hin hmiss hcc hp0 hp hhas hix hpi hga hgb hixx hnum hb hpg hst hat hcat hsrc hnF hpm hpb
        go_wp2_with (go_at_call 71; refine HH.out.mono ?_; rintro e _ ⟨rfl, rfl⟩)
        have w1 := u64n (n := k) (by omega)
        have w2 := u64n (n := cc) (by omega)
        have w3 := u64n (n := ix) (by omega)
        go_still_tail 24, (by kernel_rfl)
        change wpList _ _ _ _ _ wr.drew
        clear w1 w2 w3
        go_wp2_with fail
        go_roundw
        case rel => exact ⟨k + 1, by omega, by go_num, HNEXT.out _ rfl⟩
        case measure => simp [intOf]; omega
      · obtain rfl : k = bs.length := by omega
        go_wp2_with fail
        go_ret
        exact HRES.out _ HS.out
  · have hres : RWriteRes w b M F a bs r (.returned (.int .i64 (lookErr M a bs.length r))) w := ⟨rfl, by unfold writeM; rw [if_neg he]; exact h, Chg.refl _ _, rfl⟩
    have HRES := Lib.hid hres
    generalize lookErr M a bs.length r = er at *
    have i1 : ((er : Int) != 0) = true := by rw [bne_iff_ne]; exact he
    clear h hbs he hres hr
    go_enter Try.func67, Try.ntmps67
    go_wp2_with (go_at_call 88; refine HL.out.mono ?_; rintro e _ ⟨rfl, rfl⟩)
    go_ret
    exact HRES.out
end Go.Proofs.Ytepnaalgobhcdaa
