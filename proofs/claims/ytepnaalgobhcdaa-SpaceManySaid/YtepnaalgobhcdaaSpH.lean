/- *Space.put writes bytes that are there, page by page, as 'wrAll' does. -/
import Derived.Test.YtepnaalgobhcdaaSpG
import Derived.Laws.CopyOwn
namespace Go.Proofs.Ytepnaalgobhcdaa
open Go.RowKit Spm

def byteVal (x : UInt8) : Value := .int .u8 ((x.toNat : Nat) : Int)
theorem bytesArr_eq (bs : List UInt8) : bytesArr bs = (bs.map byteVal).toArray := rfl
theorem pg_map {M : List Pg} {g : Pg → Pg} (hg : ∀ p, (g p).num = p.num) (n : Nat) : pg (M.map g) n = (pg M n).map g := by
  unfold pg
  rw [List.find?_map]
  congr 2
  funext p
  simp [hg]
def spliceAt (M : List Pg) (q r : Nat) (cs : List UInt8) : List Pg := M.map fun p => if p.num = q then { p with bytes := Spm.splice p.bytes r cs } else p
theorem Pages.splice {w w' : World} {mb : Nat} {A : Nat → Nat} {M : List Pg} {F : Nat → Prop} {q r : Nat} {cs : List UInt8} (hM : Ok M) (h : Pages w mb A M F) {p : Pg} (hp : p ∈ M) (hq : p.num = q)
    (hw : w'.heap[A q]? = some (.cells (bytesArr (Spm.splice p.bytes r cs)) 140 (0, 0))) (ho : ∀ k, k ≠ A q → w'.heap[k]? = w.heap[k]?) : Pages w' mb A (spliceAt M q r cs) F := by
  have hne : mb ≠ A q := fun e => by
    have := (h.page p hp).2
    rw [hq, ← e] at this
    exact h.map.notCells this
  have hfn : pgFn (spliceAt M q r cs) A = pgFn M A := by
    funext n
    unfold pgFn spliceAt
    rw [pg_map (fun p => by split <;> rfl), Option.map_map]
    congr 1
    funext p
    simp only [Function.comp]
    split <;> rfl
  refine ⟨?_, h.fmap, fun x hx => ?_, fun x hx y hy e => ?_⟩
  · rw [hfn]
    unfold spliceAt
    rw [List.length_map]
    exact h.map.kept (ho mb hne)
  · obtain ⟨y, hy, rfl⟩ := List.mem_map.1 hx
    by_cases e : y.num = q
    · have : y = p := ok_unique hM hy hp (by rw [e, hq])
      subst this
      simp only [e, if_true]
      exact ⟨by rw [← e]; exact (h.page y hy).1, hw⟩
    · simp only [e, if_false]
      refine ⟨(h.page y hy).1, ?_⟩
      rw [ho _ (fun e2 => e (by rw [← hq]; exact h.apart y hy p hp (by rw [e2, hq])))]
      exact (h.page y hy).2
  · obtain ⟨x', hx', rfl⟩ := List.mem_map.1 hx
    obtain ⟨y', hy', rfl⟩ := List.mem_map.1 hy
    have hn : ∀ z : Pg, (if z.num = q then { z with bytes := Spm.splice z.bytes r cs } else z).num = z.num := fun z => by split <;> rfl
    rw [hn, hn] at e ⊢
    exact h.apart x' hx' y' hy' e

def sliceLen : Value → Nat
  | .slice _ n _ => n
  | _ => 0
/-- The bytes that lie from a place on. -/
def BytesIn (w : World) (b o : Nat) (bs : List UInt8) : Prop := ∀ j, j < bs.length → w.cell? ⟨b, o + j, none⟩ = some (byteVal (bs.getD j 0))
structure PutSt (w : World) (b : Nat) (M : List Pg) (F : Nat → Prop) (a : Nat) (bs : List UInt8) (k : Nat) (wr : World) : Prop where
  sp : SpIn wr b (wrAll M a (bs.take k)) F
  chg : Chg F w wr
  size : wr.heap.size = w.heap.size

section
variable {ops : Array Oper} {rest : List Oper} {o : Oper} {a : Act} {w : World} {Q : Exit → Act → World → Prop}
theorem wpList_page_there (hg : o.guard = none) (m x : Operand) (hop : o.op = Op.lookup 76 m x false) (b : Nat) {f : Nat → Option (Nat × Int)} {c : Nat} (h : PgMap w b f c) (hm : a.eval m = .map (some b)) (n : Nat) (hn : n < 18446744073709551616) (hx : a.eval x = .int .u64 (n : Int)) (p : Nat × Int) (hf : f n = some p)
    (hK : wpList Try.prog ops Q rest (a.put o.dst (.agg #[.pointer (some ⟨p.1, 0, none⟩), .int .i64 p.2])) w) : wpList Try.prog ops Q (o :: rest) a w :=
  wpList_page hg m x hop b h hm n hn hx (by rw [hf]; exact hK)
end
theorem field142 (x y : Value) (w : World) : (Instr.field 142 (.agg #[x, y]) 0).run Try.prog w = .ok x w := by kernel_rfl
theorem under140 : Try.prog.underlying 140 = some (.array (Try.prog.arrayLen 140) (Try.prog.elem 140)) := by kernel_rfl
theorem len140 : Try.prog.arrayLen 140 = 4096 := by kernel_rfl
theorem size140 (w : World) : (sizeOf (Try.prog.elem 140)).run Try.prog w = .ok 1 w := by kernel_rfl
theorem slice140 (w : World) (A r : Nat) (hr : r < 4096) : (Instr.sliceAt 140 (.pointer (some ⟨A, 0, none⟩)) (some (.int .u64 (r : Int))) none none).run Try.prog w = .ok (.slice (some ⟨A, r, none⟩) (4096 - r) (4096 - r)) w := by
  rw [run_sliceAt_array_l (P := Try.prog) w 140 ⟨A, 0, none⟩ under140 .u64 (r : Int) (by omega) (by rw [len140]; omega), size140]
  simp only [Result.andThen_ok, slicedAt, len140, Int.toNat_natCast]
  rw [if_neg (by omega)]
  by_cases h0 : r = 0
  · subst h0; simp [Addr.add]
  · simp [Addr.add, h0]
theorem slice140' (w : World) (A r e : Nat) (hr : r ≤ e) (he : e ≤ 4096) (hr' : r < 4096) : (Instr.sliceAt 140 (.pointer (some ⟨A, 0, none⟩)) (some (.int .u64 (r : Int))) (some (.int .u64 (e : Int))) none).run Try.prog w = .ok (.slice (some ⟨A, r, none⟩) (e - r) (4096 - r)) w := by
  rw [run_sliceAt_array_lh (P := Try.prog) w 140 ⟨A, 0, none⟩ under140 .u64 .u64 (r : Int) (e : Int) (by omega) (by omega) (by rw [len140]; omega), size140]
  simp only [Result.andThen_ok, slicedAt, len140, Int.toNat_natCast]
  rw [if_neg (by omega)]
  by_cases h0 : r = 0
  · subst h0; simp [Addr.add]
  · simp [Addr.add, h0]
theorem field142' (x y : Value) (w : World) : (Instr.field 142 (.agg #[x, y]) 1).run Try.prog w = .ok y w := by kernel_rfl

/-- w' is w but for the cells of one block. -/
structure Turned (g : Nat) (bs : List UInt8) (w w' : World) : Prop where
  os : w'.os = w.os
  tape : w'.tape = w.tape
  output : w'.output = w.output
  size : w'.heap.size = w.heap.size
  block : ∀ k, k ≠ g → w'.heap[k]? = w.heap[k]?
  row : w'.heap[g]? = some (.cells (bytesArr bs) 140 (0, 0))
section
variable {ops : Array Oper} {rest : List Oper} {o : Oper} {a : Act} {w : World} {Q : Exit → Act → World → Prop}
theorem byteVal_one (x : UInt8) : (byteVal x).oneCell' = true := rfl
/-- 'copy(p.bytes[r:], bs)'. -/
theorem wpList_copy_page (hg : o.guard = none) (d s : Operand) (ho : o.op = .call { callee := .builtin .copy, args := #[d, s], argTypes := #[57, 57] })
    (g off dLen dCap sb so sLen sCap : Nat) (hd : a.eval d = .slice (some ⟨g, off, none⟩) dLen dCap) (hs : a.eval s = .slice (some ⟨sb, so, none⟩) sLen sCap)
    (L : List UInt8) (hL : w.heap[g]? = some (.cells (bytesArr L) 140 (0, 0))) (bs cs : List UInt8) (hbs : BytesIn w sb so bs) (hcs : cs = bs.take cs.length) (hn : cs.length = min sLen dLen) (hl : bs.length = sLen) (hfit : off + cs.length ≤ L.length)
    (h : ∀ w', Turned g (Spm.splice L off cs) w w' → wpList Try.prog ops Q rest (a.put o.dst (.int .i64 cs.length)) w') : wpList Try.prog ops Q (o :: rest) a w := by
  refine wpList_copy_own hg d s 57 57 ho 5 Try.underlying57 (by kernel_rfl) g off dLen dCap ⟨sb, so, none⟩ sLen sCap hd hs (bytesArr L) 140 hL (cs.map byteVal) (by simpa using hn) ?_ (by simpa [bytesArr] using hfit) ?_ ?_
  · intro j v hv
    rw [List.getElem?_map] at hv
    obtain ⟨x, hx, rfl⟩ := Option.map_eq_some_iff.1 hv
    obtain ⟨hj, e⟩ := List.getElem?_eq_some_iff.1 hx
    have := hbs j (by omega)
    rw [show (⟨sb, so, none⟩ : Addr).add j = ⟨sb, so + j, none⟩ by simp [Addr.add], this]
    congr 2
    have e2 : cs[j]? = bs[j]? := by rw [hcs, List.getElem?_take, if_pos hj]
    rw [hx] at e2
    rw [List.getD, ← e2]; rfl
  · intro v hv
    obtain ⟨x, _, rfl⟩ := List.mem_map.1 hv
    rfl
  · rw [List.length_map]
    refine h _ ⟨rfl, rfl, rfl, by simp [World.setRow], fun k hk => setRow_other w g k _ hk, ?_⟩
    rw [setRow_heap w g _ _ _ _ hL]
    congr 2
    unfold Spm.splice bytesArr
    simp [byteVal, List.map_take, List.map_drop]
end

theorem BytesIn.drop {w : World} {sb so : Nat} {bs : List UInt8} (h : BytesIn w sb so bs) (k : Nat) : BytesIn w sb (so + k) (bs.drop k) := fun j hj => by
  rw [List.length_drop] at hj
  have := h (k + j) (by omega)
  rw [Nat.add_assoc, this]
  congr 2
  simp [List.getD_eq_getElem?_getD, List.getElem?_drop]
theorem BytesIn.keep {w w' : World} {sb so : Nat} {bs : List UInt8} (h : BytesIn w sb so bs) (he : w'.heap[sb]? = w.heap[sb]?) : BytesIn w' sb so bs := fun j hj => by
  have := h j hj
  unfold World.cell? at this ⊢
  rw [← this]
  simp only [he]

theorem PutSt.step {w : World} {b : Nat} {M : List Pg} {F : Nat → Prop} {a : Nat} {bs : List UInt8} {k : Nat} {wr w2 : World} (h : PutSt w b M F a bs k wr) (hk : k ≤ bs.length) {mb : Nat} {A : Nat → Nat}
    (hb : wr.heap[b]? = some (.cells #[.map (some mb)] 78 (0, 0))) (hp : Pages wr mb A (wrAll M a (bs.take k)) F) {q r : Nat} (hq : q = (a + k) / 4096) (hr : r = (a + k) % 4096) {p : Pg} (hpg : pg (wrAll M a (bs.take k)) q = some p)
    {cs : List UInt8} (hcs : cs = (bs.drop k).take cs.length) (hfit : r + cs.length ≤ 4096) (ht : Turned (A q) (Spm.splice p.bytes r cs) wr w2) : PutSt w b M F a bs (k + cs.length) w2 := by
  obtain ⟨hm, hn⟩ := pg_mem hpg
  have hpm := hp.page p hm
  rw [hn] at hpm
  have e : wrAll M a (bs.take (k + cs.length)) = spliceAt (wrAll M a (bs.take k)) q r cs := by
    rw [List.take_add, ← hcs, wrAll_append, List.length_take, Nat.min_eq_left hk, wrAll_chunk cs _ (a + k) (fun p hp' => (h.sp.ok.pages p hp').2.2.2) (by omega), hq, hr]
    rfl
  have hne : b ≠ A q := fun e2 => by
    rw [e2, hpm.2] at hb
    have h2 := Option.some.inj hb
    injection h2 with _ h3 _
    cases h3
  refine ⟨⟨(wrAll_alike _ _ _).ok (Spm.Alike.ok (Eq.symm (wrAll_alike _ _ _)) h.sp.ok), ⟨mb, A, by rw [ht.block b hne]; exact hb, ?_⟩, h.sp.fb, fun i hi => by rw [ht.size]; exact h.sp.lt i hi⟩, ?_, by rw [ht.size]; exact h.size⟩
  · rw [e]
    exact Pages.splice h.sp.ok hp hm hn ht.row ht.block
  · exact ⟨ht.os.trans h.chg.os, ht.tape.trans h.chg.tape, ht.output.trans h.chg.output, by rw [ht.size]; exact h.chg.size, fun i hi hnF => by
      rw [ht.block i (fun e2 => hnF (e2 ▸ hpm.1))]; exact h.chg.block i hi hnF⟩

set_option maxHeartbeats 1000000 in
set_option maxRecDepth 100000 in
theorem put_any (w : World) (b : Nat) (M : List Pg) (F : Nat → Prop) (h : SpIn w b M F) (a : Nat) (bs : List UInt8) (sb so c : Nat) (hbs : BytesIn w sb so bs) (hsF : ¬ F sb) (hsl : sb < w.heap.size) (hc : bs.length ≤ c) (hcm : c ≤ 9223372036854775807) (hin : a + bs.length ≤ 140737488355328)
    (hall : missing M (fst a) (lst a bs.length) = false) :
    Calls Try.prog 76 #[.pointer (some ⟨b, 0, none⟩), .int .u64 a, .slice (some ⟨sb, so, none⟩) bs.length c] w fun e w' => e = .returned (.tuple #[]) ∧ PutSt w b M F a bs bs.length w' := by
  have HBS := Lib.hid hbs
  have HALL := Lib.hid hall
  have hst : PutSt w b M F a bs 0 w := ⟨h, Chg.refl _ _, rfl⟩
  have HST := Lib.hid hst
  have HSF := Lib.hid hsF
  have hfld := field142
  have hslc := slice140
  clear hbs hall hst h hsF
  go_enter Try.func76, Try.ntmps76
  go_wp2_with fail
  go_loopw [1, 2] (fun t1 t2 wr => ∃ (k m at_ c' : Nat) (ad : Option Addr), t1 = .int .u64 at_ ∧ t2 = .slice ad m c' ∧ Hid (k + m = bs.length) ∧ Hid (at_ = a + k) ∧ at_ + m ≤ 140737488355328 ∧ m ≤ c' ∧ c' ≤ 9223372036854775807 ∧ Hid (0 < m → ad = some ⟨sb, so + k, none⟩) ∧ Hid (PutSt w b M F a bs k wr)) (fun _ t2 _ => sliceLen t2)
  case atStart => exact ⟨0, bs.length, a, c, _, rfl, rfl, Nat.zero_add _, rfl, hin, hc, hcm, fun _ => rfl, HST.out⟩
  case round =>
    obtain ⟨k, m, at_, c', ad, rfl, rfl, HK, HA, hle, hmc, hcm', HAD, HP⟩ := hrel
    by_cases hm : 0 < m
    · have had := HAD.out hm
      rw [had]
      clear had
      obtain ⟨mb, A, hb, hpg⟩ := HP.out.sp.own
      have cb := cell_of_one hb
      have HPM := Lib.hid hpg.map
      have hk := HK.out
      have hat := HA.out
      obtain ⟨q, hq⟩ : ∃ q, q = at_ / 4096 := ⟨_, rfl⟩
      obtain ⟨r, hr⟩ : ∃ r, r = at_ % 4096 := ⟨_, rfl⟩
      have hr' : r < 4096 := by omega
      obtain ⟨p, hp⟩ : ∃ p, pg (wrAll M a (bs.take k)) q = some p := by
        have ha : Spm.Alike M (wrAll M a (bs.take k)) := wrAll_alike _ _ _
        obtain ⟨p0, hp0⟩ := missing_false HALL.out (n := q) (by unfold fst; omega) (by unfold lst; omega)
        obtain ⟨m1, m2⟩ := pg_mem hp0
        have m3 : (p0.num, p0.prot, p0.bytes.length) ∈ (wrAll M a (bs.take k)).map fun p => (p.num, p.prot, p.bytes.length) := by
          rw [ha]; exact List.mem_map.2 ⟨p0, m1, rfl⟩
        obtain ⟨p, hp1, hp2⟩ := List.mem_map.1 m3
        simp only [Prod.mk.injEq] at hp2
        refine ⟨p, ?_⟩
        rw [← m2, ← hp2.1]
        exact pg_of_mem HP.out.sp.ok hp1
      have hf : pgFn (wrAll M a (bs.take k)) A q = some (A q, p.prot) := by unfold pgFn; rw [hp]; rfl
      have HF := Lib.hid hf
      have hpm := hpg.page p (pg_mem hp).1
      rw [(pg_mem hp).2] at hpm
      have hpl := (HP.out.sp.ok.pages p (pg_mem hp).1).2.2.2
      have HPG := Lib.hid hpm.2
      have HSrc : Hid (BytesIn wr sb (so + k) (bs.drop k)) := (HBS.out.drop k).keep (HP.out.chg.block sb hsl HSF.out)
      have hdl : (bs.drop k).length = m := by rw [List.length_drop]; omega
      have hstep : ∀ (cs : List UInt8) (w2 : World), cs = (bs.drop k).take cs.length → r + cs.length ≤ 4096 → Turned (A q) (Spm.splice p.bytes r cs) wr w2 → PutSt w b M F a bs (k + cs.length) w2 :=
        fun cs w2 h1 h2 h3 => HP.out.step (by omega) hb hpg (by rw [← hat]; exact hq) (by rw [← hat]; exact hr) hp h1 h2 h3
      have HSTEP := Lib.hid hstep
      have ed : (at_ : Int) / 4096 = (q : Int) := by omega
      have em : (at_ : Int) % 4096 = (r : Int) := by omega
      have hqb : q < 34359738368 := by omega
      have HQ := Lib.hid hq
      have HR := Lib.hid hr
      have HPL := Lib.hid hpl
      have HDL := Lib.hid hdl
      obtain ⟨ds, hds⟩ : ∃ ds, ds = bs.drop k := ⟨_, rfl⟩
      rw [← hds] at HDL HSrc HSTEP
      clear hf hp hpg hb hq hr hpm hstep hk hat hdl hpl hds
      by_cases hs : m ≤ 4096 - r
      · go_wp2_with (first
          | (refine wpList_page_there rfl (.tmp 13) (.tmp 15) rfl mb HPM.out rfl q (by omega) (by simp [Act.eval]) _ HF.out ?_)
          | (refine wpList_copy_page rfl (.tmp 21) (.tmp 22) rfl (A q) r (4096 - r) (4096 - r) sb (so + k) m c' rfl rfl p.bytes HPG.out ds ds HSrc.out (by simp) (by rw [HDL.out]; omega) HDL.out (by rw [HDL.out, HPL.out]; omega) ?_; intro w2 ht; have HT := Lib.hid ht; clear ht; rw [HDL.out]))
        have hst2 := HSTEP.out ds w2 (by simp) (by rw [HDL.out]; omega) HT.out
        rw [HDL.out] at hst2
        have HST2 := Lib.hid hst2
        clear hst2
        refine ⟨⟨k + m, 0, at_ + m, c' - m, _, by go_num, rfl, HK.out, ?_, by omega, by omega, by omega, fun h0 => absurd h0 (by omega), HST2.out⟩, ?_⟩
        · have := HA.out; show at_ + m = a + (k + m); omega
        · show 0 < m; exact hm
      · obtain ⟨j, hj⟩ : ∃ j, j = 4096 - r := ⟨_, rfl⟩
        have hjm : j < m := by omega
        have hj0 : 0 < j := by omega
        have hrj : r + j = 4096 := by omega
        obtain ⟨cs, hcs⟩ : ∃ cs, cs = ds.take j := ⟨_, rfl⟩
        have hcl : cs.length = j := by rw [hcs, List.length_take, HDL.out]; omega
        have HCL := Lib.hid hcl
        have HCS : Hid (cs = ds.take cs.length) := by show cs = _; rw [hcl]; exact hcs
        clear hcl hcs hj
        go_wp2_with (first
          | (refine wpList_page_there rfl (.tmp 13) (.tmp 15) rfl mb HPM.out rfl q (by omega) (by simp [Act.eval]) _ HF.out ?_)
          | (refine wpList_copy_page rfl (.tmp 21) (.tmp 22) rfl (A q) r (4096 - r) (4096 - r) sb (so + k) m c' rfl rfl p.bytes HPG.out ds cs HSrc.out HCS.out (by rw [HCL.out]; omega) HDL.out (by rw [HCL.out, HPL.out]; omega) ?_; intro w2 ht; have HT := Lib.hid ht; clear ht; rw [HCL.out]))
        have hst2 := HSTEP.out cs w2 HCS.out (by rw [HCL.out]; omega) HT.out
        rw [HCL.out] at hst2
        have HST2 := Lib.hid hst2
        clear hst2
        refine ⟨⟨k + j, m - j, at_ + j, c' - j, _, by go_num, rfl, ?_, ?_, by omega, by omega, by omega, fun h0 => by rw [Nat.add_assoc], HST2.out⟩, ?_⟩
        · have := HK.out; show k + j + (m - j) = bs.length; omega
        · have := HA.out; show at_ + j = a + (k + j); omega
        · show m - j < m; omega
    · go_wp2_with fail
      go_end0
      obtain rfl : m = 0 := by omega
      have e : k = bs.length := by have := HK.out; omega
      subst e
      exact ⟨rfl, HP.out⟩
end Go.Proofs.Ytepnaalgobhcdaa
