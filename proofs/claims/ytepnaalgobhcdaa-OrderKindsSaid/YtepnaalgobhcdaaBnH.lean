/- The reference's section: the initializers of a section. The reference's Of: the initializers of an image. Inits: plain mathematics, and what lies in memory while the images are gone over. order.Inits: the walk. The reference's Inits: the walk. -/
import Derived.Test.YtepnaalgobhcdaaBnG
import Derived.Deep.RegionLaw
import Derived.Laws.AppendOwnNone
import Derived.Test.YtepnaalgobhcdaaBnF
import Derived.Deep.AppendLies
namespace Go.Proofs.Ytepnaalgobhcdaa
open Go.RowKit Go.Shelf Spm
attribute [local go_sem] Oper.semAt_some

/-- The error of a section of so many bytes, of at most so many items. -/
def rE (M : List Pg) (adr sl S ab sz most : Nat) : Int := if sz % S ≠ 0 then 9 else if most < sz / S then 11 else (oRun M adr sl S ab (sz / S)).1
def rO (M : List Pg) (adr sl S ab sz : Nat) : List Nat := (oRun M adr sl S ab (sz / S)).2
/-- While a section is gone over: the two boxes, and the row. -/
structure SeSt (w : World) (cs sc : Array Value) (out : List Nat) (v : Value) (W : World) : Prop where
  below : Below w.heap.size w W
  x : W.heap[w.heap.size]? = some (.cells cs 38 (0, 0))
  c : W.heap[w.heap.size + 1]? = some (.cells sc 164 (0, 0))
  row : W.ownsRow w.heap.size 32 1 v out.length (u64s out)
section
variable {w W W' : World} {cs sc : Array Value} {out : List Nat} {v : Value}
theorem SeSt.keep (h : SeSt w cs sc out v W) (hb : Below W.heap.size W W') : SeSt w cs sc out v W' :=
  ⟨h.below.trans (below_le hb h.below.size), (hb.block _ (lt_of_block h.x)).trans h.x, (hb.block _ (lt_of_block h.c)).trans h.c, owns2_same h.row fun g hg => hb.block g (h.row.lt g hg).2⟩
theorem SeSt.cell (h : SeSt w cs sc out v W) {i : Nat} {u : Value} (hi : cs[i]? = some u) : W.cell? ⟨w.heap.size, i, none⟩ = some u := by
  simp [World.cell?, h.x, hi]
theorem SeSt.cellc (h : SeSt w cs sc out v W) {i : Nat} {u : Value} (hi : sc[i]? = some u) : W.cell? ⟨w.heap.size + 1, i, none⟩ = some u := by
  simp [World.cell?, h.c, hi]
theorem SeSt.push (h : SeSt w cs sc out v W) {wt : World} (hwt : Below W.heap.size W wt) {v' : Value} {w1 : World} {p : Nat}
    (hown : w1.ownsRow w.heap.size 32 1 v' (out.length + 1) (u64s out ++ [.int .u64 (p : Int)])) (hg : wt.grownBy w1 v.ownBlock) :
    SeSt w cs sc (out ++ [p]) v' w1 := by
  have hk : ∀ (k : Nat) (o : Obj), (∀ (cur : Array Value) (fr : Nat × Nat), o ≠ Obj.cells cur 32 fr) → W.heap[k]? = some o → w1.heap[k]? = some o := fun k o ho hko => by
    rw [hg.block _ (Nat.lt_of_lt_of_le (lt_of_block hko) hwt.size) (row1_other h.row ho hko), hwt.block _ (lt_of_block hko)]
    exact hko
  refine ⟨?_, hk _ _ (fun _ _ e => by cases e) h.x, hk _ _ (fun _ _ e => by cases e) h.c, ?_⟩
  · have h1 := h.below.trans (below_le hwt h.below.size)
    exact ⟨hg.os.trans h1.os, hg.tape.trans h1.tape, hg.output.trans h1.output, Nat.le_trans h1.size hg.size, fun i hi => by
      rw [hg.block i (Nat.lt_of_lt_of_le hi h1.size) (fun e => by have := (h.row.lt i e.symm).1; omega)]
      exact h1.block i hi⟩
  · rw [List.length_append, List.length_singleton, u64s_append]; exact hown
end
/-- The protection that stands at a page's place. -/
theorem rf_prot {W : World} {b : Nat} {M : List Pg} {F : Nat → Prop} (h : RfIn W b M F) {i : Nat} {p : Pg} (hi : M[i]? = some p) :
    ∃ g cP, W.cell? ⟨b, 2, none⟩ = some (.slice (some ⟨g, 0, none⟩) M.length cP) ∧ M.length ≤ cP ∧ W.cell? ⟨g, i, none⟩ = some (.int .i64 p.prot) ∧ i < M.length := by
  obtain ⟨hok, ⟨aA, cA, aB, cB, aP, cP, A, C, hb, hp⟩, _, _⟩ := h
  have hil := (List.getElem?_eq_some_iff.1 hi).1
  obtain ⟨g, rfl, _, hcell⟩ := hp.prs.get (by omega)
  exact ⟨g, cP, by simp [World.cell?, hb, rfCells], hp.prs.cap, hcell i _ (by unfold prVals; rw [List.getElem?_map, hi]; rfl), hil⟩
theorem bit4 {x : Int} : (x / 4 % 2 == 0) = !(x / 4 % 2 == 1) := by
  have : x / 4 % 2 = 0 ∨ x / 4 % 2 = 1 := by omega
  rcases this with h | h <;> rw [h] <;> rfl
theorem exec_of {M : List Pg} {a : Nat} {p : Pg} (h : pg M (a / 4096) = some p) : (p.prot / 4 % 2 == 0) = !execAt M a := by
  unfold execAt; rw [h]; exact bit4
theorem exec_no {M : List Pg} {a : Nat} (h : pg M (a / 4096) = none) : execAt M a = false := by
  unfold execAt; rw [h]

set_option maxHeartbeats 4000000 in
set_option maxRecDepth 100000 in
theorem rsec9_any (w : World) (b : Nat) (M : List Pg) (G : Nat → Prop) (h : RfIn w b M G) (cs : Array Value) (o : OIm) (ho : OImP w cs o) (nm sg : ByteArray) (adr sz : Nat) (_hadr : adr < 18446744073709551616) (hsz : sz < 18446744073709551616) (off : Int) (most : Nat) (hm : most ≤ 20000) :
    Calls Try.prog 86 #[.pointer (some ⟨b, 0, none⟩), .agg cs, .agg #[.string nm, .string sg, .int .u64 (adr : Int), .int .u64 (sz : Int), .int .u64 off, .int .i64 9], .int .u64 (most : Int)] w (OfRes w (rE M adr o.slide 8 (0) sz most) (rO M adr o.slide 8 (0) sz)) := by
  obtain ⟨hcsz, _, h25, hsl, aS, cS, hL, h5, hcl, hcm⟩ := ho
  obtain ⟨sc, hsc⟩ : ∃ sc : Array Value, sc = #[.string nm, .string sg, .int .u64 (adr : Int), .int .u64 (sz : Int), .int .u64 off, .int .i64 9] := ⟨_, rfl⟩
  have HSC := Lib.hid hsc
  have s2 : sc[2]? = some (.int .u64 (adr : Int)) := by rw [hsc]; rfl
  have s3 : sc[3]? = some (.int .u64 (sz : Int)) := by rw [hsc]; rfl
  have s5 : sc[5]? = some (.int .i64 9) := by rw [hsc]; rfl
  rw [← hsc]
  have S2 := Lib.hid s2
  have S3 := Lib.hid s3
  have H := Lib.hid h
  have HOK := Lib.hid h.ok
  have H25 := Lib.hid h25
  have HST0 : Hid (SeSt w cs sc [] (.slice none 0 0) ((w.alloc (.cells cs 38)).alloc (.cells sc 164))) := ⟨((Below.refl _ w).alloc (Nat.le_refl _) _).alloc (by simp) _, (hp_old _ _ _ (by simp)).trans (hp_new w _ _ rfl), hp_new _ _ _ (by simp), World.ownsRow_nil _ _ _ _⟩
  have c5 := HST0.out.cellc s5
  have c3 := HST0.out.cellc s3
  have hrE : rE M adr o.slide 8 (0) sz most = if sz % 8 ≠ 0 then 9 else if most < sz / 8 then 11 else (oRun M adr o.slide 8 (0) (sz / 8)).1 := rfl
  have hrO : rO M adr o.slide 8 (0) sz = (oRun M adr o.slide 8 (0) (sz / 8)).2 := rfl
  obtain ⟨ER, hER⟩ : ∃ ER, ER = rE M adr o.slide 8 (0) sz most := ⟨_, rfl⟩
  obtain ⟨OU, hOU⟩ : ∃ OU, OU = rO M adr o.slide 8 (0) sz := ⟨_, rfl⟩
  rw [← hER] at hrE ⊢
  rw [← hOU] at hrO ⊢
  clear hER hOU h hsc s2 s3 s5 h25 h5 hL hcl hcm hcsz
  obtain ⟨i32, hi32, hz32, hs32, hy32⟩ := info_parts info32
  have HST := HST0
  go_enter Try.func86, Try.ntmps86
  by_cases c1 : sz % 8 = 0
  · have b1 : ((sz : Int) % 8 != 0) = false := by rw [bne_eq_false_iff_eq]; omega
    rw [if_neg (by omega)] at hrE
    by_cases c2 : most < sz / 8
    · have b2 : (most : Int) < (sz : Int) / 8 := by omega
      rw [if_pos c2] at hrE
      have HE := Lib.hid hrE
      clear hrE hrO c1 c2
      go_wp2_with fail
      go_ret2
      rw [HE.out]
      exact OfRes.stop (by decide) HST.out.below
    · have b2 : ¬ (most : Int) < (sz : Int) / 8 := by omega
      rw [if_neg c2] at hrE
      obtain ⟨q, hq⟩ : ∃ q, q = sz / 8 := ⟨_, rfl⟩
      rw [← hq] at hrE hrO
      have hq16 : sz = 8 * q := by omega
      have HQ16 := Lib.hid hq16
      have hqb : q ≤ 20000 := by omega
      have HE := Lib.hid hrE
      have HO := Lib.hid hrO
      clear hq hq16 c1 c2 hrE hrO
      go_wp2_with fail
      go_loopw [12, 13] (fun t12 t13 wr => ∃ (j : Nat) (ad : Option Addr) (cp : Nat), j ≤ q ∧ t13 = .int .u64 (8 * (j : Int)) ∧ t12 = .slice ad (oRun M adr o.slide 8 (0) j).2.length cp ∧ Hid ((oRun M adr o.slide 8 (0) j).1 = 0) ∧ Hid (SeSt w cs sc (oRun M adr o.slide 8 (0) j).2 (.slice ad (oRun M adr o.slide 8 (0) j).2.length cp) wr)) (fun _ t _ => 8 * q - (intOf t).toNat)
      case atStart => exact ⟨0, none, 0, Nat.zero_le _, by simp, rfl, rfl, HST.out⟩
      case round =>
        clear c5 c3 HST HST0
        obtain ⟨j, ad, cp, hj, rfl, rfl, HR0, HR⟩ := hrel
        have c2 := HR.out.cellc S2.out
        have c3 := HR.out.cellc S3.out
        have c25 := HR.out.cell H25.out
        have HRL := Lib.hid (oRun_len (M := M) (addr := adr) (slide := o.slide) (sz := 8) (above := 0) j HR0.out)
        obtain ⟨r, hr⟩ : ∃ r, r = (oRun M adr o.slide 8 (0) j).2 := ⟨_, rfl⟩
        rw [← hr] at HR HRL ⊢
        have HRR := Lib.hid hr
        clear hr
        by_cases hjq : j < q
        · have i1 : 8 * (j : Int) < (sz : Int) := by have := HQ16.out; omega
          obtain ⟨a1, ha1⟩ : ∃ a1, a1 = (adr + o.slide) % 18446744073709551616 := ⟨_, rfl⟩
          obtain ⟨a, ha⟩ : ∃ a, a = secAddr adr o.slide (8 * j) := ⟨_, rfl⟩
          have hab : a < 18446744073709551616 := by rw [ha]; unfold secAddr; exact Nat.mod_lt _ (by decide)
          have hw1 : IntKind.u64.wrap ((adr : Int) + (o.slide : Int)) = (a1 : Int) := by rw [u64add, ha1]
          have hw2 : IntKind.u64.wrap ((a1 : Int) + 8 * (j : Int)) = (a : Int) := by
            rw [show 8 * (j : Int) = ((8 * j : Nat) : Int) by omega, u64add, ha, ha1]; rfl
          have hnext := oRun_next (M := M) (sz := 8) (above := 0) HR0.out ha
          rw [← HRR.out] at hnext
          have HNEXT := Lib.hid hnext
          have HRD := Lib.hid (rread_any wr b M G (H.out.keepB HR.out.below) a 8 hab)
          clear ha1 ha hnext
          by_cases he : readErr M a 8 = 0
          · have HRD2 : Hid (Calls Try.prog 68 #[.pointer (some ⟨b, 0, none⟩), .int .u64 a, .int .u64 8] wr fun e w' => ∃ g cp, e = .returned (.tuple #[.slice (some ⟨g, 0, none⟩) 8 cp, .int .i64 0]) ∧ Hid (Below wr.heap.size wr w' ∧ 8 ≤ cp ∧ cp ≤ 9223372036854775807 ∧ BytesIn w' g 0 (readAll M a 8))) := by
              refine HRD.out.mono ?_
              rintro e w' ⟨v', rfl, k1, k2, k3⟩
              rw [he] at k3 ⊢
              have k4 := k3 rfl
              rcases k4.2 with ⟨_, h0⟩ | ⟨g, cp, cur, rfl, _, hg, h16, hmx, _, _⟩
              · omega
              · refine ⟨g, cp, rfl, k1, h16, by unfold maxLen at hmx; omega, fun jj hjj => ?_⟩
                rw [readAll_length] at hjj
                obtain ⟨g', e', hcell⟩ := row_cell k4 (i := jj) (by omega)
                cases e'
                rw [Nat.zero_add]; exact hcell
            have hnx := HNEXT.out
            rw [if_neg (by simp [he])] at hnx
            obtain ⟨bs, hbs⟩ : ∃ bs, bs = readAll M a 8 := ⟨_, rfl⟩
            have hbl : bs.length = 8 := by rw [hbs]; exact readAll_length M a 8
            rw [← hbs] at hnx HRD2
            obtain ⟨at_, hat⟩ : ∃ at_, at_ = (wordOf bs + (0)) % 18446744073709551616 := ⟨_, rfl⟩
            rw [← hat] at hnx
            have hatl : at_ < 18446744073709551616 := by rw [hat]; exact Nat.mod_lt _ (by decide)
            have hwl9 : wordOf bs < 18446744073709551616 := by
              have := wordOf_lt bs
              rw [hbl] at this; omega
            have hwr : IntKind.u64.wrap (wordOf bs : Int) = (at_ : Int) := by
              have := u64add (wordOf bs) 0
              rw [← hat] at this; simpa using this
            clear hwl9
            have HNX := Lib.hid hnx
            have HBL := Lib.hid hbl
            have HHAS : Hid (∀ W, Below w.heap.size w W → Calls Try.prog 71 #[.pointer (some ⟨b, 0, none⟩), .int .u64 at_] W fun e w' => e = .returned (.int .i64 (hasIx M at_)) ∧ W = w') := fun W hW => rhas_any W b M G (H.out.keepB hW) at_ hatl
            have HNUM : Hid (∀ (W : World) (g gc cp : Nat), BytesIn W g 0 bs → gc ≠ g → CurB W gc (.slice (some ⟨g, 0, none⟩) 8 cp) 0 → 8 ≤ cp → cp ≤ 9223372036854775807 → Calls Try.prog 92 #[.pointer (some ⟨gc, 0, none⟩), .int .i64 8] W fun e w' => e = .returned (.int .u64 (wordOf bs : Int)) ∧ Chg (fun k => k = gc) W w') := fun W g gc cp h1 h2 h3 h4 h5 => by
              refine (number92_any W gc g 0 8 cp 8 bs h3 h1 (fun e => h2 e.symm) hbl (by decide) (Nat.le_refl _) h4 h5).mono ?_
              rintro e w' ⟨rfl, _, hc⟩
              exact ⟨rfl, hc⟩
            clear hnx hbs HRD he hat hbl hatl
            go_wp2_with fail
            refine HRD2.out.mono ?_
            rintro e w1 ⟨g, cp1, rfl, HK⟩
            have HR1 := Lib.hid (HR.out.keep HK.out.1)
            have hc1 := HK.out.2.1
            have hc2 := HK.out.2.2.1
            have hgl : g < w1.heap.size := block_lt_of_cell (HK.out.2.2.2 0 (by rw [HBL.out]; omega))
            have HCUR : Hid (CurB (w1.alloc (.cells #[.slice (some ⟨g, 0, none⟩) 8 cp1, .int .i64 0, .bool false, .bool false] 185)) w1.heap.size (.slice (some ⟨g, 0, none⟩) 8 cp1) 0) := hp_new _ _ _ rfl
            have HNUM2 := Lib.hid (HNUM.out (w1.alloc (.cells #[.slice (some ⟨g, 0, none⟩) 8 cp1, .int .i64 0, .bool false, .bool false] 185)) g w1.heap.size cp1 (HK.out.2.2.2.keep (hp_old _ _ _ hgl)) (by omega) HCUR.out hc1 hc2)
            clear HRD2 HNUM HK HCUR hw1 hw2 c2 c25
            go_wp2_with fail
            refine HNUM2.out.mono ?_
            rintro e w2 ⟨rfl, hch⟩
            have HR2 := Lib.hid (HR1.out.keep (((Below.refl _ w1).alloc (Nat.le_refl _) _).trans (hch.below (B := w1.heap.size) (fun k hk => by rw [hk]; exact Nat.le_refl _) (by simp))))
            have HHAS2 := Lib.hid (HHAS.out w2 HR2.out.below)
            clear HNUM2 HHAS hch
            generalize wordOf bs = wb at *
            go_wp2_with fail
            cases hpg : pg M (at_ / 4096) with
            | none =>
              have hix := hasIx_none hpg
              have hex := exec_no hpg
              rw [hix] at HHAS2
              have hnx := HNX.out
              rw [if_neg (by rw [hex]; simp)] at hnx
              have hse : (oRun M adr o.slide 8 (0) q).1 = 19 := by rw [oRun_stuck (j := j + 1) (by rw [hnx]; simp) (by omega), hnx]
              have HSE := Lib.hid (HE.out.trans hse)
              clear hnx hex hix hpg HNX HE hse
              refine HHAS2.out.mono ?_
              rintro e _ ⟨rfl, rfl⟩
              go_wp2_with fail
              go_ret2
              rw [HSE.out]
              exact OfRes.stop (by decide) HR2.out.below
            | some p =>
              obtain ⟨i, hix, hpi⟩ := hasIx_some hpg
              have hex := exec_of hpg
              rw [hix] at HHAS2
              obtain ⟨gP, cP, k1, k2, k3, k4⟩ := rf_prot (H.out.keepB HR2.out.below) hpi
              have hi0 : ¬ (i : Int) < 0 := by omega
              have hpp := HOK.out.pages p (List.mem_of_getElem? hpi)
              have hp1 := hpp.2.1
              have hp7 := hpp.2.2.1
              clear hpp
              generalize p.prot = pr at *
              clear hix hpi hpg
              cases hx : execAt M at_ with
              | true =>
                rw [hx] at hex
                have hnx := HNX.out
                rw [if_pos hx] at hnx
                have HNX2 := Lib.hid hnx
                have b4 : (pr / 4 % 2 == 0) = false := hex
                have hz4 := HR2.out.below.size
                have hlen : r.length ≤ 20000 := by rw [HRL.out]; omega
                have HL1 : Hid (r.length + 1 ≤ maxLen) := by show r.length + 1 ≤ maxLen; unfold maxLen; omega
                have HL2 : Hid ((r.length + 1) * 8 ≤ 140737488355328) := by show (r.length + 1) * 8 ≤ _; omega
                clear hx hex hnx HNX
                refine HHAS2.out.mono ?_
                rintro e _ ⟨rfl, rfl⟩
                go_wp2_with (at_builtin; refine wpList_append_own _ rfl _ _ 52 rfl w.heap.size 32 i32 (.int .u64 0) 1 8 Try.underlying52 hi32 hz32 hs32 hy32 rfl (by decide) _ _ _ rfl (HR2.out.row.alloc _) ⟨w2.heap.size, 0, none⟩ 1 1 [.int .u64 (at_ : Int)] rfl rfl (World.news_of_block (hp_new w2 _ _ rfl)) (by simp [Value.oneCell']) HL1.out HL2.out (by simp; omega) ?_; intro v5 w5 hown5 hgrow5 _; obtain ⟨a5, c5', rfl⟩ := ownsRow_shape hown5; have HR5 := Lib.hid (HR2.out.push ((Below.refl _ w2).alloc (Nat.le_refl _) _) hown5 hgrow5); clear hown5 hgrow5)
                go_roundw
                case rel => exact ⟨j + 1, a5, c5', by omega, by go_num, by rw [HNX2.out]; simp only [List.length_append, List.length_singleton], by show (oRun M adr o.slide 8 (0) (j + 1)).1 = 0; rw [HNX2.out], by show SeSt _ _ _ _ _ _; rw [HNX2.out]; simp only [List.length_append, List.length_singleton]; exact HR5.out⟩
                case measure => simp [intOf]; omega
              | false =>
                rw [hx] at hex
                have hnx := HNX.out
                rw [if_neg (by rw [hx]; simp)] at hnx
                have b4 : (pr / 4 % 2 == 0) = true := hex
                have hse : (oRun M adr o.slide 8 (0) q).1 = 19 := by rw [oRun_stuck (j := j + 1) (by rw [hnx]; simp) (by omega), hnx]
                have HSE := Lib.hid (HE.out.trans hse)
                clear hx hex hnx HNX hse HE
                refine HHAS2.out.mono ?_
                rintro e _ ⟨rfl, rfl⟩
                go_wp2_with fail
                go_ret2
                rw [HSE.out]
                exact OfRes.stop (by decide) HR2.out.below
          · have hnx := HNEXT.out
            rw [if_pos he] at hnx
            have hse : (oRun M adr o.slide 8 (0) q).1 = readErr M a 8 := by rw [oRun_stuck (j := j + 1) (by rw [hnx]; exact he) (by omega), hnx]
            obtain ⟨er, her⟩ : ∃ er, er = readErr M a 8 := ⟨_, rfl⟩
            rw [← her] at he hse
            have HSE := Lib.hid (HE.out.trans hse)
            have HNZ := Lib.hid he
            have HRD2 : Hid (Calls Try.prog 68 #[.pointer (some ⟨b, 0, none⟩), .int .u64 a, .int .u64 8] wr fun e w' => e = .returned (.tuple #[.slice none 0 0, .int .i64 er]) ∧ Hid (Below wr.heap.size wr w')) := by
              refine HRD.out.mono ?_
              rintro e w' ⟨v', rfl, k1, k2, _⟩
              rw [k2 (by rw [← her]; exact he), her]
              exact ⟨rfl, k1⟩
            have i2 : ((er : Int) != 0) = true := by rw [bne_iff_ne]; exact he
            clear HRD hnx hse her he HNEXT HE
            go_wp2_with fail
            refine HRD2.out.mono ?_
            rintro e w9 ⟨rfl, HB9⟩
            have HB := Lib.hid (HR.out.below.trans (below_le HB9.out HR.out.below.size))
            clear HB9 HRD2
            go_wp2_with fail
            go_ret2
            rw [HSE.out]
            exact OfRes.stop HNZ.out HB.out
        · obtain rfl : j = q := by omega
          have i1 : ¬ 8 * (j : Int) < (sz : Int) := by have := HQ16.out; omega
          go_wp2_with fail
          go_ret2
          rw [HE.out, HO.out, HR0.out, ← HRR.out]
          exact ⟨_, rfl, HR.out.below, fun h0 => absurd rfl h0, fun _ => HR.out.row⟩
  · have b1 : ((sz : Int) % 8 != 0) = true := by rw [bne_iff_ne]; omega
    rw [if_pos c1] at hrE
    have HE := Lib.hid hrE
    clear hrE hrO c1
    go_wp2_with fail
    go_ret2
    rw [HE.out]
    exact OfRes.stop (by decide) HST.out.below

set_option maxHeartbeats 4000000 in
set_option maxRecDepth 100000 in
theorem rsec22_any (w : World) (b : Nat) (M : List Pg) (G : Nat → Prop) (h : RfIn w b M G) (cs : Array Value) (o : OIm) (ho : OImP w cs o) (nm sg : ByteArray) (adr sz : Nat) (_hadr : adr < 18446744073709551616) (hsz : sz < 18446744073709551616) (off : Int) (most : Nat) (hm : most ≤ 20000) :
    Calls Try.prog 86 #[.pointer (some ⟨b, 0, none⟩), .agg cs, .agg #[.string nm, .string sg, .int .u64 (adr : Int), .int .u64 (sz : Int), .int .u64 off, .int .i64 22], .int .u64 (most : Int)] w (OfRes w (rE M adr o.slide 4 (lowS o) sz most) (rO M adr o.slide 4 (lowS o) sz)) := by
  obtain ⟨hcsz, _, h25, hsl, aS, cS, hL, h5, hcl, hcm⟩ := ho
  obtain ⟨sc, hsc⟩ : ∃ sc : Array Value, sc = #[.string nm, .string sg, .int .u64 (adr : Int), .int .u64 (sz : Int), .int .u64 off, .int .i64 22] := ⟨_, rfl⟩
  have HSC := Lib.hid hsc
  have s2 : sc[2]? = some (.int .u64 (adr : Int)) := by rw [hsc]; rfl
  have s3 : sc[3]? = some (.int .u64 (sz : Int)) := by rw [hsc]; rfl
  have s5 : sc[5]? = some (.int .i64 22) := by rw [hsc]; rfl
  rw [← hsc]
  have S2 := Lib.hid s2
  have S3 := Lib.hid s3
  have H := Lib.hid h
  have HOK := Lib.hid h.ok
  have H25 := Lib.hid h25
  have HST0 : Hid (SeSt w cs sc [] (.slice none 0 0) ((w.alloc (.cells cs 38)).alloc (.cells sc 164))) := ⟨((Below.refl _ w).alloc (Nat.le_refl _) _).alloc (by simp) _, (hp_old _ _ _ (by simp)).trans (hp_new w _ _ rfl), hp_new _ _ _ (by simp), World.ownsRow_nil _ _ _ _⟩
  have c5 := HST0.out.cellc s5
  have c3 := HST0.out.cellc s3
  obtain ⟨img, himg⟩ : ∃ img : Array Value, img = cs.extract 1 25 := ⟨_, rfl⟩
  have hisz : img.size = 24 := by rw [himg]; simp [hcsz]
  have hi4 : img[4]? = some (.slice aS o.segs.length cS) := by rw [himg, Array.getElem?_extract]; simp [hcsz]; simpa [hcsz] using h5
  have HISZ := Lib.hid hisz
  have HX0 : Hid (((w.alloc (.cells cs 38)).alloc (.cells sc 164)).heap[w.heap.size]? = some (.cells cs 38 (0, 0))) := HST0.out.x
  have HX1 : Hid (((w.alloc (.cells cs 38)).alloc (.cells sc 164)).heap[w.heap.size + 1]? = some (.cells sc 164 (0, 0))) := HST0.out.c
  have HB00 := Lib.hid HST0.out.below
  have HIMG0 : Hid (CellsAt ((w.alloc (.cells cs 38)).alloc (.cells sc 164)) w.heap.size 1 img) := fun j v hj => by
    rw [himg, Array.getElem?_extract] at hj
    simp only [World.cell?, HX0.out]
    split at hj
    · exact hj
    · cases hj
  have HLC : Hid (∀ W, Below w.heap.size w W → W.heap[w.heap.size]? = some (.cells cs 38 (0, 0)) → W.heap[w.heap.size + 1]? = some (.cells sc 164 (0, 0)) → Calls Try.prog 96 #[.agg img] W fun e w' => e = .returned (.int .u64 (lowOf o.segs : Int)) ∧ Hid (Below w.heap.size w w') ∧ Hid (w'.heap[w.heap.size]? = some (.cells cs 38 (0, 0))) ∧ Hid (w'.heap[w.heap.size + 1]? = some (.cells sc 164 (0, 0))) ∧ w'.cell? ⟨w.heap.size, 25, none⟩ = some (.int .u64 (o.slide : Int))) := fun W hW hx0 hx1 => by
    refine (rlow_any W aS cS o.segs (hL.keep hW) hcl hcm img hi4).mono ?_
    rintro e w' ⟨rfl, hb⟩
    have h2 := (hb.block _ (lt_of_block hx0)).trans hx0
    exact ⟨rfl, hW.trans (below_le hb hW.size), h2, (hb.block _ (lt_of_block hx1)).trans hx1, by simp [World.cell?, h2, H25.out]⟩
  have c250 := HST0.out.cell H25.out
  have hwl := u64add (lowOf o.segs) o.slide
  change _ = ((lowS o : Nat) : Int) at hwl
  clear himg hisz hi4
  have hrE : rE M adr o.slide 4 (lowS o) sz most = if sz % 4 ≠ 0 then 9 else if most < sz / 4 then 11 else (oRun M adr o.slide 4 (lowS o) (sz / 4)).1 := rfl
  have hrO : rO M adr o.slide 4 (lowS o) sz = (oRun M adr o.slide 4 (lowS o) (sz / 4)).2 := rfl
  obtain ⟨ER, hER⟩ : ∃ ER, ER = rE M adr o.slide 4 (lowS o) sz most := ⟨_, rfl⟩
  obtain ⟨OU, hOU⟩ : ∃ OU, OU = rO M adr o.slide 4 (lowS o) sz := ⟨_, rfl⟩
  rw [← hER] at hrE ⊢
  rw [← hOU] at hrO ⊢
  clear hER hOU h hsc s2 s3 s5 h25 h5 hL hcl hcm hcsz
  obtain ⟨i32, hi32, hz32, hs32, hy32⟩ := info_parts info32
  go_enter Try.func86, Try.ntmps86
  go_wp2_with fail
  go_cut [10, 11] (fun s10 s11 wx => Hid (s10 = .int .u64 4 ∧ s11 = .int .u64 (lowS o : Int) ∧ Below w.heap.size w wx ∧ wx.heap[w.heap.size]? = some (.cells cs 38 (0, 0)) ∧ wx.heap[w.heap.size + 1]? = some (.cells sc 164 (0, 0))))
  case first =>
    clear c3 hrE hrO
    refine wp_region_any (by kernel_rfl) ?_
    change wpAny _ _ _ _ _ _ _ ((w.alloc (.cells cs 38)).alloc (.cells sc 164)).drew
    refine wpAny_take (i := 0) (v := .pointer (some ⟨w.heap.size, 1, none⟩)) rfl (by kernel_rfl) (by kernel_rfl) (by kernel_rfl) (fun _ _ _ h => h) (Or.inl ⟨by rfl, fun W => ?t0⟩) ?_
    case t0 => go_simp
    refine wpAny_take (i := 3) (v := .pointer (some ⟨w.heap.size, 25, none⟩)) rfl (by kernel_rfl) (by kernel_rfl) (by kernel_rfl) (fun _ _ _ h => h) (Or.inl ⟨by rfl, fun W => ?t3⟩) ?_
    case t3 => go_simp
    try simp only [Act.put, List.setIfInBounds_toArray]
    refine wpAny_ready (rs := [1, 4]) (by kernel_rfl) (by simp) ?_
    refine AllReady.cons rfl (fun K hK => ?_) ?_
    · refine step_load_agg rfl 36 (.tmp 22) rfl w.heap.size 1 rfl img _ HIMG0.out Try.underlying36 rfl (by rw [HISZ.out]; exact size36) ?_
      refine hK _ _ ?_
      clear hK K
      try simp only [Act.put]
      refine wpAny_ready (rs := [2, 4]) (by kernel_rfl) (by simp) ?_
      refine AllReady.cons rfl (fun K hK => ?_) ?_
      · go_simp
        go_at_call 96
        refine (HLC.out _ ?_ (by exact HX0.out) (by exact HX1.out)).mono ?_
        · exact HB00.out.drew
        rintro e w1 ⟨rfl, HB1, HY0, HY1, c251⟩
        refine hK _ _ ?_
        clear hK K
        try simp only [Act.put, List.setIfInBounds_toArray, List.set_cons_zero, List.set_cons_succ]
        refine wpAny_ready (rs := [4, 6]) (by kernel_rfl) (by simp) ?_
        refine AllReady.cons rfl (fun K hK => ?_) ?_
        · go_simp
          refine hK _ _ ?_
          clear hK K
          try simp only [Act.put, List.setIfInBounds_toArray, List.set_cons_zero, List.set_cons_succ]
          refine wpAny_ready (rs := [5, 6]) (by kernel_rfl) (by simp) ?_
          refine AllReady.cons rfl (fun K hK => ?_) ?_
          · go_simp
            refine hK _ _ ?_
            clear hK K
            try simp only [Act.put, List.setIfInBounds_toArray, List.set_cons_zero, List.set_cons_succ]
            refine wpAny_ready (rs := [6]) (by kernel_rfl) (by simp) ?_
            refine AllReady.cons rfl (fun K hK => ?_) AllReady.nil
            go_simp
            refine hK _ _ ?_
            clear hK K
            try simp only [Act.put, List.setIfInBounds_toArray, List.set_cons_zero, List.set_cons_succ]
            refine wpAny_ready (rs := [7]) (by kernel_rfl) (by simp) ?_
            refine AllReady.cons rfl (fun K hK => ?_) AllReady.nil
            go_simp
            refine hK _ _ ?_
            clear hK K
            try simp only [Act.put, List.setIfInBounds_toArray, List.set_cons_zero, List.set_cons_succ]
            refine wpAny_done (by kernel_rfl) ?_ _
            go_wp2_with fail
            go_meet
            exact ⟨rfl, rfl, HB1.out, HY0.out, HY1.out⟩
          refine AllReady.cons rfl (fun K hK => ?_) AllReady.nil
          go_simp
          refine hK _ _ ?_
          clear hK K
          try simp only [Act.put, List.setIfInBounds_toArray, List.set_cons_zero, List.set_cons_succ]
          refine wpAny_ready (rs := [5]) (by kernel_rfl) (by simp) ?_
          refine AllReady.cons rfl (fun K hK => ?_) AllReady.nil
          go_simp
          refine hK _ _ ?_
          clear hK K
          try simp only [Act.put, List.setIfInBounds_toArray, List.set_cons_zero, List.set_cons_succ]
          refine wpAny_ready (rs := [7]) (by kernel_rfl) (by simp) ?_
          refine AllReady.cons rfl (fun K hK => ?_) AllReady.nil
          go_simp
          refine hK _ _ ?_
          clear hK K
          try simp only [Act.put, List.setIfInBounds_toArray, List.set_cons_zero, List.set_cons_succ]
          refine wpAny_done (by kernel_rfl) ?_ _
          go_wp2_with fail
          go_meet
          exact ⟨rfl, rfl, HB1.out, HY0.out, HY1.out⟩
        refine AllReady.cons rfl (fun K hK => ?_) AllReady.nil
        go_simp
        refine hK _ _ ?_
        clear hK K
        try simp only [Act.put, List.setIfInBounds_toArray, List.set_cons_zero, List.set_cons_succ]
        refine wpAny_ready (rs := [4]) (by kernel_rfl) (by simp) ?_
        refine AllReady.cons rfl (fun K hK => ?_) AllReady.nil
        go_simp
        refine hK _ _ ?_
        clear hK K
        try simp only [Act.put, List.setIfInBounds_toArray, List.set_cons_zero, List.set_cons_succ]
        refine wpAny_ready (rs := [5]) (by kernel_rfl) (by simp) ?_
        refine AllReady.cons rfl (fun K hK => ?_) AllReady.nil
        go_simp
        refine hK _ _ ?_
        clear hK K
        try simp only [Act.put, List.setIfInBounds_toArray, List.set_cons_zero, List.set_cons_succ]
        refine wpAny_ready (rs := [7]) (by kernel_rfl) (by simp) ?_
        refine AllReady.cons rfl (fun K hK => ?_) AllReady.nil
        go_simp
        refine hK _ _ ?_
        clear hK K
        try simp only [Act.put, List.setIfInBounds_toArray, List.set_cons_zero, List.set_cons_succ]
        refine wpAny_done (by kernel_rfl) ?_ _
        go_wp2_with fail
        go_meet
        exact ⟨rfl, rfl, HB1.out, HY0.out, HY1.out⟩
      refine AllReady.cons rfl (fun K hK => ?_) AllReady.nil
      go_simp
      refine hK _ _ ?_
      clear hK K
      try simp only [Act.put, List.setIfInBounds_toArray, List.set_cons_zero, List.set_cons_succ]
      refine wpAny_ready (rs := [2]) (by kernel_rfl) (by simp) ?_
      refine AllReady.cons rfl (fun K hK => ?_) AllReady.nil
      go_simp
      go_at_call 96
      refine (HLC.out _ ?_ (by exact HX0.out) (by exact HX1.out)).mono ?_
      · exact HB00.out.drew
      rintro e w1 ⟨rfl, HB1, HY0, HY1, c251⟩
      refine hK _ _ ?_
      clear hK K
      try simp only [Act.put, List.setIfInBounds_toArray, List.set_cons_zero, List.set_cons_succ]
      refine wpAny_ready (rs := [5, 6]) (by kernel_rfl) (by simp) ?_
      refine AllReady.cons rfl (fun K hK => ?_) ?_
      · go_simp
        refine hK _ _ ?_
        clear hK K
        try simp only [Act.put, List.setIfInBounds_toArray, List.set_cons_zero, List.set_cons_succ]
        refine wpAny_ready (rs := [6]) (by kernel_rfl) (by simp) ?_
        refine AllReady.cons rfl (fun K hK => ?_) AllReady.nil
        go_simp
        refine hK _ _ ?_
        clear hK K
        try simp only [Act.put, List.setIfInBounds_toArray, List.set_cons_zero, List.set_cons_succ]
        refine wpAny_ready (rs := [7]) (by kernel_rfl) (by simp) ?_
        refine AllReady.cons rfl (fun K hK => ?_) AllReady.nil
        go_simp
        refine hK _ _ ?_
        clear hK K
        try simp only [Act.put, List.setIfInBounds_toArray, List.set_cons_zero, List.set_cons_succ]
        refine wpAny_done (by kernel_rfl) ?_ _
        go_wp2_with fail
        go_meet
        exact ⟨rfl, rfl, HB1.out, HY0.out, HY1.out⟩
      refine AllReady.cons rfl (fun K hK => ?_) AllReady.nil
      go_simp
      refine hK _ _ ?_
      clear hK K
      try simp only [Act.put, List.setIfInBounds_toArray, List.set_cons_zero, List.set_cons_succ]
      refine wpAny_ready (rs := [5]) (by kernel_rfl) (by simp) ?_
      refine AllReady.cons rfl (fun K hK => ?_) AllReady.nil
      go_simp
      refine hK _ _ ?_
      clear hK K
      try simp only [Act.put, List.setIfInBounds_toArray, List.set_cons_zero, List.set_cons_succ]
      refine wpAny_ready (rs := [7]) (by kernel_rfl) (by simp) ?_
      refine AllReady.cons rfl (fun K hK => ?_) AllReady.nil
      go_simp
      refine hK _ _ ?_
      clear hK K
      try simp only [Act.put, List.setIfInBounds_toArray, List.set_cons_zero, List.set_cons_succ]
      refine wpAny_done (by kernel_rfl) ?_ _
      go_wp2_with fail
      go_meet
      exact ⟨rfl, rfl, HB1.out, HY0.out, HY1.out⟩
    refine AllReady.cons rfl (fun K hK => ?_) AllReady.nil
    go_simp
    refine hK _ _ ?_
    clear hK K
    try simp only [Act.put, List.setIfInBounds_toArray, List.set_cons_zero, List.set_cons_succ]
    refine wpAny_ready (rs := [1]) (by kernel_rfl) (by simp) ?_
    refine AllReady.cons rfl (fun K hK => ?_) AllReady.nil
    refine step_load_agg rfl 36 (.tmp 22) rfl w.heap.size 1 rfl img _ HIMG0.out Try.underlying36 rfl (by rw [HISZ.out]; exact size36) ?_
    refine hK _ _ ?_
    clear hK K
    try simp only [Act.put, List.setIfInBounds_toArray]
    refine wpAny_ready (rs := [2]) (by kernel_rfl) (by simp) ?_
    refine AllReady.cons rfl (fun K hK => ?_) AllReady.nil
    go_simp
    go_at_call 96
    refine (HLC.out _ ?_ (by exact HX0.out) (by exact HX1.out)).mono ?_
    · exact HB00.out.drew
    rintro e w1 ⟨rfl, HB1, HY0, HY1, c251⟩
    refine hK _ _ ?_
    clear hK K
    try simp only [Act.put, List.setIfInBounds_toArray, List.set_cons_zero, List.set_cons_succ]
    refine wpAny_ready (rs := [5, 6]) (by kernel_rfl) (by simp) ?_
    refine AllReady.cons rfl (fun K hK => ?_) ?_
    · go_simp
      refine hK _ _ ?_
      clear hK K
      try simp only [Act.put, List.setIfInBounds_toArray, List.set_cons_zero, List.set_cons_succ]
      refine wpAny_ready (rs := [6]) (by kernel_rfl) (by simp) ?_
      refine AllReady.cons rfl (fun K hK => ?_) AllReady.nil
      go_simp
      refine hK _ _ ?_
      clear hK K
      try simp only [Act.put, List.setIfInBounds_toArray, List.set_cons_zero, List.set_cons_succ]
      refine wpAny_ready (rs := [7]) (by kernel_rfl) (by simp) ?_
      refine AllReady.cons rfl (fun K hK => ?_) AllReady.nil
      go_simp
      refine hK _ _ ?_
      clear hK K
      try simp only [Act.put, List.setIfInBounds_toArray, List.set_cons_zero, List.set_cons_succ]
      refine wpAny_done (by kernel_rfl) ?_ _
      go_wp2_with fail
      go_meet
      exact ⟨rfl, rfl, HB1.out, HY0.out, HY1.out⟩
    refine AllReady.cons rfl (fun K hK => ?_) AllReady.nil
    go_simp
    refine hK _ _ ?_
    clear hK K
    try simp only [Act.put, List.setIfInBounds_toArray, List.set_cons_zero, List.set_cons_succ]
    refine wpAny_ready (rs := [5]) (by kernel_rfl) (by simp) ?_
    refine AllReady.cons rfl (fun K hK => ?_) AllReady.nil
    go_simp
    refine hK _ _ ?_
    clear hK K
    try simp only [Act.put, List.setIfInBounds_toArray, List.set_cons_zero, List.set_cons_succ]
    refine wpAny_ready (rs := [7]) (by kernel_rfl) (by simp) ?_
    refine AllReady.cons rfl (fun K hK => ?_) AllReady.nil
    go_simp
    refine hK _ _ ?_
    clear hK K
    try simp only [Act.put, List.setIfInBounds_toArray, List.set_cons_zero, List.set_cons_succ]
    refine wpAny_done (by kernel_rfl) ?_ _
    go_wp2_with fail
    go_meet
    exact ⟨rfl, rfl, HB1.out, HY0.out, HY1.out⟩
  case rest =>
  obtain ⟨rfl, rfl, hb0, hx0, hx1⟩ := hcut.out
  have HST : Hid (SeSt w cs sc [] (.slice none 0 0) wc) := ⟨hb0, hx0, hx1, World.ownsRow_nil _ _ _ _⟩
  clear hcut hb0 hx0 hx1 c3 c5 c250 HIMG0 HLC HX0 HX1 HB00
  have c3 := HST.out.cellc S3.out
  have c5 := c3
  by_cases c1 : sz % 4 = 0
  · have b1 : ((sz : Int) % 4 != 0) = false := by rw [bne_eq_false_iff_eq]; omega
    rw [if_neg (by omega)] at hrE
    by_cases c2 : most < sz / 4
    · have b2 : (most : Int) < (sz : Int) / 4 := by omega
      rw [if_pos c2] at hrE
      have HE := Lib.hid hrE
      clear hrE hrO c1 c2
      go_wp2_with fail
      go_ret2
      rw [HE.out]
      exact OfRes.stop (by decide) HST.out.below
    · have b2 : ¬ (most : Int) < (sz : Int) / 4 := by omega
      rw [if_neg c2] at hrE
      obtain ⟨q, hq⟩ : ∃ q, q = sz / 4 := ⟨_, rfl⟩
      rw [← hq] at hrE hrO
      have hq16 : sz = 4 * q := by omega
      have HQ16 := Lib.hid hq16
      have hqb : q ≤ 20000 := by omega
      have HE := Lib.hid hrE
      have HO := Lib.hid hrO
      clear hq hq16 c1 c2 hrE hrO
      go_wp2_with fail
      go_loopw [12, 13] (fun t12 t13 wr => ∃ (j : Nat) (ad : Option Addr) (cp : Nat), j ≤ q ∧ t13 = .int .u64 (4 * (j : Int)) ∧ t12 = .slice ad (oRun M adr o.slide 4 (lowS o) j).2.length cp ∧ Hid ((oRun M adr o.slide 4 (lowS o) j).1 = 0) ∧ Hid (SeSt w cs sc (oRun M adr o.slide 4 (lowS o) j).2 (.slice ad (oRun M adr o.slide 4 (lowS o) j).2.length cp) wr)) (fun _ t _ => 4 * q - (intOf t).toNat)
      case atStart => exact ⟨0, none, 0, Nat.zero_le _, by simp, rfl, rfl, HST.out⟩
      case round =>
        clear c5 c3 HST HST0
        obtain ⟨j, ad, cp, hj, rfl, rfl, HR0, HR⟩ := hrel
        have c2 := HR.out.cellc S2.out
        have c3 := HR.out.cellc S3.out
        have c25 := HR.out.cell H25.out
        have HRL := Lib.hid (oRun_len (M := M) (addr := adr) (slide := o.slide) (sz := 4) (above := lowS o) j HR0.out)
        obtain ⟨r, hr⟩ : ∃ r, r = (oRun M adr o.slide 4 (lowS o) j).2 := ⟨_, rfl⟩
        rw [← hr] at HR HRL ⊢
        have HRR := Lib.hid hr
        clear hr
        by_cases hjq : j < q
        · have i1 : 4 * (j : Int) < (sz : Int) := by have := HQ16.out; omega
          obtain ⟨a1, ha1⟩ : ∃ a1, a1 = (adr + o.slide) % 18446744073709551616 := ⟨_, rfl⟩
          obtain ⟨a, ha⟩ : ∃ a, a = secAddr adr o.slide (4 * j) := ⟨_, rfl⟩
          have hab : a < 18446744073709551616 := by rw [ha]; unfold secAddr; exact Nat.mod_lt _ (by decide)
          have hw1 : IntKind.u64.wrap ((adr : Int) + (o.slide : Int)) = (a1 : Int) := by rw [u64add, ha1]
          have hw2 : IntKind.u64.wrap ((a1 : Int) + 4 * (j : Int)) = (a : Int) := by
            rw [show 4 * (j : Int) = ((4 * j : Nat) : Int) by omega, u64add, ha, ha1]; rfl
          have hnext := oRun_next (M := M) (sz := 4) (above := lowS o) HR0.out ha
          rw [← HRR.out] at hnext
          have HNEXT := Lib.hid hnext
          have HRD := Lib.hid (rread_any wr b M G (H.out.keepB HR.out.below) a 4 hab)
          clear ha1 ha hnext
          by_cases he : readErr M a 4 = 0
          · have HRD2 : Hid (Calls Try.prog 68 #[.pointer (some ⟨b, 0, none⟩), .int .u64 a, .int .u64 4] wr fun e w' => ∃ g cp, e = .returned (.tuple #[.slice (some ⟨g, 0, none⟩) 4 cp, .int .i64 0]) ∧ Hid (Below wr.heap.size wr w' ∧ 4 ≤ cp ∧ cp ≤ 9223372036854775807 ∧ BytesIn w' g 0 (readAll M a 4))) := by
              refine HRD.out.mono ?_
              rintro e w' ⟨v', rfl, k1, k2, k3⟩
              rw [he] at k3 ⊢
              have k4 := k3 rfl
              rcases k4.2 with ⟨_, h0⟩ | ⟨g, cp, cur, rfl, _, hg, h16, hmx, _, _⟩
              · omega
              · refine ⟨g, cp, rfl, k1, h16, by unfold maxLen at hmx; omega, fun jj hjj => ?_⟩
                rw [readAll_length] at hjj
                obtain ⟨g', e', hcell⟩ := row_cell k4 (i := jj) (by omega)
                cases e'
                rw [Nat.zero_add]; exact hcell
            have hnx := HNEXT.out
            rw [if_neg (by simp [he])] at hnx
            obtain ⟨bs, hbs⟩ : ∃ bs, bs = readAll M a 4 := ⟨_, rfl⟩
            have hbl : bs.length = 4 := by rw [hbs]; exact readAll_length M a 4
            rw [← hbs] at hnx HRD2
            obtain ⟨at_, hat⟩ : ∃ at_, at_ = (wordOf bs + (lowS o)) % 18446744073709551616 := ⟨_, rfl⟩
            rw [← hat] at hnx
            have hatl : at_ < 18446744073709551616 := by rw [hat]; exact Nat.mod_lt _ (by decide)
            have hwr : IntKind.u64.wrap ((wordOf bs : Int) + ((lowS o : Nat) : Int)) = (at_ : Int) := by rw [u64add, hat]
            have HNX := Lib.hid hnx
            have HBL := Lib.hid hbl
            have HHAS : Hid (∀ W, Below w.heap.size w W → Calls Try.prog 71 #[.pointer (some ⟨b, 0, none⟩), .int .u64 at_] W fun e w' => e = .returned (.int .i64 (hasIx M at_)) ∧ W = w') := fun W hW => rhas_any W b M G (H.out.keepB hW) at_ hatl
            have HNUM : Hid (∀ (W : World) (g gc cp : Nat), BytesIn W g 0 bs → gc ≠ g → CurB W gc (.slice (some ⟨g, 0, none⟩) 4 cp) 0 → 4 ≤ cp → cp ≤ 9223372036854775807 → Calls Try.prog 92 #[.pointer (some ⟨gc, 0, none⟩), .int .i64 4] W fun e w' => e = .returned (.int .u64 (wordOf bs : Int)) ∧ Chg (fun k => k = gc) W w') := fun W g gc cp h1 h2 h3 h4 h5 => by
              refine (number92_any W gc g 0 4 cp 4 bs h3 h1 (fun e => h2 e.symm) hbl (by decide) (Nat.le_refl _) h4 h5).mono ?_
              rintro e w' ⟨rfl, _, hc⟩
              exact ⟨rfl, hc⟩
            clear hnx hbs HRD he hat hbl hatl
            go_wp2_with fail
            refine HRD2.out.mono ?_
            rintro e w1 ⟨g, cp1, rfl, HK⟩
            have HR1 := Lib.hid (HR.out.keep HK.out.1)
            have hc1 := HK.out.2.1
            have hc2 := HK.out.2.2.1
            have hgl : g < w1.heap.size := block_lt_of_cell (HK.out.2.2.2 0 (by rw [HBL.out]; omega))
            have HCUR : Hid (CurB (w1.alloc (.cells #[.slice (some ⟨g, 0, none⟩) 4 cp1, .int .i64 0, .bool false, .bool false] 185)) w1.heap.size (.slice (some ⟨g, 0, none⟩) 4 cp1) 0) := hp_new _ _ _ rfl
            have HNUM2 := Lib.hid (HNUM.out (w1.alloc (.cells #[.slice (some ⟨g, 0, none⟩) 4 cp1, .int .i64 0, .bool false, .bool false] 185)) g w1.heap.size cp1 (HK.out.2.2.2.keep (hp_old _ _ _ hgl)) (by omega) HCUR.out hc1 hc2)
            clear HRD2 HNUM HK HCUR hw1 hw2 c2 c25
            go_wp2_with fail
            refine HNUM2.out.mono ?_
            rintro e w2 ⟨rfl, hch⟩
            have HR2 := Lib.hid (HR1.out.keep (((Below.refl _ w1).alloc (Nat.le_refl _) _).trans (hch.below (B := w1.heap.size) (fun k hk => by rw [hk]; exact Nat.le_refl _) (by simp))))
            have HHAS2 := Lib.hid (HHAS.out w2 HR2.out.below)
            clear HNUM2 HHAS hch
            generalize wordOf bs = wb at *
            go_wp2_with fail
            cases hpg : pg M (at_ / 4096) with
            | none =>
              have hix := hasIx_none hpg
              have hex := exec_no hpg
              rw [hix] at HHAS2
              have hnx := HNX.out
              rw [if_neg (by rw [hex]; simp)] at hnx
              have hse : (oRun M adr o.slide 4 (lowS o) q).1 = 19 := by rw [oRun_stuck (j := j + 1) (by rw [hnx]; simp) (by omega), hnx]
              have HSE := Lib.hid (HE.out.trans hse)
              clear hnx hex hix hpg HNX HE hse
              refine HHAS2.out.mono ?_
              rintro e _ ⟨rfl, rfl⟩
              go_wp2_with fail
              go_ret2
              rw [HSE.out]
              exact OfRes.stop (by decide) HR2.out.below
            | some p =>
              obtain ⟨i, hix, hpi⟩ := hasIx_some hpg
              have hex := exec_of hpg
              rw [hix] at HHAS2
              obtain ⟨gP, cP, k1, k2, k3, k4⟩ := rf_prot (H.out.keepB HR2.out.below) hpi
              have hi0 : ¬ (i : Int) < 0 := by omega
              have hpp := HOK.out.pages p (List.mem_of_getElem? hpi)
              have hp1 := hpp.2.1
              have hp7 := hpp.2.2.1
              clear hpp
              generalize p.prot = pr at *
              clear hix hpi hpg
              cases hx : execAt M at_ with
              | true =>
                rw [hx] at hex
                have hnx := HNX.out
                rw [if_pos hx] at hnx
                have HNX2 := Lib.hid hnx
                have b4 : (pr / 4 % 2 == 0) = false := hex
                have hz4 := HR2.out.below.size
                have hlen : r.length ≤ 20000 := by rw [HRL.out]; omega
                have HL1 : Hid (r.length + 1 ≤ maxLen) := by show r.length + 1 ≤ maxLen; unfold maxLen; omega
                have HL2 : Hid ((r.length + 1) * 8 ≤ 140737488355328) := by show (r.length + 1) * 8 ≤ _; omega
                clear hx hex hnx HNX
                refine HHAS2.out.mono ?_
                rintro e _ ⟨rfl, rfl⟩
                go_wp2_with (at_builtin; refine wpList_append_own _ rfl _ _ 52 rfl w.heap.size 32 i32 (.int .u64 0) 1 8 Try.underlying52 hi32 hz32 hs32 hy32 rfl (by decide) _ _ _ rfl (HR2.out.row.alloc _) ⟨w2.heap.size, 0, none⟩ 1 1 [.int .u64 (at_ : Int)] rfl rfl (World.news_of_block (hp_new w2 _ _ rfl)) (by simp [Value.oneCell']) HL1.out HL2.out (by simp; omega) ?_; intro v5 w5 hown5 hgrow5 _; obtain ⟨a5, c5', rfl⟩ := ownsRow_shape hown5; have HR5 := Lib.hid (HR2.out.push ((Below.refl _ w2).alloc (Nat.le_refl _) _) hown5 hgrow5); clear hown5 hgrow5)
                go_roundw
                case rel => exact ⟨j + 1, a5, c5', by omega, by go_num, by rw [HNX2.out]; simp only [List.length_append, List.length_singleton], by show (oRun M adr o.slide 4 (lowS o) (j + 1)).1 = 0; rw [HNX2.out], by show SeSt _ _ _ _ _ _; rw [HNX2.out]; simp only [List.length_append, List.length_singleton]; exact HR5.out⟩
                case measure => simp [intOf]; omega
              | false =>
                rw [hx] at hex
                have hnx := HNX.out
                rw [if_neg (by rw [hx]; simp)] at hnx
                have b4 : (pr / 4 % 2 == 0) = true := hex
                have hse : (oRun M adr o.slide 4 (lowS o) q).1 = 19 := by rw [oRun_stuck (j := j + 1) (by rw [hnx]; simp) (by omega), hnx]
                have HSE := Lib.hid (HE.out.trans hse)
                clear hx hex hnx HNX hse HE
                refine HHAS2.out.mono ?_
                rintro e _ ⟨rfl, rfl⟩
                go_wp2_with fail
                go_ret2
                rw [HSE.out]
                exact OfRes.stop (by decide) HR2.out.below
          · have hnx := HNEXT.out
            rw [if_pos he] at hnx
            have hse : (oRun M adr o.slide 4 (lowS o) q).1 = readErr M a 4 := by rw [oRun_stuck (j := j + 1) (by rw [hnx]; exact he) (by omega), hnx]
            obtain ⟨er, her⟩ : ∃ er, er = readErr M a 4 := ⟨_, rfl⟩
            rw [← her] at he hse
            have HSE := Lib.hid (HE.out.trans hse)
            have HNZ := Lib.hid he
            have HRD2 : Hid (Calls Try.prog 68 #[.pointer (some ⟨b, 0, none⟩), .int .u64 a, .int .u64 4] wr fun e w' => e = .returned (.tuple #[.slice none 0 0, .int .i64 er]) ∧ Hid (Below wr.heap.size wr w')) := by
              refine HRD.out.mono ?_
              rintro e w' ⟨v', rfl, k1, k2, _⟩
              rw [k2 (by rw [← her]; exact he), her]
              exact ⟨rfl, k1⟩
            have i2 : ((er : Int) != 0) = true := by rw [bne_iff_ne]; exact he
            clear HRD hnx hse her he HNEXT HE
            go_wp2_with fail
            refine HRD2.out.mono ?_
            rintro e w9 ⟨rfl, HB9⟩
            have HB := Lib.hid (HR.out.below.trans (below_le HB9.out HR.out.below.size))
            clear HB9 HRD2
            go_wp2_with fail
            go_ret2
            rw [HSE.out]
            exact OfRes.stop HNZ.out HB.out
        · obtain rfl : j = q := by omega
          have i1 : ¬ 4 * (j : Int) < (sz : Int) := by have := HQ16.out; omega
          go_wp2_with fail
          go_ret2
          rw [HE.out, HO.out, HR0.out, ← HRR.out]
          exact ⟨_, rfl, HR.out.below, fun h0 => absurd rfl h0, fun _ => HR.out.row⟩
  · have b1 : ((sz : Int) % 4 != 0) = true := by rw [bne_iff_ne]; omega
    rw [if_pos c1] at hrE
    have HE := Lib.hid hrE
    clear hrE hrO c1
    go_wp2_with fail
    go_ret2
    rw [HE.out]
    exact OfRes.stop (by decide) HST.out.below
end Go.Proofs.Ytepnaalgobhcdaa
namespace Go.Proofs.Ytepnaalgobhcdaa
open Go.RowKit Go.Shelf Spm
attribute [local go_sem] Oper.semAt_some

theorem rsec_any (w : World) (b : Nat) (M : List Pg) (G : Nat → Prop) (h : RfIn w b M G) (cs : Array Value) (o : OIm) (ho : OImP w cs o) (c : SecC) (hi : isInit c = true) (most : Nat) (hm : most ≤ 20000) :
    Calls Try.prog 86 #[.pointer (some ⟨b, 0, none⟩), .agg cs, .agg c.cells, .int .u64 (most : Int)] w (OfRes w (rE M c.x.addr o.slide (oSize c) (oAbove (lowS o) c) c.x.size most) (rO M c.x.addr o.slide (oSize c) (oAbove (lowS o) c) c.x.size)) := by
  unfold isInit at hi
  unfold oSize oAbove SecC.cells
  by_cases h22 : c.x.kind = 22
  · rw [if_pos h22, if_pos h22, h22]
    exact rsec22_any w b M G h cs o ho c.nm c.sg c.x.addr c.x.size c.ha c.hs c.off most hm
  · have h9 : c.x.kind = 9 := by simpa [h22] using hi
    rw [if_neg h22, if_neg h22, h9]
    exact rsec9_any w b M G h cs o ho c.nm c.sg c.x.addr c.x.size c.ha c.hs c.off most hm
theorem oStep_rE (M : List Pg) (o : OIm) (c : SecC) (out : List Nat) (h : out.length ≤ 20000) :
    oStep M o.slide (lowS o) ⟨out, 0⟩ c = if rE M c.x.addr o.slide (oSize c) (oAbove (lowS o) c) c.x.size (20000 - out.length) ≠ 0 then ⟨out, rE M c.x.addr o.slide (oSize c) (oAbove (lowS o) c) c.x.size (20000 - out.length)⟩ else ⟨out ++ rO M c.x.addr o.slide (oSize c) (oAbove (lowS o) c) c.x.size, 0⟩ := by
  unfold oStep rE rO
  simp only [ne_eq, not_true_eq_false, if_false]
  by_cases h1 : c.x.size % oSize c = 0
  · simp only [h1, not_true_eq_false, if_false]
    by_cases h2 : 20000 < out.length + c.x.size / oSize c
    · have h3 : 20000 - out.length < c.x.size / oSize c := by omega
      simp only [if_pos h2, if_pos h3]
      rw [if_pos (by decide)]
    · have h3 : ¬ 20000 - out.length < c.x.size / oSize c := by omega
      simp only [if_neg h2, if_neg h3]
  · simp only [h1, not_false_eq_true, if_true]; simp
theorem rE_len {M : List Pg} {adr sl S ab sz most : Nat} (h : rE M adr sl S ab sz most = 0) : (rO M adr sl S ab sz).length = sz / S ∧ sz / S ≤ most := by
  unfold rE at h
  split at h
  · cases h
  · split at h
    · cases h
    · exact ⟨oRun_len _ h, by omega⟩
/-- While the sections are gone over: the box, and the row. -/
structure RoSt (w : World) (cs : Array Value) (out : List Nat) (v : Value) (W : World) : Prop where
  below : Below w.heap.size w W
  x : W.heap[w.heap.size]? = some (.cells cs 38 (0, 0))
  row : W.ownsRow w.heap.size 32 1 v out.length (u64s out)
section
variable {w W W' : World} {cs : Array Value} {out : List Nat} {v : Value}
theorem RoSt.keep (h : RoSt w cs out v W) (hb : Below W.heap.size W W') : RoSt w cs out v W' :=
  ⟨h.below.trans (below_le hb h.below.size), (hb.block _ (lt_of_block h.x)).trans h.x, owns2_same h.row fun g hg => hb.block g (h.row.lt g hg).2⟩
theorem RoSt.cell (h : RoSt w cs out v W) {i : Nat} {u : Value} (hi : cs[i]? = some u) : W.cell? ⟨w.heap.size, i, none⟩ = some u := by
  simp [World.cell?, h.x, hi]
theorem RoSt.pushes (h : RoSt w cs out v W) {v' : Value} {w1 : World} {ps : List Nat}
    (hown : w1.ownsRow w.heap.size 32 1 v' (out.length + ps.length) (u64s out ++ u64s ps)) (hg : W.grownBy w1 v.ownBlock) : RoSt w cs (out ++ ps) v' w1 := by
  refine ⟨⟨hg.os.trans h.below.os, hg.tape.trans h.below.tape, hg.output.trans h.below.output, Nat.le_trans h.below.size hg.size, fun i hi => ?_⟩, ?_, ?_⟩
  · rw [hg.block i (Nat.lt_of_lt_of_le hi h.below.size) (fun e => by have := (h.row.lt i e.symm).1; omega)]
    exact h.below.block i hi
  · rw [hg.block _ (lt_of_block h.x) (row1_other h.row (fun _ _ e => by cases e) h.x)]; exact h.x
  · rw [List.length_append, u64s_append]; exact hown
end
theorem ready_load_agg {P : Program} {md : Region.Mode} {ops : Array Oper} {Q : Exit → Act → World → Prop} {fuel : Nat} {listed : Array Bool} {a : Act} {w : World} {i : Nat} {o : Oper} {rs : List Nat} (hoi : ops[i]? = some o)
    (hg : o.guard = none) (ty : TypeId) (x : Operand) (ho : o.op = .load ty x) (b off : Nat) (hx : a.eval x = .pointer (some ⟨b, off, none⟩)) (cs : Array Value) (d : TypeDesc) (hc : CellsAt w b off cs)
    (hu : P.underlying ty = some d) (hd : (match d with | .struct _ | .array _ _ => true | _ => false) = true) (hi : (P.info? ty).map (·.size) = some cs.size)
    (h : wpAny P md ops Q fuel (listed.setIfInBounds i true) (a.put o.dst (.agg cs)) w) (hs : AllReady P md ops Q fuel listed a w rs) : AllReady P md ops Q fuel listed a w (i :: rs) :=
  AllReady.cons hoi (fun _ hK => step_load_agg hg ty x ho b off hx cs d hc hu hd hi (hK _ _ h)) hs
theorem u64s_one (l : List Nat) : ∀ u ∈ u64s l, u.oneCell' = true := fun u hu => by
  unfold u64s at hu
  obtain ⟨x, _, rfl⟩ := List.mem_map.1 hu
  rfl
theorem u64s_length (l : List Nat) : (u64s l).length = l.length := List.length_map ..

set_option maxHeartbeats 4000000 in
set_option maxRecDepth 100000 in
theorem rof_any (w : World) (b : Nat) (M : List Pg) (G : Nat → Prop) (h : RfIn w b M G) (cs : Array Value) (o : OIm) (ho : OImP w cs o) :
    Calls Try.prog 58 #[.pointer (some ⟨b, 0, none⟩), .agg cs] w (OfRes w (oOf M o).err (oOf M o).out) := by
  have HSEC : Hid (∀ W, Below w.heap.size w W → ∀ c : SecC, isInit c = true → ∀ most : Nat, most ≤ 20000 → Calls Try.prog 86 #[.pointer (some ⟨b, 0, none⟩), .agg cs, .agg c.cells, .int .u64 (most : Int)] W (OfRes W (rE M c.x.addr o.slide (oSize c) (oAbove (lowS o) c) c.x.size most) (rO M c.x.addr o.slide (oSize c) (oAbove (lowS o) c) c.x.size))) := fun W hW c hi most hm => rsec_any W b M G (h.keepB hW) cs o (ho.keep hW) c hi most hm
  obtain ⟨hcsz, _, h25, hsl, aS, cS, hL, h5, hcl, hcm⟩ := ho
  have HL := Lib.hid hL
  have H5 := Lib.hid h5
  have HCSZ := Lib.hid hcsz
  have HR0 : Hid (RoSt w cs [] (.slice none 0 0) (w.alloc (.cells cs 38))) := ⟨(Below.refl _ w).alloc (Nat.le_refl _) _, hp_new _ _ _ rfl, World.ownsRow_nil _ _ _ _⟩
  clear h h25 hsl hL h5 hcsz
  obtain ⟨i32, hi32, hz32, hs32, hy32⟩ := info_parts info32
  go_enter Try.func58, Try.ntmps58
  go_wp2_with fail
  go_loopw [6, 7] (fun t6 t7 wr => ∃ (i : Nat) (ad : Option Addr) (cp : Nat), i ≤ o.segs.length ∧ t7 = .int .i64 i ∧ t6 = .slice ad (oSt M o i 0).out.length cp ∧ Hid ((oSt M o i 0).err = 0) ∧ Hid (RoSt w cs (oSt M o i 0).out (.slice ad (oSt M o i 0).out.length cp) wr)) (fun _ t _ => o.segs.length - (intOf t).toNat)
  case atStart => exact ⟨0, none, 0, Nat.zero_le _, rfl, by rw [oSt_zero]; rfl, by show _ = _; rw [oSt_zero], by show RoSt _ _ _ _ _; rw [oSt_zero]; exact HR0.out⟩
  case round =>
    clear HR0
    obtain ⟨i, ad, cp, hi, rfl, rfl, HE, HR⟩ := hrel
    have c5 := HR.out.cell H5.out
    by_cases hlt : i < o.segs.length
    · obtain ⟨bS, oS, rfl, hbS, v0, v2, v3, a', c', hcs, hl1, hl2, hsecs, hkb, _⟩ := HL.out.seg HR.out.below hlt
      have hc6 : wr.cell? ⟨bS, oS + i * 7 + 6, none⟩ = some (.slice a' (o.segs.getD i .none).secs.length c') := hcs 6 _ rfl
      have HSW := Lib.hid hsecs
      have HEND := Lib.hid (oSt_end (M := M) hlt)
      have HSTOP : Hid (∀ k, (oSt M o i k).err ≠ 0 → oOf M o = oSt M o i k) := fun k hk => oSt_stop hlt hk
      have HTAKE : Hid (∀ k, k < (o.segs.getD i .none).secs.length → isInit ((o.segs.getD i .none).secs.getD k .none) = true → oSt M o i (k + 1) = oStep M o.slide (lowS o) (oSt M o i k) ((o.segs.getD i .none).secs.getD k .none)) := fun k h1 h2 => oSt_take hlt h1 h2
      have HSKIP : Hid (∀ k, k < (o.segs.getD i .none).secs.length → isInit ((o.segs.getD i .none).secs.getD k .none) = false → oSt M o i (k + 1) = oSt M o i k) := fun k h1 h2 => oSt_skip hlt h1 h2
      have HBD : Hid (∀ k, (oSt M o i k).out.length ≤ 20000) := fun k => oSt_bound M o i k
      obtain ⟨S, hS⟩ : ∃ S, S = (o.segs.getD i .none).secs := ⟨_, rfl⟩
      rw [← hS] at hc6 hl1 HSW HEND HTAKE HSKIP
      clear hcs hsecs hkb hS
      go_wp2_with fail
      obtain ⟨wo, rfl⟩ : ∃ wo : World, wo = wr := ⟨_, rfl⟩
      go_loopw [6, 9] (fun t6 t9 wr => ∃ (k : Nat) (ad : Option Addr) (cp : Nat), k ≤ S.length ∧ t9 = .int .i64 k ∧ t6 = .slice ad (oSt M o i k).out.length cp ∧ Hid ((oSt M o i k).err = 0) ∧ Hid (RoSt w cs (oSt M o i k).out (.slice ad (oSt M o i k).out.length cp) wr)) (fun _ t _ => S.length - (intOf t).toNat)
      case atStart => exact ⟨0, ad, cp, Nat.zero_le _, rfl, rfl, HE.out, HR.out⟩
      case round =>
        clear HR HE c5 hc6
        obtain ⟨k, ad1, cp1, hk, rfl, rfl, HE1, HR1⟩ := hrel
        by_cases hkt : k < S.length
        · obtain ⟨bb, ob, rfl, hsc⟩ := segsL_secs (HSW.out _ HR1.out.below) hkt
          have hbd := HBD.out k
          obtain ⟨c, hc⟩ : ∃ c, c = S.getD k .none := ⟨_, rfl⟩
          have hT := HTAKE.out k hkt
          have hK := HSKIP.out k hkt
          rw [← hc] at hsc hT hK
          have hsc2 := hsc
          unfold SecC.cells at hsc2
          have ck : wr.cell? ⟨bb, ob + k * 6 + 5, none⟩ = some (.int .i64 c.x.kind) := hsc2 5 _ rfl
          have HSC := Lib.hid hsc
          have HSC6 : Hid (c.cells.size = 6) := rfl
          have HSECS : Hid (∀ W, Below w.heap.size w W → CellsAt W bb (ob + k * 6) c.cells) := fun W hW => by
            obtain ⟨b2, o2, e, h1⟩ := segsL_secs (HSW.out W hW) hkt
            cases e; rw [hc]; exact h1
          obtain ⟨st, hst⟩ : ∃ st, st = oSt M o i k := ⟨_, rfl⟩
          rw [← hst] at hbd HE1 HR1 hT hK ⊢
          obtain ⟨st', hst'⟩ : ∃ st', st' = oSt M o i (k + 1) := ⟨_, rfl⟩
          rw [← hst'] at hT hK
          have hstop := HSTOP.out (k + 1)
          rw [← hst'] at hstop
          have HST' := Lib.hid hst'
          obtain ⟨out, er0⟩ := st
          simp only at hbd HR1 ⊢
          have her0 : er0 = 0 := HE1.out
          subst her0
          clear hc hsc hsc2 hst hst' HE1
          by_cases hin : isInit c = true
          · have hT2 := hT hin
            rw [oStep_rE M o c out hbd] at hT2
            have HSE := fun W hW => HSEC.out W hW c hin (20000 - out.length) (by omega)
            have hlen := rE_len (M := M) (adr := c.x.addr) (sl := o.slide) (S := oSize c) (ab := oAbove (lowS o) c) (sz := c.x.size) (most := 20000 - out.length)
            obtain ⟨er, her⟩ : ∃ er, er = rE M c.x.addr o.slide (oSize c) (oAbove (lowS o) c) c.x.size (20000 - out.length) := ⟨_, rfl⟩
            obtain ⟨so, hso⟩ : ∃ so, so = rO M c.x.addr o.slide (oSize c) (oAbove (lowS o) c) c.x.size := ⟨_, rfl⟩
            simp only [← her, ← hso] at hT2 HSE hlen
            have hcast : (((20000 - out.length : Nat) : Int)) = 20000 - (out.length : Int) := by omega
            simp only [hcast] at HSE
            have HSE2 := Lib.hid HSE
            have HLEN := Lib.hid hlen
            have HT2 := Lib.hid hT2
            have HSTP := Lib.hid hstop
            have HXC : Hid (∀ W, Below wr.heap.size wr W → CellsAt W w.heap.size 0 cs) := fun W hW => cells_whole ((hW.block _ (lt_of_block HR1.out.x)).trans HR1.out.x)
            have HSC2 : Hid (∀ W, Below wr.heap.size wr W → CellsAt W bb (ob + k * 6) c.cells) := fun W hW => HSC.out.keep hW
            have HBL : Hid (∀ W, Below wr.heap.size wr W → Below w.heap.size w W) := fun W hW => HR1.out.below.trans (below_le hW HR1.out.below.size)
            clear hT2 HSE hlen hT hK hstop her hso hcast
            by_cases hk9 : c.x.kind = 9
            · have b9 : ((c.x.kind : Int) != 9) = false := by rw [bne_eq_false_iff_eq]; exact hk9
              generalize c.x.kind = kd at *
              clear hk9 hin
              go_wp2_with fail
              go_cut [10, 11] (fun s10 s11 wx => Hid (∃ v, s10 = v ∧ s11 = .int .i64 er ∧ Below wr.heap.size wr wx ∧ (er ≠ 0 → v = .slice none 0 0) ∧ (er = 0 → wx.ownsRow wr.heap.size 32 1 v so.length (u64s so))))
              case first =>
                have HBD0 : Hid (Below wr.heap.size wr wr.drew) := (Below.refl _ wr).drew
                refine wp_region_any (by kernel_rfl) ?_
                change wpAny _ _ _ _ _ _ _ wr.drew
                refine wpAny_take (i := 0) (v := .pointer (some ⟨b, 0, none⟩)) rfl (by kernel_rfl) (by kernel_rfl) (by kernel_rfl) (fun _ _ _ h => h) (Or.inl ⟨by rfl, fun W => ?t0⟩) ?_
                case t0 => go_simp
                simp only [Act.put, List.getElem_toArray, List.getElem_cons_zero, List.setIfInBounds_toArray, List.set_cons_zero, List.set_cons_succ]
                refine wpAny_take (i := 2) (v := .slice (some ⟨bb, ob, none⟩) S.length c') rfl (by kernel_rfl) (by kernel_rfl) (by kernel_rfl) (fun _ _ _ h => h) (Or.inl ⟨by rfl, fun W => ?t2⟩) ?_
                case t2 => go_simp
                simp only [Act.put, List.getElem_toArray, List.getElem_cons_zero, List.getElem_cons_succ, List.setIfInBounds_toArray, List.set_cons_zero, List.set_cons_succ]
                refine wpAny_take (i := 3) (v := .int .i64 (k : Int)) rfl (by kernel_rfl) (by kernel_rfl) (by kernel_rfl) (fun _ _ _ h => h) (Or.inl ⟨by rfl, fun W => ?t3⟩) ?_
                case t3 => go_simp
                simp only [Act.put, List.getElem_toArray, List.getElem_cons_zero, List.getElem_cons_succ, List.setIfInBounds_toArray, List.set_cons_zero, List.set_cons_succ]
                refine wpAny_take (i := 4) (v := .pointer (some ⟨bb, ob + k * 6, none⟩)) rfl (by kernel_rfl) (by kernel_rfl) (by kernel_rfl) (fun _ _ _ h => h) (Or.inl ⟨by rfl, fun W => ?t4⟩) ?_
                case t4 => go_simp
                simp only [Act.put, List.getElem_toArray, List.getElem_cons_zero, List.getElem_cons_succ, List.setIfInBounds_toArray, List.set_cons_zero, List.set_cons_succ]
                refine wpAny_take (i := 6) (v := .slice ad1 out.length cp1) rfl (by kernel_rfl) (by kernel_rfl) (by kernel_rfl) (fun _ _ _ h => h) (Or.inl ⟨by rfl, fun W => ?t6⟩) ?_
                case t6 => go_simp
                simp only [Act.put, List.getElem_toArray, List.getElem_cons_zero, List.getElem_cons_succ, List.setIfInBounds_toArray, List.set_cons_zero, List.set_cons_succ]
                refine wpAny_take (i := 7) (v := .int .i64 (out.length : Int)) rfl (by kernel_rfl) (by kernel_rfl) (by kernel_rfl) (fun _ _ _ h => h) (Or.inl ⟨by rfl, fun W => ?t7⟩) ?_
                case t7 => go_simp
                simp only [Act.put, List.getElem_toArray, List.getElem_cons_zero, List.getElem_cons_succ, List.setIfInBounds_toArray, List.set_cons_zero, List.set_cons_succ]
                refine wpAny_take (i := 8) (v := .int .i64 (20000 - (out.length : Int))) rfl (by kernel_rfl) (by kernel_rfl) (by kernel_rfl) (fun _ _ _ h => h) (Or.inl ⟨by rfl, fun W => ?t8⟩) ?_
                case t8 => go_simp; rw [IntKind.wrap_i64]; omega
                simp only [Act.put, List.getElem_toArray, List.getElem_cons_zero, List.getElem_cons_succ, List.setIfInBounds_toArray, List.set_cons_zero, List.set_cons_succ]
                refine wpAny_take (i := 9) (v := .int .u64 (20000 - (out.length : Int))) rfl (by kernel_rfl) (by kernel_rfl) (by kernel_rfl) (fun _ _ _ h => h) (Or.inl ⟨by rfl, fun W => ?t9⟩) ?_
                case t9 => go_simp; rw [IntKind.wrap_u64]; omega
                simp only [Act.put, List.getElem_toArray, List.getElem_cons_zero, List.getElem_cons_succ, List.setIfInBounds_toArray, List.set_cons_zero, List.set_cons_succ]
                refine wpAny_ready (rs := [1, 5]) (by kernel_rfl) (by simp) ?_
                refine ready_load_agg rfl rfl 38 (.tmp 3) rfl w.heap.size 0 rfl cs _ (HXC.out _ HBD0.out) Try.underlying38 rfl (by rw [HCSZ.out]; exact size38) ?_ ?_
                · try simp only [Act.put, List.getElem_toArray, List.getElem_cons_zero, List.getElem_cons_succ, List.setIfInBounds_toArray, List.set_cons_zero, List.set_cons_succ]
                  refine wpAny_ready (rs := [5]) (by kernel_rfl) (by simp) ?_
                  refine ready_load_agg rfl rfl 164 (.tmp 54) rfl bb (ob + k * 6) rfl c.cells _ (HSC2.out _ HBD0.out) Try.underlying164 rfl (by rw [HSC6.out]; exact size164) ?_ AllReady.nil
                  try simp only [Act.put, List.getElem_toArray, List.getElem_cons_zero, List.getElem_cons_succ, List.setIfInBounds_toArray, List.set_cons_zero, List.set_cons_succ]
                  refine wpAny_ready (rs := [10]) (by kernel_rfl) (by simp) ?_
                  refine AllReady.cons rfl (fun K hK => ?_) AllReady.nil
                  go_simp
                  go_at_call 86
                  refine (HSE2.out _ (HBL.out _ HBD0.out)).mono ?_
                  rintro e w9 ⟨v9, rfl, hb9, hn9, hr9⟩
                  have HB9 := Lib.hid (HBD0.out.trans (below_le hb9 HBD0.out.size))
                  have HN9 := Lib.hid hn9
                  have HR9 := Lib.hid hr9
                  clear hb9 hn9 hr9
                  refine hK _ _ ?_
                  clear hK K
                  try simp only [Act.put, List.getElem_toArray, List.getElem_cons_zero, List.getElem_cons_succ, List.setIfInBounds_toArray, List.set_cons_zero, List.set_cons_succ]
                  refine wpAny_ready (rs := [11]) (by kernel_rfl) (by simp) ?_
                  refine AllReady.cons rfl (fun K hK => ?_) AllReady.nil
                  go_simp
                  refine hK _ _ ?_
                  clear hK K
                  try simp only [Act.put, List.getElem_toArray, List.getElem_cons_zero, List.getElem_cons_succ, List.setIfInBounds_toArray, List.set_cons_zero, List.set_cons_succ]
                  refine wpAny_take (i := 12) (v := v9) rfl (by kernel_rfl) (by kernel_rfl) (by kernel_rfl) (fun _ _ _ h => h) (Or.inl ⟨by rfl, fun W => ?t12⟩) ?_
                  case t12 => go_simp
                  simp only [Act.put, List.getElem_toArray, List.getElem_cons_zero, List.getElem_cons_succ, List.setIfInBounds_toArray, List.set_cons_zero, List.set_cons_succ]
                  refine wpAny_take (i := 13) (v := .int .i64 er) rfl (by kernel_rfl) (by kernel_rfl) (by kernel_rfl) (fun _ _ _ h => h) (Or.inl ⟨by rfl, fun W => ?t13⟩) ?_
                  case t13 => go_simp
                  simp only [Act.put, List.getElem_toArray, List.getElem_cons_zero, List.getElem_cons_succ, List.setIfInBounds_toArray, List.set_cons_zero, List.set_cons_succ]
                  refine wpAny_ready (rs := [14]) (by kernel_rfl) (by simp) ?_
                  refine AllReady.cons rfl (fun K hK => ?_) AllReady.nil
                  go_simp
                  refine hK _ _ ?_
                  clear hK K
                  try simp only [Act.put, List.getElem_toArray, List.getElem_cons_zero, List.getElem_cons_succ, List.setIfInBounds_toArray, List.set_cons_zero, List.set_cons_succ]
                  refine wpAny_ready (rs := [15]) (by kernel_rfl) (by simp) ?_
                  refine AllReady.cons rfl (fun K hK => ?_) AllReady.nil
                  go_simp
                  refine hK _ _ ?_
                  clear hK K
                  try simp only [Act.put, List.getElem_toArray, List.getElem_cons_zero, List.getElem_cons_succ, List.setIfInBounds_toArray, List.set_cons_zero, List.set_cons_succ]
                  refine wpAny_done (by kernel_rfl) ?_ _
                  go_wp2_with fail
                  go_meet
                  exact ⟨v9, rfl, rfl, HB9.out, HN9.out, HR9.out⟩
                refine ready_load_agg rfl rfl 164 (.tmp 54) rfl bb (ob + k * 6) rfl c.cells _ (HSC2.out _ HBD0.out) Try.underlying164 rfl (by rw [HSC6.out]; exact size164) ?_ AllReady.nil
                try simp only [Act.put, List.getElem_toArray, List.getElem_cons_zero, List.getElem_cons_succ, List.setIfInBounds_toArray, List.set_cons_zero, List.set_cons_succ]
                refine wpAny_ready (rs := [1]) (by kernel_rfl) (by simp) ?_
                refine ready_load_agg rfl rfl 38 (.tmp 3) rfl w.heap.size 0 rfl cs _ (HXC.out _ HBD0.out) Try.underlying38 rfl (by rw [HCSZ.out]; exact size38) ?_ AllReady.nil
                try simp only [Act.put, List.getElem_toArray, List.getElem_cons_zero, List.getElem_cons_succ, List.setIfInBounds_toArray, List.set_cons_zero, List.set_cons_succ]
                refine wpAny_ready (rs := [10]) (by kernel_rfl) (by simp) ?_
                refine AllReady.cons rfl (fun K hK => ?_) AllReady.nil
                go_simp
                go_at_call 86
                refine (HSE2.out _ (HBL.out _ HBD0.out)).mono ?_
                rintro e w9 ⟨v9, rfl, hb9, hn9, hr9⟩
                have HB9 := Lib.hid (HBD0.out.trans (below_le hb9 HBD0.out.size))
                have HN9 := Lib.hid hn9
                have HR9 := Lib.hid hr9
                clear hb9 hn9 hr9
                refine hK _ _ ?_
                clear hK K
                try simp only [Act.put, List.getElem_toArray, List.getElem_cons_zero, List.getElem_cons_succ, List.setIfInBounds_toArray, List.set_cons_zero, List.set_cons_succ]
                refine wpAny_ready (rs := [11]) (by kernel_rfl) (by simp) ?_
                refine AllReady.cons rfl (fun K hK => ?_) AllReady.nil
                go_simp
                refine hK _ _ ?_
                clear hK K
                try simp only [Act.put, List.getElem_toArray, List.getElem_cons_zero, List.getElem_cons_succ, List.setIfInBounds_toArray, List.set_cons_zero, List.set_cons_succ]
                refine wpAny_take (i := 12) (v := v9) rfl (by kernel_rfl) (by kernel_rfl) (by kernel_rfl) (fun _ _ _ h => h) (Or.inl ⟨by rfl, fun W => ?t12⟩) ?_
                case t12 => go_simp
                simp only [Act.put, List.getElem_toArray, List.getElem_cons_zero, List.getElem_cons_succ, List.setIfInBounds_toArray, List.set_cons_zero, List.set_cons_succ]
                refine wpAny_take (i := 13) (v := .int .i64 er) rfl (by kernel_rfl) (by kernel_rfl) (by kernel_rfl) (fun _ _ _ h => h) (Or.inl ⟨by rfl, fun W => ?t13⟩) ?_
                case t13 => go_simp
                simp only [Act.put, List.getElem_toArray, List.getElem_cons_zero, List.getElem_cons_succ, List.setIfInBounds_toArray, List.set_cons_zero, List.set_cons_succ]
                refine wpAny_ready (rs := [14]) (by kernel_rfl) (by simp) ?_
                refine AllReady.cons rfl (fun K hK => ?_) AllReady.nil
                go_simp
                refine hK _ _ ?_
                clear hK K
                try simp only [Act.put, List.getElem_toArray, List.getElem_cons_zero, List.getElem_cons_succ, List.setIfInBounds_toArray, List.set_cons_zero, List.set_cons_succ]
                refine wpAny_ready (rs := [15]) (by kernel_rfl) (by simp) ?_
                refine AllReady.cons rfl (fun K hK => ?_) AllReady.nil
                go_simp
                refine hK _ _ ?_
                clear hK K
                try simp only [Act.put, List.getElem_toArray, List.getElem_cons_zero, List.getElem_cons_succ, List.setIfInBounds_toArray, List.set_cons_zero, List.set_cons_succ]
                refine wpAny_done (by kernel_rfl) ?_ _
                go_wp2_with fail
                go_meet
                exact ⟨v9, rfl, rfl, HB9.out, HN9.out, HR9.out⟩
              case rest =>
                obtain ⟨v, rfl, rfl, hb10, hn10, hr10⟩ := hcut.out
                clear hcut ck
                have HR2 := Lib.hid (HR1.out.keep hb10)
                have hz10 := hb10.size
                by_cases he : er = 0
                · subst he
                  have hrow := hr10 rfl
                  have hT3 := HT2.out
                  rw [if_neg (by simp)] at hT3
                  have HT3 := Lib.hid hT3
                  have hl := HLEN.out rfl
                  have hl2 : so.length ≤ 20000 - out.length := by omega
                  clear hn10 hr10 hb10 hl hT3 HT2 HSTP HSE2
                  rcases hrow.2 with ⟨rfl, h0⟩ | ⟨g, cap, cur, rfl, hbg, hg, hrest⟩
                  · have e0 : so = [] := List.eq_nil_of_length_eq_zero h0
                    rw [e0, List.append_nil] at HT3
                    clear hrow h0 hl2 e0 HLEN
                    go_wp2_with (at_builtin; refine wpList_append_own_none rfl _ _ 52 rfl w.heap.size 32 i32 1 Try.underlying52 hi32 _ _ _ rfl HR2.out.row rfl ?_)
                    go_roundw
                    case rel => exact ⟨k + 1, ad1, cp1, by omega, by go_num, by rw [← HST'.out, HT3.out], by show (oSt M o i (k + 1)).err = 0; rw [← HST'.out, HT3.out], by show RoSt _ _ _ _ _; rw [← HST'.out, HT3.out]; exact HR2.out⟩
                    case measure => simp [intOf]; omega
                  · have HCE : Hid (∀ j u, (u64s so)[j]? = some u → wc.cell? ((⟨g, 0, none⟩ : Addr).add j) = some u) := fun j u hj => hrow.cells (g := g) rfl j u hj
                    have HL1 : Hid (out.length + so.length ≤ maxLen) := by show _ ≤ maxLen; unfold maxLen; omega
                    have HL2 : Hid ((out.length + so.length) * 8 ≤ 140737488355328) := by show _ * 8 ≤ _; omega
                    have HSL : Hid ((u64s so).length = so.length * 1) := by show _ = _; rw [u64s_length]; omega
                    have HONE := Lib.hid (u64s_one so)
                    have HBS : Hid (w.heap.size ≤ wc.heap.size) := HR2.out.below.size
                    clear hrow hrest hg hl2 hbg HLEN
                    go_wp2_with (at_builtin; refine wpList_append_own _ rfl _ _ 52 rfl w.heap.size 32 i32 (.int .u64 0) 1 8 Try.underlying52 hi32 hz32 hs32 hy32 rfl (by decide) _ _ _ rfl HR2.out.row ⟨g, 0, none⟩ so.length cap (u64s so) rfl HSL.out HCE.out HONE.out HL1.out HL2.out HBS.out ?_; intro v5 w5 hown5 hgrow5 _; obtain ⟨a5, c5, rfl⟩ := ownsRow_shape hown5; have HR5 := Lib.hid (HR2.out.pushes hown5 hgrow5); clear hown5 hgrow5)
                    go_roundw
                    case rel => exact ⟨k + 1, a5, c5, by omega, by go_num, by rw [← HST'.out, HT3.out, List.length_append], by show (oSt M o i (k + 1)).err = 0; rw [← HST'.out, HT3.out], by show RoSt _ _ _ _ _; rw [← HST'.out, HT3.out, List.length_append]; exact HR5.out⟩
                    case measure => simp [intOf]; omega
                · have b1 : ((er : Int) != 0) = true := by rw [bne_iff_ne]; exact he
                  obtain rfl := hn10 he
                  have hT3 := HT2.out
                  rw [if_pos he] at hT3
                  have hst := HSTP.out (by rw [hT3]; exact he)
                  rw [hT3] at hst
                  have HO := Lib.hid hst
                  have HER := Lib.hid he
                  clear hn10 hr10 hb10 hst hT3 HT2 HSTP HSE2 he
                  go_wp2_with fail
                  go_ret2
                  rw [HO.out]
                  exact OfRes.stop HER.out HR2.out.below
            · have hk22 : c.x.kind = 22 := by unfold isInit at hin; simpa [hk9] using hin
              have b9 : ((c.x.kind : Int) != 9) = true := by rw [bne_iff_ne]; exact hk9
              have b22 : ((c.x.kind : Int) != 22) = false := by rw [bne_eq_false_iff_eq]; exact hk22
              generalize c.x.kind = kd at *
              clear hk9 hk22 hin
              go_wp2_with fail
              go_cut [10, 11] (fun s10 s11 wx => Hid (∃ v, s10 = v ∧ s11 = .int .i64 er ∧ Below wr.heap.size wr wx ∧ (er ≠ 0 → v = .slice none 0 0) ∧ (er = 0 → wx.ownsRow wr.heap.size 32 1 v so.length (u64s so))))
              case first =>
                have HBD0 : Hid (Below wr.heap.size wr wr.drew) := (Below.refl _ wr).drew
                refine wp_region_any (by kernel_rfl) ?_
                change wpAny _ _ _ _ _ _ _ wr.drew
                refine wpAny_take (i := 0) (v := .pointer (some ⟨b, 0, none⟩)) rfl (by kernel_rfl) (by kernel_rfl) (by kernel_rfl) (fun _ _ _ h => h) (Or.inl ⟨by rfl, fun W => ?t0⟩) ?_
                case t0 => go_simp
                simp only [Act.put, List.getElem_toArray, List.getElem_cons_zero, List.setIfInBounds_toArray, List.set_cons_zero, List.set_cons_succ]
                refine wpAny_take (i := 2) (v := .slice (some ⟨bb, ob, none⟩) S.length c') rfl (by kernel_rfl) (by kernel_rfl) (by kernel_rfl) (fun _ _ _ h => h) (Or.inl ⟨by rfl, fun W => ?t2⟩) ?_
                case t2 => go_simp
                simp only [Act.put, List.getElem_toArray, List.getElem_cons_zero, List.getElem_cons_succ, List.setIfInBounds_toArray, List.set_cons_zero, List.set_cons_succ]
                refine wpAny_take (i := 3) (v := .int .i64 (k : Int)) rfl (by kernel_rfl) (by kernel_rfl) (by kernel_rfl) (fun _ _ _ h => h) (Or.inl ⟨by rfl, fun W => ?t3⟩) ?_
                case t3 => go_simp
                simp only [Act.put, List.getElem_toArray, List.getElem_cons_zero, List.getElem_cons_succ, List.setIfInBounds_toArray, List.set_cons_zero, List.set_cons_succ]
                refine wpAny_take (i := 4) (v := .pointer (some ⟨bb, ob + k * 6, none⟩)) rfl (by kernel_rfl) (by kernel_rfl) (by kernel_rfl) (fun _ _ _ h => h) (Or.inl ⟨by rfl, fun W => ?t4⟩) ?_
                case t4 => go_simp
                simp only [Act.put, List.getElem_toArray, List.getElem_cons_zero, List.getElem_cons_succ, List.setIfInBounds_toArray, List.set_cons_zero, List.set_cons_succ]
                refine wpAny_take (i := 6) (v := .slice ad1 out.length cp1) rfl (by kernel_rfl) (by kernel_rfl) (by kernel_rfl) (fun _ _ _ h => h) (Or.inl ⟨by rfl, fun W => ?t6⟩) ?_
                case t6 => go_simp
                simp only [Act.put, List.getElem_toArray, List.getElem_cons_zero, List.getElem_cons_succ, List.setIfInBounds_toArray, List.set_cons_zero, List.set_cons_succ]
                refine wpAny_take (i := 7) (v := .int .i64 (out.length : Int)) rfl (by kernel_rfl) (by kernel_rfl) (by kernel_rfl) (fun _ _ _ h => h) (Or.inl ⟨by rfl, fun W => ?t7⟩) ?_
                case t7 => go_simp
                simp only [Act.put, List.getElem_toArray, List.getElem_cons_zero, List.getElem_cons_succ, List.setIfInBounds_toArray, List.set_cons_zero, List.set_cons_succ]
                refine wpAny_take (i := 8) (v := .int .i64 (20000 - (out.length : Int))) rfl (by kernel_rfl) (by kernel_rfl) (by kernel_rfl) (fun _ _ _ h => h) (Or.inl ⟨by rfl, fun W => ?t8⟩) ?_
                case t8 => go_simp; rw [IntKind.wrap_i64]; omega
                simp only [Act.put, List.getElem_toArray, List.getElem_cons_zero, List.getElem_cons_succ, List.setIfInBounds_toArray, List.set_cons_zero, List.set_cons_succ]
                refine wpAny_take (i := 9) (v := .int .u64 (20000 - (out.length : Int))) rfl (by kernel_rfl) (by kernel_rfl) (by kernel_rfl) (fun _ _ _ h => h) (Or.inl ⟨by rfl, fun W => ?t9⟩) ?_
                case t9 => go_simp; rw [IntKind.wrap_u64]; omega
                simp only [Act.put, List.getElem_toArray, List.getElem_cons_zero, List.getElem_cons_succ, List.setIfInBounds_toArray, List.set_cons_zero, List.set_cons_succ]
                refine wpAny_ready (rs := [1, 5]) (by kernel_rfl) (by simp) ?_
                refine ready_load_agg rfl rfl 38 (.tmp 3) rfl w.heap.size 0 rfl cs _ (HXC.out _ HBD0.out) Try.underlying38 rfl (by rw [HCSZ.out]; exact size38) ?_ ?_
                · try simp only [Act.put, List.getElem_toArray, List.getElem_cons_zero, List.getElem_cons_succ, List.setIfInBounds_toArray, List.set_cons_zero, List.set_cons_succ]
                  refine wpAny_ready (rs := [5]) (by kernel_rfl) (by simp) ?_
                  refine ready_load_agg rfl rfl 164 (.tmp 54) rfl bb (ob + k * 6) rfl c.cells _ (HSC2.out _ HBD0.out) Try.underlying164 rfl (by rw [HSC6.out]; exact size164) ?_ AllReady.nil
                  try simp only [Act.put, List.getElem_toArray, List.getElem_cons_zero, List.getElem_cons_succ, List.setIfInBounds_toArray, List.set_cons_zero, List.set_cons_succ]
                  refine wpAny_ready (rs := [10]) (by kernel_rfl) (by simp) ?_
                  refine AllReady.cons rfl (fun K hK => ?_) AllReady.nil
                  go_simp
                  go_at_call 86
                  refine (HSE2.out _ (HBL.out _ HBD0.out)).mono ?_
                  rintro e w9 ⟨v9, rfl, hb9, hn9, hr9⟩
                  have HB9 := Lib.hid (HBD0.out.trans (below_le hb9 HBD0.out.size))
                  have HN9 := Lib.hid hn9
                  have HR9 := Lib.hid hr9
                  clear hb9 hn9 hr9
                  refine hK _ _ ?_
                  clear hK K
                  try simp only [Act.put, List.getElem_toArray, List.getElem_cons_zero, List.getElem_cons_succ, List.setIfInBounds_toArray, List.set_cons_zero, List.set_cons_succ]
                  refine wpAny_ready (rs := [11]) (by kernel_rfl) (by simp) ?_
                  refine AllReady.cons rfl (fun K hK => ?_) AllReady.nil
                  go_simp
                  refine hK _ _ ?_
                  clear hK K
                  try simp only [Act.put, List.getElem_toArray, List.getElem_cons_zero, List.getElem_cons_succ, List.setIfInBounds_toArray, List.set_cons_zero, List.set_cons_succ]
                  refine wpAny_take (i := 12) (v := v9) rfl (by kernel_rfl) (by kernel_rfl) (by kernel_rfl) (fun _ _ _ h => h) (Or.inl ⟨by rfl, fun W => ?t12⟩) ?_
                  case t12 => go_simp
                  simp only [Act.put, List.getElem_toArray, List.getElem_cons_zero, List.getElem_cons_succ, List.setIfInBounds_toArray, List.set_cons_zero, List.set_cons_succ]
                  refine wpAny_take (i := 13) (v := .int .i64 er) rfl (by kernel_rfl) (by kernel_rfl) (by kernel_rfl) (fun _ _ _ h => h) (Or.inl ⟨by rfl, fun W => ?t13⟩) ?_
                  case t13 => go_simp
                  simp only [Act.put, List.getElem_toArray, List.getElem_cons_zero, List.getElem_cons_succ, List.setIfInBounds_toArray, List.set_cons_zero, List.set_cons_succ]
                  refine wpAny_ready (rs := [14]) (by kernel_rfl) (by simp) ?_
                  refine AllReady.cons rfl (fun K hK => ?_) AllReady.nil
                  go_simp
                  refine hK _ _ ?_
                  clear hK K
                  try simp only [Act.put, List.getElem_toArray, List.getElem_cons_zero, List.getElem_cons_succ, List.setIfInBounds_toArray, List.set_cons_zero, List.set_cons_succ]
                  refine wpAny_ready (rs := [15]) (by kernel_rfl) (by simp) ?_
                  refine AllReady.cons rfl (fun K hK => ?_) AllReady.nil
                  go_simp
                  refine hK _ _ ?_
                  clear hK K
                  try simp only [Act.put, List.getElem_toArray, List.getElem_cons_zero, List.getElem_cons_succ, List.setIfInBounds_toArray, List.set_cons_zero, List.set_cons_succ]
                  refine wpAny_done (by kernel_rfl) ?_ _
                  go_wp2_with fail
                  go_meet
                  exact ⟨v9, rfl, rfl, HB9.out, HN9.out, HR9.out⟩
                refine ready_load_agg rfl rfl 164 (.tmp 54) rfl bb (ob + k * 6) rfl c.cells _ (HSC2.out _ HBD0.out) Try.underlying164 rfl (by rw [HSC6.out]; exact size164) ?_ AllReady.nil
                try simp only [Act.put, List.getElem_toArray, List.getElem_cons_zero, List.getElem_cons_succ, List.setIfInBounds_toArray, List.set_cons_zero, List.set_cons_succ]
                refine wpAny_ready (rs := [1]) (by kernel_rfl) (by simp) ?_
                refine ready_load_agg rfl rfl 38 (.tmp 3) rfl w.heap.size 0 rfl cs _ (HXC.out _ HBD0.out) Try.underlying38 rfl (by rw [HCSZ.out]; exact size38) ?_ AllReady.nil
                try simp only [Act.put, List.getElem_toArray, List.getElem_cons_zero, List.getElem_cons_succ, List.setIfInBounds_toArray, List.set_cons_zero, List.set_cons_succ]
                refine wpAny_ready (rs := [10]) (by kernel_rfl) (by simp) ?_
                refine AllReady.cons rfl (fun K hK => ?_) AllReady.nil
                go_simp
                go_at_call 86
                refine (HSE2.out _ (HBL.out _ HBD0.out)).mono ?_
                rintro e w9 ⟨v9, rfl, hb9, hn9, hr9⟩
                have HB9 := Lib.hid (HBD0.out.trans (below_le hb9 HBD0.out.size))
                have HN9 := Lib.hid hn9
                have HR9 := Lib.hid hr9
                clear hb9 hn9 hr9
                refine hK _ _ ?_
                clear hK K
                try simp only [Act.put, List.getElem_toArray, List.getElem_cons_zero, List.getElem_cons_succ, List.setIfInBounds_toArray, List.set_cons_zero, List.set_cons_succ]
                refine wpAny_ready (rs := [11]) (by kernel_rfl) (by simp) ?_
                refine AllReady.cons rfl (fun K hK => ?_) AllReady.nil
                go_simp
                refine hK _ _ ?_
                clear hK K
                try simp only [Act.put, List.getElem_toArray, List.getElem_cons_zero, List.getElem_cons_succ, List.setIfInBounds_toArray, List.set_cons_zero, List.set_cons_succ]
                refine wpAny_take (i := 12) (v := v9) rfl (by kernel_rfl) (by kernel_rfl) (by kernel_rfl) (fun _ _ _ h => h) (Or.inl ⟨by rfl, fun W => ?t12⟩) ?_
                case t12 => go_simp
                simp only [Act.put, List.getElem_toArray, List.getElem_cons_zero, List.getElem_cons_succ, List.setIfInBounds_toArray, List.set_cons_zero, List.set_cons_succ]
                refine wpAny_take (i := 13) (v := .int .i64 er) rfl (by kernel_rfl) (by kernel_rfl) (by kernel_rfl) (fun _ _ _ h => h) (Or.inl ⟨by rfl, fun W => ?t13⟩) ?_
                case t13 => go_simp
                simp only [Act.put, List.getElem_toArray, List.getElem_cons_zero, List.getElem_cons_succ, List.setIfInBounds_toArray, List.set_cons_zero, List.set_cons_succ]
                refine wpAny_ready (rs := [14]) (by kernel_rfl) (by simp) ?_
                refine AllReady.cons rfl (fun K hK => ?_) AllReady.nil
                go_simp
                refine hK _ _ ?_
                clear hK K
                try simp only [Act.put, List.getElem_toArray, List.getElem_cons_zero, List.getElem_cons_succ, List.setIfInBounds_toArray, List.set_cons_zero, List.set_cons_succ]
                refine wpAny_ready (rs := [15]) (by kernel_rfl) (by simp) ?_
                refine AllReady.cons rfl (fun K hK => ?_) AllReady.nil
                go_simp
                refine hK _ _ ?_
                clear hK K
                try simp only [Act.put, List.getElem_toArray, List.getElem_cons_zero, List.getElem_cons_succ, List.setIfInBounds_toArray, List.set_cons_zero, List.set_cons_succ]
                refine wpAny_done (by kernel_rfl) ?_ _
                go_wp2_with fail
                go_meet
                exact ⟨v9, rfl, rfl, HB9.out, HN9.out, HR9.out⟩
              case rest =>
                obtain ⟨v, rfl, rfl, hb10, hn10, hr10⟩ := hcut.out
                clear hcut ck
                have HR2 := Lib.hid (HR1.out.keep hb10)
                have hz10 := hb10.size
                by_cases he : er = 0
                · subst he
                  have hrow := hr10 rfl
                  have hT3 := HT2.out
                  rw [if_neg (by simp)] at hT3
                  have HT3 := Lib.hid hT3
                  have hl := HLEN.out rfl
                  have hl2 : so.length ≤ 20000 - out.length := by omega
                  clear hn10 hr10 hb10 hl hT3 HT2 HSTP HSE2
                  rcases hrow.2 with ⟨rfl, h0⟩ | ⟨g, cap, cur, rfl, hbg, hg, hrest⟩
                  · have e0 : so = [] := List.eq_nil_of_length_eq_zero h0
                    rw [e0, List.append_nil] at HT3
                    clear hrow h0 hl2 e0 HLEN
                    go_wp2_with (at_builtin; refine wpList_append_own_none rfl _ _ 52 rfl w.heap.size 32 i32 1 Try.underlying52 hi32 _ _ _ rfl HR2.out.row rfl ?_)
                    go_roundw
                    case rel => exact ⟨k + 1, ad1, cp1, by omega, by go_num, by rw [← HST'.out, HT3.out], by show (oSt M o i (k + 1)).err = 0; rw [← HST'.out, HT3.out], by show RoSt _ _ _ _ _; rw [← HST'.out, HT3.out]; exact HR2.out⟩
                    case measure => simp [intOf]; omega
                  · have HCE : Hid (∀ j u, (u64s so)[j]? = some u → wc.cell? ((⟨g, 0, none⟩ : Addr).add j) = some u) := fun j u hj => hrow.cells (g := g) rfl j u hj
                    have HL1 : Hid (out.length + so.length ≤ maxLen) := by show _ ≤ maxLen; unfold maxLen; omega
                    have HL2 : Hid ((out.length + so.length) * 8 ≤ 140737488355328) := by show _ * 8 ≤ _; omega
                    have HSL : Hid ((u64s so).length = so.length * 1) := by show _ = _; rw [u64s_length]; omega
                    have HONE := Lib.hid (u64s_one so)
                    have HBS : Hid (w.heap.size ≤ wc.heap.size) := HR2.out.below.size
                    clear hrow hrest hg hl2 hbg HLEN
                    go_wp2_with (at_builtin; refine wpList_append_own _ rfl _ _ 52 rfl w.heap.size 32 i32 (.int .u64 0) 1 8 Try.underlying52 hi32 hz32 hs32 hy32 rfl (by decide) _ _ _ rfl HR2.out.row ⟨g, 0, none⟩ so.length cap (u64s so) rfl HSL.out HCE.out HONE.out HL1.out HL2.out HBS.out ?_; intro v5 w5 hown5 hgrow5 _; obtain ⟨a5, c5, rfl⟩ := ownsRow_shape hown5; have HR5 := Lib.hid (HR2.out.pushes hown5 hgrow5); clear hown5 hgrow5)
                    go_roundw
                    case rel => exact ⟨k + 1, a5, c5, by omega, by go_num, by rw [← HST'.out, HT3.out, List.length_append], by show (oSt M o i (k + 1)).err = 0; rw [← HST'.out, HT3.out], by show RoSt _ _ _ _ _; rw [← HST'.out, HT3.out, List.length_append]; exact HR5.out⟩
                    case measure => simp [intOf]; omega
                · have b1 : ((er : Int) != 0) = true := by rw [bne_iff_ne]; exact he
                  obtain rfl := hn10 he
                  have hT3 := HT2.out
                  rw [if_pos he] at hT3
                  have hst := HSTP.out (by rw [hT3]; exact he)
                  rw [hT3] at hst
                  have HO := Lib.hid hst
                  have HER := Lib.hid he
                  clear hn10 hr10 hb10 hst hT3 HT2 HSTP HSE2 he
                  go_wp2_with fail
                  go_ret2
                  rw [HO.out]
                  exact OfRes.stop HER.out HR2.out.below
          · have hK2 := hK (by simpa using hin)
            have b9 : ((c.x.kind : Int) != 9) = true := by rw [bne_iff_ne]; intro e; exact hin (by unfold isInit; simp [e])
            have b22 : ((c.x.kind : Int) != 22) = true := by rw [bne_iff_ne]; intro e; exact hin (by unfold isInit; simp [e])
            have HK := Lib.hid hK2
            generalize c.x.kind = kd at *
            clear hK2 hK hT hstop hin
            go_wp2_with fail
            go_roundw
            case rel => exact ⟨k + 1, ad1, cp1, by omega, by go_num, by rw [← HST'.out, HK.out], by show (oSt M o i (k + 1)).err = 0; rw [← HST'.out, HK.out], by show RoSt _ _ _ _ _; rw [← HST'.out, HK.out]; exact HR1.out⟩
            case measure => simp [intOf]; omega
        · obtain rfl : k = S.length := by omega
          go_wp2_with fail
          go_roundw
          case rel => exact ⟨i + 1, ad1, cp1, by omega, by go_num, by rw [HEND.out], by show (oSt M o (i + 1) 0).err = 0; rw [← HEND.out]; exact HE1.out, by show RoSt _ _ _ _ _; rw [← HEND.out]; exact HR1.out⟩
          case measure => simp [intOf]; omega
    · obtain rfl : i = o.segs.length := by omega
      have HZ := Lib.hid (oSt_last (M := M) (o := o))
      go_wp2_with fail
      go_ret2
      rw [HZ.out, HE.out]
      exact ⟨_, rfl, HR.out.below, fun h0 => absurd rfl h0, fun _ => HR.out.row⟩
end Go.Proofs.Ytepnaalgobhcdaa
namespace Go.Proofs.Ytepnaalgobhcdaa
open Go.RowKit Go.Shelf Spm Clv

def imO (ls : List OIm) (j : Nat) : OIm := ls.getD j ⟨0, []⟩
/-- Which image's error comes first, of the first so many. -/
def iErrAt (M : List Pg) (ls : List OIm) : Nat → Option (Nat × Int)
  | 0 => none
  | j + 1 => match iErrAt M ls j with
    | some p => some p
    | none => if (oOf M (imO ls j)).err ≠ 0 then some (j, (oOf M (imO ls j)).err) else none
theorem iErrAt_stuck {M : List Pg} {ls : List OIm} {j k : Nat} {p : Nat × Int} (h : iErrAt M ls j = some p) (hk : j ≤ k) : iErrAt M ls k = some p := by
  induction k with
  | zero => obtain rfl : j = 0 := by omega
            exact h
  | succ k ih =>
    by_cases e : j = k + 1
    · rw [← e]; exact h
    · rw [iErrAt, ih (by omega)]
theorem iErrAt_next {M : List Pg} {ls : List OIm} {j : Nat} (h : iErrAt M ls j = none) : iErrAt M ls (j + 1) = if (oOf M (imO ls j)).err ≠ 0 then some (j, (oOf M (imO ls j)).err) else none := by
  rw [iErrAt, h]
theorem iErrAt_none {M : List Pg} {ls : List OIm} {k : Nat} (h : iErrAt M ls k = none) {j : Nat} (hj : j < k) : (oOf M (imO ls j)).err = 0 := by
  have h1 : iErrAt M ls (j + 1) = none := by
    cases hp : iErrAt M ls (j + 1) with
    | none => rfl
    | some p => rw [iErrAt_stuck hp (by omega)] at h; cases h
  have h0 : iErrAt M ls j = none := by
    cases hp : iErrAt M ls j with
    | none => rfl
    | some p => rw [iErrAt_stuck hp (by omega)] at h; cases h
  rw [iErrAt_next h0] at h1
  by_cases e : (oOf M (imO ls j)).err = 0
  · exact e
  · rw [if_pos e] at h1; cases h1
/-- All initializers, image by image. -/
def iRow (M : List Pg) (ls : List OIm) (r : List Nat) : List (Nat × Nat) := r.flatMap fun i => (oOf M (imO ls i)).out.map fun a => (i, a)
theorem iRow_len {M : List Pg} {ls : List OIm} : ∀ r : List Nat, (iRow M ls r).length ≤ 20000 * r.length
  | [] => Nat.le_refl _
  | i :: r => by
    have h1 := iRow_len (M := M) (ls := ls) r
    have h2 := oOf_bound M (imO ls i)
    have e : iRow M ls (i :: r) = ((oOf M (imO ls i)).out.map fun a => (i, a)) ++ iRow M ls r := rfl
    rw [e, List.length_append, List.length_map, List.length_cons]
    omega
theorem iRow_take {M : List Pg} {ls : List OIm} {r : List Nat} {k : Nat} (hk : k < r.length) : iRow M ls (r.take (k + 1)) = iRow M ls (r.take k) ++ (oOf M (imO ls (r.getD k 0))).out.map fun a => (r.getD k 0, a) := by
  unfold iRow
  rw [List.take_add_one, List.flatMap_append, List.getD_eq_getElem?_getD, List.getElem?_eq_getElem hk]
  simp
def flatI (l : List (Nat × Nat)) : List Value := l.flatMap fun p => [.int .i64 (p.1 : Int), .int .u64 (p.2 : Int)]
theorem flatI_append (a b : List (Nat × Nat)) : flatI (a ++ b) = flatI a ++ flatI b := List.flatMap_append ..
theorem flatI_len (l : List (Nat × Nat)) : (flatI l).length = l.length * 2 := by
  induction l with
  | nil => rfl
  | cons x l ih => unfold flatI at ih ⊢; simp only [List.flatMap_cons, List.length_append, ih, List.length_cons, List.length_nil]; omega
theorem flatI_at {l : List (Nat × Nat)} {k : Nat} (hk : k < l.length) : (flatI l)[k * 2]? = some (.int .i64 ((l.getD k (0, 0)).1 : Int)) ∧ (flatI l)[k * 2 + 1]? = some (.int .u64 ((l.getD k (0, 0)).2 : Int)) := by
  induction l generalizing k with
  | nil => simp at hk
  | cons x l ih =>
    have e : flatI (x :: l) = .int .i64 (x.1 : Int) :: .int .u64 (x.2 : Int) :: flatI l := by simp [flatI]
    cases k with
    | zero => rw [e]; simp
    | succ k =>
      have := ih (k := k) (by simpa using hk)
      rw [e, show (k + 1) * 2 = k * 2 + 2 by omega]
      simpa using this
def InitRes (w : World) (M : List Pg) (ls : List OIm) (r : List Nat) (e : Ending) (w' : World) : Prop :=
  ∃ v, Below w.heap.size w w' ∧
    ((∃ i er, iErrAt M ls ls.length = some (i, er) ∧ v = .slice none 0 0 ∧ e = .returned (.tuple #[v, .int .i64 ((i : Nat) : Int), .int .i64 er])) ∨
     (iErrAt M ls ls.length = none ∧ e = .returned (.tuple #[v, .int .i64 0, .int .i64 0]) ∧ w'.ownsRow w.heap.size 118 2 v (iRow M ls r).length (flatI (iRow M ls r))))

/-- The lists of the first j images. -/
structure InA (w : World) (M : List Pg) (ls : List OIm) (j : Nat) (vs : List Value) (v : Value) (W : World) : Prop where
  below : Below w.heap.size w W
  row : W.ownsRow w.heap.size 52 1 v j vs
  each : ∀ k x, vs[k]? = some x → W.ownsRow w.heap.size 32 1 x (oOf M (imO ls k)).out.length (u64s (oOf M (imO ls k)).out)
section
variable {w W W' : World} {M : List Pg} {ls : List OIm} {j : Nat} {vs : List Value} {v : Value}
theorem InA.vl (h : InA w M ls j vs v W) : vs.length = j := by have := h.row.1; omega
theorem InA.keep (h : InA w M ls j vs v W) (hb : Below W.heap.size W W') : InA w M ls j vs v W' :=
  ⟨h.below.trans (below_le hb h.below.size), owns2_same h.row fun g hg => hb.block g (h.row.lt g hg).2, fun k x hx => owns2_same (h.each k x hx) fun g hg => hb.block g ((h.each k x hx).lt g hg).2⟩
theorem below_grownI {w W w1 : World} {v : Value} (h : Below w.heap.size w W) (hg : W.grownBy w1 v.ownBlock) (hv : ∀ g, v.ownBlock = some g → w.heap.size ≤ g) : Below w.heap.size w w1 :=
  ⟨hg.os.trans h.os, hg.tape.trans h.tape, hg.output.trans h.output, Nat.le_trans h.size hg.size, fun i hi => by
    rw [hg.block i (Nat.lt_of_lt_of_le hi h.size) (fun e => by have := hv i e.symm; omega)]
    exact h.block i hi⟩
/-- A row of one type stays while a row of another type grows. -/
theorem row_beside {W w1 : World} {B B' n m s s' : Nat} {e e' : TypeId} {u v : Value} {xs ys : List Value} (h : W.ownsRow B e s u n xs) (hv : W.ownsRow B' e' s' v m ys) (hee : e ≠ e') (hg : W.grownBy w1 v.ownBlock) : w1.ownsRow B e s u n xs :=
  owns2_same h fun g hgg => by
    have hl := (h.lt g hgg).2
    refine hg.block g hl ?_
    rcases h.2 with ⟨rfl, _⟩ | ⟨g', cap, c, rfl, _, hg', _⟩
    · simp [Value.ownBlock] at hgg
    · obtain rfl : g' = g := by simpa [Value.ownBlock] using hgg
      exact row1_other hv (fun _ _ e => by cases e; exact hee rfl) hg'
theorem InA.push (h : InA w M ls j vs v W) {x : Value} (hx : W.ownsRow w.heap.size 32 1 x (oOf M (imO ls j)).out.length (u64s (oOf M (imO ls j)).out)) {v' : Value} {w1 : World}
    (hown : w1.ownsRow w.heap.size 52 1 v' (j + 1) (vs ++ [x])) (hg : W.grownBy w1 v.ownBlock) : InA w M ls (j + 1) (vs ++ [x]) v' w1 := by
  refine ⟨below_grownI h.below hg fun g hgg => (h.row.lt g hgg).1, hown, fun k y hy => ?_⟩
  by_cases hk : k < vs.length
  · rw [List.getElem?_append_left hk] at hy
    exact row_beside (h.each k y hy) h.row (by decide) hg
  · have hk2 := (List.getElem?_eq_some_iff.1 hy).1
    rw [List.length_append, List.length_singleton] at hk2
    obtain rfl : k = vs.length := by omega
    rw [List.getElem?_append_right (by omega), Nat.sub_self] at hy
    have hy2 : x = y := by simpa using hy
    subst hy2
    rw [h.vl]
    exact row_beside hx h.row (by decide) hg
theorem ownsRow_le {W : World} {base base' : Nat} {e : TypeId} {size : Nat} {v : Value} {k : Nat} {xs : List Value} (h : W.ownsRow base e size v k xs) (hb : base' ≤ base) : W.ownsRow base' e size v k xs := by
  refine ⟨h.1, ?_⟩
  rcases h.2 with h | ⟨g, cap, cur, h1, h2, r⟩
  · exact .inl h
  · exact .inr ⟨g, cap, cur, h1, by omega, r⟩
/-- An element of the row of lists. -/
theorem InA.at_ (h : InA w M ls j vs v W) {k : Nat} (hk : k < j) : ∃ g cap, v = .slice (some ⟨g, 0, none⟩) j cap ∧ j ≤ cap ∧ cap ≤ 9223372036854775807 ∧ ∃ ad cp, W.cell? ⟨g, k, none⟩ = some (.slice ad (oOf M (imO ls k)).out.length cp) ∧ W.ownsRow w.heap.size 32 1 (.slice ad (oOf M (imO ls k)).out.length cp) (oOf M (imO ls k)).out.length (u64s (oOf M (imO ls k)).out) := by
  have hl := h.vl
  rcases h.row.2 with ⟨_, h0⟩ | ⟨g, cap, cur, rfl, hb, hg, hc1, hc2, hs, ht⟩
  · omega
  · have hx : vs[k]? = some vs[k] := List.getElem?_eq_getElem (by omega)
    have he := h.each k _ hx
    obtain ⟨ad, cp, hv⟩ := ownsRow_shape he
    refine ⟨g, cap, rfl, hc1, by unfold maxLen at hc2; omega, ad, cp, ?_, by rw [← hv]; exact he⟩
    rw [h.row.cellAt k (by omega), hx, hv]
/-- An element of a list of addresses. -/
theorem u64_at {W : World} {B : Nat} {v : Value} {l : List Nat} (h : W.ownsRow B 32 1 v l.length (u64s l)) {k : Nat} (hk : k < l.length) : ∃ g cap, v = .slice (some ⟨g, 0, none⟩) l.length cap ∧ l.length ≤ cap ∧ cap ≤ 9223372036854775807 ∧ W.cell? ⟨g, k, none⟩ = some (.int .u64 (l.getD k 0 : Nat)) := by
  rcases h.2 with ⟨_, h0⟩ | ⟨g, cap, cur, rfl, hb, hg, hc1, hc2, hs, ht⟩
  · omega
  · refine ⟨g, cap, rfl, hc1, by unfold maxLen at hc2; omega, ?_⟩
    rw [h.cellAt k (by omega)]
    unfold u64s
    rw [List.getElem?_map, List.getElem?_eq_getElem hk, List.getD_eq_getElem?_getD, List.getElem?_eq_getElem hk]; rfl
end
/-- While all are gone over: the lists, the order, the row of initializers. -/
structure InB (w : World) (M : List Pg) (ls : List OIm) (vs : List Value) (v : Value) (rv : Value) (r : List Nat) (rows : List (Nat × Nat)) (vo : Value) (W : World) : Prop where
  a : InA w M ls ls.length vs v W
  order : W.ownsRow w.heap.size 3 1 rv r.length (nums r)
  out : W.ownsRow w.heap.size 118 2 vo rows.length (flatI rows)
section
variable {w W W' : World} {M : List Pg} {ls : List OIm} {vs : List Value} {v rv vo : Value} {r : List Nat} {rows : List (Nat × Nat)}
theorem InB.keep (h : InB w M ls vs v rv r rows vo W) (hb : Below W.heap.size W W') : InB w M ls vs v rv r rows vo W' :=
  ⟨h.a.keep hb, owns2_same h.order fun g hg => hb.block g (h.order.lt g hg).2, owns2_same h.out fun g hg => hb.block g (h.out.lt g hg).2⟩
theorem InB.push (h : InB w M ls vs v rv r rows vo W) {vo' : Value} {w1 : World} {p : Nat × Nat}
    (hown : w1.ownsRow w.heap.size 118 2 vo' (rows.length + 1) (flatI rows ++ [.int .i64 (p.1 : Int), .int .u64 (p.2 : Int)])) (hg : W.grownBy w1 vo.ownBlock) : InB w M ls vs v rv r (rows ++ [p]) vo' w1 := by
  refine ⟨⟨below_grownI h.a.below hg fun g hgg => (h.out.lt g hgg).1, row_beside h.a.row h.out (by decide) hg, fun k x hx => row_beside (h.a.each k x hx) h.out (by decide) hg⟩, row_beside h.order h.out (by decide) hg, ?_⟩
  rw [List.length_append, List.length_singleton, flatI_append]; exact hown
end
/-- The same for the reference: the order, the row of initializers. -/
structure InC (w : World) (rv : Value) (r : List Nat) (rows : List (Nat × Nat)) (vo : Value) (W : World) : Prop where
  below : Below w.heap.size w W
  order : W.ownsRow w.heap.size 3 1 rv r.length (nums r)
  out : W.ownsRow w.heap.size 118 2 vo rows.length (flatI rows)
section
variable {w W W' : World} {rv vo : Value} {r : List Nat} {rows : List (Nat × Nat)}
theorem InC.keep (h : InC w rv r rows vo W) (hb : Below W.heap.size W W') : InC w rv r rows vo W' :=
  ⟨h.below.trans (below_le hb h.below.size), owns2_same h.order fun g hg => hb.block g (h.order.lt g hg).2, owns2_same h.out fun g hg => hb.block g (h.out.lt g hg).2⟩
theorem InC.push (h : InC w rv r rows vo W) {vo' : Value} {w1 : World} {p : Nat × Nat}
    (hown : w1.ownsRow w.heap.size 118 2 vo' (rows.length + 1) (flatI rows ++ [.int .i64 (p.1 : Int), .int .u64 (p.2 : Int)])) (hg : W.grownBy w1 vo.ownBlock) : InC w rv r (rows ++ [p]) vo' w1 := by
  refine ⟨below_grownI h.below hg fun g hgg => (h.out.lt g hgg).1, row_beside h.order h.out (by decide) hg, ?_⟩
  rw [List.length_append, List.length_singleton, flatI_append]; exact hown
end
/-- An element of the order. -/
theorem num_at {W : World} {B : Nat} {v : Value} {r : List Nat} (h : W.ownsRow B 3 1 v r.length (nums r)) {k : Nat} (hk : k < r.length) : ∃ g cap, v = .slice (some ⟨g, 0, none⟩) r.length cap ∧ r.length ≤ cap ∧ cap ≤ 9223372036854775807 ∧ W.cell? ⟨g, k, none⟩ = some (.int .i64 (r.getD k 0 : Nat)) := by
  rcases h.2 with ⟨_, h0⟩ | ⟨g, cap, cur, rfl, hb, hg, hc1, hc2, hs, ht⟩
  · omega
  · refine ⟨g, cap, rfl, hc1, by unfold maxLen at hc2; omega, ?_⟩
    rw [h.cellAt k (by omega)]
    unfold nums
    rw [List.getElem?_map, List.getElem?_eq_getElem hk, List.getD_eq_getElem?_getD, List.getElem?_eq_getElem hk]; rfl
theorem info52 : (Try.prog.info? 52).map (fun i => (i.zero, i.size, i.bytes)) = some (some (.slice none 0 0), 1, 24) := by kernel_rfl
theorem info118 : (Try.prog.info? 118).map (fun i => (i.zero, i.size, i.bytes)) = some (some (.agg #[.int .i64 0, .int .u64 0]), 2, 16) := by kernel_rfl
theorem OIms.at_ {w W : World} {a : Option Addr} {ls : List OIm} (h : OIms w a ls) (hb : Below w.heap.size w W) {j : Nat} (hj : j < ls.length) : ∃ b o cs, a = some ⟨b, o, none⟩ ∧ CellsAt W b (o + j * 27) cs ∧ (∀ W', Below w.heap.size w W' → OImP W' cs (imO ls j)) ∧ cs.size = 27 ∧ cs.all (·.oneCell') = true ∧ b < w.heap.size := by
  obtain ⟨b, o, e, cs, h1, h2⟩ := h j hj
  exact ⟨b, o, cs, e, h1.keep hb, fun W' hW' => h2.keep hW', h2.1, h2.2.1, h1.lt (by rw [h2.1]; omega)⟩
end Go.Proofs.Ytepnaalgobhcdaa
namespace Go.Proofs.Ytepnaalgobhcdaa
open Go.RowKit Go.Shelf Spm Clv
attribute [local go_sem] Oper.semAt_some

set_option maxHeartbeats 4000000 in
set_option maxRecDepth 100000 in
theorem inits_any (w : World) (b : Nat) (M : List Pg) (F : Nat → Prop) (h : SpIn w b M F) (aI : Option Addr) (cI : Nat) (ls : List OIm) (hI : OIms w aI ls) (l : List ImgM) (hG : Imgs w aI cI l) (hll : l.length = ls.length) (hl : ls.length ≤ 50) :
    Calls Try.prog 55 #[.pointer (some ⟨b, 0, none⟩), .slice aI ls.length cI] w (InitRes w M ls (runOut (gOf l) l.length)) := by
  have HSP := Lib.hid h
  have HI := Lib.hid hI
  obtain ⟨r, hr⟩ : ∃ r, r = runOut (gOf l) l.length := ⟨_, rfl⟩
  have HRUN : Hid (∀ W, Below w.heap.size w W → Calls Try.prog 18 #[.slice aI ls.length cI] W (NumsRes W r)) := fun W hW => by
    have := run_any W aI cI l (hG.keep hW) (by omega)
    rw [hll] at this; rw [hr, hll]; exact this
  have hrl : r.length = ls.length := by rw [hr, runOut_length (gOf_lt l), hll]
  have HRM : Hid (∀ k, k < r.length → r.getD k 0 < ls.length) := fun k hk => by
    have hm := (runOut_mem (gOf_lt l) (n := l.length) (r.getD k 0)).1 (by rw [← hr, List.getD_eq_getElem?_getD, List.getElem?_eq_getElem hk]; exact List.getElem_mem hk)
    omega
  rw [← hr]
  have HRL := Lib.hid hrl
  clear h hI hr hG hll hrl
  obtain ⟨i52, hi52, hz52, hs52, hy52⟩ := info_parts info52
  obtain ⟨i118, hi118, hz118, hs118, hy118⟩ := info_parts info118
  have HA0 : Hid (InA w M ls 0 [] (.slice none 0 0) w) := ⟨Below.refl _ _, World.ownsRow_nil _ _ _ _, fun k x hx => by simp at hx⟩
  go_enter Try.func55, Try.ntmps55
  go_wp2_with fail
  go_loopw [7, 21] (fun t7 t wr => ∃ (j : Nat) (vs : List Value) (ad : Option Addr) (cp : Nat), j ≤ ls.length ∧ t = .int .i64 j ∧ t7 = .slice ad j cp ∧ Hid (iErrAt M ls j = none) ∧ Hid (InA w M ls j vs (.slice ad j cp) wr)) (fun _ t _ => ls.length - (intOf t).toNat)
  case atStart => exact ⟨0, [], none, 0, Nat.zero_le _, rfl, rfl, rfl, HA0.out⟩
  case round =>
    clear HA0
    obtain ⟨j, vs, ad, cp, hj, rfl, rfl, HE, HA⟩ := hrel
    by_cases hlt : j < ls.length
    · obtain ⟨bI, oI, cs, rfl, hcs, him, hs38, hone, hbl⟩ := HI.out.at_ HA.out.below hlt
      have HS38 := Lib.hid hs38
      have HONE := Lib.hid hone
      have HCW := Lib.hid hcs
      have HNX := Lib.hid (iErrAt_next HE.out)
      have HOF : Hid (∀ W, Below w.heap.size w W → Calls Try.prog 53 #[.pointer (some ⟨b, 0, none⟩), .agg cs] W (OfRes W (oOf M (imO ls j)).err (oOf M (imO ls j)).out)) := fun W hW => of_any W b M F (HSP.out.keepB hW) cs (imO ls j) (him W hW)
      obtain ⟨zs, hzs⟩ : ∃ zs : Array Value, zs = #[.string { data := #[] }, .int .i64 0, .int .i64 0, .int .u32 0, .string { data := #[] }, .slice none 0 0, .slice none 0 0, .int .u64 0, .int .u64 0, .int .u64 0, .int .u64 0, .int .u64 0, .int .u64 0, .int .u64 0, .int .u64 0, .int .u64 0, .int .u64 0, .int .u64 0, .int .u64 0, .int .u64 0, .int .u64 0, .int .u64 0, .int .u64 0, .int .u64 0, .bool false, .int .u64 0, .slice none 0 0] := ⟨_, rfl⟩
      have hzz : zs.size = 27 := by rw [hzs]; rfl
      have hwz := HA.out.below.size
      clear hcs him hs38 hone
      obtain ⟨er, her⟩ : ∃ er, er = (oOf M (imO ls j)).err := ⟨_, rfl⟩
      rw [← her] at HNX HOF
      clear her
      by_cases he : er = 0
      · subst he
        have hN := HNX.out
        rw [if_neg (by simp)] at hN
        have HN := Lib.hid hN
        have hol := oOf_bound M (imO ls j)
        clear hN HNX
        go_wp2_with (first
          | (refine wpList_load_agg 38 _ rfl rfl bI (oI + j * 27) rfl cs _ HCW.out Try.underlying38 rfl (by rw [HS38.out]; kernel_rfl) ?_)
          | (refine wpList_store_whole rfl 38 (.tmp 9) (.tmp 25) rfl wr.heap.size cs rfl rfl 38 _ (hp_new wr _ _ rfl) (by rw [HS38.out]; kernel_rfl) (by rw [HS38.out]; rfl) HONE.out ?_; intro w1 hw1 hg1 hz1; have CW1 : Hid (CellsAt w1 wr.heap.size 0 cs) := (cells_whole hw1); have BW1 : Hid (Below wr.heap.size wr w1) := (below_whole hg1); clear hw1 hg1 hz1)
          | (refine wpList_load_agg 38 _ rfl rfl wr.heap.size 0 rfl cs _ CW1.out Try.underlying38 rfl (by rw [HS38.out]; kernel_rfl) ?_)
          | (go_at_call 53; refine (HOF.out w1 (HA.out.keep BW1.out).below).mono ?_; rintro e w2 ⟨v, rfl, hb2, _, hr2⟩; obtain ⟨va, vc, rfl⟩ := ownsRow_shape (hr2 rfl); have B2 := Lib.hid hb2; have R2 := Lib.hid (hr2 rfl); have HA2 := Lib.hid ((HA.out.keep BW1.out).keep B2.out); have hz2 : w.heap.size ≤ w1.heap.size := (HA.out.keep BW1.out).below.size; have hz3 : w.heap.size ≤ w2.heap.size := HA2.out.below.size; clear hb2 hr2)
          | (at_builtin; refine wpList_append_own _ rfl _ _ 174 rfl w.heap.size 52 i52 (.slice none 0 0) 1 24 Try.underlying174 hi52 hz52 hs52 hy52 rfl (by decide) _ _ _ rfl (HA2.out.row.alloc _) ⟨w2.heap.size, 0, none⟩ 1 1 [.slice va (oOf M (imO ls j)).out.length vc] rfl rfl (World.news_of_block (hp_new w2 _ _ rfl)) (by simp [Value.oneCell']) (by unfold maxLen; omega) (by omega) (by simp; omega) ?_; intro v5 w5 hown5 hgrow5 _; obtain ⟨a5, c5, rfl⟩ := ownsRow_shape hown5; have HA5 := Lib.hid ((HA2.out.keep ((Below.refl _ w2).alloc (Nat.le_refl _) _)).push (owns2_same (ownsRow_le R2.out hz2) (fun g hg => hp_old w2 _ g (R2.out.lt g hg).2)) hown5 hgrow5); clear hown5 hgrow5))
        go_roundw
        case rel => exact ⟨j + 1, _, a5, c5, by omega, by go_num, rfl, HN.out, HA5.out⟩
        case measure => simp [intOf]; omega
      · have hN := HNX.out
        rw [if_pos he] at hN
        have HN := Lib.hid (iErrAt_stuck hN (k := ls.length) (by omega))
        have HER := Lib.hid he
        have b1 : ((er : Int) != 0) = true := by rw [bne_iff_ne]; exact he
        clear hN HNX he
        go_wp2_with (first
          | (refine wpList_load_agg 38 _ rfl rfl bI (oI + j * 27) rfl cs _ HCW.out Try.underlying38 rfl (by rw [HS38.out]; kernel_rfl) ?_)
          | (refine wpList_store_whole rfl 38 (.tmp 9) (.tmp 25) rfl wr.heap.size cs rfl rfl 38 _ (hp_new wr _ _ rfl) (by rw [HS38.out]; kernel_rfl) (by rw [HS38.out]; rfl) HONE.out ?_; intro w1 hw1 hg1 hz1; have CW1 : Hid (CellsAt w1 wr.heap.size 0 cs) := (cells_whole hw1); have BW1 : Hid (Below wr.heap.size wr w1) := (below_whole hg1); clear hw1 hg1 hz1)
          | (refine wpList_load_agg 38 _ rfl rfl wr.heap.size 0 rfl cs _ CW1.out Try.underlying38 rfl (by rw [HS38.out]; kernel_rfl) ?_)
          | (go_at_call 53; refine (HOF.out w1 (HA.out.keep BW1.out).below).mono ?_; rintro e w2 ⟨v, rfl, hb2, hn2, _⟩; obtain rfl := hn2 HER.out; have HA2 := Lib.hid ((HA.out.keep BW1.out).keep hb2); clear hb2 hn2))
        go_ret3
        exact ⟨_, HA2.out.below, .inl ⟨j, er, HN.out, rfl, rfl⟩⟩
    · obtain rfl : j = ls.length := by omega
      have HNOERR := Lib.hid HE.out
      clear HE
      go_wp2_with fail
      refine (HRUN.out _ HA.out.below).mono ?_
      rintro e w2 ⟨rv, rfl, ho2, hb2⟩
      have hz0 := HA.out.below.size
      have HB0 : Hid (InB w M ls vs (.slice ad ls.length cp) rv r [] (.slice none 0 0) w2) := ⟨HA.out.keep hb2, ownsRow_le ho2 hz0, World.ownsRow_nil _ _ _ _⟩
      obtain ⟨ra, rc, rfl⟩ := ownsRow_shape ho2
      clear ho2 hb2 HRUN HA
      go_wp2_with fail
      go_loopw [12, 44] (fun t12 t wr => ∃ (k : Nat) (ao : Option Addr) (co : Nat), k ≤ r.length ∧ t = .int .i64 k ∧ t12 = .slice ao (iRow M ls (r.take k)).length co ∧ Hid (InB w M ls vs (.slice ad ls.length cp) (.slice ra r.length rc) r (iRow M ls (r.take k)) (.slice ao (iRow M ls (r.take k)).length co) wr)) (fun _ t _ => r.length - (intOf t).toNat)
      case atStart => exact ⟨0, none, 0, Nat.zero_le _, rfl, rfl, HB0.out⟩
      case round =>
        clear HB0
        obtain ⟨k, ao, co, hk, rfl, rfl, HB⟩ := hrel
        by_cases hkt : k < r.length
        · obtain ⟨gr, capr, hv, hcr1, hcr2, cr⟩ := num_at HB.out.order hkt
          cases hv
          have hi := HRM.out k hkt
          have HTK := Lib.hid (iRow_take (M := M) (ls := ls) hkt)
          have hrow := iRow_len (M := M) (ls := ls) (r.take k)
          rw [List.length_take, Nat.min_eq_left hk] at hrow
          have hr50 : r.length ≤ 50 := by have := HRL.out; omega
          obtain ⟨i, hii⟩ : ∃ i, i = r.getD k 0 := ⟨_, rfl⟩
          rw [← hii] at cr hi HTK
          obtain ⟨ga, capa, hva, hca1, hca2, ax, cx, cax, hox⟩ := HB.out.a.at_ hi
          cases hva
          obtain ⟨out, hout⟩ : ∃ out, out = (oOf M (imO ls i)).out := ⟨_, rfl⟩
          have hob := oOf_bound M (imO ls i)
          rw [← hout] at cax HTK hob
          obtain ⟨R0, hR0⟩ : ∃ R0, R0 = iRow M ls (r.take k) := ⟨_, rfl⟩
          rw [← hR0] at HB hrow HTK ⊢
          have HOX : Hid (∀ W, InB w M ls vs (.slice (some ⟨ga, 0, none⟩) ls.length cp) (.slice (some ⟨gr, 0, none⟩) r.length rc) r (R0 ++ (out.take 0).map fun a => (i, a)) (.slice ao R0.length co) W → True) := fun _ _ => trivial
          have HEACH : Hid (∀ (rows : List (Nat × Nat)) (vo : Value) (W : World), InB w M ls vs (.slice (some ⟨ga, 0, none⟩) ls.length cp) (.slice (some ⟨gr, 0, none⟩) r.length rc) r rows vo W → W.heap[ga]? = wr.heap[ga]? → W.ownsRow w.heap.size 32 1 (.slice ax out.length cx) out.length (u64s out)) := fun rows vo W hW hga => by
            obtain ⟨g', c', e', _, _, ax', cx', h1, h2⟩ := hW.a.at_ hi
            cases e'
            have : W.cell? ⟨ga, i, none⟩ = wr.cell? ⟨ga, i, none⟩ := by simp only [World.cell?, hga]
            rw [h1, cax, ← hout] at this
            cases this
            rw [hout]; exact h2
          have HB1 : Hid (InB w M ls vs (.slice (some ⟨ga, 0, none⟩) ls.length cp) (.slice (some ⟨gr, 0, none⟩) r.length rc) r (R0 ++ (out.take 0).map fun a => (i, a)) (.slice ao (R0 ++ (out.take 0).map fun a => (i, a)).length co) wr ∧ wr.heap[ga]? = wr.heap[ga]?) := ⟨by simpa using HB.out, rfl⟩
          have hl0 : (R0 ++ (out.take 0).map fun a => (i, a)).length = R0.length := by simp
          have HL0 := Lib.hid hl0
          clear hii hox hout hR0 hl0 HOX HB
          go_wp2_with fail
          obtain ⟨wo, rfl⟩ : ∃ wo : World, wo = wr := ⟨_, rfl⟩
          go_loopw [12, 53] (fun t12 t wr => ∃ (m : Nat) (ao : Option Addr) (co : Nat), m ≤ out.length ∧ t = .int .i64 m ∧ t12 = .slice ao (R0 ++ (out.take m).map fun a => (i, a)).length co ∧ Hid (InB w M ls vs (.slice (some ⟨ga, 0, none⟩) ls.length cp) (.slice (some ⟨gr, 0, none⟩) r.length rc) r (R0 ++ (out.take m).map fun a => (i, a)) (.slice ao (R0 ++ (out.take m).map fun a => (i, a)).length co) wr ∧ wr.heap[ga]? = wo.heap[ga]?)) (fun _ t _ => out.length - (intOf t).toNat)
          case atStart => exact ⟨0, ao, co, Nat.zero_le _, rfl, by rw [HL0.out], ⟨HB1.out.1, rfl⟩⟩
          case round =>
            clear HB1 cr cax
            obtain ⟨m, ao1, co1, hm, rfl, rfl, HB2⟩ := hrel
            by_cases hmt : m < out.length
            · obtain ⟨gx, capx, hvx, hcx1, hcx2, cxx⟩ := u64_at (HEACH.out _ _ _ HB2.out.1 HB2.out.2) hmt
              cases hvx
              have hst : (R0 ++ (out.take (m + 1)).map fun a => (i, a)) = (R0 ++ (out.take m).map fun a => (i, a)) ++ [(i, out.getD m 0)] := by
                rw [List.take_add_one, List.map_append, List.append_assoc, List.getD_eq_getElem?_getD, List.getElem?_eq_getElem hmt]; rfl
              have HST := Lib.hid hst
              obtain ⟨R1, hR1⟩ : ∃ R1, R1 = R0 ++ (out.take m).map fun a => (i, a) := ⟨_, rfl⟩
              have hR1l : R1.length ≤ 2000000 := by rw [hR1, List.length_append, List.length_map, List.length_take]; omega
              rw [← hR1] at HB2 HST ⊢
              obtain ⟨x, hx⟩ : ∃ x, x = out.getD m 0 := ⟨_, rfl⟩
              rw [← hx] at cxx HST
              have hzw : w.heap.size ≤ wr.heap.size := HB2.out.1.a.below.size
              have HL1 : Hid (R1.length + 1 ≤ maxLen) := by show R1.length + 1 ≤ maxLen; unfold maxLen; omega
              have HL2 : Hid ((R1.length + 1) * 16 ≤ 140737488355328) := by show (R1.length + 1) * 16 ≤ _; omega
              have HGA : Hid (∀ (wt w5 : World), ga < wt.heap.size → wt.heap[ga]? = wr.heap[ga]? → wt.grownBy w5 (Value.slice ao1 R1.length co1).ownBlock → w5.heap[ga]? = wo.heap[ga]?) := fun wt w5 h0 h1 h2 => by
                obtain ⟨_, _, e', _⟩ := HB2.out.1.a.at_ hi
                cases e'
                have hrow := HB2.out.1.a.row
                have hne : some ga ≠ (Value.slice ao1 R1.length co1).ownBlock := by
                  rcases hrow.2 with ⟨e0, _⟩ | ⟨g', cap, c, e0, _, hg', _⟩
                  · cases e0
                  · cases e0
                    exact row1_other HB2.out.1.out (fun _ _ e => by cases e) hg'
                rw [h2.block ga h0 hne, h1, HB2.out.2]
              clear hst hR1 hx
              go_wp2_with (at_builtin; refine wpList_append_own _ rfl _ _ 110 rfl w.heap.size 118 i118 (.agg #[.int .i64 0, .int .u64 0]) 2 16 Try.underlying110 hi118 hz118 hs118 hy118 rfl (by decide) _ _ _ rfl (HB2.out.1.out.alloc _) ⟨wr.heap.size, 0, none⟩ 1 1 [.int .i64 (i : Int), .int .u64 (x : Int)] rfl rfl (World.news_of_block (hp_new wr _ _ rfl)) (by simp [Value.oneCell']) HL1.out HL2.out (by simp; omega) ?_; intro v5 w5 hown5 hgrow5 _; have HG5 := Lib.hid (HGA.out _ w5 (by have := (HB2.out.1.a.row.lt ga rfl).2; simp; omega) (hp_old wr _ ga (HB2.out.1.a.row.lt ga rfl).2) hgrow5); obtain ⟨a5, c5, rfl⟩ := ownsRow_shape hown5; have HB5 := Lib.hid ((HB2.out.1.keep ((Below.refl _ wr).alloc (Nat.le_refl _) _)).push (p := (i, x)) hown5 hgrow5); clear hown5 hgrow5)
              go_roundw
              case rel => exact ⟨m + 1, a5, c5, by omega, by go_num, by rw [HST.out, List.length_append]; rfl, by show InB _ _ _ _ _ _ _ _ _ _ ∧ _; rw [HST.out, List.length_append]; exact ⟨HB5.out, HG5.out⟩⟩
              case measure => simp [intOf]; omega
            · obtain rfl : m = out.length := by omega
              rw [List.take_length] at HB2 ⊢
              go_wp2_with fail
              go_roundw
              case rel => exact ⟨k + 1, ao1, co1, by omega, by go_num, by rw [HTK.out], by show InB _ _ _ _ _ _ _ _ _ _; rw [HTK.out]; exact HB2.out.1⟩
              case measure => simp [intOf]; omega
        · obtain rfl : k = r.length := by omega
          rw [List.take_length] at HB ⊢
          go_wp2_with fail
          go_ret3
          exact ⟨_, HB.out.a.below, .inr ⟨HNOERR.out, rfl, HB.out.out⟩⟩
end Go.Proofs.Ytepnaalgobhcdaa
namespace Go.Proofs.Ytepnaalgobhcdaa
open Go.RowKit Go.Shelf Spm Clv
attribute [local go_sem] Oper.semAt_some

/-- The addresses of an image beside what InC tells. -/
structure InD (w : World) (rv : Value) (r : List Nat) (out : List Nat) (x : Value) (rows : List (Nat × Nat)) (vo : Value) (W : World) : Prop where
  c : InC w rv r rows vo W
  at_ : W.ownsRow w.heap.size 32 1 x out.length (u64s out)
theorem InD.push {w W w1 wt : World} {rv x vo vo' : Value} {r out : List Nat} {rows : List (Nat × Nat)} (h : InD w rv r out x rows vo W) (hwt : Below W.heap.size W wt) {p : Nat × Nat}
    (hown : w1.ownsRow w.heap.size 118 2 vo' (rows.length + 1) (flatI rows ++ [.int .i64 (p.1 : Int), .int .u64 (p.2 : Int)])) (hg : wt.grownBy w1 vo.ownBlock) : InD w rv r out x (rows ++ [p]) vo' w1 :=
  ⟨(h.c.keep hwt).push hown hg, row_beside (owns2_same h.at_ fun g hg => hwt.block g (h.at_.lt g hg).2) (h.c.keep hwt).out (by decide) hg⟩

set_option maxHeartbeats 4000000 in
set_option maxRecDepth 100000 in
theorem rinits_any (w : World) (b : Nat) (M : List Pg) (G : Nat → Prop) (h : RfIn w b M G) (aI : Option Addr) (cI : Nat) (ls : List OIm) (hI : OIms w aI ls) (l : List ImgM) (hG : Imgs w aI cI l) (hll : l.length = ls.length) (hl : ls.length ≤ 50) :
    Calls Try.prog 57 #[.pointer (some ⟨b, 0, none⟩), .slice aI ls.length cI] w (InitRes w M ls (runOut (gOf l) l.length)) := by
  have HRF := Lib.hid h
  have HI := Lib.hid hI
  obtain ⟨r, hr⟩ : ∃ r, r = runOut (gOf l) l.length := ⟨_, rfl⟩
  have HRUN : Hid (∀ W, Below w.heap.size w W → Calls Try.prog 20 #[.slice aI ls.length cI] W (NumsRes W r)) := fun W hW => by
    have := Run_any W aI cI l (hG.keep hW) (by omega)
    rw [hll] at this; rw [hr, hll]; exact this
  have hrl : r.length = ls.length := by rw [hr, runOut_length (gOf_lt l), hll]
  have HRM : Hid (∀ k, k < r.length → r.getD k 0 < ls.length) := fun k hk => by
    have hm := (runOut_mem (gOf_lt l) (n := l.length) (r.getD k 0)).1 (by rw [← hr, List.getD_eq_getElem?_getD, List.getElem?_eq_getElem hk]; exact List.getElem_mem hk)
    omega
  rw [← hr]
  have HRL := Lib.hid hrl
  have hcap : ls.length ≤ cI := by rw [← hll]; exact hG.1
  clear h hI hr hG hll hrl
  obtain ⟨i118, hi118, hz118, hs118, hy118⟩ := info_parts info118
  go_enter Try.func57, Try.ntmps57
  go_wp2_with fail
  go_loopw [7] (fun t wr => ∃ (j : Nat), j ≤ ls.length ∧ t = .int .i64 j ∧ Hid (iErrAt M ls j = none) ∧ Hid (Below w.heap.size w wr)) (fun t _ => ls.length - (intOf t).toNat)
  case atStart => exact ⟨0, Nat.zero_le _, rfl, rfl, Below.refl _ _⟩
  case round =>
    obtain ⟨j, hj, rfl, HE, HA⟩ := hrel
    by_cases hlt : j < ls.length
    · obtain ⟨bI, oI, cs, rfl, hcs, him, hs38, hone, hbl⟩ := HI.out.at_ HA.out hlt
      have HS38 := Lib.hid hs38
      have HCW := Lib.hid hcs
      have HNX := Lib.hid (iErrAt_next HE.out)
      have HOF := Lib.hid (rof_any wr b M G (HRF.out.keepB HA.out) cs (imO ls j) (him wr HA.out))
      clear hcs him hs38 hone
      obtain ⟨er, her⟩ : ∃ er, er = (oOf M (imO ls j)).err := ⟨_, rfl⟩
      rw [← her] at HNX HOF
      clear her
      by_cases he : er = 0
      · subst he
        have hN := HNX.out
        rw [if_neg (by simp)] at hN
        have HN := Lib.hid hN
        clear hN HNX
        go_wp2_with (first
          | (refine wpList_load_agg 38 _ rfl rfl bI (oI + j * 27) rfl cs _ HCW.out Try.underlying38 rfl (by rw [HS38.out]; kernel_rfl) ?_)
          | (go_at_call 58; refine HOF.out.mono ?_; rintro e w2 ⟨v, rfl, hb2, _, _⟩; have HA2 := Lib.hid (HA.out.trans (below_le hb2 HA.out.size)); clear hb2))
        go_roundw
        case rel => exact ⟨j + 1, by omega, by go_num, HN.out, HA2.out⟩
        case measure => simp [intOf]; omega
      · have hN := HNX.out
        rw [if_pos he] at hN
        have HN := Lib.hid (iErrAt_stuck hN (k := ls.length) (by omega))
        have HER := Lib.hid he
        have b1 : ((er : Int) != 0) = true := by rw [bne_iff_ne]; exact he
        clear hN HNX he
        go_wp2_with (first
          | (refine wpList_load_agg 38 _ rfl rfl bI (oI + j * 27) rfl cs _ HCW.out Try.underlying38 rfl (by rw [HS38.out]; kernel_rfl) ?_)
          | (go_at_call 58; refine HOF.out.mono ?_; rintro e w2 ⟨v, rfl, hb2, _, _⟩; have HA2 := Lib.hid (HA.out.trans (below_le hb2 HA.out.size)); clear hb2))
        go_ret3
        exact ⟨_, HA2.out, .inl ⟨j, er, HN.out, rfl, rfl⟩⟩
    · obtain rfl : j = ls.length := by omega
      have HNOERR := Lib.hid HE.out
      clear HE
      go_wp2_with fail
      refine (HRUN.out _ HA.out).mono ?_
      rintro e w2 ⟨rv, rfl, ho2, hb2⟩
      have hz0 := HA.out.size
      have HB0 : Hid (InC w rv r [] (.slice none 0 0) w2) := ⟨HA.out.trans (below_le hb2 hz0), ownsRow_le ho2 hz0, World.ownsRow_nil _ _ _ _⟩
      obtain ⟨ra, rc, rfl⟩ := ownsRow_shape ho2
      clear ho2 hb2 HRUN HA
      go_wp2_with fail
      go_loopw [10, 12] (fun t10 t wr => ∃ (k : Nat) (ao : Option Addr) (co : Nat), k ≤ r.length ∧ t = .int .i64 k ∧ t10 = .slice ao (iRow M ls (r.take k)).length co ∧ Hid (InC w (.slice ra r.length rc) r (iRow M ls (r.take k)) (.slice ao (iRow M ls (r.take k)).length co) wr)) (fun _ t _ => r.length - (intOf t).toNat)
      case atStart => exact ⟨0, none, 0, Nat.zero_le _, rfl, rfl, HB0.out⟩
      case round =>
        clear HB0
        obtain ⟨k, ao, co, hk, rfl, rfl, HB⟩ := hrel
        by_cases hkt : k < r.length
        · obtain ⟨gr, capr, hv, hcr1, hcr2, cr⟩ := num_at HB.out.order hkt
          cases hv
          have hi := HRM.out k hkt
          have HTK := Lib.hid (iRow_take (M := M) (ls := ls) hkt)
          have hrow := iRow_len (M := M) (ls := ls) (r.take k)
          rw [List.length_take, Nat.min_eq_left hk] at hrow
          have hr50 : r.length ≤ 50 := by have := HRL.out; omega
          obtain ⟨i, hii⟩ : ∃ i, i = r.getD k 0 := ⟨_, rfl⟩
          rw [← hii] at cr hi HTK
          obtain ⟨bI, oI, cs, rfl, hcs, him, hs38, hone, hbl⟩ := HI.out.at_ HB.out.below hi
          have HS38 := Lib.hid hs38
          have HCW := Lib.hid hcs
          have herr := iErrAt_none HNOERR.out hi
          have HOF := Lib.hid (rof_any wr b M G (HRF.out.keepB HB.out.below) cs (imO ls i) (him wr HB.out.below))
          rw [herr] at HOF
          obtain ⟨out, hout⟩ : ∃ out, out = (oOf M (imO ls i)).out := ⟨_, rfl⟩
          have hob := oOf_bound M (imO ls i)
          rw [← hout] at HTK hob HOF
          obtain ⟨R0, hR0⟩ : ∃ R0, R0 = iRow M ls (r.take k) := ⟨_, rfl⟩
          rw [← hR0] at HB hrow HTK ⊢
          have hl0 : (R0 ++ (out.take 0).map fun a => (i, a)).length = R0.length := by simp
          have HL0 := Lib.hid hl0
          have HCR : Hid (∀ (rows : List (Nat × Nat)) (vo : Value) (W : World), InC w (.slice (some ⟨gr, 0, none⟩) r.length rc) r rows vo W → W.cell? ⟨gr, k, none⟩ = some (.int .i64 (i : Int))) := fun rows vo W hW => by
            obtain ⟨g', _, e', _, _, h1⟩ := num_at hW.order hkt
            cases e'; rw [h1, hii]
          clear hii hout hR0 hl0 hcs him hs38 hone herr
          go_wp2_with (first
            | (refine wpList_load_agg 38 _ rfl rfl bI (oI + i * 27) rfl cs _ HCW.out Try.underlying38 rfl (by rw [HS38.out]; kernel_rfl) ?_)
            | (go_at_call 58; refine HOF.out.mono ?_; rintro e w2 ⟨v, rfl, hb2, _, hr2⟩; obtain ⟨va, vc, rfl⟩ := ownsRow_shape (hr2 rfl); have R2 := Lib.hid (hr2 rfl); have HB2 := Lib.hid (HB.out.keep hb2); clear hb2 hr2))
          have HB1 : Hid (InD w (.slice (some ⟨gr, 0, none⟩) r.length rc) r out (.slice va out.length vc) (R0 ++ (out.take 0).map fun a => (i, a)) (.slice ao (R0 ++ (out.take 0).map fun a => (i, a)).length co) w2) := ⟨by simpa using HB2.out, ownsRow_le R2.out HB.out.below.size⟩
          clear HB2 R2 HB HOF cr
          go_loopw [10, 15] (fun t10 t wr => ∃ (m : Nat) (ao : Option Addr) (co : Nat), m ≤ out.length ∧ t = .int .i64 m ∧ t10 = .slice ao (R0 ++ (out.take m).map fun a => (i, a)).length co ∧ Hid (InD w (.slice (some ⟨gr, 0, none⟩) r.length rc) r out (.slice va out.length vc) (R0 ++ (out.take m).map fun a => (i, a)) (.slice ao (R0 ++ (out.take m).map fun a => (i, a)).length co) wr)) (fun _ t _ => out.length - (intOf t).toNat)
          case atStart => exact ⟨0, ao, co, Nat.zero_le _, rfl, by rw [HL0.out], HB1.out⟩
          case round =>
            clear HB1
            obtain ⟨m, ao1, co1, hm, rfl, rfl, HD⟩ := hrel
            by_cases hmt : m < out.length
            · obtain ⟨gx, capx, hvx, hcx1, hcx2, cxx⟩ := u64_at HD.out.at_ hmt
              cases hvx
              have cr := HCR.out _ _ _ HD.out.c
              have hst : (R0 ++ (out.take (m + 1)).map fun a => (i, a)) = (R0 ++ (out.take m).map fun a => (i, a)) ++ [(i, out.getD m 0)] := by
                rw [List.take_add_one, List.map_append, List.append_assoc, List.getD_eq_getElem?_getD, List.getElem?_eq_getElem hmt]; rfl
              have HST := Lib.hid hst
              obtain ⟨R1, hR1⟩ : ∃ R1, R1 = R0 ++ (out.take m).map fun a => (i, a) := ⟨_, rfl⟩
              have hR1l : R1.length ≤ 2000000 := by rw [hR1, List.length_append, List.length_map, List.length_take]; omega
              rw [← hR1] at HD HST ⊢
              obtain ⟨x, hx⟩ : ∃ x, x = out.getD m 0 := ⟨_, rfl⟩
              rw [← hx] at cxx HST
              have hzw : w.heap.size ≤ wr.heap.size := HD.out.c.below.size
              have HWT : Hid (∀ o, Below wr.heap.size wr (wr.alloc o).drew) := fun o => ((Below.refl _ wr).alloc (Nat.le_refl _) o).drew
              have HM1 : Hid (R1.length + 1 ≤ maxLen) := by show R1.length + 1 ≤ maxLen; unfold maxLen; omega
              have HM2 : Hid ((R1.length + 1) * 16 ≤ 140737488355328) := by show (R1.length + 1) * 16 ≤ _; omega
              have HM3 : Hid (w.heap.size ≤ wr.heap.size + 1) := by show w.heap.size ≤ _; omega
              clear hst hR1 hx
              go_wp2_with fail
              go_region_law (refine step_append_lies _ rfl (.tmp 63) (.tmp 73) 110 rfl w.heap.size 118 i118 (.agg #[.int .i64 0, .int .u64 0]) 2 16 Try.underlying110 hi118 hz118 hs118 hy118 rfl (by decide) (.slice ao1 R1.length co1) R1.length (flatI R1) rfl (owns2_same HD.out.c.out fun g hg => (HWT.out _).block g (HD.out.c.out.lt g hg).2) ⟨wr.heap.size, 0, none⟩ 1 1 [.int .i64 (i : Int), .int .u64 (x : Int)] rfl rfl (World.news_of_block (hp_new wr _ _ rfl)) (by simp [Value.oneCell']) (by decide) HM1.out HM2.out (by simp; exact HM3.out) _ rfl ?_; intro gN cN w2' hown' hgrow _ _; have HS2 := Lib.hid (HD.out.push (p := (i, x)) (HWT.out _) hown' hgrow); clear hown' hgrow)
              all_goals
                go_wp2_with fail
                go_roundw
                case rel => exact ⟨m + 1, _, _, by omega, by go_num, by rw [HST.out, List.length_append]; rfl, by show InD _ _ _ _ _ _ _ _; rw [HST.out, List.length_append]; exact HS2.out⟩
                case measure => simp [intOf]; omega
            · obtain rfl : m = out.length := by omega
              rw [List.take_length] at HD ⊢
              go_wp2_with fail
              go_roundw
              case rel => exact ⟨k + 1, ao1, co1, by omega, by go_num, by rw [HTK.out], by show InC _ _ _ _ _ _; rw [HTK.out]; exact HD.out.c⟩
              case measure => simp [intOf]; omega
        · obtain rfl : k = r.length := by omega
          rw [List.take_length] at HB ⊢
          go_wp2_with fail
          go_ret3
          exact ⟨_, HB.out.below, .inr ⟨HNOERR.out, rfl, HB.out.out⟩⟩
end Go.Proofs.Ytepnaalgobhcdaa
