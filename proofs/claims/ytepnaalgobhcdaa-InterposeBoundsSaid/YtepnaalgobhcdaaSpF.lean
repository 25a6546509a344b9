/- *Space.Map: the walk. -/
import Derived.Test.YtepnaalgobhcdaaSpE
namespace Go.Proofs.Ytepnaalgobhcdaa
open Go.RowKit Spm

theorem mem_mapIn_succ {M : List Pg} {f j : Nat} {prot : Int} {p : Pg} : p ∈ mapIn M f (j + 1) prot ↔ p ∈ mapIn M f j prot ∨ p = ⟨f + j, prot, noughts⟩ := by
  unfold mapIn
  rw [newPages_succ]
  simp only [List.mem_append, List.mem_singleton]
  constructor
  · rintro ((h | h | h) | h)
    · exact .inl (.inl (.inl h))
    · exact .inl (.inl (.inr h))
    · exact .inr h
    · exact .inl (.inr h)
  · rintro (((h | h) | h) | h)
    · exact .inl (.inl h)
    · exact .inl (.inr (.inl h))
    · exact .inr h
    · exact .inl (.inr (.inr h))

theorem MapSt.step {w : World} {b : Nat} {M : List Pg} {F : Nat → Prop} {f j k : Nat} {prot : Int} {wr w2 : World} (hc : Clear M f k) (hj : j < k) (h : MapSt w b M F f j prot wr) {mb : Nat} {A : Nat → Nat}
    (hb : wr.heap[b]? = some (.cells #[.map (some mb)] 78 (0, 0))) (hp : Pages wr mb A (mapIn M f j prot) (grow F w wr)) (hfm : F mb) (hA : ∀ p ∈ mapIn M f j prot, A p.num < wr.heap.size)
    (hm : PgMap w2 mb (fun i => if i = f + j then some (wr.heap.size, prot) else pgFn (mapIn M f j prot) A i) ((mapIn M f j prot).length + 1)) (hg : (wr.alloc (.cells (bytesArr noughts) 140)).grownBy w2 (some mb)) :
    MapSt w b M F f (j + 1) prot w2 := by
  have hsz : wr.heap.size + 1 ≤ w2.heap.size := by have := hg.size; simpa using this
  have hold : ∀ i, i < wr.heap.size → i ≠ mb → w2.heap[i]? = wr.heap[i]? := fun i hi hne => by
    rw [hg.block i (by simp; omega) (by simpa using hne), hp_old _ _ _ hi]
  have hnew : w2.heap[wr.heap.size]? = some (.cells (bytesArr noughts) 140 (0, 0)) := by
    have := hp.map.lt
    rw [hg.block _ (by simp) (by simp; omega), hp_new _ _ _ rfl]
  have hmem : ∀ p, p ∈ mapIn M f (j + 1) prot → (p ∈ mapIn M f j prot ∧ p.num ≠ f + j) ∨ p = ⟨f + j, prot, noughts⟩ := fun p hp' => by
    rcases mem_mapIn_succ.1 hp' with h1 | h1
    · by_cases e : p.num = f + j
      · rcases mem_mapIn h1 with h2 | h2
        · have := hc p h2; omega
        · have := (newPages_num h2).2.1; omega
      · exact .inl ⟨h1, e⟩
    · exact .inr h1
  have hne : ∀ p, p ∈ mapIn M f j prot → A p.num ≠ mb := fun p hp' e => by
    have := (hp.page p hp').2
    rw [e] at this
    exact hp.map.notCells this
  refine ⟨?_, mb, fun i => if i = f + j then wr.heap.size else A i, ?_, ⟨?_, .inl hfm, fun p hp' => ?_, fun p hp' q hq' e => ?_⟩, hfm, fun p hp' => ?_⟩
  · refine ⟨hg.os.trans h.chg.os, hg.tape.trans h.chg.tape, hg.output.trans h.chg.output, by have := h.chg.size; omega, fun i hi hn => ?_⟩
    have h1 := h.chg.size
    rw [hold i (by omega) (fun e => hn (e ▸ hfm))]
    exact h.chg.block i hi hn
  · rw [hold b (lt_of_block hb) (fun e => by rw [e] at hb; exact hp.map.notCells hb)]; exact hb
  · have hf : pgFn (mapIn M f (j + 1) prot) (fun i => if i = f + j then wr.heap.size else A i) = fun i => if i = f + j then some (wr.heap.size, prot) else pgFn (mapIn M f j prot) A i := by
      funext i
      unfold pgFn
      rw [pg_mapIn, pg_mapIn]
      by_cases e : i = f + j
      · subst e
        rw [if_pos (by omega), if_pos rfl]
        simp
      · rw [if_neg e]
        by_cases e2 : f ≤ i ∧ i < f + j
        · rw [if_pos (by omega), if_pos e2]; simp [e]
        · rw [if_neg (by omega), if_neg e2]; simp [e]
    rw [hf, mapIn_length]
    rw [mapIn_length] at hm
    exact hm
  · rcases hmem p hp' with ⟨h1, h2⟩ | rfl
    · obtain ⟨g1, g2⟩ := hp.page p h1
      rw [if_neg h2]
      refine ⟨?_, by rw [hold _ (hA p h1) (hne p h1)]; exact g2⟩
      rcases g1 with g1 | g1
      · exact .inl g1
      · exact .inr ⟨g1.1, by omega⟩
    · rw [if_pos rfl]
      exact ⟨.inr ⟨h.chg.size, by omega⟩, hnew⟩
  · rcases hmem p hp' with ⟨h1, h2⟩ | rfl <;> rcases hmem q hq' with ⟨h3, h4⟩ | rfl
    · simp only [h2, h4, if_false] at e
      exact hp.apart p h1 q h3 e
    · simp only [h2, if_false, if_true] at e
      have := hA p h1; omega
    · simp only [h4, if_false, if_true] at e
      have := hA q h3; omega
    · rfl
  · rcases hmem p hp' with ⟨h1, h2⟩ | rfl
    · simp only [h2, if_false]; have := hA p h1; omega
    · simp only [if_true]; omega
theorem MapSt.done {w : World} {b : Nat} {M : List Pg} {F : Nat → Prop} {f k : Nat} {prot : Int} {wr : World} (h : MapSt w b M F f k prot wr) (hM : SpIn w b M F) (hok : Ok (mapIn M f k prot)) : SpIn wr b (mapIn M f k prot) (grow F w wr) := by
  obtain ⟨hc, mb, A, h1, h2, _, _⟩ := h
  exact ⟨hok, ⟨mb, A, h1, h2⟩, .inl hM.fb, fun i hi => by
    rcases hi with hi | hi
    · have := hM.lt i hi; have := hc.size; omega
    · exact hi.2⟩

theorem SpIn.regrow {w w1 w' : World} {b : Nat} {M : List Pg} {F : Nat → Prop} (h : SpIn w' b M (grow F w1 w')) (hs : w.heap.size ≤ w1.heap.size) : SpIn w' b M (grow F w w') := by
  have hsub : ∀ k, grow F w1 w' k → grow F w w' k := fun k hk => by
    rcases hk with hk | hk
    · exact .inl hk
    · exact .inr ⟨by omega, hk.2⟩
  obtain ⟨h1, ⟨mb, A, h2, h3⟩, h4, h5⟩ := h
  refine ⟨h1, ⟨mb, A, h2, ⟨h3.map, hsub _ h3.fmap, fun p hp => ⟨hsub _ (h3.page p hp).1, (h3.page p hp).2⟩, h3.apart⟩⟩, hsub _ h4, fun k hk => ?_⟩
  rcases hk with hk | hk
  · exact h5 k (.inl hk)
  · exact hk.2
/-- What Map answers, and what it leaves. -/
def MapRes (w : World) (b : Nat) (M : List Pg) (F : Nat → Prop) (a n : Nat) (prot : Int) (e : Ending) (w' : World) : Prop :=
  e = .returned (.int .i64 (mapErr M a n prot)) ∧ SpIn w' b (mapM M a n prot) (grow F w w') ∧ Chg F w w'
theorem SpIn.grown {w w' : World} {b : Nat} {M : List Pg} {F : Nat → Prop} (h : SpIn w b M F) (hb : Below w.heap.size w w') : SpIn w' b M (grow F w w') := by
  obtain ⟨h1, ⟨mb, A, h2, h3⟩, h4, h5⟩ := h.keepB hb
  exact ⟨h1, ⟨mb, A, h2, ⟨h3.map, .inl h3.fmap, fun p hp => ⟨.inl (h3.page p hp).1, (h3.page p hp).2⟩, h3.apart⟩⟩, .inl h4, fun k hk => by
    rcases hk with hk | hk
    · exact h5 k hk
    · exact hk.2⟩
theorem MapRes.no {w w' : World} {b : Nat} {M : List Pg} {F : Nat → Prop} {a n : Nat} {prot : Int} {er : Int} (h : SpIn w b M F) (he : mapErr M a n prot = er) (h0 : er ≠ 0) (hb : Below w.heap.size w w') : MapRes w b M F a n prot (.returned (.int .i64 er)) w' := by
  refine ⟨by rw [he], ?_, Chg.of_below hb⟩
  unfold mapM
  rw [if_neg (by rw [he]; exact h0)]
  exact h.grown hb

set_option maxHeartbeats 1000000 in
set_option maxRecDepth 100000 in
theorem map_bad (w : World) (b : Nat) (M : List Pg) (F : Nat → Prop) (h : SpIn w b M F) (a n : Nat) (prot : Int) (hbad : badArg a n prot = true) :
    Calls Try.prog 25 #[.pointer (some ⟨b, 0, none⟩), .int .u64 a, .int .u64 n, .int .i64 prot] w (MapRes w b M F a n prot) := by
  have HR := Lib.hid (MapRes.no h (show mapErr M a n prot = 2 by unfold mapErr; rw [if_pos hbad]) (by decide) (Below.refl _ w))
  clear h
  by_cases h1 : a % 4096 = 0
  · have b1 : ((a : Int) % 4096 != 0) = false := by rw [bne_eq_false_iff_eq]; omega
    by_cases h2 : n % 4096 = 0
    · have b2 : ((n : Int) % 4096 != 0) = false := by rw [bne_eq_false_iff_eq]; omega
      by_cases h3 : n = 0
      · have b3 : ((n : Int) == 0) = true := by simp; exact h3
        clear hbad h1 h2 h3
        go_enter Try.func25, Try.ntmps25
        go_wp2_with fail
        go_ret
        exact HR.out
      · have b3 : ((n : Int) == 0) = false := by simp; exact h3
        by_cases h4 : prot < 1
        · clear hbad h1 h2 h3
          go_enter Try.func25, Try.ntmps25
          go_wp2_with fail
          go_ret
          exact HR.out
        · have h5 : 7 < prot := by simp [badArg, h1, h2, h3, h4] at hbad; exact hbad
          clear hbad h1 h2 h3
          go_enter Try.func25, Try.ntmps25
          go_wp2_with fail
          go_ret
          exact HR.out
    · have b2 : ((n : Int) % 4096 != 0) = true := by rw [bne_iff_ne]; omega
      clear hbad h1 h2
      go_enter Try.func25, Try.ntmps25
      go_wp2_with fail
      go_ret
      exact HR.out
  · have b1 : ((a : Int) % 4096 != 0) = true := by rw [bne_iff_ne]; omega
    clear hbad h1
    go_enter Try.func25, Try.ntmps25
    go_wp2_with fail
    go_ret
    exact HR.out

set_option maxHeartbeats 2000000 in
set_option maxRecDepth 100000 in
theorem map_any (w : World) (b : Nat) (M : List Pg) (F : Nat → Prop) (h : SpIn w b M F) (a n : Nat) (ha : a < 18446744073709551616) (prot : Int) :
    Calls Try.prog 25 #[.pointer (some ⟨b, 0, none⟩), .int .u64 a, .int .u64 n, .int .i64 prot] w (MapRes w b M F a n prot) := by
  cases hbad : badArg a n prot with
  | true => exact map_bad w b M F h a n prot hbad
  | false =>
    simp [badArg] at hbad
    obtain ⟨⟨⟨⟨h1, h2⟩, h3⟩, h4⟩, h5⟩ := hbad
    have hbad : badArg a n prot = false := by simp [badArg, h1, h2, h3, h4, h5]
    have b1 : ((a : Int) % 4096 != 0) = false := by rw [bne_eq_false_iff_eq]; omega
    have b2 : ((n : Int) % 4096 != 0) = false := by rw [bne_eq_false_iff_eq]; omega
    have b3 : ((n : Int) == 0) = false := by simp; exact h3
    have e0 : mapErr M a n prot = if inB a n = false then 4 else if freeB M a n = false then 21 else if 8192 - M.length < n / 4096 then 11 else 0 := by unfold mapErr; rw [if_neg (by simp [hbad])]
    cases hin : inB a n with
    | false =>
      have HI1 : Hid (Calls Try.prog 64 #[.int .u64 a, .int .u64 n] w fun e w' => e = .returned (.bool false) ∧ w = w') := by
        have := in_any w a n ha; rw [hin] at this; exact this
      have HR := Lib.hid (MapRes.no h (show mapErr M a n prot = 4 by rw [e0, if_pos hin]) (by decide) (Below.refl _ w))
      clear h e0 hin hbad h1 h2 h3
      go_enter Try.func25, Try.ntmps25
      go_wp2_with (go_at_call 64; refine HI1.out.mono ?_; rintro e _ ⟨rfl, rfl⟩)
      go_ret
      exact HR.out
    | true =>
      have HI1 : Hid (Calls Try.prog 64 #[.int .u64 a, .int .u64 n] w fun e w' => e = .returned (.bool true) ∧ w = w') := by
        have := in_any w a n ha; rw [hin] at this; exact this
      cases hfr : freeB M a n with
      | false =>
        have HFR : Hid (Calls Try.prog 41 #[.pointer (some ⟨b, 0, none⟩), .int .u64 a, .int .u64 n] w fun e w' => e = .returned (.bool false) ∧ Below w.heap.size w w') := by
          have := free_any w b M F h a n ha; rw [hfr] at this; exact this
        have HR := Lib.hid (fun (w' : World) (hb : Below w.heap.size w w') => MapRes.no h (show mapErr M a n prot = 21 by rw [e0, if_neg (by simp [hin]), if_pos hfr]) (by decide) hb)
        clear h e0 hin hbad h1 h2 h3 hfr
        go_enter Try.func25, Try.ntmps25
        go_wp2_with (first
          | (go_at_call 64; refine HI1.out.mono ?_; rintro e _ ⟨rfl, rfl⟩)
          | (go_at_call 41; refine HFR.out.mono ?_; rintro e w1 ⟨rfl, hb1⟩))
        go_ret
        exact HR.out _ hb1
      | true =>
        have HFR : Hid (Calls Try.prog 41 #[.pointer (some ⟨b, 0, none⟩), .int .u64 a, .int .u64 n] w fun e w' => e = .returned (.bool true) ∧ Below w.heap.size w w') := by
          have := free_any w b M F h a n ha; rw [hfr] at this; exact this
        have hlen := h.ok.few
        have hnl : (n : Int) ≤ 140737488355328 := by simp [inB] at hin; omega
        by_cases hmany : 8192 - M.length < n / 4096
        · have HR := Lib.hid (fun (w' : World) (hb : Below w.heap.size w w') => MapRes.no h (show mapErr M a n prot = 11 by rw [e0, if_neg (by simp [hin]), if_neg (by simp [hfr]), if_pos hmany]) (by decide) hb)
          have i1 : (8192 : Int) - (M.length : Int) < (n : Int) / 4096 := by omega
          have HH := Lib.hid h
          clear h e0 hin hbad h1 h2 h3 hfr hmany
          go_enter Try.func25, Try.ntmps25
          go_wp2_with (first
            | (go_at_call 64; refine HI1.out.mono ?_; rintro e _ ⟨rfl, rfl⟩)
            | (go_at_call 41; refine HFR.out.mono ?_; rintro e w1 ⟨rfl, hb1⟩; obtain ⟨mb, A, hbw, hpw⟩ := (HH.out.keepB hb1).own; have cb := cell_of_one hbw; have HP := Lib.hid hpw.map; clear hbw hpw)
            | (refine wpList_pages_len rfl (.tmp 53) rfl mb HP.out rfl ?_))
          go_ret
          exact HR.out _ hb1
        · have e1 : mapErr M a n prot = 0 := by rw [e0, if_neg (by simp [hin]), if_neg (by simp [hfr]), if_neg hmany]
          have hclear := Clear.of_free hfr (by omega) h1 h2
          have i1 : ¬ (8192 : Int) - (M.length : Int) < (n : Int) / 4096 := by omega
          obtain ⟨f, hf⟩ : ∃ f, f = a / 4096 := ⟨_, rfl⟩
          obtain ⟨en, hen⟩ : ∃ en, en = f + n / 4096 := ⟨_, rfl⟩
          have hfs : fst a = f := hf.symm
          have hb2 : a + n ≤ 140737488355328 := by simp [inB] at hin; omega
          have HN : Hid (∀ W, Calls Try.prog 65 #[.int .u64 a, .int .u64 n] W fun e w' => e = .returned (.tuple #[.int .u64 f, .int .u64 en]) ∧ W = w') := fun W => by
            have := numbers_any W a n (by omega) hin
            rw [show (a + n - 1) / 4096 + 1 = en by omega, show a / 4096 = f by omega] at this
            exact this
          have hm : mapM M a n prot = mapIn M f (en - f) prot := by
            unfold mapM; rw [if_pos e1, hfs, show n / 4096 = en - f by omega]
          rw [hfs, show n / 4096 = en - f by omega] at hclear
          have hok2 : Ok (mapIn M f (en - f) prot) := by
            rw [← hm]; exact mapM_ok h.ok a n prot
          have hfe : f < en := by omega
          have hen2 : en ≤ 34359738368 := by omega
          have hpg : M.length + (en - f) ≤ 8192 := by omega
          have hRes : ∀ w', SpIn w' b (mapIn M f (en - f) prot) (grow F w w') → Chg F w w' → MapRes w b M F a n prot (.returned (.int .i64 0)) w' := fun w' g1 g2 => ⟨by rw [e1], by rw [hm]; exact g1, g2⟩
          have HRES := Lib.hid hRes
          have HCL := Lib.hid hclear
          have HOK2 := Lib.hid hok2
          have HH := Lib.hid h
          have hnilm := fun (W : World) (r : Option Nat) => run_eql_map_nil (P := Try.prog) W 76 32 142 r Try.underlying76
          clear hRes hclear hok2 h e0 e1 hin hbad h1 h2 h3 hfr hmany hm hfs hb2 hf hen hnl ha
          go_enter Try.func25, Try.ntmps25
          go_wp2_with (first
            | (go_at_call 64; refine HI1.out.mono ?_; rintro e _ ⟨rfl, rfl⟩)
            | (go_at_call 41; refine HFR.out.mono ?_; rintro e w1 ⟨rfl, hb1⟩; obtain ⟨mb, A, hbw, hpw⟩ := (HH.out.keepB hb1).own; have cb := cell_of_one hbw; have HP := Lib.hid hpw.map; clear hbw hpw)
            | (go_at_call 65; refine (HN.out _).mono ?_; rintro e _ ⟨rfl, rfl⟩)
            | (refine wpList_pages_len rfl (.tmp 53) rfl mb HP.out rfl ?_))
          have HB1 := Lib.hid hb1
          have HH1 := Lib.hid (HH.out.keepB hb1)
          clear hb1 cb HP i1 hnilm
          go_loopw [11] (fun t wr => ∃ i : Nat, f ≤ i ∧ i ≤ en ∧ t = .int .u64 i ∧ Hid (MapSt w1 b M F f (i - f) prot wr)) (fun t _ => en - (intOf t).toNat)
          case atStart => exact ⟨f, Nat.le_refl _, Nat.le_of_lt hfe, rfl, by rw [Nat.sub_self]; exact MapSt.start HH1.out f prot⟩
          case round =>
            obtain ⟨i, hi1, hi2, rfl, HR⟩ := hrel
            obtain ⟨hchg, mb2, A2, hb2, hp2, hfm2, hA2⟩ := HR.out
            by_cases hlt : i < en
            · have cb2 := cell_of_one hb2
              have hnone : pgFn (mapIn M f (i - f) prot) A2 i = none := by
                unfold pgFn
                rw [pg_mapIn, if_neg (by omega)]
                have : pg M i = none := pg_none.2 fun p hp e => HCL.out p hp (by omega)
                rw [this]; rfl
              have HNONE := Lib.hid hnone
              have HP2 := Lib.hid hp2
              have HA2 := Lib.hid hA2
              have HB2 := Lib.hid hb2
              have hl2 : (mapIn M f (i - f) prot).length ≤ 8192 := by rw [mapIn_length]; omega
              have HM2 := Lib.hid (hp2.map.kept (hp_old wr (.cells (bytesArr noughts) 140) mb2 hp2.map.lt))
              clear hchg hnone hp2 hA2 hb2
              go_wp2_with (first
                | (refine wpList_newpage rfl rfl ?_)
                | (refine wpList_page_put rfl (.tmp 82) (.tmp 83) (.tmp 86) rfl mb2 HM2.out rfl (by omega) i (by omega) rfl HNONE.out (wr.heap.size, prot) rfl ?_; intro w2 hm2 hg2; have HMM := Lib.hid hm2; have HGG := Lib.hid hg2; clear hm2 hg2))
              go_roundw
              case rel =>
                refine ⟨i + 1, by omega, by omega, by go_num, ?_⟩
                have := HR.out.step HCL.out (show i - f < en - f by omega) HB2.out HP2.out hfm2 HA2.out (w2 := w2) (by rw [show f + (i - f) = i by omega]; exact HMM.out) HGG.out
                rw [show i - f + 1 = i + 1 - f by omega] at this
                exact this
              case measure => simp [intOf]; omega
            · obtain rfl : i = en := by omega
              have hst := HR.out.done HH1.out HOK2.out
              have hch := HR.out.chg
              have HST := Lib.hid hst
              have HCH := Lib.hid hch
              clear hst hch hchg hb2 hp2 hfm2 hA2
              go_wp2_with fail
              go_ret
              refine HRES.out _ ?_ ?_
              · exact HST.out.regrow HB1.out.size
              · exact (Chg.of_below HB1.out).trans (HCH.out.mono fun k _ hk => .inl hk)
end Go.Proofs.Ytepnaalgobhcdaa
