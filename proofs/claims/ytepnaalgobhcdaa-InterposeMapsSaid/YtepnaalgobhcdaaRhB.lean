/- InterposeMaps: the walk. -/
import Derived.Test.YtepnaalgobhcdaaRhA
namespace Go.Proofs.Ytepnaalgobhcdaa
open Go.RowKit Go.Shelf Spm
attribute [local go_sem] Oper.semAt_some

structure TabOk (T : Tab) : Prop where
  nodup : (T.map (·.1)).Nodup
  lt : ∀ x ∈ T, x.1 < 18446744073709551616 ∧ x.2.2 < 50
theorem tput_ok {T : Tab} (h : TabOk T) {i : Nat} (hi : i < 50) {p : Nat × Nat} (hp : p.2 < 18446744073709551616) : TabOk (tput T i p) := by
  unfold tput
  cases hg : tget T p.2 with
  | some q => simpa using h
  | none =>
    simp only [Option.isSome_none]
    unfold tget at hg
    rw [Option.map_eq_none_iff, List.find?_eq_none] at hg
    refine ⟨?_, fun x hx => ?_⟩
    · rw [if_neg (by simp), List.map_append, List.nodup_append]
      refine ⟨h.nodup, by simp, fun a ha b hb => ?_⟩
      obtain ⟨x, hx, rfl⟩ := List.mem_map.1 ha
      simp only [List.map_cons, List.map_nil, List.mem_singleton] at hb
      subst hb
      simpa using hg x hx
    · rw [if_neg (by simp)] at hx
      rcases List.mem_append.1 hx with hx | hx
      · exact h.lt x hx
      · rw [List.mem_singleton] at hx
        subst hx
        exact ⟨hp, hi⟩
theorem tadd_ok {T : Tab} (h : TabOk T) {i : Nat} (hi : i < 50) : ∀ l : List (Nat × Nat), (∀ p ∈ l, p.2 < 18446744073709551616) → TabOk (tadd T i l) := by
  intro l
  induction l generalizing T with
  | nil => exact fun _ => h
  | cons p l ih =>
    intro hl
    exact ih (tput_ok h hi (hl p (by simp))) fun q hq => hl q (by simp [hq])
theorem tRun_ok (M : List Pg) (l : List Im) : ∀ j, j ≤ 50 → TabOk (tRun M l j).tab
  | 0, _ => ⟨List.nodup_nil, fun x hx => by cases hx⟩
  | j + 1, hj => by
    have ih := tRun_ok M l j (by omega)
    rw [tRun]
    unfold tStep
    split
    · exact ih
    · split
      · exact ⟨List.nodup_nil, fun x hx => by cases hx⟩
      · exact tadd_ok ih (by omega) _ fun p hp => (pFold_good M _ _ p hp).2.2
theorem TabOk.get {T : Tab} (h : TabOk T) {n : Nat} (hn : n < T.length) : tget T (T.getD n (0, 0, 0)).1 = some (T.getD n (0, 0, 0)).2 ∧ (T.getD n (0, 0, 0)).1 < 18446744073709551616 ∧ (T.getD n (0, 0, 0)).2.2 < 50 := by
  have hd : ∀ j, ∀ (hj : j < T.length), T.getD j (0, 0, 0) = T[j] := fun j hj => by rw [List.getD_eq_getElem?_getD, List.getElem?_eq_getElem hj]; rfl
  refine ⟨tget_hit (fun j hj e => ?_) hn rfl, h.lt _ (by rw [hd n hn]; exact List.getElem_mem hn)⟩
  have hnd := h.nodup
  rw [hd j (by omega), hd n hn] at e
  have := (List.getElem_inj (xs := T.map (·.1)) (i := j) (j := n) (h₀ := by simpa using (by omega : j < T.length)) (h₁ := by simpa using hn) hnd).1 (by simpa using e)
  omega

set_option maxHeartbeats 4000000 in
set_option maxRecDepth 100000 in
theorem imaps_any (w : World) (aR : Option Addr) (cR : Nat) (lR : List RngM) (hR : Rngs w aR cR lR) (aI : Option Addr) (cI : Nat) (l : List Im) (hI : ImsP w aI l) (hlc : l.length ≤ cI) (hlm : cI ≤ maxLen) (image : Int) (at_ : Nat) (hat : at_ < 18446744073709551616) :
    Calls Try.prog 9 #[.slice aR lR.length cR, .slice aI l.length cI, .int .i64 image, .int .u64 at_] w (GivesB w (.bool true)) := by
  have HK : Hid (∀ W, Calls Try.prog 44 #[] W (GivesB W (.bool true))) := known21_any
  have HRN : Hid (∀ W, Below w.heap.size w W → Rngs W aR cR lR) := fun W hW => hR.keep hW
  have HP : Hid (∀ W, Below w.heap.size w W → ImsP W aI l) := fun W hW => hI.keep hW
  unfold maxLen at hlm
  have HFW := Lib.hid (few21_any w aI cI l hI hlc hlm)
  clear hR hI
  go_enter Try.func9, Try.ntmps9
  go_wp2_with fail
  refine HFW.out.mono ?_
  rintro e w2' ⟨bv, rfl, hbv, rfl⟩
  cases bv with
  | false =>
    clear hbv
    go_wp2_with fail
    refine (HK.out _).mono ?_
    rintro e w3 ⟨rfl, hb⟩
    have B3 := Lib.hid hb
    clear hb
    go_wp2_with fail
    go_ret
    exact ⟨rfl, B3.out⟩
  | true =>
    have hl8 := hbv rfl
    clear hbv
    go_wp2_with fail
    refine (memory21_any _ _ _ _ (HRN.out _ (Below.refl _ _))).mono ?_
    rintro e w3 (⟨_, rfl, hb3⟩ | ⟨_, s, r, rfl, htwo⟩)
    · have B3 := Lib.hid hb3
      clear hb3
      go_wp2_with fail
      refine (HK.out _).mono ?_
      rintro e w4 ⟨rfl, hb⟩
      have B4 := Lib.hid (B3.out.trans (below_le hb B3.out.size))
      clear hb
      go_wp2_with fail
      go_ret
      exact ⟨rfl, B4.out⟩
    · have B3 := Lib.hid htwo.below
      obtain ⟨F, G, hsp, hrf, _⟩ := htwo.own
      have HSP := Lib.hid (tmap_any w3 s _ F hsp aI cI l (HP.out _ B3.out) (by omega) hlc)
      have HRF : Hid (∀ W, Below w3.heap.size w3 W → RfIn W r (memM lR) G) := fun W hW => hrf.keepB hW
      have hok := tRun_ok (memM lR) l l.length (by omega)
      have htl := tRun_len (M := memM lR) (l := l) l.length
      change TabOk (tMap (memM lR) l).tab at hok
      change (tMap (memM lR) l).tab.length ≤ _ at htl
      generalize memM lR = M at *
      have HOK := Lib.hid hok
      clear htwo hsp hrf hok
      go_wp2_with fail
      refine HSP.out.mono ?_
      rintro e w4 ⟨v1, rfl, hb4, hv1⟩
      have HB4 := Lib.hid (B3.out.trans (below_le hb4 B3.out.size))
      have HV4 := Lib.hid hv1
      have HRP := Lib.hid (rtmap_any w4 r M G (HRF.out _ hb4) aI cI l (HP.out _ HB4.out) (by omega))
      clear hb4 hv1 HSP HRF B3
      go_wp2_with fail
      refine HRP.out.mono ?_
      rintro e w5 ⟨v2, rfl, hb5, hr5⟩
      have HB5 := Lib.hid (HB4.out.trans (below_le hb5 HB4.out.size))
      obtain ⟨T, hT⟩ : ∃ T, T = (tMap M l).tab := ⟨_, rfl⟩
      rw [← hT] at HOK htl HV4 hr5
      generalize (tMap M l).at_ = ta at *
      generalize (tMap M l).err = te at *
      have HSV : Hid (∀ W, Below w5.heap.size w5 W → SwVal W v1 T) := fun W hW => HV4.out.keepB (hb5.trans (below_le hW hb5.size))
      have HRO : Hid (∀ W, Below w5.heap.size w5 W → RowsIn W w4.heap.size v2 T) := fun W hW => hr5.keep hW
      obtain ⟨a2, c2, rfl⟩ := hr5.shape
      have hTl : T.length < 9223372036854775807 := by omega
      have HSW : Hid (∀ (i : Int) (a : Nat) (W : World), Below w5.heap.size w5 W → a < 18446744073709551616 → Calls Try.prog 50 #[v1, .int .i64 i, .int .u64 a] W fun e w' => e = .returned (.int .u64 (tSwapZ T i a : Int)) ∧ Below W.heap.size W w') := fun i a W hW ha => swappedZ_any W v1 T (HSV.out W hW) i a ha
      have HRS : Hid (∀ (i : Int) (a : Nat) (W : World), Below w5.heap.size w5 W → Calls Try.prog 51 #[.slice a2 T.length c2, .int .i64 i, .int .u64 a] W fun e w' => e = .returned (.int .u64 (tSwapZ T i a : Int)) ∧ W = w') := fun i a W hW => rswapped_any W _ _ T (HRO.out W hW) hTl i a
      have HV5 := Lib.hid (HSV.out w5 (Below.refl _ _))
      clear hb5 hr5 HV4 HRP HB4 hT
      have b1 : ((te : Int) != te) = false := by simp
      have b2 : ((ta : Int) != (ta : Int)) = false := by simp
      go_wp2_with (first | (refine wpList_sw_len rfl (.tmp 58) rfl HV5.out rfl ?_))
      go_loopw [18] (fun t wr => ∃ k : Nat, k ≤ T.length ∧ t = .int .i64 k ∧ Hid (Below w5.heap.size w5 wr)) (fun t _ => T.length - (intOf t).toNat)
      case atStart => exact ⟨0, Nat.zero_le _, rfl, Below.refl _ _⟩
      case round =>
        obtain ⟨k, hk, rfl, HB⟩ := hrel
        by_cases hlt : k < T.length
        · have hro := HRO.out wr HB.out
          obtain ⟨g, cap, hv, hc1, hc2, c0, c1, c2'⟩ := hro.at_ hlt
          have hgl := (hro.lt g (by rw [hv]; rfl)).2
          obtain ⟨o1, o2, o3⟩ := HOK.out.get hlt
          cases hv
          obtain ⟨q, hq⟩ : ∃ q, q = T.getD k (0, 0, 0) := ⟨_, rfl⟩
          rw [← hq] at o1 o2 o3 c0 c1 c2'
          obtain ⟨fr, tt, im⟩ := q
          simp only at o1 o2 o3 c0 c1 c2'
          have HG := Lib.hid o1
          have HV6 := Lib.hid (HSV.out wr HB.out)
          have HS1 : Hid (∀ W, Below w5.heap.size w5 W → Calls Try.prog 50 #[v1, .int .i64 (im : Int), .int .u64 (fr : Int)] W fun e w' => e = .returned (.int .u64 (fr : Int)) ∧ Below W.heap.size W w') := fun W hW => by
            have := HSW.out (im : Int) fr W hW o2
            rwa [tSwapZ_same o1 rfl] at this
          have HS2 : Hid (∀ W, Below w5.heap.size w5 W → Calls Try.prog 50 #[v1, .int .i64 image, .int .u64 (fr : Int)] W fun e w' => e = .returned (.int .u64 (tSwapZ T image fr : Int)) ∧ Below W.heap.size W w') := fun W hW => HSW.out image fr W hW o2
          have HS3 : Hid (∀ W, Below w5.heap.size w5 W → Calls Try.prog 51 #[.slice (some ⟨g, 0, none⟩) T.length c2, .int .i64 image, .int .u64 (fr : Int)] W fun e w' => e = .returned (.int .u64 (tSwapZ T image fr : Int)) ∧ W = w') := fun W hW => HRS.out image fr W hW
          have hBn : Hid (∀ o n, Below w5.heap.size w5 ((wr.alloc o).drewN n)) := fun o n => below_drewN (HB.out.alloc HB.out.size _) n
          have b3 : ((tt : Int) != (tt : Int)) = false := by simp
          have b4 : ((im : Int) != (im : Int)) = false := by simp
          have b5 : ((fr : Int) != (fr : Int)) = false := by simp
          generalize tSwapZ T image fr = sv at *
          have b6 : ((sv : Int) != (sv : Int)) = false := by simp
          clear o1 hq hro
          go_wp2_with (first | (refine wpList_sw_hit rfl (.tmp 71) (.tmp 76) rfl HV6.out rfl fr o2 rfl HG.out ?_))
          go_quiet (fail)
          go_wp2_with fail
          refine (HS1.out _ (hBn.out _ _)).mono ?_
          rintro e w6 ⟨rfl, hb6⟩
          have HB6 := Lib.hid ((hBn.out (.cells #[.int .u64 (tt : Int), .int .i64 (im : Int)] 97) nq).trans (below_le hb6 (hBn.out _ nq).size))
          clear hb6 HS1
          go_wp2_with fail
          refine (HS2.out _ HB6.out).mono ?_
          rintro e w7 ⟨rfl, hb7⟩
          have HB7 := Lib.hid (HB6.out.trans (below_le hb7 HB6.out.size))
          clear hb7 HS2
          go_wp2_with fail
          refine (HS3.out _ HB7.out).mono ?_
          rintro e w8 ⟨rfl, rfl⟩
          go_wp2_with fail
          go_roundw
          case rel => exact ⟨k + 1, by omega, by go_num, HB7.out⟩
          case measure => simp [intOf]; omega
        · obtain rfl : k = T.length := by omega
          have HS1 : Hid (Calls Try.prog 50 #[v1, .int .i64 image, .int .u64 (at_ : Int)] wr fun e w' => e = .returned (.int .u64 (tSwapZ T image at_ : Int)) ∧ Below wr.heap.size wr w') := HSW.out image at_ wr HB.out hat
          have HS3 : Hid (∀ W, Below w5.heap.size w5 W → Calls Try.prog 51 #[.slice a2 T.length c2, .int .i64 image, .int .u64 (at_ : Int)] W fun e w' => e = .returned (.int .u64 (tSwapZ T image at_ : Int)) ∧ W = w') := fun W hW => HRS.out image at_ W hW
          generalize tSwapZ T image at_ = sv at *
          have b6 : ((sv : Int) == (sv : Int)) = true := by simp
          go_wp2_with fail
          refine HS1.out.mono ?_
          rintro e w6 ⟨rfl, hb6⟩
          have HB6 := Lib.hid (HB.out.trans (below_le hb6 HB.out.size))
          clear hb6 HS1
          go_wp2_with fail
          refine (HS3.out _ HB6.out).mono ?_
          rintro e w7 ⟨rfl, rfl⟩
          go_wp2_with fail
          refine (HK.out _).mono ?_
          rintro e w8 ⟨rfl, hb⟩
          have B8 := Lib.hid ((HB5.out.trans (below_le HB6.out HB5.out.size)).trans (below_le hb (Nat.le_trans HB5.out.size HB6.out.size)))
          clear hb
          go_wp2_with fail
          go_ret
          exact ⟨rfl, B8.out⟩
end Go.Proofs.Ytepnaalgobhcdaa
