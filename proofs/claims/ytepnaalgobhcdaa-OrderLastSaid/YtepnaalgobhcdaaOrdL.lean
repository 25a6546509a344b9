/- OrderRuns answers true: the walk. -/
import Derived.Test.YtepnaalgobhcdaaOrdK
namespace Go.Proofs.Ytepnaalgobhcdaa
open Go.RowKit Clv

theorem mem_edges {n : Nat} {x : ImgM} {k d : Nat} (hk : k < x.deps.length) (h : okDep n x k = true) (hd : x.deps.getD k 0 = (d : Int)) : d ∈ edgesTo n x x.deps.length := by
  unfold edgesTo
  refine List.mem_map.2 ⟨k, List.mem_filter.2 ⟨List.mem_range.2 hk, h⟩, ?_⟩
  rw [hd]; rfl
def LawRes (w : World) (e : Ending) (w' : World) : Prop := e = .returned (.bool true) ∧ Below w.heap.size w w'

set_option maxHeartbeats 4000000 in
set_option maxRecDepth 100000 in
theorem runs_pos (w : World) (b o lc : Nat) (l : List ImgM) (hI : Imgs w (some ⟨b, o, none⟩) lc l) (hpos : 0 < l.length) :
    Calls Try.prog 3 #[.slice (some ⟨b, o, none⟩) l.length lc] w (LawRes w) := by
  have HI := Lib.hid hI
  clear hI
  have HF := Lib.hid (few_any w _ lc l HI.out 40)
  go_enter Try.func3, Try.ntmps3
  go_wp2_with fail
  refine HF.out.mono ?_
  rintro e _ ⟨bv, rfl, hbv, rfl⟩
  cases bv with
  | false =>
    go_wp2_with fail
    refine (known_true _).mono ?_
    rintro e w1 ⟨rfl, hb⟩
    go_wp2_with fail
    go_ret
    exact ⟨rfl, hb⟩
  | true =>
    have hn : l.length ≤ 40 := by have := hbv rfl; omega
    clear hbv HF
    go_wp2_with fail
    refine (run_any w _ lc l HI.out (by omega)).mono ?_
    rintro e w1 ⟨v1, rfl, o1, b1⟩
    have N1 := Lib.hid (ownsRow_nums o1)
    have I1 := Lib.hid (HI.out.keep b1)
    have B1 := Lib.hid b1
    clear o1 b1
    go_wp2_with fail
    refine (Run_any w1 _ lc l I1.out (by omega)).mono ?_
    rintro e w2 ⟨v2, rfl, o2, b2⟩
    have N2 := Lib.hid (ownsRow_nums o2)
    have N3 := Lib.hid (N1.out.keep b2)
    have B2 := Lib.hid (B1.out.trans (b2.mono B1.out.size))
    have hlen := runOut_length (gOf_lt l)
    have hnd := runOut_nodup (gOf_lt l) (n := l.length)
    have hmem := runOut_mem (gOf_lt l) (n := l.length)
    have hahead := fun (x d : Nat) => ahead (gOf_lt l) (x := x) (d := d)
    generalize hr : runOut (gOf l) l.length = r at *
    have HND := Lib.hid hnd
    have HMEM := Lib.hid hmem
    have HAH := Lib.hid hahead
    have HLEN := Lib.hid hlen
    clear o2 b2 N1 I1 B1 hr hnd hmem hahead hlen
    go_wp2_with fail
    refine (same_any w2 v1 v2 r (by rw [HLEN.out]; omega) N3.out N2.out).mono ?_
    rintro e w3 ⟨rfl, b3⟩
    have N4 := Lib.hid (N3.out.keep b3)
    have B3 := Lib.hid (B2.out.trans (b3.mono B2.out.size))
    clear b3 N3 N2 B2
    obtain ⟨va, vc, hv1, hs1⟩ := N4.out
    rw [HLEN.out] at hv1 hs1
    obtain ⟨rb, ro, rfl, hs2⟩ := hs1.get hpos
    have HS := Lib.hid hs2
    clear hs1 hs2
    subst hv1
    have hmk := make_ints l.length (by omega)
    have hnn : ((l.length : Int) != (l.length : Int)) = false := by simp
    go_wp2_with fail
    clear hmk hnn
    have B3z : w.heap.size ≤ w3.heap.size := B3.out.size
    go_loopw [5] (fun t wr => ∃ k : Nat, k ≤ l.length ∧ t = .int .i64 k ∧ Hid (TabSt w3 w3.heap.size (blanks l.length k) wr)) (fun t _ => l.length - (intOf t).toNat)
    case atStart => exact ⟨0, Nat.zero_le _, rfl, ⟨hp_new _ _ _ rfl, (Below.refl _ w3).alloc (Nat.le_refl _) _⟩⟩
    case round =>
      obtain ⟨k, hk, rfl, HR⟩ := hrel
      by_cases hlt : k < l.length
      · have ck := HR.out.cell (x := k) (v := 0) (by simp [blanks, hlt])
        have fk := HR.out.free k
        go_wp2_with fail
        go_roundw
        case rel => exact ⟨k + 1, by omega, by go_num, by rw [← blanks_step hlt]; exact HR.out.set k _⟩
        case measure => simp [intOf]; omega
      · obtain rfl : k = l.length := by omega
        have HR0 : Hid (TabSt w3 w3.heap.size (stands r l.length 0) wr) := by
          have := HR.out; rw [blanks_full r] at this; exact this
        clear HR hlt hk
        obtain ⟨wa, rfl⟩ : ∃ wa : World, wa = wr := ⟨_, rfl⟩
        go_wp2_with fail
        go_loopw [6] (fun t wr => ∃ k : Nat, k ≤ l.length ∧ t = .int .i64 k ∧ Hid (TabSt w3 w3.heap.size (stands r l.length k) wr)) (fun t _ => l.length - (intOf t).toNat)
        case atStart => exact ⟨0, Nat.zero_le _, rfl, HR0.out⟩
        case round =>
          obtain ⟨k, hk, rfl, HR⟩ := hrel
          by_cases hlt : k < l.length
          · obtain ⟨x, hx⟩ : ∃ x, r[k]? = some x := ⟨r[k]'(by rw [HLEN.out]; exact hlt), List.getElem?_eq_getElem _⟩
            have hxn : x < l.length := (HMEM.out x).1 (List.mem_of_getElem? hx)
            have cr : wr.cell? ⟨rb, ro + k, none⟩ = some (.int .i64 x) := by
              have := cell_keep (HS.out k hlt) HR.out.below
              rw [Nat.mul_one, List.getD_eq_getElem?_getD, hx] at this
              exact this
            have ct := HR.out.cell (x := x) (by rw [stands_get hxn, stand_new HND.out hx])
            have ft := HR.out.free x
            have HX := Lib.hid hx
            clear hx
            go_wp2_with fail
            go_roundw
            case rel => exact ⟨k + 1, by omega, by go_num, by rw [← stands_step HND.out HX.out]; exact HR.out.set x _⟩
            case measure => simp [intOf]; omega
          · obtain rfl : k = l.length := by omega
            have HT : Hid (TabSt w3 w3.heap.size (stands r l.length r.length) wr) := by rw [HLEN.out]; exact HR.out
            clear HR hlt hk HR0
            obtain ⟨wb, rfl⟩ : ∃ wb : World, wb = wr := ⟨_, rfl⟩
            go_wp2_with fail
            go_loopw [7] (fun t wr => ∃ k : Nat, k ≤ l.length ∧ t = .int .i64 k ∧ Hid (TabSt w3 w3.heap.size (stands r l.length r.length) wr)) (fun t _ => l.length - (intOf t).toNat)
            case atStart => exact ⟨0, Nat.zero_le _, rfl, HT.out⟩
            case round =>
              obtain ⟨i, hi, rfl, HR⟩ := hrel
              by_cases hlt : i < l.length
              · obtain ⟨b', o', hbo, cs, hcs, hx⟩ := HI.out.2.2 i hlt
                cases hbo
                obtain ⟨da, dc, hd26, hdl, hdm, hdeps⟩ := hx.deps
                unfold maxLen at hdm
                have hbl : b < w.heap.size := hcs.lt (by rw [hx.size]; omega)
                have e0 : gOf l i = edgesTo l.length (l.getD i ⟨0, [], [], []⟩) (l.getD i ⟨0, [], [], []⟩).deps.length := rfl
                generalize l.getD i ⟨0, [], [], []⟩ = x at *
                have E0 := Lib.hid e0
                have HX := Lib.hid hx
                have HD := Lib.hid hdeps
                have HC := Lib.hid hcs
                have H26 := Lib.hid hd26
                clear e0 hx hdeps hcs hd26 HT
                obtain ⟨wc, rfl⟩ : ∃ wc : World, wc = wr := ⟨_, rfl⟩
                go_wp2_with fail
                go_loopw [8] (fun t wr => ∃ k : Nat, k ≤ x.deps.length ∧ t = .int .i64 k ∧ Hid (TabSt w3 w3.heap.size (stands r l.length r.length) wr)) (fun t _ => x.deps.length - (intOf t).toNat)
                case atStart => exact ⟨0, Nat.zero_le _, rfl, HR.out⟩
                case round =>
                  obtain ⟨k, hk, rfl, HR3⟩ := hrel
                  have BW := Lib.hid (B3.out.trans (HR3.out.below.mono B3z))
                  have c26 : wr.cell? ⟨b, o + i * 27 + 26, none⟩ = some (.slice da x.deps.length dc) := (BW.out.cell (p := ⟨b, _, none⟩) hbl).trans (HC.out 26 _ H26.out)
                  by_cases hlt3 : k < x.deps.length
                  · obtain ⟨db, dof, hda, hdc, hd1, hd2⟩ := HD.out k hlt3
                    rw [hda] at c26
                    rw [Nat.mul_one] at hdc
                    have hdb : db < w.heap.size := block_lt_of_cell hdc
                    have c_d := (BW.out.cell (p := ⟨db, dof + k, none⟩) hdb).trans hdc
                    have hcw : CellsAt wr b (o + i * 27) cs := HC.out.below BW.out (fun _ => hbl)
                    have HXW := Lib.hid (HX.out.keep BW.out)
                    have HCW := Lib.hid hcw
                    have HS38 := Lib.hid HX.out.size
                    generalize hdk : x.deps.getD k 0 = tox at *
                    have HDK := Lib.hid hdk
                    clear hdk hcw hda hdc
                    by_cases hneg : tox < 0
                    · go_wp2_with fail
                      go_roundw
                      case rel => exact ⟨k + 1, by omega, by go_num, HR3.out⟩
                      case measure => simp [intOf]; omega
                    · by_cases hbig : (l.length : Int) ≤ tox
                      · go_wp2_with fail
                        go_roundw
                        case rel => exact ⟨k + 1, by omega, by go_num, HR3.out⟩
                        case measure => simp [intOf]; omega
                      · obtain ⟨dn, rfl⟩ := Int.eq_ofNat_of_zero_le (show 0 ≤ tox by omega)
                        have hdn : dn < l.length := by omega
                        cases hu : upB x k with
                        | true =>
                          have HU : Hid (Calls Try.prog 21 #[.agg cs, .int .i64 k] wr fun e w' => e = .returned (.bool true) ∧ Below wr.heap.size wr w') := by
                            have := Upward_any x cs wr HXW.out k
                            rw [hu] at this; exact this
                          clear hu
                          go_wp2_with (first
                            | (refine wpList_load_agg 38 _ rfl rfl b (o + i * 27) rfl cs _ HCW.out Try.underlying38 rfl (by rw [HS38.out]; kernel_rfl) ?_)
                            | (go_at_call 21; refine HU.out.mono ?_; rintro e w4 ⟨rfl, hb1⟩))
                          go_roundw
                          case rel => exact ⟨k + 1, by omega, by go_num, HR3.out.keep hb1⟩
                          case measure => simp [intOf]; omega
                        | false =>
                          have HU : Hid (Calls Try.prog 21 #[.agg cs, .int .i64 k] wr fun e w' => e = .returned (.bool false) ∧ Below wr.heap.size wr w') := by
                            have := Upward_any x cs wr HXW.out k
                            rw [hu] at this; exact this
                          have HED : Hid (dn ∈ gOf l i) := by show dn ∈ gOf l i; rw [E0.out]; exact mem_edges hlt3 (okDep_of hu HDK.out hdn) HDK.out
                          clear hu
                          have HIW := Lib.hid (HI.out.keep BW.out)
                          have HRC := Lib.hid (fun (w4 : World) (hb : Below wr.heap.size wr w4) => Reach_any w4 _ lc l (HIW.out.keep hb) (by omega) dn hdn)
                          have HON := Lib.hid (reach_on (gOf_lt l) dn hdn i)
                          have HAT := Lib.hid (fun h => HAH.out i dn hlt HED.out h)
                          have HM1 := Lib.hid (stand_full ((HMEM.out dn).2 hdn))
                          have HM2 := Lib.hid (stand_full ((HMEM.out i).2 hlt))
                          cases hrc : (reach (gOf l) l.length dn).getD i false with
                          | true =>
                            have HR4 := Lib.hid hrc
                            clear hrc
                            go_wp2_with (first
                              | (refine wpList_load_agg 38 _ rfl rfl b (o + i * 27) rfl cs _ HCW.out Try.underlying38 rfl (by rw [HS38.out]; kernel_rfl) ?_)
                              | (go_at_call 21; refine HU.out.mono ?_; rintro e w4 ⟨rfl, hb1⟩)
                              | (go_at_call 22; refine (HRC.out w4 hb1).mono ?_; rintro e w5 ⟨rfl, hr5⟩; have HR5 := Lib.hid hr5; clear hr5; have c5 := HR5.out.cell hlt HR4.out))
                            go_roundw
                            case rel => exact ⟨k + 1, by omega, by go_num, (HR3.out.keep hb1).keep HR5.out.below⟩
                            case measure => simp [intOf]; omega
                          | false =>
                            have HR4 := Lib.hid hrc
                            clear hrc
                            have HLT : Hid (r.idxOf dn < r.idxOf i) := HAT.out (fun h => by have := HON.out.2 h; unfold On at this; rw [HR4.out] at this; cases this)
                            go_wp2_with (first
                              | (refine wpList_load_agg 38 _ rfl rfl b (o + i * 27) rfl cs _ HCW.out Try.underlying38 rfl (by rw [HS38.out]; kernel_rfl) ?_)
                              | (go_at_call 21; refine HU.out.mono ?_; rintro e w4 ⟨rfl, hb1⟩)
                              | (go_at_call 22; refine (HRC.out w4 hb1).mono ?_; rintro e w5 ⟨rfl, hr5⟩; have HR5 := Lib.hid hr5; clear hr5; have c5 := HR5.out.cell hlt HR4.out))
                            have HR6 := Lib.hid ((HR3.out.keep hb1).keep HR5.out.below)
                            have c6 := HR6.out.cell (x := dn) (by rw [stands_get hdn, HM1.out])
                            have c7 := HR6.out.cell (x := i) (by rw [stands_get hlt, HM2.out])
                            have hidx : (r.idxOf dn : Int) < (r.idxOf i : Int) := by have := HLT.out; omega
                            have i1 : (dn : Int) < (l.length : Int) := by omega
                            have i2 : (i : Int) < (l.length : Int) := by omega
                            have i3 : (0 : Int) ≤ (dn : Int) := by omega
                            have i4 : (0 : Int) ≤ (i : Int) := by omega
                            generalize r.idxOf dn = s1 at *
                            generalize r.idxOf i = s2 at *
                            clear c26 c_d c5
                            go_quiet (fail)
                            go_wp2_with fail
                            go_roundw
                            case rel => exact ⟨k + 1, by omega, by go_num, ⟨HR6.out.row, below_drewN HR6.out.below _⟩⟩
                            case measure => simp [intOf]; omega
                  · obtain rfl : k = x.deps.length := by omega
                    go_wp2_with fail
                    go_roundw
                    case rel => exact ⟨i + 1, by omega, by go_num, HR3.out⟩
                    case measure => simp [intOf]; omega
              · go_wp2_with fail
                refine (known_true _).mono ?_
                rintro e w4 ⟨rfl, hb⟩
                go_wp2_with fail
                go_ret
                exact ⟨rfl, (B3.out.trans (HR.out.below.mono B3z)).trans (hb.mono (Nat.le_trans B3z HR.out.below.size))⟩
end Go.Proofs.Ytepnaalgobhcdaa
