/- clevislaw07.known, SpaceMany. -/
import Derived.Test.YtepnaalgobhcdaaSpN
namespace Go.Proofs.Ytepnaalgobhcdaa
open Go.RowKit Spm

def kM : List Pg := mapM [] 4096 8192 3
def kV : Nat := 72623859790382856
def kM2 : List Pg := wrAll kM 8188 (bytesOf kV)
theorem k1 : mapErr [] 4096 8192 3 = 0 := by decide +kernel
theorem kM_eq : kM = mapIn [] 1 2 3 := by unfold kM mapM; rw [if_pos k1]; rfl
theorem k2 : lookErr kM 8188 8 2 = 0 := by rw [kM_eq]; decide +kernel
theorem k2r : lookErr kM 8188 8 1 = 0 := by rw [kM_eq]; decide +kernel
theorem k3 : lookErr kM 4094 1 2 = 4 := by rw [kM_eq]; decide +kernel
theorem ok_nil : Ok [] := ⟨List.Pairwise.nil, fun _ h => absurd h (List.not_mem_nil), Nat.zero_le _⟩
theorem kM_ok : Ok kM := mapM_ok ok_nil _ _ _
theorem k_miss : missing kM (fst 8188) (lst 8188 (bytesOf kV).length) = false := by rw [kM_eq]; decide +kernel
theorem kw : writeM kM 8188 (bytesOf kV) 2 = kM2 := by unfold writeM; rw [show (bytesOf kV).length = 8 from rfl, if_pos k2]; rfl
theorem k_alike : Spm.Alike kM kM2 := wrAll_alike _ _ _
theorem kre : readErr kM2 8188 8 = 0 := by rw [Spm.readErr_alike k_alike]; unfold readErr; rw [if_neg (by decide)]; exact k2r
theorem kword : wordOf (readAll kM2 8188 8) = kV := by
  have := Spm.readAll_wrAll kM_ok (a := 8188) (bs := bytesOf kV) k_miss
  rw [show (bytesOf kV).length = 8 from rfl] at this
  unfold kM2
  rw [this]
  exact wordOf_bytesOf (by decide)
theorem k4 (bs : List UInt8) (h : bs.length = 1) : lookErr kM2 4094 bs.length 2 = 4 := by rw [h, Spm.lookErr_alike k_alike]; exact k3
theorem kw2 (bs : List UInt8) (h : bs.length = 1) : writeM kM2 4094 bs 2 = kM2 := by unfold writeM; rw [k4 bs h]; rfl
theorem k_len : kM2.length = 2 := by rw [k_alike.length, kM_eq]; rfl

def newF (w : World) (k : Nat) : Prop := w.heap.size ≤ k ∧ k < w.heap.size + 2
theorem grow_below {F : Nat → Prop} {B : Nat} {w w' : World} (hF : ∀ k, F k → B ≤ k) (hB : B ≤ w.heap.size) : ∀ k, grow F w w' k → B ≤ k := fun k hk => by
  rcases hk with hk | hk
  · exact hF k hk
  · omega

theorem below_le {B k : Nat} {w w' : World} (h : Below k w w') (hB : B ≤ k) : Below B w w' := ⟨h.os, h.tape, h.output, h.size, fun i hi => h.block i (by omega)⟩

set_option maxHeartbeats 1000000 in
set_option maxRecDepth 100000 in
theorem known_any (w : World) : Calls Try.prog 23 #[] w fun e w' => e = .returned (.bool true) ∧ Below w.heap.size w w' := by
  have HN : Hid (∀ W : World, Calls Try.prog 24 #[] W fun e w' => e = .returned (.pointer (some ⟨W.heap.size + 1, 0, none⟩)) ∧ SpIn w' (W.heap.size + 1) [] (newF W) ∧ Below W.heap.size W w' ∧ w'.heap.size = W.heap.size + 2) := new_any
  have HM : Hid (∀ (W : World) (b : Nat) (F : Nat → Prop), SpIn W b [] F → Calls Try.prog 25 #[.pointer (some ⟨b, 0, none⟩), .int .u64 4096, .int .u64 8192, .int .i64 3] W fun e w' => e = .returned (.int .i64 0) ∧ SpIn w' b kM (grow F W w') ∧ Chg F W w') := fun W b F h => by
    refine (map_any W b [] F h 4096 8192 (by decide) 3).mono ?_
    rintro e w' ⟨rfl, h1, h2⟩
    rw [k1]; exact ⟨rfl, h1, h2⟩
  have HS : Hid (∀ (W : World) (b : Nat) (F : Nat → Prop), SpIn W b kM F → Calls Try.prog 39 #[.pointer (some ⟨b, 0, none⟩), .int .u64 8188, .int .u64 72623859790382856] W fun e w' => e = .returned (.int .i64 0) ∧ SpIn w' b kM2 F ∧ Chg F W w') := fun W b F h => by
    refine (setword_any W b kM F h 8188 (by decide) kV (by decide)).mono ?_
    rintro e w' ⟨rfl, h1, h2⟩
    rw [kw] at h1
    rw [show (bytesOf kV).length = 8 from rfl, k2]; exact ⟨rfl, h1, h2⟩
  have HW : Hid (∀ (W : World) (b : Nat) (F : Nat → Prop), SpIn W b kM2 F → Calls Try.prog 36 #[.pointer (some ⟨b, 0, none⟩), .int .u64 8188] W fun e w' => e = .returned (.tuple #[.int .u64 72623859790382856, .int .i64 0]) ∧ Below W.heap.size W w') := fun W b F h => by
    refine (word_any W b kM2 F h 8188 (by decide)).mono ?_
    rintro e w' ⟨rfl, h1⟩
    rw [kre, if_pos rfl, kword]; exact ⟨rfl, h1⟩
  have HR : Hid (∀ (W : World) (b : Nat) (F : Nat → Prop) (g : Nat), SpIn W b kM2 F → ¬ F g → W.heap[g]? = some (.cells #[.int .u8 1] 5 (0, 0)) → Calls Try.prog 38 #[.pointer (some ⟨b, 0, none⟩), .int .u64 4094, .slice (some ⟨g, 0, none⟩) 1 1] W fun e w' => e = .returned (.int .i64 4) ∧ SpIn w' b kM2 F ∧ Chg F W w') := fun W b F g h hg hb => by
    refine (write_any W b kM2 F h 4094 (by decide) [1] (some ⟨g, 0, none⟩) 1 (fun _ => ⟨g, 0, rfl, fun j hj => ?_, hg, lt_of_block hb⟩) (by decide) (by decide)).mono ?_
    · have : j = 0 := by simpa using hj
      subst this
      simp [World.cell?, hb, byteVal]
    · rintro e w' ⟨rfl, h1, h2⟩
      rw [kw2 _ rfl] at h1
      rw [k4 _ rfl]; exact ⟨rfl, h1, h2⟩
  have HP : Hid (∀ (W : World) (b : Nat) (F : Nat → Prop), SpIn W b kM2 F → Calls Try.prog 26 #[.pointer (some ⟨b, 0, none⟩)] W fun e w' => e = .returned (.int .i64 2) ∧ W = w') := fun W b F h => by
    refine (pages_any W b kM2 F h).mono ?_
    rintro e w' ⟨rfl, h1⟩
    rw [k_len]; exact ⟨rfl, h1⟩
  go_enter Try.func23, Try.ntmps23
  go_wp2_with (first
    | (go_at_call 24; refine (HN.out _).mono ?_; rintro e w1 ⟨rfl, h1, h2, h3⟩; have H1 := Lib.hid h1; have B1 := Lib.hid h2; have S1 := Lib.hid h3; clear h1 h2 h3)
    | (go_at_call 25; refine (HM.out _ _ _ H1.out).mono ?_; rintro e w2 ⟨rfl, h1, h2⟩; have H2 := Lib.hid h1; have C2 := Lib.hid h2; clear h1 h2)
    | (go_at_call 39; refine (HS.out _ _ _ H2.out).mono ?_; rintro e w3 ⟨rfl, h1, h2⟩; have H3 := Lib.hid h1; have C3 := Lib.hid h2; clear h1 h2)
    | (go_at_call 36; refine (HW.out _ _ _ H3.out).mono ?_; rintro e w4 ⟨rfl, h1⟩; have H4 := Lib.hid (H3.out.keepB h1); have B4 := Lib.hid h1; have B5 := Lib.hid ((Below.refl w4.heap.size w4).alloc (Nat.le_refl _) (.cells #[.int .u8 1] 5)); have H5 := Lib.hid (H4.out.keepB B5.out); clear h1)
    | (go_at_call 38; refine (HR.out _ _ _ _ H5.out (fun hF => absurd (H4.out.lt _ hF) (Nat.lt_irrefl _)) (hp_new _ _ _ rfl)).mono ?_; rintro e w6 ⟨rfl, h1, h2⟩; have H6 := Lib.hid h1; have C6 := Lib.hid h2; clear h1 h2)
    | (go_at_call 26; refine (HP.out _ _ _ H6.out).mono ?_; rintro e _ ⟨rfl, rfl⟩))
  go_ret
  refine ⟨rfl, ?_⟩
  have f1 : ∀ k, newF w k → w.heap.size ≤ k := fun k hk => hk.1
  have s1 := B1.out.size
  have b2 := C2.out.below f1 s1
  have f2 := grow_below (w := w1) (w' := w2) f1 s1
  have s2 := b2.size
  have b3 := C3.out.below f2 (by omega)
  have s3 := b3.size
  have s4 := B4.out.size
  have b6 := C6.out.below f2 (by simp; omega)
  exact ((((B1.out.trans b2).trans b3).trans (below_le B4.out (by omega))).trans (below_le B5.out (by omega))).trans b6
end Go.Proofs.Ytepnaalgobhcdaa
