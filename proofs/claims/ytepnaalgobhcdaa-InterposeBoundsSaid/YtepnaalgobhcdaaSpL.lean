/- *Space.SetWord, Prot. -/
import Derived.Test.YtepnaalgobhcdaaSpK
namespace Go.Proofs.Ytepnaalgobhcdaa
open Go.RowKit Spm

def bytesOf (v : Nat) : List UInt8 := (List.range 8).map fun i => UInt8.ofNat (v / 256 ^ i)
theorem bytesOf_length (v : Nat) : (bytesOf v).length = 8 := by simp [bytesOf]
theorem bytesOf_get {v i : Nat} (h : i < 8) : (bytesOf v)[i]? = some (UInt8.ofNat (v / 256 ^ i)) := by simp [bytesOf, h]
theorem shr_byte {v i : Nat} : IntKind.u8.wrap ((v : Int) / 2 ^ (8 * i)) = (((UInt8.ofNat (v / 256 ^ i)).toNat : Nat) : Int) := by
  rw [show IntKind.u8.wrap ((v : Int) / 2 ^ (8 * i)) = (((v : Int) / 2 ^ (8 * i)) % 256) from rfl, UInt8.toNat_ofNat']
  have e : ((v : Int) / 2 ^ (8 * i)) = ((v / 256 ^ i : Nat) : Int) := by rw [← pow256]; push_cast; rfl
  rw [e]; omega
/-- The first i bytes of the array have been set. -/
structure SetSt (w : World) (v i : Nat) (wr : World) : Prop where
  row : ∃ L : List UInt8, L.length = 8 ∧ L.take i = (bytesOf v).take i ∧ wr.heap[w.heap.size]? = some (.cells (L.map byteVal).toArray 152 (0, 0))
  below : Below w.heap.size w wr
  size : wr.heap.size = w.heap.size + 1
theorem SetSt.step {w wr : World} {v i : Nat} (h : SetSt w v i wr) (hi : i < 8) : SetSt w v (i + 1) (wr.setCell ⟨w.heap.size, i, none⟩ (byteVal (UInt8.ofNat (v / 256 ^ i)))) := by
  obtain ⟨⟨L, h1, h2, h3⟩, h4, h5⟩ := h
  refine ⟨⟨L.set i (UInt8.ofNat (v / 256 ^ i)), by simp [h1], ?_, ?_⟩, h4.setCell (by simp) _, by simpa using h5⟩
  · rw [List.take_add_one, List.take_add_one, bytesOf_get hi, List.getElem?_set_self (by omega), List.take_set_of_le (Nat.le_refl _), h2]
  · rw [heap_setCell_same _ _ _ _ _ _ h3]
    simp [List.map_set]
theorem SetSt.cell {w wr : World} {v i : Nat} (h : SetSt w v i wr) (hi : i < 8) : (∃ x, wr.cell? ⟨w.heap.size, i, none⟩ = some (byteVal x)) ∧ wr.frozen? ⟨w.heap.size, i, none⟩ = false := by
  obtain ⟨⟨L, h1, h2, h3⟩, h4, h5⟩ := h
  refine ⟨⟨L[i], ?_⟩, ?_⟩
  · simp [World.cell?, h3, h1, hi]
  · simp [World.frozen?, h3]
theorem SetSt.done {w wr : World} {v : Nat} (h : SetSt w v 8 wr) : BytesIn wr w.heap.size 0 (bytesOf v) := by
  obtain ⟨⟨L, h1, h2, h3⟩, h4, h5⟩ := h
  have e : L = bytesOf v := by
    rw [← List.take_length (l := L), h1, h2, ← bytesOf_length v, List.take_length]
  subst e
  intro j hj
  simp only [World.cell?, h3, Nat.zero_add]
  rw [bytesOf_length] at hj
  simp [bytesOf_get hj, List.getD_eq_getElem?_getD]
theorem zero152 (w : World) : (zeroValue 152).run Try.prog w = .ok (.agg ((List.replicate 8 (0 : UInt8)).map byteVal).toArray) w := by kernel_rfl

set_option maxHeartbeats 1000000 in
set_option maxRecDepth 100000 in
theorem setword_any (w : World) (b : Nat) (M : List Pg) (F : Nat → Prop) (h : SpIn w b M F) (a : Nat) (ha : a < 18446744073709551616) (v : Nat) (_hv : v < 18446744073709551616) :
    Calls Try.prog 39 #[.pointer (some ⟨b, 0, none⟩), .int .u64 a, .int .u64 v] w (WriteRes w b M F a (bytesOf v) 2) := by
  have hwr : ∀ wr, SetSt w v 8 wr → Calls Try.prog 38 #[.pointer (some ⟨b, 0, none⟩), .int .u64 a, .slice (some ⟨w.heap.size, 0, none⟩) 8 8] wr (WriteRes w b M F a (bytesOf v) 2) := fun wr hs => by
    have hnF : ¬ F w.heap.size := fun hF => by have := h.lt _ hF; omega
    refine ((write_any wr b M F (h.keepB hs.below) a ha (bytesOf v) (some ⟨w.heap.size, 0, none⟩) 8 (fun _ => ⟨_, _, rfl, hs.done, hnF, by have := hs.size; omega⟩) (by rw [bytesOf_length]; omega) (by omega))).mono ?_
    rintro e w' ⟨rfl, h1, h2⟩
    exact ⟨rfl, h1, (Chg.of_below hs.below).trans (h2.mono fun k _ hk => .inl hk)⟩
  have HWR := Lib.hid hwr
  have hz := zero152
  clear h hwr
  go_enter Try.func39, Try.ntmps39
  go_wp2_with fail
  go_loopw [9] (fun t wr => ∃ i : Nat, i ≤ 8 ∧ t = .int .i64 i ∧ Hid (SetSt w v i wr)) (fun t _ => 8 - (intOf t).toNat)
  case atStart =>
    refine ⟨0, by omega, rfl, ⟨⟨List.replicate 8 0, rfl, rfl, ?_⟩, (Below.refl _ w).alloc (Nat.le_refl _) _, by simp⟩⟩
    exact hp_new _ _ _ rfl
  case round =>
    obtain ⟨i, hi, rfl, HS⟩ := hrel
    by_cases hlt : i < 8
    · obtain ⟨⟨x, hx⟩, hfr⟩ := HS.out.cell hlt
      have HST := Lib.hid (HS.out.step hlt)
      have hsh := shr_byte (v := v) (i := i)
      generalize UInt8.ofNat (v / 256 ^ i) = y at *
      have hy : y.toNat < 256 := y.toNat_lt
      go_wp2_with fail
      exact ⟨⟨i + 1, by omega, by go_num, HST.out⟩, by simp [intOf]; omega⟩
    · obtain rfl : i = 8 := by omega
      go_wp2_with (go_at_call 38; refine (HWR.out _ HS.out).mono ?_; rintro e w2 ⟨rfl, h1, h2⟩; have H1 := Lib.hid h1; have H2 := Lib.hid h2; clear h1 h2)
      go_ret
      exact ⟨rfl, H1.out, H2.out⟩

section
variable {ops : Array Oper} {rest : List Oper} {o : Oper} {a : Act} {w : World} {Q : Exit → Act → World → Prop}
theorem wpList_page_gone (hg : o.guard = none) (m x : Operand) (hop : o.op = Op.lookup 76 m x false) (b : Nat) {f : Nat → Option (Nat × Int)} {c : Nat} (h : PgMap w b f c) (hm : a.eval m = .map (some b)) (n : Nat) (hn : n < 18446744073709551616) (hx : a.eval x = .int .u64 (n : Int)) (hf : f n = none)
    (hK : wpList Try.prog ops Q rest (a.put o.dst (.agg #[.pointer none, .int .i64 0])) w) : wpList Try.prog ops Q (o :: rest) a w :=
  wpList_page hg m x hop b h hm n hn hx (by rw [hf]; exact hK)
end
def protM (M : List Pg) (a : Nat) : Int := ((pg M (a / 4096)).map (·.prot)).getD 0
set_option maxHeartbeats 1000000 in
set_option maxRecDepth 100000 in
theorem prot_any (w : World) (b : Nat) (M : List Pg) (F : Nat → Prop) (h : SpIn w b M F) (a : Nat) (ha : a < 18446744073709551616) :
    Calls Try.prog 40 #[.pointer (some ⟨b, 0, none⟩), .int .u64 a] w fun e w' => e = .returned (.int .i64 (protM M a)) ∧ w = w' := by
  obtain ⟨mb, A, hb, hp⟩ := h.own
  have cb := cell_of_one hb
  have HP := Lib.hid hp.map
  have hfld := field142'
  unfold protM
  obtain ⟨q, hq⟩ : ∃ q, q = a / 4096 := ⟨_, rfl⟩
  have hq2 : (a : Int) / 4096 = (q : Int) := by omega
  have hq3 : q < 18446744073709551616 := by omega
  rw [← hq]
  cases hpg : pg M q with
  | none =>
    have hf : pgFn M A q = none := by unfold pgFn; rw [hpg]; rfl
    have HF := Lib.hid hf
    clear h hb hp hq hf hpg
    go_enter Try.func40, Try.ntmps40
    go_wp2_with (refine wpList_page_gone rfl (.tmp 10) (.tmp 12) rfl mb HP.out rfl q hq3 (by simp [Act.eval]) HF.out ?_)
    go_ret
    exact ⟨rfl, rfl⟩
  | some p =>
    have hf : pgFn M A q = some (A q, p.prot) := by unfold pgFn; rw [hpg]; rfl
    have HF := Lib.hid hf
    clear h hb hp hq hf hpg
    go_enter Try.func40, Try.ntmps40
    go_wp2_with (refine wpList_page_there rfl (.tmp 10) (.tmp 12) rfl mb HP.out rfl q hq3 (by simp [Act.eval]) _ HF.out ?_)
    go_ret
    exact ⟨rfl, rfl⟩
end Go.Proofs.Ytepnaalgobhcdaa
