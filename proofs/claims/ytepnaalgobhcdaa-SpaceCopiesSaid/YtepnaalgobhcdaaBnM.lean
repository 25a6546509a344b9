/- The reference's Of and Word: bytes and numbers. Two spaces side by side while more is held; what an act does to the model. clevislaw07.do: the first of its ways (Map). clevislaw07.do: acts that are none. clevislaw07.do: SetWord. clevislaw07.do: Word. clevislaw07.do: Free and Prot. Bytes of one's own are turned, beside two spaces. clevislaw07.do: Read. clevislaw07.do: Fill. clevislaw07.do: Write. clevislaw07.do: any act. -/
import Derived.Test.YtepnaalgobhcdaaBnL
import Derived.Test.YtepnaalgobhcdaaBnC
import Derived.Test.YtepnaalgobhcdaaBnA
import Derived.Deep.RegionHeld3
import Derived.Laws.AppendOwnNone
namespace Go.Proofs.Ytepnaalgobhcdaa
open Go.RowKit Spm

theorem wordS_drop {bs : List UInt8} {k : Nat} (h : k < bs.length) : wordOf (bs.drop k) = (bs.getD k 0).toNat + 256 * wordOf (bs.drop (k + 1)) := by
  rw [List.drop_eq_getElem_cons h, wordOf, List.getD_eq_getElem?_getD, List.getElem?_eq_getElem h]; rfl
theorem wrapS_u64 {n : Nat} (h : n < 18446744073709551616) : IntKind.u64.wrap (n : Int) = (n : Int) := by
  rw [show IntKind.u64.wrap (n : Int) = ((n : Int) % 18446744073709551616) from rfl]; omega
set_option maxHeartbeats 4000000 in
set_option maxRecDepth 100000 in
theorem of_any (w : World) (u : Value) (bs : List UInt8) (h : BytesOf w u bs) (h8 : bs.length ≤ 8) :
    Calls Try.prog 69 #[u] w fun e w' => e = .returned (.int .u64 (wordOf bs : Nat)) ∧ w = w' := by
  obtain ⟨a, c, rfl, h1, h2, h3⟩ := h
  have HBS := Lib.hid h3
  clear h3
  have i1 : (0 : Int) ≤ (bs.length : Int) := by omega
  go_enter Try.func69, Try.ntmps69
  go_wp2_with fail
  go_loop [3, 4] (fun v t => ∃ k : Nat, k ≤ bs.length ∧ t = .int .i64 ((k : Int) - 1) ∧ v = .int .u64 (wordOf (bs.drop k) : Nat)) (fun _ t => (intOf t + 1).toNat)
  case atStart => exact ⟨bs.length, by omega, rfl, by rw [List.drop_length]; rfl⟩
  case round =>
    obtain ⟨k, hk, rfl, rfl⟩ := hrel
    rcases Nat.eq_zero_or_pos k with rfl | hpos
    · go_wp2_with fail
      go_ret
      exact ⟨rfl, rfl⟩
    · obtain ⟨j, rfl⟩ : ∃ j, k = j + 1 := ⟨k - 1, by omega⟩
      obtain ⟨sb, so, rfl, hb⟩ := HBS.out (by omega)
      have hcell := hb j (by omega)
      obtain ⟨x, hx⟩ : ∃ x, x = bs.getD j 0 := ⟨_, rfl⟩
      obtain ⟨acc, hacc⟩ : ∃ acc, acc = wordOf (bs.drop (j + 1)) := ⟨_, rfl⟩
      have hnew : wordOf (bs.drop j) = x.toNat + 256 * acc := by rw [wordS_drop (by omega), hx, hacc]
      have hlt := wordOf_lt (bs.drop j)
      rw [List.length_drop] at hlt
      have hp : 256 ^ (bs.length - j) ≤ 256 ^ 8 := Nat.pow_le_pow_right (by omega) (by omega)
      have hl2 : wordOf (bs.drop j) < 18446744073709551616 := by omega
      rw [hnew] at hl2
      rw [← hx] at hcell
      unfold byteVal at hcell
      rw [← hacc]
      have e1 : ((j + 1 : Nat) : Int) - 1 = (j : Int) := by omega
      have e2 : IntKind.i64.wrap ((j : Int) - 1) = (j : Int) - 1 := by rw [IntKind.wrap_i64]; omega
      have HNEW := Lib.hid hnew
      have i3 : ((j : Int) < (bs.length : Int)) := by omega
      rw [e1]
      have HE := Lib.hid e2
      have hxl := x.toNat_lt
      generalize x.toNat = xn at *
      clear hx hacc hnew e1 e2 hb hp hlt
      go_wp2_with fail
      go_round
      case rel =>
        refine ⟨j, by omega, ?_, ?_⟩
        · first | rfl | (rw [HE.out])
        · rw [HNEW.out]; congr 1; push_cast; omega
      case measure => simp [intOf]

/-- The first k of a number's bytes. -/
def bytesTo (v k : Nat) : List UInt8 := (List.range k).map fun i => UInt8.ofNat (v / 256 ^ i)
theorem bytesTo_succ (v k : Nat) : bytesTo v (k + 1) = bytesTo v k ++ [UInt8.ofNat (v / 256 ^ k)] := by unfold bytesTo; rw [List.range_succ, List.map_append]; rfl
def WordRow (w : World) (v k : Nat) (u : Value) (wr : World) : Prop := wr.ownsRow w.heap.size 5 1 u k (bvs (bytesTo v k)) ∧ Below w.heap.size w wr
theorem WordRow.step {w wr : World} {v k y : Nat} {a : Option Addr} {c : Nat} (h : WordRow w v k (.slice a k c) wr) {u : Value} {w5 : World} {o : Obj} (h1 : w5.ownsRow w.heap.size 5 1 u (k + 1) (bvs (bytesTo v k) ++ [byteVal (UInt8.ofNat y)]))
    (h2 : (wr.alloc o).grownBy w5 (Value.slice a k c).ownBlock) (hy : y = v / 256 ^ k) : WordRow w v (k + 1) u w5 := by
  refine ⟨?_, ?_⟩
  · rw [bytesTo_succ, ← hy]; unfold bvs at *; rw [List.map_append]; exact h1
  · exact ro_below (h.2.alloc h.2.size _) (h.1.alloc _) (Nat.le_refl _) h2
theorem byte_mod (y : Nat) : Value.int .u8 ((y : Int) % 256) = byteVal (UInt8.ofNat y) := by
  unfold byteVal
  rw [UInt8.toNat_ofNat']
  congr 1
set_option maxHeartbeats 4000000 in
set_option maxRecDepth 100000 in
theorem word70_any (w : World) (v : Nat) (hv : v < 18446744073709551616) :
    Calls Try.prog 70 #[.int .u64 (v : Int)] w fun e w' => ∃ u, e = .returned u ∧ w'.ownsRow w.heap.size 5 1 u 8 (bvs (bytesOf v)) ∧ Below w.heap.size w w' := by
  obtain ⟨i5, hi5, hz5, hs5, hy5⟩ := info_parts infoU8
  have hz6 : (Value.int IntKind.u8 0).cells.size = 1 := rfl
  go_enter Try.func70, Try.ntmps70
  go_wp2_with fail
  go_loopw [0, 3, 4] (fun tn tb ti wr => ∃ (k : Nat) (y : Nat) (a : Option Addr) (c : Nat), k ≤ 8 ∧ y = v / 256 ^ k ∧ tn = .int .u64 (y : Int) ∧ ti = .int .i64 k ∧ tb = .slice a k c ∧ Hid (WordRow w v k (.slice a k c) wr)) (fun _ _ ti _ => 8 - (intOf ti).toNat)
  case atStart => exact ⟨0, v, none, 0, by omega, by simp, rfl, rfl, rfl, World.ownsRow_nil _ _ _ _, Below.refl _ w⟩
  case round =>
    obtain ⟨k, y, a, c, hk, hy, rfl, rfl, rfl, HP⟩ := hrel
    by_cases hlt : k < 8
    · have i1 : (k : Int) < 8 := by omega
      have i2 : y < 18446744073709551616 := by rw [hy]; have := Nat.div_le_self v (256 ^ k); omega
      have HY := Lib.hid hy
      have HB := Lib.hid (byte_mod y)
      clear hy
      have HONE : Hid (∀ W : World, ∀ j u, ([Value.int .u8 ((y : Int) % 256)])[j]? = some u → (W.alloc (.cells #[.int .u8 ((y : Int) % 256)] 5)).cell? ((⟨W.heap.size, 0, none⟩ : Addr).add j) = some u) := fun W => World.news_of_block (hp_new W _ _ rfl)
      have HB2 := Lib.hid HP.out.2.size
      go_wp2_with (at_builtin; refine wpList_append_own _ rfl _ _ 57 rfl w.heap.size 5 i5 (.int .u8 0) 1 1 Try.underlying57 hi5 hz5 hs5 hy5 rfl (by decide) _ _ _ rfl (HP.out.1.alloc _) ⟨wr.heap.size, 0, none⟩ 1 1 [.int .u8 ((y : Int) % 256)] rfl rfl (HONE.out wr) (by simp [Value.oneCell']) (by unfold maxLen; omega) (by omega) (by have := HB2.out; simp; omega) ?_; intro v5 w5 hown5 hgrow5 _; obtain ⟨a5, c5, h5, _⟩ := ro_shape hown5; subst h5; have HS := Lib.hid (HP.out.step (HB.out ▸ hown5) hgrow5 HY.out); clear hown5 hgrow5)
      go_round
      case rel => exact ⟨k + 1, y / 256, a5, c5, by omega, by rw [HY.out, Nat.pow_succ, Nat.div_div_eq_div_mul], by go_num, by go_num, rfl, HS⟩
      case measure => simp [intOf]; omega
    · obtain rfl : k = 8 := by omega
      go_wp2_with fail
      go_ret
      exact ⟨_, rfl, HP.out.1, HP.out.2⟩
end Go.Proofs.Ytepnaalgobhcdaa
namespace Go.Proofs.Ytepnaalgobhcdaa
open Go.RowKit Spm

section
variable {X Y : Nat → Prop} {w0 w w1 w2 w3 : World} {s r : Nat} {M1 M2 : List Pg}
/-- What is laid anew is held besides. -/
theorem TwoX.hold2 (h : TwoX X w0 w s r M1 M2 w1) (hb : Below w1.heap.size w1 w2) (hY : ∀ k, Y k → w1.heap.size ≤ k ∧ k < w2.heap.size) : TwoX (fun k => X k ∨ Y k) w2 w s r M1 M2 w2 := by
  obtain ⟨F, G, h1, h2, h3, h4, h5, h6⟩ := h.own
  refine ⟨⟨F, G, h1.keepB hb, h2.keepB hb, h3, h4, h5, fun k hk => ?_⟩, h.below.trans (below_le hb h.below.size), fun k hk => ⟨?_, rfl⟩⟩
  · rcases hk with hk | hk
    · exact h6 k hk
    · exact ⟨fun hf => by have := h1.lt k hf; have := hY k hk; omega, fun hg => by have := h2.lt k hg; have := hY k hk; omega⟩
  · rcases hk with hk | hk
    · exact Nat.lt_of_lt_of_le (h.xlt hk) hb.size
    · exact (hY k hk).2
theorem TwoX.back (h : TwoX (fun k => X k ∨ Y k) w2 w s r M1 M2 w3) (hx : ∀ k, X k → k < w0.heap.size ∧ w2.heap[k]? = w0.heap[k]?) : TwoX X w0 w s r M1 M2 w3 := by
  obtain ⟨F, G, h1, h2, h3, h4, h5, h6⟩ := h.own
  exact ⟨⟨F, G, h1, h2, h3, h4, h5, fun k hk => h6 k (.inl hk)⟩, h.below, fun k hk => ⟨(hx k hk).1, ((h.xs k (.inl hk)).2).trans (hx k hk).2⟩⟩
/-- What was held lies as it lay. -/
theorem TwoX.kept (h : TwoX X w0 w s r M1 M2 w1) (hb : Below w1.heap.size w1 w2) : ∀ k, X k → k < w0.heap.size ∧ w2.heap[k]? = w0.heap[k]? := fun k hk => ⟨(h.xs k hk).1, (hb.block k (h.xlt hk)).trans (h.xs k hk).2⟩
theorem chg_set1 (w : World) (g i : Nat) (v : Value) : Chg (fun k => k = g) w (w.setCell ⟨g, i, none⟩ v) :=
  ⟨rfl, rfl, rfl, by simp [World.setCell], fun k _ hn => heap_setCell_other _ _ _ _ (by simpa using hn)⟩
theorem two_set (h : TwoX X w0 w s r M1 M2 w1) (a : Nat) (ha : a < 18446744073709551616) (v : Nat) (hv : v < 18446744073709551616) :
    Calls Try.prog 39 #[.pointer (some ⟨s, 0, none⟩), .int .u64 a, .int .u64 v] w1 (TwoInt X w0 w s r (writeM M1 a (bytesOf v) 2) M2 (lookErr M1 a (bytesOf v).length 2)) := by
  obtain ⟨F, G, h1, h2, h3, h4, h5, h7⟩ := h.own
  refine (setword_any w1 s M1 F h1 a ha v hv).mono ?_
  rintro e w' ⟨rfl, g1, g2⟩
  exact ⟨rfl, h.left h2 h3 h4 h5 h7 g1.wider g2⟩
end
/-- What an act does to the memory. -/
def actM (M : List Pg) (x : ActM) : List Pg :=
  if x.kind = 1 then mapM M x.at_ x.size x.prot else if x.kind = 2 then writeM M x.at_ x.b 0 else if x.kind = 3 then writeM M x.at_ x.b 2 else if x.kind = 6 then writeM M x.at_ (bytesOf x.size) 2 else M
def DoRes (X : Nat → Prop) (w0 w : World) (s r : Nat) (M : List Pg) (x : ActM) (e : Ending) (w' : World) : Prop := e = .returned (.bool true) ∧ TwoX X w0 w s r (actM M x) (actM M x) w'
/-- An argument's act: its bytes lay there before the two spaces were. -/
structure ActIn (w : World) (x : ActM) (u : Value) : Prop where
  at_ : x.at_ < 18446744073709551616
  size : x.size < 18446744073709551616
  bytes : BytesOf w u x.b
  few : x.b.length ≤ 9000
  nil : ∀ n c, u = .slice none n c → c = 0
theorem BytesOf.src {X : Nat → Prop} {w0 w w1 : World} {s r : Nat} {M1 M2 : List Pg} (h : TwoX X w0 w s r M1 M2 w1) {a : Option Addr} {n c : Nat} {bs : List UInt8} (hu : BytesOf w (.slice a n c) bs) : SrcOld X w w1 a bs := fun h0 => by
  obtain ⟨a', c', e, h1, h2, h3⟩ := hu
  cases e
  obtain ⟨sb, so, rfl, hb⟩ := h3 h0
  have hl := block_lt_of_cell (hb 0 h0)
  exact ⟨sb, so, rfl, hb.keep (h.below.block sb hl), .inl hl⟩
/-- The cells of an act's box. -/
structure BoxAt (W : World) (B : Nat) (x : ActM) (u : Value) : Prop where
  cells : W.heap[B]? = some (.cells (actArr x u) 59 (0, 0))
theorem BoxAt.get {W : World} {B : Nat} {x : ActM} {u : Value} (h : BoxAt W B x u) : W.cell? ⟨B, 0, none⟩ = some (.int .i64 x.kind) ∧ W.cell? ⟨B, 1, none⟩ = some (.int .u64 (x.at_ : Int)) ∧ W.cell? ⟨B, 2, none⟩ = some (.int .u64 (x.size : Int)) ∧ W.cell? ⟨B, 3, none⟩ = some (.int .i64 x.prot) ∧ W.cell? ⟨B, 4, none⟩ = some u := by
  have h := h.cells
  refine ⟨?_, ?_, ?_, ?_, ?_⟩ <;> simp [World.cell?, h, actArr]
theorem BoxAt.held {X : Nat → Prop} {W0 w W : World} {s r B : Nat} {M1 M2 : List Pg} {x : ActM} {u : Value} (hb : BoxAt W0 B x u) (h : TwoX X W0 w s r M1 M2 W) (hX : X B) : BoxAt W B x u := ⟨(h.xs B hX).2.trans hb.cells⟩
theorem BoxAt.keep {W W' : World} {B : Nat} {x : ActM} {u : Value} (hb : BoxAt W B x u) (h : Below W.heap.size W W') : BoxAt W' B x u := ⟨(h.block B (lt_of_block hb.cells)).trans hb.cells⟩
end Go.Proofs.Ytepnaalgobhcdaa
namespace Go.Proofs.Ytepnaalgobhcdaa
open Go.RowKit Spm

theorem cell_of_heap {w w' : World} {b : Nat} (h : w'.heap[b]? = w.heap[b]?) {o : Nat} : w'.cell? ⟨b, o, none⟩ = w.cell? ⟨b, o, none⟩ := by
  unfold World.cell?
  rw [h]
theorem src_row {X : Nat → Prop} {w W : World} {B n cap g : Nat} {bs : List UInt8} (h : W.ownsRow B 5 1 (.slice (some ⟨g, 0, none⟩) n cap) n (bvs bs)) (hX : X g) : SrcOld X w W (some ⟨g, 0, none⟩) bs := fun _ =>
  ⟨g, 0, rfl, fun j hj => by
    have e : (bvs bs)[j]? = some (byteVal (bs.getD j 0)) := by
      unfold bvs
      rw [List.getElem?_map, List.getElem?_eq_getElem hj]
      simp [List.getD_eq_getElem?_getD, List.getElem?_eq_getElem hj]
    have := h.cells (g := g) rfl j _ e
    rwa [show (⟨g, 0, none⟩ : Addr).add j = ⟨g, 0 + j, none⟩ by unfold Addr.add; split <;> simp_all] at this, .inr hX⟩
theorem box_new {X : Nat → Prop} {w0 w w1 : World} {s r : Nat} {M1 M2 : List Pg} (h : TwoX X w0 w s r M1 M2 w1) (x : ActM) (u : Value) :
    BoxAt (w1.alloc (.cells (actArr x u) 59)) w1.heap.size x u ∧ TwoX (fun k => X k ∨ k = w1.heap.size) (w1.alloc (.cells (actArr x u) 59)) w s r M1 M2 (w1.alloc (.cells (actArr x u) 59)) ∧ ∀ k, X k → k < w0.heap.size ∧ (w1.alloc (.cells (actArr x u) 59)).heap[k]? = w0.heap[k]? := by
  have hb : Below w1.heap.size w1 (w1.alloc (.cells (actArr x u) 59)) := (Below.refl _ w1).alloc (Nat.le_refl _) _
  exact ⟨⟨hp_new _ _ _ rfl⟩, h.hold2 hb (fun k hk => by subst hk; exact ⟨Nat.le_refl _, by simp⟩), h.kept hb⟩
set_option maxHeartbeats 4000000 in
set_option maxRecDepth 100000 in
theorem do1_any {X : Nat → Prop} {w0 w w1 : World} {s r : Nat} {M : List Pg} (h : TwoX X w0 w s r M M w1) (x : ActM) (u : Value) (ha : ActIn w x u) (hk : x.kind = 1) :
    Calls Try.prog 28 #[.pointer (some ⟨s, 0, none⟩), .pointer (some ⟨r, 0, none⟩), .agg (actArr x u)] w1 (DoRes X w0 w s r M x) := by
  obtain ⟨W, hW⟩ : ∃ W, W = w1.alloc (.cells (actArr x u) 59) := ⟨_, rfl⟩
  obtain ⟨B, hB⟩ : ∃ B, B = w1.heap.size := ⟨_, rfl⟩
  obtain ⟨hb, ht, hx⟩ := box_new h x u
  rw [← hW, ← hB] at hb ht
  rw [← hW] at hx
  have HX := Lib.hid hx
  have HB := Lib.hid hb
  obtain ⟨c0, c1, c2, c3, c4⟩ := hb.get
  have HT := Lib.hid ht
  have hat := ha.at_
  have HRES : Hid (∀ w', TwoX (fun k => X k ∨ k = B) W w s r (mapM M x.at_ x.size x.prot) (mapM M x.at_ x.size x.prot) w' → DoRes X w0 w s r M x (.returned (.bool true)) w') := fun w' h' => ⟨rfl, by unfold actM; rw [if_pos hk]; exact h'.back hx⟩
  rw [hk] at c0
  obtain ⟨a, ea⟩ : ∃ a, a = x.at_ := ⟨_, rfl⟩
  obtain ⟨n, en⟩ : ∃ n, n = x.size := ⟨_, rfl⟩
  obtain ⟨pr, epr⟩ : ∃ pr, pr = x.prot := ⟨_, rfl⟩
  rw [← ea] at c1 hat HRES
  rw [← en] at c2 HRES
  rw [← epr] at c3 HRES
  clear h ht hx hb ha
  unfold actArr at hW ⊢
  rw [hk, ← ea, ← en, ← epr] at hW ⊢
  clear ea en epr hk
  go_enter Try.func28, Try.ntmps28
  go_upto_region 1 with fail
  rw [← hW, ← hB]
  clear hW hB
  go_upto_region 3 with fail
  have HCELLS : Hid (∀ {M1 M2 w2}, TwoX (fun k => X k ∨ k = B) W w s r M1 M2 w2 → w2.cell? ⟨B, 1, none⟩ = some (.int .u64 (a : Int)) ∧ w2.cell? ⟨B, 2, none⟩ = some (.int .u64 (n : Int)) ∧ w2.cell? ⟨B, 3, none⟩ = some (.int .i64 pr)) := fun h2 => by
    have e := (h2.xs B (.inr rfl)).2
    refine ⟨?_, ?_, ?_⟩ <;> (first | (rw [cell_of_heap e]; assumption))
  have HTD : Hid (TwoX (fun k => X k ∨ k = B) W w s r M M W.drew) := HT.out.keep ((Below.refl _ W).drew)
  obtain ⟨er, her⟩ : ∃ er, er = mapErr M a n pr := ⟨_, rfl⟩
  go_region_held3 (fun w' => w'.cell? ⟨B, 1, none⟩ = some (.int .u64 (a : Int)) ∧ w'.cell? ⟨B, 2, none⟩ = some (.int .u64 (n : Int)) ∧ w'.cell? ⟨B, 3, none⟩ = some (.int .i64 pr)) (first | go_keep | exact HK.out)
    (first
      | (go_at_call 25; refine (two_map HTD.out a n hat pr).mono ?_; rintro e w2 ⟨rfl, g2⟩; have HT2 := Lib.hid g2; have HK := Lib.hid (HCELLS.out g2); clear g2; rw [← her])
      | (go_at_call 66; refine (two_rmap HT2.out a n hat pr).mono ?_; rintro e w3 ⟨rfl, g3⟩; have HT3 := Lib.hid g3; have HK := Lib.hid (HCELLS.out g3); clear g3; rw [← her]))
  go_wp2_with fail
  go_ret
  exact HRES.out _ HT3.out
end Go.Proofs.Ytepnaalgobhcdaa
namespace Go.Proofs.Ytepnaalgobhcdaa
open Go.RowKit Spm

set_option maxHeartbeats 4000000 in
set_option maxRecDepth 100000 in
theorem do0_any {X : Nat → Prop} {w0 w w1 : World} {s r : Nat} {M : List Pg} (h : TwoX X w0 w s r M M w1) (x : ActM) (u : Value) (ha : ActIn w x u) (hk : x.kind ≠ 1 ∧ x.kind ≠ 2 ∧ x.kind ≠ 3 ∧ x.kind ≠ 4 ∧ x.kind ≠ 5 ∧ x.kind ≠ 6 ∧ x.kind ≠ 7) :
    Calls Try.prog 28 #[.pointer (some ⟨s, 0, none⟩), .pointer (some ⟨r, 0, none⟩), .agg (actArr x u)] w1 (DoRes X w0 w s r M x) := by
  obtain ⟨W, hW⟩ : ∃ W, W = w1.alloc (.cells (actArr x u) 59) := ⟨_, rfl⟩
  obtain ⟨B, hB⟩ : ∃ B, B = w1.heap.size := ⟨_, rfl⟩
  obtain ⟨hb, ht, hx⟩ := box_new h x u
  rw [← hW, ← hB] at hb ht
  rw [← hW] at hx
  have hBX : ∀ k, X k → k ≠ B := fun k hk e => by have := h.xlt hk; omega
  have HBX := Lib.hid hBX
  have HX := Lib.hid hx
  obtain ⟨c0, c1, c2, c3, c4⟩ := hb.get
  have HBOX := Lib.hid hb
  have HT := Lib.hid ht
  have hat := ha.at_
  have hsz := ha.size
  have HU := Lib.hid ha.bytes
  have hfew := ha.few
  have HNIL := Lib.hid ha.nil
  have HRES : Hid (∀ w', TwoX (fun k => X k ∨ k = B) W w s r M M w' → DoRes X w0 w s r M x (.returned (.bool true)) w') := fun w' h' => ⟨rfl, by unfold actM; rw [if_neg hk.1, if_neg hk.2.1, if_neg hk.2.2.1, if_neg hk.2.2.2.2.2.1]; exact h'.back hx⟩
  obtain ⟨kd, ek⟩ : ∃ kd, kd = x.kind := ⟨_, rfl⟩
  obtain ⟨a, ea⟩ : ∃ a, a = x.at_ := ⟨_, rfl⟩
  obtain ⟨n, en⟩ : ∃ n, n = x.size := ⟨_, rfl⟩
  obtain ⟨pr, epr⟩ : ∃ pr, pr = x.prot := ⟨_, rfl⟩
  obtain ⟨bs, ebs⟩ : ∃ bs, bs = x.b := ⟨_, rfl⟩
  rw [← ek] at c0 hk
  rw [← ea] at c1 hat
  rw [← en] at c2 hsz
  rw [← epr] at c3
  rw [← ebs] at HU hfew
  try rw [← ea] at HRES
  try rw [← en] at HRES
  try rw [← epr] at HRES
  try rw [← ebs] at HRES
  clear h ht hx hb ha hBX
  unfold actArr at hW ⊢
  rw [← ek, ← ea, ← en, ← epr] at hW ⊢
  clear ek ea en epr ebs
  obtain ⟨k1, k2, k3, k4, k5, k6, k7⟩ := hk
  go_enter Try.func28, Try.ntmps28
  go_upto_region 1 with fail
  rw [← hW, ← hB]
  clear hW hB
  have HCELLS : Hid (∀ {X' M1 M2 W' w2}, X' B → W'.heap[B]? = W.heap[B]? → TwoX X' W' w s r M1 M2 w2 → w2.cell? ⟨B, 0, none⟩ = W.cell? ⟨B, 0, none⟩ ∧ w2.cell? ⟨B, 1, none⟩ = some (.int .u64 (a : Int)) ∧ w2.cell? ⟨B, 2, none⟩ = some (.int .u64 (n : Int)) ∧ w2.cell? ⟨B, 3, none⟩ = some (.int .i64 pr) ∧ w2.cell? ⟨B, 4, none⟩ = some u) := fun hXB hWB h2 => by
    have e := ((h2.xs B hXB).2).trans hWB
    refine ⟨cell_of_heap e, ?_, ?_, ?_, ?_⟩ <;> (rw [cell_of_heap e]; assumption)
  clear HCELLS
  have e1 : (kd == 1) = false := by simpa using k1
  have e2 : (kd == 2) = false := by simpa using k2
  have e3 : (kd == 3) = false := by simpa using k3
  have e4 : (kd == 4) = false := by simpa using k4
  have e5 : (kd == 5) = false := by simpa using k5
  have e6 : (kd == 6) = false := by simpa using k6
  have e7 : (kd == 7) = false := by simpa using k7
  go_wp2_with fail
  go_ret
  exact HRES.out _ HT.out
end Go.Proofs.Ytepnaalgobhcdaa
namespace Go.Proofs.Ytepnaalgobhcdaa
open Go.RowKit Spm

set_option maxHeartbeats 4000000 in
set_option maxRecDepth 100000 in
theorem do6_any {X : Nat → Prop} {w0 w w1 : World} {s r : Nat} {M : List Pg} (h : TwoX X w0 w s r M M w1) (x : ActM) (u : Value) (ha : ActIn w x u) (hk : x.kind = 6) :
    Calls Try.prog 28 #[.pointer (some ⟨s, 0, none⟩), .pointer (some ⟨r, 0, none⟩), .agg (actArr x u)] w1 (DoRes X w0 w s r M x) := by
  obtain ⟨W, hW⟩ : ∃ W, W = w1.alloc (.cells (actArr x u) 59) := ⟨_, rfl⟩
  obtain ⟨B, hB⟩ : ∃ B, B = w1.heap.size := ⟨_, rfl⟩
  obtain ⟨hb, ht, hx⟩ := box_new h x u
  rw [← hW, ← hB] at hb ht
  rw [← hW] at hx
  have hBX : ∀ k, X k → k ≠ B := fun k hk e => by have := h.xlt hk; omega
  have HBX := Lib.hid hBX
  have HX := Lib.hid hx
  obtain ⟨c0, c1, c2, c3, c4⟩ := hb.get
  have HBOX := Lib.hid hb
  have HT := Lib.hid ht
  have hat := ha.at_
  have hsz := ha.size
  have HU := Lib.hid ha.bytes
  have hfew := ha.few
  have HNIL := Lib.hid ha.nil
  have HRES : Hid (∀ w', TwoX (fun k => X k ∨ k = B) W w s r (writeM M x.at_ (bytesOf x.size) 2) (writeM M x.at_ (bytesOf x.size) 2) w' → DoRes X w0 w s r M x (.returned (.bool true)) w') := fun w' h' => ⟨rfl, by unfold actM; rw [hk, if_neg (by decide), if_neg (by decide), if_neg (by decide), if_pos rfl]; exact h'.back hx⟩
  obtain ⟨kd, ek⟩ : ∃ kd, kd = x.kind := ⟨_, rfl⟩
  obtain ⟨a, ea⟩ : ∃ a, a = x.at_ := ⟨_, rfl⟩
  obtain ⟨n, en⟩ : ∃ n, n = x.size := ⟨_, rfl⟩
  obtain ⟨pr, epr⟩ : ∃ pr, pr = x.prot := ⟨_, rfl⟩
  obtain ⟨bs, ebs⟩ : ∃ bs, bs = x.b := ⟨_, rfl⟩
  rw [← ek] at c0 hk
  rw [← ea] at c1 hat
  rw [← en] at c2 hsz
  rw [← epr] at c3
  rw [← ebs] at HU hfew
  try rw [← ea] at HRES
  try rw [← en] at HRES
  try rw [← epr] at HRES
  try rw [← ebs] at HRES
  clear h ht hx hb ha hBX
  unfold actArr at hW ⊢
  rw [← ek, ← ea, ← en, ← epr] at hW ⊢
  clear ek ea en epr ebs
  subst hk
  go_enter Try.func28, Try.ntmps28
  go_upto_region 1 with fail
  rw [← hW, ← hB]
  clear hW hB
  have HCELLS : Hid (∀ {X' M1 M2 W' w2}, X' B → W'.heap[B]? = W.heap[B]? → TwoX X' W' w s r M1 M2 w2 → w2.cell? ⟨B, 0, none⟩ = W.cell? ⟨B, 0, none⟩ ∧ w2.cell? ⟨B, 1, none⟩ = some (.int .u64 (a : Int)) ∧ w2.cell? ⟨B, 2, none⟩ = some (.int .u64 (n : Int)) ∧ w2.cell? ⟨B, 3, none⟩ = some (.int .i64 pr) ∧ w2.cell? ⟨B, 4, none⟩ = some u) := fun hXB hWB h2 => by
    have e := ((h2.xs B hXB).2).trans hWB
    refine ⟨cell_of_heap e, ?_, ?_, ?_, ?_⟩ <;> (rw [cell_of_heap e]; assumption)
  go_upto_region 32 with fail
  have HTD : Hid (TwoX (fun k => X k ∨ k = B) W w s r M M W.drew) := HT.out.keep ((Below.refl _ W).drew)
  obtain ⟨er, her⟩ : ∃ er, er = lookErr M a (bytesOf n).length 2 := ⟨_, rfl⟩
  go_region_held3 (fun w' => w'.cell? ⟨B, 1, none⟩ = some (.int .u64 (a : Int)) ∧ w'.cell? ⟨B, 2, none⟩ = some (.int .u64 (n : Int))) (first | go_keep | exact ⟨HK.out.2.1, HK.out.2.2.1⟩)
    (first
      | (go_at_call 39; refine (two_set HTD.out a hat n hsz).mono ?_; rintro e w2 ⟨rfl, g2⟩; have HT2 := Lib.hid g2; have HK := Lib.hid (HCELLS.out (.inr rfl) rfl g2); clear g2; rw [← her])
      | (go_at_call 70; refine (word70_any _ n hsz).mono ?_; rintro e w3 ⟨u3, rfl, g3, b3⟩; obtain ⟨q3, cap3, rfl, hc3, hm3, hq3, hq4⟩ := ro_form g3 (by omega); have HT3 := Lib.hid ((HT2.out).hold2 (Y := fun k => k = q3) b3 (fun k hk => by subst hk; exact ⟨hq3, hq4⟩)); have HK := Lib.hid (HCELLS.out (.inl (.inr rfl)) ((b3.block B (HT2.out.xlt (.inr rfl))).trans (HT2.out.xs B (.inr rfl)).2) HT3.out); have HROW := Lib.hid g3; have HBK := Lib.hid (HT2.out.kept b3); clear g3 b3)
      | (go_at_call 67; refine (two_rwrite HT3.out a hat (bytesOf n) (some ⟨q3, 0, none⟩) cap3 (src_row HROW.out (.inr rfl)) (by rw [bytesOf_length]; exact hc3) hm3 2 (by decide)).mono ?_; rintro e w4 ⟨rfl, g4⟩; have HT4 := Lib.hid (g4.back HBK.out); have HK := Lib.hid (HCELLS.out (.inr rfl) rfl HT4.out); clear g4; rw [← her]))
  go_wp2_with fail
  go_ret
  exact HRES.out _ HT4.out
end Go.Proofs.Ytepnaalgobhcdaa
namespace Go.Proofs.Ytepnaalgobhcdaa
open Go.RowKit Spm

set_option maxHeartbeats 4000000 in
set_option maxRecDepth 100000 in
theorem do5_any {X : Nat → Prop} {w0 w w1 : World} {s r : Nat} {M : List Pg} (h : TwoX X w0 w s r M M w1) (x : ActM) (u : Value) (ha : ActIn w x u) (hk : x.kind = 5) :
    Calls Try.prog 28 #[.pointer (some ⟨s, 0, none⟩), .pointer (some ⟨r, 0, none⟩), .agg (actArr x u)] w1 (DoRes X w0 w s r M x) := by
  obtain ⟨W, hW⟩ : ∃ W, W = w1.alloc (.cells (actArr x u) 59) := ⟨_, rfl⟩
  obtain ⟨B, hB⟩ : ∃ B, B = w1.heap.size := ⟨_, rfl⟩
  obtain ⟨hb, ht, hx⟩ := box_new h x u
  rw [← hW, ← hB] at hb ht
  rw [← hW] at hx
  have hBX : ∀ k, X k → k ≠ B := fun k hk e => by have := h.xlt hk; omega
  have HBX := Lib.hid hBX
  have HX := Lib.hid hx
  obtain ⟨c0, c1, c2, c3, c4⟩ := hb.get
  have HBOX := Lib.hid hb
  have HT := Lib.hid ht
  have hat := ha.at_
  have hsz := ha.size
  have HU := Lib.hid ha.bytes
  have hfew := ha.few
  have HNIL := Lib.hid ha.nil
  have HRES : Hid (∀ w', TwoX (fun k => X k ∨ k = B) W w s r M M w' → DoRes X w0 w s r M x (.returned (.bool true)) w') := fun w' h' => ⟨rfl, by unfold actM; rw [hk, if_neg (by decide), if_neg (by decide), if_neg (by decide), if_neg (by decide)]; exact h'.back hx⟩
  obtain ⟨kd, ek⟩ : ∃ kd, kd = x.kind := ⟨_, rfl⟩
  obtain ⟨a, ea⟩ : ∃ a, a = x.at_ := ⟨_, rfl⟩
  obtain ⟨n, en⟩ : ∃ n, n = x.size := ⟨_, rfl⟩
  obtain ⟨pr, epr⟩ : ∃ pr, pr = x.prot := ⟨_, rfl⟩
  obtain ⟨bs, ebs⟩ : ∃ bs, bs = x.b := ⟨_, rfl⟩
  rw [← ek] at c0 hk
  rw [← ea] at c1 hat
  rw [← en] at c2 hsz
  rw [← epr] at c3
  rw [← ebs] at HU hfew
  try rw [← ea] at HRES
  try rw [← en] at HRES
  try rw [← epr] at HRES
  try rw [← ebs] at HRES
  clear h ht hx hb ha hBX
  unfold actArr at hW ⊢
  rw [← ek, ← ea, ← en, ← epr] at hW ⊢
  clear ek ea en epr ebs
  subst hk
  go_enter Try.func28, Try.ntmps28
  go_upto_region 1 with fail
  rw [← hW, ← hB]
  clear hW hB
  have HCELLS : Hid (∀ {X' M1 M2 W' w2}, X' B → W'.heap[B]? = W.heap[B]? → TwoX X' W' w s r M1 M2 w2 → w2.cell? ⟨B, 0, none⟩ = W.cell? ⟨B, 0, none⟩ ∧ w2.cell? ⟨B, 1, none⟩ = some (.int .u64 (a : Int)) ∧ w2.cell? ⟨B, 2, none⟩ = some (.int .u64 (n : Int)) ∧ w2.cell? ⟨B, 3, none⟩ = some (.int .i64 pr) ∧ w2.cell? ⟨B, 4, none⟩ = some u) := fun hXB hWB h2 => by
    have e := ((h2.xs B hXB).2).trans hWB
    refine ⟨cell_of_heap e, ?_, ?_, ?_, ?_⟩ <;> (rw [cell_of_heap e]; assumption)
  clear HCELLS
  have HW5 : Hid (Calls Try.prog 36 #[.pointer (some ⟨s, 0, none⟩), .int .u64 a] W (WordRes W M a)) := by
    obtain ⟨F, G, h1, _⟩ := HT.out.own
    exact word_any W s M F h1 a hat
  obtain ⟨er, her⟩ : ∃ er, er = readErr M a 8 := ⟨_, rfl⟩
  obtain ⟨bl, hbl⟩ : ∃ bl, bl = if er = 0 then readAll M a 8 else [] := ⟨_, rfl⟩
  have h8 : bl.length ≤ 8 := by
    rw [hbl]; split
    · simp [readAll]
    · simp
  have hw : (if readErr M a 8 = 0 then wordOf (readAll M a 8) else 0) = wordOf bl := by
    rw [← her, hbl]; split <;> rfl
  have HW := Lib.hid hw
  have H8 := Lib.hid h8
  clear hw h8
  obtain ⟨nn, hnn⟩ : ∃ nn : Nat, nn = wordOf bl := ⟨_, rfl⟩
  have HRD : Hid (∀ {W2}, TwoX (fun k => X k ∨ k = B) W w s r M M W2 → Calls Try.prog 68 #[.pointer (some ⟨r, 0, none⟩), .int .u64 a, .int .u64 8] W2 fun e w' => ∃ v, e = .returned (.tuple #[v, .int .i64 er]) ∧ BytesOf w' v bl ∧ TwoX (fun k => X k ∨ k = B) W w s r M M w') := fun {W2} h2 => by
    obtain ⟨F, G, _, h1, _⟩ := h2.own
    refine (rread_any W2 r M G h1 a 8 hat).mono ?_
    rintro e w' ⟨v, rfl, g1, g2, g3⟩
    refine ⟨v, by rw [her], ?_, h2.keep g1⟩
    rw [hbl]
    by_cases h0 : er = 0
    · rw [if_pos h0]
      exact bytesOf_row (g3 (by rw [← her]; exact h0)) (by simp [readAll])
    · rw [if_neg h0, g2 (by rw [← her]; exact h0)]
      exact ⟨none, 0, rfl, Nat.le_refl _, by omega, fun hh => absurd hh (by simp)⟩
  have HER := Lib.hid her
  have HNN := Lib.hid hnn
  clear her hnn hbl
  go_upto_region 28 with fail
  go_wp2_with (first
    | (go_at_call 36; refine HW5.out.mono ?_; rintro e w2 ⟨rfl, b2⟩; have HT2 := Lib.hid (HT.out.keep b2); have HC2 : Hid (w2.cell? ⟨B, 1, none⟩ = some (.int .u64 (a : Int))) := (cell_of_heap (b2.block B (HT.out.xlt (.inr rfl)))).trans c1; have c1' := HC2.out; clear b2; rw [HW.out, ← HER.out, ← HNN.out])
    | (go_at_call 68; refine (HRD.out HT2.out).mono ?_; rintro e w3 ⟨v3, rfl, b3, t3⟩; have HB3 := Lib.hid b3; have HT3 := Lib.hid t3; clear b3 t3)
    | (go_at_call 69; refine (of_any _ _ _ (HB3.out) H8.out).mono ?_; rintro e w4 ⟨rfl, rfl⟩; rw [← HNN.out]))
  go_ret
  exact HRES.out _ HT3.out
end Go.Proofs.Ytepnaalgobhcdaa
namespace Go.Proofs.Ytepnaalgobhcdaa
open Go.RowKit Spm

theorem hasIxP_some {M : List Pg} {a : Nat} {p : Pg} (h : pg M (a / 4096) = some p) : ∃ i : Nat, i < M.length ∧ hasIx M a = (i : Int) ∧ M[i]? = some p ∧ protM M a = p.prot := by
  have h1 := pg_ix h
  obtain ⟨hl, _⟩ := List.getElem?_eq_some_iff.1 h1
  exact ⟨_, hl, by unfold hasIx; rw [if_pos hl], h1, by unfold protM; rw [h]; rfl⟩
theorem hasIxP_none {M : List Pg} {a : Nat} (h : pg M (a / 4096) = none) : hasIx M a = -1 ∧ protM M a = 0 := by
  refine ⟨?_, by unfold protM; rw [h]; rfl⟩
  unfold hasIx
  by_cases hl : ixOf M (a / 4096) < M.length
  · exfalso
    unfold ixOf at hl
    have h2 := List.findIdx_getElem (p := fun p : Pg => p.num == a / 4096) (xs := M) (w := hl)
    unfold pg at h
    exact (List.find?_eq_none.1 h _ (List.getElem_mem hl)) h2
  · rw [if_neg hl]
set_option maxHeartbeats 4000000 in
set_option maxRecDepth 100000 in
theorem do7_any {X : Nat → Prop} {w0 w w1 : World} {s r : Nat} {M : List Pg} (h : TwoX X w0 w s r M M w1) (x : ActM) (u : Value) (ha : ActIn w x u) (hk : x.kind = 7) :
    Calls Try.prog 28 #[.pointer (some ⟨s, 0, none⟩), .pointer (some ⟨r, 0, none⟩), .agg (actArr x u)] w1 (DoRes X w0 w s r M x) := by
  obtain ⟨W, hW⟩ : ∃ W, W = w1.alloc (.cells (actArr x u) 59) := ⟨_, rfl⟩
  obtain ⟨B, hB⟩ : ∃ B, B = w1.heap.size := ⟨_, rfl⟩
  obtain ⟨hb, ht, hx⟩ := box_new h x u
  rw [← hW, ← hB] at hb ht
  rw [← hW] at hx
  have hBX : ∀ k, X k → k ≠ B := fun k hk e => by have := h.xlt hk; omega
  have HBX := Lib.hid hBX
  have HX := Lib.hid hx
  obtain ⟨c0, c1, c2, c3, c4⟩ := hb.get
  have HBOX := Lib.hid hb
  have HT := Lib.hid ht
  have hat := ha.at_
  have hsz := ha.size
  have HU := Lib.hid ha.bytes
  have hfew := ha.few
  have HNIL := Lib.hid ha.nil
  have HRES : Hid (∀ w', TwoX (fun k => X k ∨ k = B) W w s r M M w' → DoRes X w0 w s r M x (.returned (.bool true)) w') := fun w' h' => ⟨rfl, by unfold actM; rw [hk, if_neg (by decide), if_neg (by decide), if_neg (by decide), if_neg (by decide)]; exact h'.back hx⟩
  obtain ⟨kd, ek⟩ : ∃ kd, kd = x.kind := ⟨_, rfl⟩
  obtain ⟨a, ea⟩ : ∃ a, a = x.at_ := ⟨_, rfl⟩
  obtain ⟨n, en⟩ : ∃ n, n = x.size := ⟨_, rfl⟩
  obtain ⟨pr, epr⟩ : ∃ pr, pr = x.prot := ⟨_, rfl⟩
  obtain ⟨bs, ebs⟩ : ∃ bs, bs = x.b := ⟨_, rfl⟩
  rw [← ek] at c0 hk
  rw [← ea] at c1 hat
  rw [← en] at c2 hsz
  rw [← epr] at c3
  rw [← ebs] at HU hfew
  try rw [← ea] at HRES
  try rw [← en] at HRES
  try rw [← epr] at HRES
  try rw [← ebs] at HRES
  clear h ht hx hb ha hBX
  unfold actArr at hW ⊢
  rw [← ek, ← ea, ← en, ← epr] at hW ⊢
  clear ek ea en epr ebs
  subst hk
  go_enter Try.func28, Try.ntmps28
  go_upto_region 1 with fail
  rw [← hW, ← hB]
  clear hW hB
  have HCELLS : Hid (∀ {X' M1 M2 W' w2}, X' B → W'.heap[B]? = W.heap[B]? → TwoX X' W' w s r M1 M2 w2 → w2.cell? ⟨B, 0, none⟩ = W.cell? ⟨B, 0, none⟩ ∧ w2.cell? ⟨B, 1, none⟩ = some (.int .u64 (a : Int)) ∧ w2.cell? ⟨B, 2, none⟩ = some (.int .u64 (n : Int)) ∧ w2.cell? ⟨B, 3, none⟩ = some (.int .i64 pr) ∧ w2.cell? ⟨B, 4, none⟩ = some u) := fun hXB hWB h2 => by
    have e := ((h2.xs B hXB).2).trans hWB
    refine ⟨cell_of_heap e, ?_, ?_, ?_, ?_⟩ <;> (rw [cell_of_heap e]; assumption)
  have HC2 : Hid (∀ {w2}, TwoX (fun k => X k ∨ k = B) W w s r M M w2 → w2.cell? ⟨B, 1, none⟩ = some (.int .u64 (a : Int)) ∧ w2.cell? ⟨B, 2, none⟩ = some (.int .u64 (n : Int))) := fun h2 => ⟨(HCELLS.out (.inr rfl) rfl h2).2.1, (HCELLS.out (.inr rfl) rfl h2).2.2.1⟩
  clear HCELLS
  have HHAS : Hid (Calls Try.prog 71 #[.pointer (some ⟨r, 0, none⟩), .int .u64 a] W fun e w' => e = .returned (.int .i64 (hasIx M a)) ∧ W = w') := by
    obtain ⟨F, G, _, h2, _⟩ := HT.out.own
    exact rhas_any W r M G h2 a hat
  obtain ⟨fb, hfb⟩ : ∃ fb, fb = freeB M a n := ⟨_, rfl⟩
  have HFR : Hid (∀ {W2}, TwoX (fun k => X k ∨ k = B) W w s r M M W2 → Calls Try.prog 41 #[.pointer (some ⟨s, 0, none⟩), .int .u64 a, .int .u64 n] W2 fun e w' => e = .returned (.bool fb) ∧ TwoX (fun k => X k ∨ k = B) W w s r M M w') := fun {W2} h2 => by
    obtain ⟨F, G, h1, _⟩ := h2.own
    refine (free_any W2 s M F h1 a n hat).mono ?_
    rintro e w' ⟨rfl, g1⟩
    exact ⟨by rw [hfb], h2.keep g1⟩
  have HRF : Hid (∀ {W2}, TwoX (fun k => X k ∨ k = B) W w s r M M W2 → Calls Try.prog 72 #[.pointer (some ⟨r, 0, none⟩), .int .u64 a, .int .u64 n] W2 fun e w' => e = .returned (.bool fb) ∧ W2 = w') := fun {W2} h2 => by
    obtain ⟨F, G, _, h1, _⟩ := h2.own
    rw [hfb]; exact rfree_any W2 r M G h1 a n hat
  have HPR : Hid (∀ {W2}, TwoX (fun k => X k ∨ k = B) W w s r M M W2 → Calls Try.prog 40 #[.pointer (some ⟨s, 0, none⟩), .int .u64 a] W2 fun e w' => e = .returned (.int .i64 (protM M a)) ∧ W2 = w') := fun {W2} h2 => by
    obtain ⟨F, G, h1, _⟩ := h2.own
    exact prot_any W2 s M F h1 a hat
  clear hfb
  cases hp : pg M (a / 4096) with
  | none =>
    obtain ⟨e1, e2⟩ := hasIxP_none hp
    have HIX := Lib.hid e1
    have HPE := Lib.hid e2
    clear hp e1 e2

    go_upto_region 37 with (first
      | (go_at_call 71; refine HHAS.out.mono ?_; rintro e w' ⟨rfl, rfl⟩; rw [HIX.out]))
    go_region_held3 (fun w' => w'.cell? ⟨B, 1, none⟩ = some (.int .u64 (a : Int)) ∧ w'.cell? ⟨B, 2, none⟩ = some (.int .u64 (n : Int))) (first | go_keep | exact HK.out)
      (first
        | (go_at_call 41; refine (HFR.out (HT.out.keep ((Below.refl _ W).drew))).mono ?_; rintro e w2 ⟨rfl, t2⟩; have HT2 := Lib.hid t2; have HK := Lib.hid (HC2.out t2); clear t2)
        | (go_at_call 72; refine (HRF.out HT2.out).mono ?_; rintro e w3 ⟨rfl, rfl⟩)
        | (go_at_call 40; refine (HPR.out HT2.out).mono ?_; rintro e w3 ⟨rfl, rfl⟩; rw [HPE.out]))
    go_wp2_with fail
    go_ret
    exact HRES.out _ HT2.out
  | some p =>
    obtain ⟨i, hi, e1, e3, e2⟩ := hasIxP_some hp
    have HIX := Lib.hid e1
    have HPE := Lib.hid e2
    obtain ⟨F, G, _, ⟨_, ⟨aA, cA, aB, cB, aP, cP, A, C, hbk, hpgs⟩, _, _⟩, _⟩ := HT.out.own
    have c5 : W.cell? ⟨r, 2, none⟩ = some (.slice aP M.length cP) := by simp [World.cell?, hbk, rfCells]
    obtain ⟨gp, rfl, _, hcell⟩ := hpgs.prs.get (by omega)
    have c6 := hcell i (.int .i64 p.prot) (by unfold prVals; rw [List.getElem?_map, e3]; rfl)
    have i1 : (0 : Int) ≤ (i : Int) := by omega
    have i2 : (i : Int) < (M.length : Int) := by omega
    obtain ⟨L, hL⟩ : ∃ L, L = M.length := ⟨_, rfl⟩
    obtain ⟨pp, hpp⟩ : ∃ pp, pp = p.prot := ⟨_, rfl⟩
    rw [← hL] at c5 hi i2
    rw [← hpp] at c6 HPE
    clear hp e1 e2 e3 hbk hpgs hcell hL hpp

    go_upto_region 37 with (first
      | (go_at_call 71; refine HHAS.out.mono ?_; rintro e w' ⟨rfl, rfl⟩; rw [HIX.out]))
    go_region_held3 (fun w' => w'.cell? ⟨B, 1, none⟩ = some (.int .u64 (a : Int)) ∧ w'.cell? ⟨B, 2, none⟩ = some (.int .u64 (n : Int))) (first | go_keep | exact HK.out)
      (first
        | (go_at_call 41; refine (HFR.out (HT.out.keep ((Below.refl _ W).drew))).mono ?_; rintro e w2 ⟨rfl, t2⟩; have HT2 := Lib.hid t2; have HK := Lib.hid (HC2.out t2); clear t2)
        | (go_at_call 72; refine (HRF.out HT2.out).mono ?_; rintro e w3 ⟨rfl, rfl⟩)
        | (go_at_call 40; refine (HPR.out HT2.out).mono ?_; rintro e w3 ⟨rfl, rfl⟩; rw [HPE.out]))
    go_wp2_with fail
    go_ret
    exact HRES.out _ HT2.out
end Go.Proofs.Ytepnaalgobhcdaa
namespace Go.Proofs.Ytepnaalgobhcdaa
open Go.RowKit Spm

theorem TwoX.setZ {Z : Nat → Prop} {w0 w w1 : World} {s r : Nat} {M1 M2 : List Pg} {g i : Nat} {v : Value} (h : TwoX Z w0 w s r M1 M2 w1) (hg : w.heap.size ≤ g) (hZ : Z g) : TwoX Z (w1.setCell ⟨g, i, none⟩ v) w s r M1 M2 (w1.setCell ⟨g, i, none⟩ v) := by
  obtain ⟨F, G, h1, h2, h3, h4, h5, h6⟩ := h.own
  have hc := chg_set1 w1 g i v
  exact ⟨⟨F, G, h1.keep hc fun k hk e => (h6 g hZ).1 (e ▸ hk), h2.keep hc fun k hk e => (h6 g hZ).2 (e ▸ hk), h3, h4, h5, h6⟩, h.below.trans (hc.below (fun k hk => by rw [hk]; exact hg) h.below.size), fun k hk => ⟨by have := h.xlt hk; simpa [World.setCell] using this, rfl⟩⟩
theorem TwoX.mono {Z Z' : Nat → Prop} {w0 w w1 : World} {s r : Nat} {M1 M2 : List Pg} (h : TwoX Z w0 w s r M1 M2 w1) (hZ : ∀ k, Z' k → Z k) : TwoX Z' w0 w s r M1 M2 w1 := by
  obtain ⟨F, G, h1, h2, h3, h4, h5, h6⟩ := h.own
  exact ⟨⟨F, G, h1, h2, h3, h4, h5, fun k hk => h6 k (hZ k hk)⟩, h.below, fun k hk => h.xs k (hZ k hk)⟩
theorem byte_inc (x : UInt8) : Value.int .u8 (((x.toNat : Int) + 1) % 256) = byteVal (x + 1) := by
  unfold byteVal
  congr 1
/-- A row of one's own bytes v (k of them), new since the block Bs; the two spaces hold M1, M2; what X names lies as in w0. -/
structure IncSt (X : Nat → Prop) (w0 w : World) (s r : Nat) (M1 M2 : List Pg) (Bs : Nat) (v : Value) (k : Nat) (wr : World) : Prop where
  row : ∃ ys : List UInt8, ys.length = k ∧ wr.ownsRow Bs 5 1 v k (bvs ys)
  two : TwoX (fun j => X j ∨ v.ownBlock = some j) wr w s r M1 M2 wr
  xs : ∀ j, X j → j < w0.heap.size ∧ wr.heap[j]? = w0.heap[j]? ∧ v.ownBlock ≠ some j
  old : w.heap.size ≤ Bs
theorem IncSt.start {X : Nat → Prop} {w0 w w1 w3 : World} {s r : Nat} {M1 M2 : List Pg} {v : Value} {bs : List UInt8} (h : TwoX X w0 w s r M1 M2 w1) (hb : Below w1.heap.size w1 w3) (hr : w3.ownsRow w1.heap.size 5 1 v bs.length (bvs bs)) : IncSt X w0 w s r M1 M2 w1.heap.size v bs.length w3 := by
  refine ⟨⟨bs, rfl, hr⟩, h.hold2 hb fun k hk => hr.lt k hk, fun j hj => ?_, h.below.size⟩
  have h1 := h.kept hb j hj
  exact ⟨h1.1, h1.2, fun e => by have := hr.lt j e; have := h.xlt hj; omega⟩
theorem IncSt.get {X : Nat → Prop} {w0 w wr : World} {s r Bs k i : Nat} {M1 M2 : List Pg} {v : Value} (h : IncSt X w0 w s r M1 M2 Bs v k wr) (hi : i < k) :
    ∃ (g cap : Nat) (x : UInt8), v = .slice (some ⟨g, 0, none⟩) k cap ∧ k ≤ cap ∧ cap ≤ 9223372036854775807 ∧ wr.cell? ⟨g, i, none⟩ = some (.int .u8 (x.toNat : Int)) ∧ wr.frozen? ⟨g, i, none⟩ = false ∧
      ∀ y : UInt8, IncSt X w0 w s r M1 M2 Bs v k (wr.setCell ⟨g, i, none⟩ (byteVal y)) := by
  obtain ⟨⟨ys, hy, hr⟩, h2, h3, h4⟩ := h
  obtain ⟨g, cap, rfl, hc, hm, hg1, hg2⟩ := ro_form hr (by omega)
  have hl : i < (bvs ys).length := by unfold bvs; rw [List.length_map]; omega
  refine ⟨g, cap, ys.getD i 0, rfl, hc, hm, ?_, ro_free hr i, fun y => ⟨⟨ys.set i y, by rw [List.length_set]; exact hy, ?_⟩, h2.setZ (by omega) (.inr rfl), fun j hj => ?_, h4⟩⟩
  · rw [hr.cellAt i (by omega)]
    unfold bvs
    rw [List.getElem?_map, List.getElem?_eq_getElem (by omega)]
    simp [List.getD_eq_getElem?_getD, List.getElem?_eq_getElem (show i < ys.length by omega), byteVal]
  · have := ro_set hr hl (byteVal y)
    unfold bvs at this ⊢
    rw [List.map_set]
    exact this
  · obtain ⟨q1, q2, q3⟩ := h3 j hj
    refine ⟨q1, ?_, q3⟩
    rw [heap_setCell_other _ _ _ _ (fun e => q3 (by simp [Value.ownBlock, e]))]
    exact q2
theorem IncSt.done {X : Nat → Prop} {w0 w wr : World} {s r Bs k : Nat} {M1 M2 : List Pg} {v : Value} (h : IncSt X w0 w s r M1 M2 Bs v k wr) : TwoX X w0 w s r M1 M2 wr := h.two.back fun j hj => ⟨(h.xs j hj).1, (h.xs j hj).2.1⟩
theorem TwoX.rebase {Z : Nat → Prop} {w0 w w1 : World} {s r : Nat} {M1 M2 : List Pg} (h : TwoX Z w0 w s r M1 M2 w1) : TwoX Z w1 w s r M1 M2 w1 := by
  obtain ⟨F, G, h1, h2, h3, h4, h5, h6⟩ := h.own
  exact ⟨⟨F, G, h1, h2, h3, h4, h5, h6⟩, h.below, fun k hk => ⟨h.xlt hk, rfl⟩⟩
theorem IncSt.next {X : Nat → Prop} {w0 w w2 w4 : World} {s r Bs k : Nat} {M1 M2 M1' M2' : List Pg} {v : Value} (h : IncSt X w0 w s r M1 M2 Bs v k w2) (h2 : TwoX (fun j => X j ∨ v.ownBlock = some j) w2 w s r M1' M2' w4) : IncSt X w0 w s r M1' M2' Bs v k w4 := by
  obtain ⟨⟨ys, hy, hr⟩, _, h4, h5⟩ := h
  exact ⟨⟨ys, hy, ro_same hr fun g hg => (h2.xs g (.inr hg)).2⟩, h2.rebase, fun j hj => ⟨(h4 j hj).1, ((h2.xs j (.inl hj)).2).trans (h4 j hj).2.1, (h4 j hj).2.2⟩, h5⟩
theorem src_own {Z : Nat → Prop} {w W : World} {Bs n vc : Nat} {va : Option Addr} {bs : List UInt8} (hr : W.ownsRow Bs 5 1 (.slice va n vc) n (bvs bs)) (hn : n = bs.length) (hZ : ∀ j, (Value.slice va n vc).ownBlock = some j → Z j) : SrcOld Z w W va bs := fun h0 => by
  obtain ⟨g, cap, e, _⟩ := ro_form hr (by omega)
  cases e
  exact src_row hr (hZ g rfl) h0
theorem wpList_append_u {w : World} {ops : Array Oper} {rest : List Oper} {o : Oper} {a : Act} {Q : Exit → Act → World → Prop} (hgd : o.guard = none) (s x : Operand)
    (ho : o.op = .call { callee := .builtin .append, args := #[s, x], argTypes := #[57, 57] }) (hs : a.eval s = .slice none 0 0) {u : Value} {bs : List UInt8} (hx : a.eval x = u) (hu : BytesOf w u bs) (hn : bs.length ≤ 9000) (hnil : ∀ n c, u = .slice none n c → c = 0)
    (h : ∀ va vc w', bs.length ≤ vc → vc ≤ 9223372036854775807 → w'.ownsRow w.heap.size 5 1 (.slice va bs.length vc) bs.length (bvs bs) → Below w.heap.size w w' → wpList Try.prog ops Q rest (a.put o.dst (.slice va bs.length vc)) w') : wpList Try.prog ops Q (o :: rest) a w := by
  obtain ⟨i5, hi5, hz5, hs5, hy5⟩ := info_parts infoU8
  have hr0 : w.ownsRow w.heap.size 5 1 (.slice none 0 0) 0 [] := World.ownsRow_nil _ _ _ _
  obtain ⟨ua, uc, rfl, hu1, hu2, hu3⟩ := hu
  cases ua with
  | none =>
    have h0 : bs = [] := by
      rcases Nat.eq_zero_or_pos bs.length with h | h
      · exact List.eq_nil_of_length_eq_zero h
      · obtain ⟨_, _, e, _⟩ := hu3 h; cases e
    subst h0
    have hc := hnil _ _ rfl
    subst hc
    exact wpList_append_own_none hgd s x 57 ho w.heap.size 5 i5 1 Try.underlying57 hi5 _ _ _ hs hr0 hx (h none 0 w (Nat.le_refl _) (by omega) hr0 (Below.refl _ w))
  | some ad =>
    have hnews : ∀ j v, (bvs bs)[j]? = some v → w.cell? (ad.add j) = some v := fun j v hv => by
      have hj : j < bs.length := by
        have := (List.getElem?_eq_some_iff.1 hv).1
        unfold bvs at this; rwa [List.length_map] at this
      obtain ⟨sb, so, e, hb⟩ := hu3 (by omega)
      cases e
      unfold bvs at hv
      rw [List.getElem?_map, List.getElem?_eq_getElem hj] at hv
      have := hb j hj
      rw [show (⟨sb, so, none⟩ : Addr).add j = ⟨sb, so + j, none⟩ by unfold Addr.add; split <;> simp_all, this, ← hv]
      simp [List.getD_eq_getElem?_getD, List.getElem?_eq_getElem hj]
    have hbn : (bvs bs).length = bs.length * 1 := by unfold bvs; simp
    refine wpList_append_own w hgd s x 57 ho w.heap.size 5 i5 (.int .u8 0) 1 1 Try.underlying57 hi5 hz5 hs5 hy5 rfl (by decide) _ _ _ hs hr0 ad bs.length uc (bvs bs) hx hbn hnews (bvs_one bs) (by unfold maxLen; omega) (by omega) (Nat.le_refl _) ?_
    intro v' w' h1 h2 _
    rw [Nat.zero_add, List.nil_append] at h1
    obtain ⟨va, vc, rfl, hv1, hv2⟩ := ro_shape h1
    exact h va vc w' hv1 hv2 h1 (ro_below (Below.refl _ w) hr0 (Nat.le_refl _) h2)
end Go.Proofs.Ytepnaalgobhcdaa
namespace Go.Proofs.Ytepnaalgobhcdaa
open Go.RowKit Spm

set_option maxHeartbeats 4000000 in
set_option maxRecDepth 100000 in
theorem do4_any {X : Nat → Prop} {w0 w w1 : World} {s r : Nat} {M : List Pg} (h : TwoX X w0 w s r M M w1) (x : ActM) (u : Value) (ha : ActIn w x u) (hk : x.kind = 4) :
    Calls Try.prog 28 #[.pointer (some ⟨s, 0, none⟩), .pointer (some ⟨r, 0, none⟩), .agg (actArr x u)] w1 (DoRes X w0 w s r M x) := by
  obtain ⟨W, hW⟩ : ∃ W, W = w1.alloc (.cells (actArr x u) 59) := ⟨_, rfl⟩
  obtain ⟨B, hB⟩ : ∃ B, B = w1.heap.size := ⟨_, rfl⟩
  obtain ⟨hb, ht, hx⟩ := box_new h x u
  rw [← hW, ← hB] at hb ht
  rw [← hW] at hx
  have hBX : ∀ k, X k → k ≠ B := fun k hk e => by have := h.xlt hk; omega
  have HBX := Lib.hid hBX
  have HX := Lib.hid hx
  obtain ⟨c0, c1, c2, c3, c4⟩ := hb.get
  have HBOX := Lib.hid hb
  have HT := Lib.hid ht
  have hat := ha.at_
  have hsz := ha.size
  have HU := Lib.hid ha.bytes
  have hfew := ha.few
  have HNIL := Lib.hid ha.nil
  have HRES : Hid (∀ w', TwoX (fun k => X k ∨ k = B) W w s r M M w' → DoRes X w0 w s r M x (.returned (.bool true)) w') := fun w' h' => ⟨rfl, by unfold actM; rw [hk, if_neg (by decide), if_neg (by decide), if_neg (by decide), if_neg (by decide)]; exact h'.back hx⟩
  obtain ⟨kd, ek⟩ : ∃ kd, kd = x.kind := ⟨_, rfl⟩
  obtain ⟨a, ea⟩ : ∃ a, a = x.at_ := ⟨_, rfl⟩
  obtain ⟨n, en⟩ : ∃ n, n = x.size := ⟨_, rfl⟩
  obtain ⟨pr, epr⟩ : ∃ pr, pr = x.prot := ⟨_, rfl⟩
  obtain ⟨bs, ebs⟩ : ∃ bs, bs = x.b := ⟨_, rfl⟩
  rw [← ek] at c0 hk
  rw [← ea] at c1 hat
  rw [← en] at c2 hsz
  rw [← epr] at c3
  rw [← ebs] at HU hfew
  try rw [← ea] at HRES
  try rw [← en] at HRES
  try rw [← epr] at HRES
  try rw [← ebs] at HRES
  clear h ht hx hb ha hBX
  unfold actArr at hW ⊢
  rw [← ek, ← ea, ← en, ← epr] at hW ⊢
  clear ek ea en epr ebs
  subst hk
  go_enter Try.func28, Try.ntmps28
  go_upto_region 1 with fail
  rw [← hW, ← hB]
  clear hW hB
  have HCELLS : Hid (∀ {X' M1 M2 W' w2}, X' B → W'.heap[B]? = W.heap[B]? → TwoX X' W' w s r M1 M2 w2 → w2.cell? ⟨B, 0, none⟩ = W.cell? ⟨B, 0, none⟩ ∧ w2.cell? ⟨B, 1, none⟩ = some (.int .u64 (a : Int)) ∧ w2.cell? ⟨B, 2, none⟩ = some (.int .u64 (n : Int)) ∧ w2.cell? ⟨B, 3, none⟩ = some (.int .i64 pr) ∧ w2.cell? ⟨B, 4, none⟩ = some u) := fun hXB hWB h2 => by
    have e := ((h2.xs B hXB).2).trans hWB
    refine ⟨cell_of_heap e, ?_, ?_, ?_, ?_⟩ <;> (rw [cell_of_heap e]; assumption)
  clear HCELLS
  obtain ⟨er, her⟩ : ∃ er, er = readErr M a n := ⟨_, rfl⟩
  obtain ⟨bl, hbl⟩ : ∃ bl, bl = if er = 0 then readAll M a n else [] := ⟨_, rfl⟩
  have HRR : Hid (∀ {W2 v w'}, (readErr M a n ≠ 0 → v = .slice none 0 0) → (readErr M a n = 0 → World.ownsRow w' (World.heap W2).size 5 1 v n (bvs (readAll M a n))) → World.ownsRow w' (World.heap W2).size 5 1 v bl.length (bvs bl)) := fun {W2 v w'} g2 g3 => by
    rw [hbl]
    by_cases h0 : er = 0
    · rw [if_pos h0, show (readAll M a n).length = n by simp [readAll]]
      exact g3 (by rw [← her]; exact h0)
    · rw [if_neg h0, g2 (by rw [← her]; exact h0)]
      exact World.ownsRow_nil _ _ _ _
  have HRD1 : Hid (Calls Try.prog 35 #[.pointer (some ⟨s, 0, none⟩), .int .u64 a, .int .u64 n] W fun e w' => ∃ v, e = .returned (.tuple #[v, .int .i64 er]) ∧ Below W.heap.size W w' ∧ w'.ownsRow W.heap.size 5 1 v bl.length (bvs bl)) := by
    obtain ⟨F, G, h1, _, _⟩ := HT.out.own
    refine (read_any W s M F h1 a n hat).mono ?_
    rintro e w' ⟨v, rfl, g1, g2, g3⟩
    exact ⟨v, by rw [her], g1, HRR.out g2 g3⟩
  have HRD : Hid (∀ {W2}, TwoX (fun k => X k ∨ k = B) W w s r M M W2 → Calls Try.prog 68 #[.pointer (some ⟨r, 0, none⟩), .int .u64 a, .int .u64 n] W2 fun e w' => ∃ v, e = .returned (.tuple #[v, .int .i64 er]) ∧ Below W2.heap.size W2 w' ∧ w'.ownsRow W2.heap.size 5 1 v bl.length (bvs bl)) := fun {W2} h2 => by
    obtain ⟨F, G, _, h1, _⟩ := h2.own
    refine (rread_any W2 r M G h1 a n hat).mono ?_
    rintro e w' ⟨v, rfl, g1, g2, g3⟩
    exact ⟨v, by rw [her], g1, HRR.out g2 g3⟩
  clear her hbl
  go_upto_region 21 with (first
    | (go_at_call 35; refine HRD1.out.mono ?_; rintro e w2 ⟨v2, rfl, b2, r2⟩; have HT2 := Lib.hid (HT.out.keep b2); have HB2 := Lib.hid b2; have HR2 := Lib.hid r2; have HC2 : Hid (w2.cell? ⟨B, 1, none⟩ = some (.int .u64 (a : Int)) ∧ w2.cell? ⟨B, 2, none⟩ = some (.int .u64 (n : Int))) := ⟨(cell_of_heap (b2.block B (HT.out.xlt (.inr rfl)))).trans c1, (cell_of_heap (b2.block B (HT.out.xlt (.inr rfl)))).trans c2⟩; have c1' := HC2.out.1; have c2' := HC2.out.2; clear b2 r2)
    | (go_at_call 68; refine (HRD.out HT2.out).mono ?_; rintro e w3 ⟨v3, rfl, b3, r3⟩; have HB3 := Lib.hid b3; have HR3 := Lib.hid r3; clear b3 r3))
  obtain ⟨va, vc, hv, hv1, hv2⟩ := ro_shape HR2.out
  subst hv
  obtain ⟨ua, uc, hu, hu1, hu2⟩ := ro_shape HR3.out
  subst hu
  have hr2 := ro_keep HR2.out HB3.out
  have q1 := conv_bytes (bytesOf_row hr2 rfl)
  have q2 := conv_bytes (bytesOf_row HR3.out rfl)
  have HI := Lib.hid (IncSt.start HT.out (HB2.out.trans (below_le HB3.out HB2.out.size)) hr2)
  obtain ⟨k, hkk⟩ : ∃ k, k = bl.length := ⟨_, rfl⟩
  rw [← hkk] at q1 q2 HI hv1
  rw [← hkk]
  clear hr2 hkk
  go_wp2_with fail

  go_loopw [17] (fun t wr => ∃ i : Nat, i ≤ k ∧ t = .int .i64 i ∧ Hid (IncSt (fun j => X j ∨ j = B) W w s r M M W.heap.size (.slice va k vc) k wr)) (fun t _ => k - (intOf t).toNat)
  case atStart => exact ⟨0, Nat.zero_le _, rfl, HI.out⟩
  case round =>
    obtain ⟨i, hi, rfl, HP⟩ := hrel
    by_cases hlt : i < k
    · obtain ⟨g, cap, y, e, _, _, hcell, hfr, hst⟩ := HP.out.get hlt
      cases e
      have HST := Lib.hid hst
      have HY := Lib.hid (byte_inc y)
      obtain ⟨yn, hyn⟩ : ∃ yn, yn = y.toNat := ⟨_, rfl⟩
      rw [← hyn] at hcell
      have hy8 : yn < 256 := by rw [hyn]; exact y.toNat_lt
      rw [← hyn] at HY
      have i1 : (0 : Int) ≤ (i : Int) := by omega
      have i2 : (i : Int) < (k : Int) := by omega
      clear hst hyn
      go_wp2_with fail
      go_round
      case rel => exact ⟨i + 1, by omega, by go_num, by rw [HY.out]; exact HST.out _⟩
      case measure => simp [intOf]; omega
    · obtain rfl : i = k := by omega
      go_wp2_with fail
      go_ret
      exact HRES.out _ HP.out.done
end Go.Proofs.Ytepnaalgobhcdaa
namespace Go.Proofs.Ytepnaalgobhcdaa
open Go.RowKit Spm

set_option maxHeartbeats 4000000 in
set_option maxRecDepth 100000 in
theorem do2_any {X : Nat → Prop} {w0 w w1 : World} {s r : Nat} {M : List Pg} (h : TwoX X w0 w s r M M w1) (x : ActM) (u : Value) (ha : ActIn w x u) (hk : x.kind = 2) :
    Calls Try.prog 28 #[.pointer (some ⟨s, 0, none⟩), .pointer (some ⟨r, 0, none⟩), .agg (actArr x u)] w1 (DoRes X w0 w s r M x) := by
  obtain ⟨W, hW⟩ : ∃ W, W = w1.alloc (.cells (actArr x u) 59) := ⟨_, rfl⟩
  obtain ⟨B, hB⟩ : ∃ B, B = w1.heap.size := ⟨_, rfl⟩
  obtain ⟨hb, ht, hx⟩ := box_new h x u
  rw [← hW, ← hB] at hb ht
  rw [← hW] at hx
  have hBX : ∀ k, X k → k ≠ B := fun k hk e => by have := h.xlt hk; omega
  have HBX := Lib.hid hBX
  have HX := Lib.hid hx
  obtain ⟨c0, c1, c2, c3, c4⟩ := hb.get
  have HBOX := Lib.hid hb
  have HT := Lib.hid ht
  have hat := ha.at_
  have hsz := ha.size
  have HU := Lib.hid ha.bytes
  have hfew := ha.few
  have HNIL := Lib.hid ha.nil
  have HRES : Hid (∀ w', TwoX (fun k => X k ∨ k = B) W w s r (writeM M x.at_ x.b 0) (writeM M x.at_ x.b 0) w' → DoRes X w0 w s r M x (.returned (.bool true)) w') := fun w' h' => ⟨rfl, by unfold actM; rw [hk, if_neg (by decide), if_pos rfl]; exact h'.back hx⟩
  obtain ⟨kd, ek⟩ : ∃ kd, kd = x.kind := ⟨_, rfl⟩
  obtain ⟨a, ea⟩ : ∃ a, a = x.at_ := ⟨_, rfl⟩
  obtain ⟨n, en⟩ : ∃ n, n = x.size := ⟨_, rfl⟩
  obtain ⟨pr, epr⟩ : ∃ pr, pr = x.prot := ⟨_, rfl⟩
  obtain ⟨bs, ebs⟩ : ∃ bs, bs = x.b := ⟨_, rfl⟩
  rw [← ek] at c0 hk
  rw [← ea] at c1 hat
  rw [← en] at c2 hsz
  rw [← epr] at c3
  rw [← ebs] at HU hfew
  try rw [← ea] at HRES
  try rw [← en] at HRES
  try rw [← epr] at HRES
  try rw [← ebs] at HRES
  clear h ht hx hb ha hBX
  unfold actArr at hW ⊢
  rw [← ek, ← ea, ← en, ← epr] at hW ⊢
  clear ek ea en epr ebs
  subst hk
  go_enter Try.func28, Try.ntmps28
  go_upto_region 1 with fail
  rw [← hW, ← hB]
  clear hW hB
  have HCELLS : Hid (∀ {X' M1 M2 W' w2}, X' B → W'.heap[B]? = W.heap[B]? → TwoX X' W' w s r M1 M2 w2 → w2.cell? ⟨B, 0, none⟩ = W.cell? ⟨B, 0, none⟩ ∧ w2.cell? ⟨B, 1, none⟩ = some (.int .u64 (a : Int)) ∧ w2.cell? ⟨B, 2, none⟩ = some (.int .u64 (n : Int)) ∧ w2.cell? ⟨B, 3, none⟩ = some (.int .i64 pr) ∧ w2.cell? ⟨B, 4, none⟩ = some u) := fun hXB hWB h2 => by
    have e := ((h2.xs B hXB).2).trans hWB
    refine ⟨cell_of_heap e, ?_, ?_, ?_, ?_⟩ <;> (rw [cell_of_heap e]; assumption)
  obtain ⟨ua, uc, hue, hu1, hu2, hu3⟩ := HU.out
  subst hue
  have HUB := Lib.hid (HU.out.keep HT.out.below)
  clear hu3
  go_upto_region 7 with (at_builtin; refine wpList_append_u rfl _ _ rfl rfl rfl HUB.out hfew HNIL.out ?_; intro va vc w2 hv1 hv2 hr2 hb2)

  have hi2 := IncSt.start HT.out hb2 hr2
  have q0 := cell_of_heap (o := 0) (hb2.block B (HT.out.xlt (.inr rfl)))
  have q1 := (cell_of_heap (o := 1) (hb2.block B (HT.out.xlt (.inr rfl)))).trans c1
  have q4 := (cell_of_heap (o := 4) (hb2.block B (HT.out.xlt (.inr rfl)))).trans c4
  rw [c0] at q0
  have hWB : w2.heap[B]? = W.heap[B]? := hb2.block B (HT.out.xlt (.inr rfl))
  obtain ⟨er, her⟩ : ∃ er, er = lookErr M a bs.length 0 := ⟨_, rfl⟩
  have HF : Hid (Calls Try.prog 37 #[.pointer (some ⟨s, 0, none⟩), .int .u64 a, .slice va bs.length vc] w2 (TwoInt (fun j => (X j ∨ j = B) ∨ (Value.slice va bs.length vc).ownBlock = some j) w2 w s r (writeM M a bs 0) M er)) := by
    rw [her]; exact two_fill hi2.two a hat bs va vc (src_own hr2 rfl fun j hj => .inr hj) hv1 hv2
  have HG : Hid (∀ {w3}, TwoX (fun j => (X j ∨ j = B) ∨ (Value.slice va bs.length vc).ownBlock = some j) w2 w s r (writeM M a bs 0) M w3 → Calls Try.prog 67 #[.pointer (some ⟨r, 0, none⟩), .int .u64 a, .slice (ua) bs.length uc, .int .i64 0] w3 (TwoInt (fun j => (X j ∨ j = B) ∨ (Value.slice va bs.length vc).ownBlock = some j) w2 w s r (writeM M a bs 0) (writeM M a bs 0) er)) := fun {w3} h3 => by
    rw [her]; exact two_rwrite h3 a hat bs (ua) uc (BytesOf.src h3 HU.out) hu1 hu2 0 (by decide)
  have HC : Hid (∀ {M1 M2 w3}, TwoX (fun j => (X j ∨ j = B) ∨ (Value.slice va bs.length vc).ownBlock = some j) w2 w s r M1 M2 w3 → w3.cell? ⟨B, 1, none⟩ = some (.int .u64 (a : Int)) ∧ w3.cell? ⟨B, 4, none⟩ = some (.slice (ua) bs.length uc)) := fun h3 => ⟨(HCELLS.out (.inl (.inr rfl)) hWB h3).2.1, (HCELLS.out (.inl (.inr rfl)) hWB h3).2.2.2.2⟩
  have HV : Hid (∀ {M1 M2 w3}, TwoX (fun j => (X j ∨ j = B) ∨ (Value.slice va bs.length vc).ownBlock = some j) w2 w s r M1 M2 w3 → (convert 57 9 (.slice va bs.length vc)).run Try.prog w3 = .ok (.string ⟨bs.toArray⟩) w3 ∧ (convert 57 9 (.slice (ua) bs.length uc)).run Try.prog w3 = .ok (.string ⟨bs.toArray⟩) w3) := fun h3 => ⟨conv_bytes (bytesOf_row (ro_same hr2 fun g hg => (h3.xs g (.inr hg)).2) rfl), conv_bytes (HU.out.keep h3.below)⟩
  have HI2 := Lib.hid hi2
  obtain ⟨k, hkk⟩ : ∃ k, k = bs.length := ⟨_, rfl⟩
  rw [← hkk] at HF HG HC HV HI2 hv1 q4 hu1
  rw [← hkk]
  clear hi2 hr2 hb2 hkk her hWB
  clear HCELLS
  go_wp2_with (first
    | (go_at_call 37; refine HF.out.mono ?_; rintro e w3 ⟨rfl, g3⟩; have HT3 := Lib.hid g3; have q1' := (HC.out g3).1; have q4' := (HC.out g3).2; clear g3)
    | (go_at_call 67; refine (HG.out HT3.out).mono ?_; rintro e w4 ⟨rfl, g4⟩; have q4'' := (HC.out g4).2; have v1 := (HV.out g4).1; have v2 := (HV.out g4).2; have HI := Lib.hid (HI2.out.next g4); clear g4))

  go_loopw [11] (fun t wr => ∃ i : Nat, i ≤ k ∧ t = .int .i64 i ∧ Hid (IncSt (fun j => X j ∨ j = B) W w s r (writeM M a bs 0) (writeM M a bs 0) W.heap.size (.slice va k vc) k wr)) (fun t _ => k - (intOf t).toNat)
  case atStart => exact ⟨0, Nat.zero_le _, rfl, HI.out⟩
  case round =>
    obtain ⟨i, hi, rfl, HP⟩ := hrel
    by_cases hlt : i < k
    · obtain ⟨g, cap, y, e, _, _, hcell, hfr, hst⟩ := HP.out.get hlt
      cases e
      have HST := Lib.hid hst
      have HY := Lib.hid (byte_inc y)
      obtain ⟨yn, hyn⟩ : ∃ yn, yn = y.toNat := ⟨_, rfl⟩
      rw [← hyn] at hcell
      have hy8 : yn < 256 := by rw [hyn]; exact y.toNat_lt
      rw [← hyn] at HY
      have i1 : (0 : Int) ≤ (i : Int) := by omega
      have i2 : (i : Int) < (k : Int) := by omega
      clear hst hyn
      go_wp2_with fail
      go_round
      case rel => exact ⟨i + 1, by omega, by go_num, by rw [HY.out]; exact HST.out _⟩
      case measure => simp [intOf]; omega
    · obtain rfl : i = k := by omega
      go_wp2_with fail
      go_ret
      exact HRES.out _ HP.out.done
end Go.Proofs.Ytepnaalgobhcdaa
namespace Go.Proofs.Ytepnaalgobhcdaa
open Go.RowKit Spm

set_option maxHeartbeats 4000000 in
set_option maxRecDepth 100000 in
theorem do3_any {X : Nat → Prop} {w0 w w1 : World} {s r : Nat} {M : List Pg} (h : TwoX X w0 w s r M M w1) (x : ActM) (u : Value) (ha : ActIn w x u) (hk : x.kind = 3) :
    Calls Try.prog 28 #[.pointer (some ⟨s, 0, none⟩), .pointer (some ⟨r, 0, none⟩), .agg (actArr x u)] w1 (DoRes X w0 w s r M x) := by
  obtain ⟨W, hW⟩ : ∃ W, W = w1.alloc (.cells (actArr x u) 59) := ⟨_, rfl⟩
  obtain ⟨B, hB⟩ : ∃ B, B = w1.heap.size := ⟨_, rfl⟩
  obtain ⟨hb, ht, hx⟩ := box_new h x u
  rw [← hW, ← hB] at hb ht
  rw [← hW] at hx
  have hBX : ∀ k, X k → k ≠ B := fun k hk e => by have := h.xlt hk; omega
  have HBX := Lib.hid hBX
  have HX := Lib.hid hx
  obtain ⟨c0, c1, c2, c3, c4⟩ := hb.get
  have HBOX := Lib.hid hb
  have HT := Lib.hid ht
  have hat := ha.at_
  have hsz := ha.size
  have HU := Lib.hid ha.bytes
  have hfew := ha.few
  have HNIL := Lib.hid ha.nil
  have HRES : Hid (∀ w', TwoX (fun k => X k ∨ k = B) W w s r (writeM M x.at_ x.b 2) (writeM M x.at_ x.b 2) w' → DoRes X w0 w s r M x (.returned (.bool true)) w') := fun w' h' => ⟨rfl, by unfold actM; rw [hk, if_neg (by decide), if_neg (by decide), if_pos rfl]; exact h'.back hx⟩
  obtain ⟨kd, ek⟩ : ∃ kd, kd = x.kind := ⟨_, rfl⟩
  obtain ⟨a, ea⟩ : ∃ a, a = x.at_ := ⟨_, rfl⟩
  obtain ⟨n, en⟩ : ∃ n, n = x.size := ⟨_, rfl⟩
  obtain ⟨pr, epr⟩ : ∃ pr, pr = x.prot := ⟨_, rfl⟩
  obtain ⟨bs, ebs⟩ : ∃ bs, bs = x.b := ⟨_, rfl⟩
  rw [← ek] at c0 hk
  rw [← ea] at c1 hat
  rw [← en] at c2 hsz
  rw [← epr] at c3
  rw [← ebs] at HU hfew
  try rw [← ea] at HRES
  try rw [← en] at HRES
  try rw [← epr] at HRES
  try rw [← ebs] at HRES
  clear h ht hx hb ha hBX
  unfold actArr at hW ⊢
  rw [← ek, ← ea, ← en, ← epr] at hW ⊢
  clear ek ea en epr ebs
  subst hk
  go_enter Try.func28, Try.ntmps28
  go_upto_region 1 with fail
  rw [← hW, ← hB]
  clear hW hB
  have HCELLS : Hid (∀ {X' M1 M2 W' w2}, X' B → W'.heap[B]? = W.heap[B]? → TwoX X' W' w s r M1 M2 w2 → w2.cell? ⟨B, 0, none⟩ = W.cell? ⟨B, 0, none⟩ ∧ w2.cell? ⟨B, 1, none⟩ = some (.int .u64 (a : Int)) ∧ w2.cell? ⟨B, 2, none⟩ = some (.int .u64 (n : Int)) ∧ w2.cell? ⟨B, 3, none⟩ = some (.int .i64 pr) ∧ w2.cell? ⟨B, 4, none⟩ = some u) := fun hXB hWB h2 => by
    have e := ((h2.xs B hXB).2).trans hWB
    refine ⟨cell_of_heap e, ?_, ?_, ?_, ?_⟩ <;> (rw [cell_of_heap e]; assumption)
  obtain ⟨ua, uc, hue, hu1, hu2, hu3⟩ := HU.out
  subst hue
  have HUB := Lib.hid (HU.out.keep HT.out.below)
  clear hu3
  go_upto_region 7 with (at_builtin; refine wpList_append_u rfl _ _ rfl rfl rfl HUB.out hfew HNIL.out ?_; intro va vc w2 hv1 hv2 hr2 hb2)

  have hi2 := IncSt.start HT.out hb2 hr2
  have q0 := cell_of_heap (o := 0) (hb2.block B (HT.out.xlt (.inr rfl)))
  have q1 := (cell_of_heap (o := 1) (hb2.block B (HT.out.xlt (.inr rfl)))).trans c1
  have q4 := (cell_of_heap (o := 4) (hb2.block B (HT.out.xlt (.inr rfl)))).trans c4
  rw [c0] at q0
  have hWB : w2.heap[B]? = W.heap[B]? := hb2.block B (HT.out.xlt (.inr rfl))
  obtain ⟨er, her⟩ : ∃ er, er = lookErr M a bs.length 2 := ⟨_, rfl⟩
  have HF : Hid (Calls Try.prog 38 #[.pointer (some ⟨s, 0, none⟩), .int .u64 a, .slice va bs.length vc] w2 (TwoInt (fun j => (X j ∨ j = B) ∨ (Value.slice va bs.length vc).ownBlock = some j) w2 w s r (writeM M a bs 2) M er)) := by
    rw [her]; exact two_write hi2.two a hat bs va vc (src_own hr2 rfl fun j hj => .inr hj) hv1 hv2
  have HG : Hid (∀ {w3}, TwoX (fun j => (X j ∨ j = B) ∨ (Value.slice va bs.length vc).ownBlock = some j) w2 w s r (writeM M a bs 2) M w3 → Calls Try.prog 67 #[.pointer (some ⟨r, 0, none⟩), .int .u64 a, .slice (ua) bs.length uc, .int .i64 2] w3 (TwoInt (fun j => (X j ∨ j = B) ∨ (Value.slice va bs.length vc).ownBlock = some j) w2 w s r (writeM M a bs 2) (writeM M a bs 2) er)) := fun {w3} h3 => by
    rw [her]; exact two_rwrite h3 a hat bs (ua) uc (BytesOf.src h3 HU.out) hu1 hu2 2 (by decide)
  have HC : Hid (∀ {M1 M2 w3}, TwoX (fun j => (X j ∨ j = B) ∨ (Value.slice va bs.length vc).ownBlock = some j) w2 w s r M1 M2 w3 → w3.cell? ⟨B, 1, none⟩ = some (.int .u64 (a : Int)) ∧ w3.cell? ⟨B, 4, none⟩ = some (.slice (ua) bs.length uc)) := fun h3 => ⟨(HCELLS.out (.inl (.inr rfl)) hWB h3).2.1, (HCELLS.out (.inl (.inr rfl)) hWB h3).2.2.2.2⟩
  have HV : Hid (∀ {M1 M2 w3}, TwoX (fun j => (X j ∨ j = B) ∨ (Value.slice va bs.length vc).ownBlock = some j) w2 w s r M1 M2 w3 → (convert 57 9 (.slice va bs.length vc)).run Try.prog w3 = .ok (.string ⟨bs.toArray⟩) w3 ∧ (convert 57 9 (.slice (ua) bs.length uc)).run Try.prog w3 = .ok (.string ⟨bs.toArray⟩) w3) := fun h3 => ⟨conv_bytes (bytesOf_row (ro_same hr2 fun g hg => (h3.xs g (.inr hg)).2) rfl), conv_bytes (HU.out.keep h3.below)⟩
  have HI2 := Lib.hid hi2
  obtain ⟨k, hkk⟩ : ∃ k, k = bs.length := ⟨_, rfl⟩
  rw [← hkk] at HF HG HC HV HI2 hv1 q4 hu1
  rw [← hkk]
  clear hi2 hr2 hb2 hkk her hWB
  clear HCELLS
  go_wp2_with (first
    | (go_at_call 38; refine HF.out.mono ?_; rintro e w3 ⟨rfl, g3⟩; have HT3 := Lib.hid g3; have q1' := (HC.out g3).1; have q4' := (HC.out g3).2; clear g3)
    | (go_at_call 67; refine (HG.out HT3.out).mono ?_; rintro e w4 ⟨rfl, g4⟩; have q4'' := (HC.out g4).2; have v1 := (HV.out g4).1; have v2 := (HV.out g4).2; have HI := Lib.hid (HI2.out.next g4); clear g4))

  go_loopw [11] (fun t wr => ∃ i : Nat, i ≤ k ∧ t = .int .i64 i ∧ Hid (IncSt (fun j => X j ∨ j = B) W w s r (writeM M a bs 2) (writeM M a bs 2) W.heap.size (.slice va k vc) k wr)) (fun t _ => k - (intOf t).toNat)
  case atStart => exact ⟨0, Nat.zero_le _, rfl, HI.out⟩
  case round =>
    obtain ⟨i, hi, rfl, HP⟩ := hrel
    by_cases hlt : i < k
    · obtain ⟨g, cap, y, e, _, _, hcell, hfr, hst⟩ := HP.out.get hlt
      cases e
      have HST := Lib.hid hst
      have HY := Lib.hid (byte_inc y)
      obtain ⟨yn, hyn⟩ : ∃ yn, yn = y.toNat := ⟨_, rfl⟩
      rw [← hyn] at hcell
      have hy8 : yn < 256 := by rw [hyn]; exact y.toNat_lt
      rw [← hyn] at HY
      have i1 : (0 : Int) ≤ (i : Int) := by omega
      have i2 : (i : Int) < (k : Int) := by omega
      clear hst hyn
      go_wp2_with fail
      go_round
      case rel => exact ⟨i + 1, by omega, by go_num, by rw [HY.out]; exact HST.out _⟩
      case measure => simp [intOf]; omega
    · obtain rfl : i = k := by omega
      go_wp2_with fail
      go_ret
      exact HRES.out _ HP.out.done
end Go.Proofs.Ytepnaalgobhcdaa
namespace Go.Proofs.Ytepnaalgobhcdaa
open Go.RowKit Spm

theorem do_any {X : Nat → Prop} {w0 w w1 : World} {s r : Nat} {M : List Pg} (h : TwoX X w0 w s r M M w1) (x : ActM) (u : Value) (ha : ActIn w x u) :
    Calls Try.prog 28 #[.pointer (some ⟨s, 0, none⟩), .pointer (some ⟨r, 0, none⟩), .agg (actArr x u)] w1 (DoRes X w0 w s r M x) := by
  by_cases h1 : x.kind = 1
  · exact do1_any h x u ha h1
  by_cases h2 : x.kind = 2
  · exact do2_any h x u ha h2
  by_cases h3 : x.kind = 3
  · exact do3_any h x u ha h3
  by_cases h4 : x.kind = 4
  · exact do4_any h x u ha h4
  by_cases h5 : x.kind = 5
  · exact do5_any h x u ha h5
  by_cases h6 : x.kind = 6
  · exact do6_any h x u ha h6
  by_cases h7 : x.kind = 7
  · exact do7_any h x u ha h7
  exact do0_any h x u ha ⟨h1, h2, h3, h4, h5, h6, h7⟩
end Go.Proofs.Ytepnaalgobhcdaa
