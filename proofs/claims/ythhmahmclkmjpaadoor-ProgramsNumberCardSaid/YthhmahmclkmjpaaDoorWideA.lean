/- Proved: turning two words over (2^128 less a number), and small steps; for words within 64 bits. -/
import Derived.Test.YthhmahmclkmjpaaDoorGen
import Derived.Test.YthhmahmclkmjpaaDoorProg
import Derived.Laws.Bits64
import Derived.Laws.Bits64b
import Derived.Shelf.Spec.BitsCarry
namespace Go.Proofs.YthhmahmclkmjpaaDoor
open Go.RowKit
theorem add64 (x y c : Int) (hx : 0 ≤ x) (hy : 0 ≤ y) (hc0 : 0 ≤ c) (hc : c ≤ 1) (w : World) : (callFunc 66 #[.int .u64 x, .int .u64 y, .int .u64 c]).run Tryd.prog w =
    .ok (.value (.tuple #[.int .u64 ((x + y + c) % 18446744073709551616), .int .u64 ((x + y + c) / 18446744073709551616)])) w := by
  rw [run_callFunc_extern Tryd.func66 (by kernel_rfl) (by kernel_rfl) (by kernel_rfl) (e := add64Entry) (by kernel_rfl), run_add64 x y c hx hy hc0 hc]
  rfl
theorem add64n (X Y C : Int) (x y c : Nat) (eX : X = x) (eY : Y = y) (eC : C = c) (hc : c ≤ 1) : ∃ s q : Nat, s < 18446744073709551616 ∧ s + q * 18446744073709551616 = x + y + c ∧
    ∀ w : World, (callFunc 66 #[.int .u64 X, .int .u64 Y, .int .u64 C]).run Tryd.prog w = .ok (.value (.tuple #[.int .u64 (s : Int), .int .u64 (q : Int)])) w := by
  subst eX eY eC
  refine ⟨(x + y + c) % 18446744073709551616, (x + y + c) / 18446744073709551616, Nat.mod_lt _ (by decide), by omega, fun w => ?_⟩
  rw [add64 x y c (by omega) (by omega) (by omega) (by omega) w]
  congr 5 <;> omega
def bor (x y : Int) : Int := if x < y then 1 else 0
theorem sub64_0 (x y : Int) (hx : 0 ≤ x) (hy : 0 ≤ y) (hy' : y < 18446744073709551616) (w : World) : (callFunc 90 #[.int .u64 x, .int .u64 y, .int .u64 0]).run Tryd.prog w =
    .ok (.value (.tuple #[.int .u64 ((x - y) % 18446744073709551616), .int .u64 (bor x y)])) w := by
  obtain ⟨x, rfl⟩ := Int.eq_ofNat_of_zero_le hx
  obtain ⟨y, rfl⟩ := Int.eq_ofNat_of_zero_le hy
  rw [run_callFunc_extern Tryd.func90 (by kernel_rfl) (by kernel_rfl) (by kernel_rfl) (e := sub64Entry) (by kernel_rfl)]
  have e1 : (((x + 18446744073709551616 - y - 0) % 18446744073709551616 : Nat) : Int) = ((x : Int) - y) % 18446744073709551616 := by omega
  have e2 : ((if x < y + 0 then 1 else 0 : Nat) : Int) = bor (x : Int) y := by unfold bor; split <;> split <;> omega
  rw [← e1, ← e2]
  have := run_sub64 (P := Tryd.prog) x y 0 (by omega) w
  rw [show ((0 : Nat) : Int) = 0 from rfl] at this
  rw [this]; rfl
theorem xor_max (a : Nat) (h : a < 18446744073709551616) : 18446744073709551615 ^^^ a = 18446744073709551615 - a := by
  have h1 : (BitVec.allOnes 64 ^^^ BitVec.ofNat 64 a).toNat = 18446744073709551615 ^^^ a := by
    rw [BitVec.toNat_xor, BitVec.toNat_allOnes, BitVec.toNat_ofNat, Nat.mod_eq_of_lt (by omega)]
  rw [← h1, BitVec.allOnes_xor, BitVec.toNat_not, BitVec.toNat_ofNat, Nat.mod_eq_of_lt (by omega)]
theorem not_u64 (a : Nat) (h : a < 18446744073709551616) : bits .xor .u64 IntKind.u64.max (a : Int) = ((18446744073709551615 - a : Nat) : Int) := by
  have := bits_xor_u64_nat 18446744073709551615 a (by decide) h
  rw [xor_max a h] at this
  exact this
abbrev wdv (a b c : Nat) : Value := .agg #[.int .u64 (a : Int), .int .u64 (b : Int), .int .u64 (c : Int)]
/-- What turning has done after k rounds. -/
def TurnAt (a b k c x y : Nat) : Prop :=
  (k = 0 ∧ c = 1 ∧ x = 0 ∧ y = 0) ∨ (k = 1 ∧ c ≤ 1 ∧ x < 18446744073709551616 ∧ y = 0 ∧ x + c * 18446744073709551616 = 18446744073709551616 - a) ∨
    (k = 2 ∧ x < 18446744073709551616 ∧ y < 18446744073709551616 ∧ ∃ c1, c1 ≤ 1 ∧ x + c1 * 18446744073709551616 = 18446744073709551616 - a ∧ y + c * 18446744073709551616 = 18446744073709551615 - b + c1)
theorem turn_law {a b c cc x y c1 : Nat} (ha : a < 18446744073709551616) (hb : b < 18446744073709551616) (hx : x < 18446744073709551616) (hy : y < 18446744073709551616) (hc : c1 ≤ 1)
    (h1 : x + c1 * 18446744073709551616 = 18446744073709551616 - a) (h2 : y + cc * 18446744073709551616 = 18446744073709551615 - b + c1) :
    x + y * 18446744073709551616 = (340282366920938463463374607431768211456 - (a + b * 18446744073709551616)) % 340282366920938463463374607431768211456 := by
  have e : 340282366920938463463374607431768211456 - (a + b * 18446744073709551616) = (x + y * 18446744073709551616) + 340282366920938463463374607431768211456 * cc := by
    revert ha hb hx hy h1 h2
    generalize hW : (18446744073709551616 : Nat) = W
    have hW2 : (340282366920938463463374607431768211456 : Nat) = W * W := by rw [← hW]
    have hW3 : (18446744073709551615 : Nat) = W - 1 := by rw [← hW]
    rw [hW2, hW3]
    intro ha hb hx hy h1 h2
    have e1 : y * W + cc * W * W = (W - 1 - b + c1) * W := by rw [← h2, Nat.add_mul]
    have e2 : (W - 1 - b + c1) * W = (W * W - (b * W + W)) + c1 * W := by rw [Nat.add_mul, show W - 1 - b = W - (b + 1) by omega, Nat.sub_mul, Nat.add_mul b 1, Nat.one_mul]
    have e3 : (b + 1) * W ≤ W * W := Nat.mul_le_mul_right _ (by omega)
    rw [Nat.add_mul, Nat.one_mul] at e3
    have e4 : W * W * cc = cc * W * W := by rw [Nat.mul_comm, Nat.mul_assoc]
    rw [e4]
    omega
  rw [e, Nat.add_mul_mod_self_left, Nat.mod_eq_of_lt]
  omega
/-- Stores into all cells of a block. -/
theorem set2 (w : World) (B : Nat) (t : TypeId) (o0 o1 x y : Value) (h : w.heap[B]? = some (.cells #[o0, o1] t (0, 0))) : ∀ W, W = (w.setCell ⟨B, 0, none⟩ x).setCell ⟨B, 1, none⟩ y →
    W.heap[B]? = some (.cells #[x, y] t (0, 0)) ∧ W.cell? ⟨B, 0, none⟩ = some x ∧ W.cell? ⟨B, 1, none⟩ = some y ∧ (∀ base, base ≤ B → Below base w W) ∧ (∀ k, k ≠ B → W.heap[k]? = w.heap[k]?) := by
  rintro W rfl
  have h1 := heap_setCell_same w B 0 _ _ x h
  have h2 := heap_setCell_same _ B 1 _ _ y h1
  exact ⟨h2, cell_of_row _ B 0 _ _ _ h2, cell_of_row _ B 1 _ _ _ h2, fun base hb => ((Below.refl base w).setCell hb _).setCell hb _, fun k hk => (heap_setCell_other _ ⟨B, 1, none⟩ k y hk).trans (heap_setCell_other _ ⟨B, 0, none⟩ k x hk)⟩
theorem set3 (w : World) (B : Nat) (t : TypeId) (o0 o1 o2 x y z : Value) (h : w.heap[B]? = some (.cells #[o0, o1, o2] t (0, 0))) : ∀ W, W = ((w.setCell ⟨B, 0, none⟩ x).setCell ⟨B, 1, none⟩ y).setCell ⟨B, 2, none⟩ z →
    W.heap[B]? = some (.cells #[x, y, z] t (0, 0)) ∧ W.cell? ⟨B, 0, none⟩ = some x ∧ W.cell? ⟨B, 1, none⟩ = some y ∧ W.cell? ⟨B, 2, none⟩ = some z ∧ (∀ base, base ≤ B → Below base w W) ∧ (∀ k, k ≠ B → W.heap[k]? = w.heap[k]?) := by
  rintro W rfl
  have h1 := heap_setCell_same w B 0 _ _ x h
  have h2 := heap_setCell_same _ B 1 _ _ y h1
  have h3 := heap_setCell_same _ B 2 _ _ z h2
  exact ⟨h3, cell_of_row _ B 0 _ _ _ h3, cell_of_row _ B 1 _ _ _ h3, cell_of_row _ B 2 _ _ _ h3, fun base hb => (((Below.refl base w).setCell hb _).setCell hb _).setCell hb _, fun k hk => (heap_setCell_other _ ⟨B, 2, none⟩ k z hk).trans ((heap_setCell_other _ ⟨B, 1, none⟩ k y hk).trans (heap_setCell_other _ ⟨B, 0, none⟩ k x hk))⟩
theorem set4 (w : World) (B : Nat) (t : TypeId) (o0 o1 o2 o3 x y z u : Value) (h : w.heap[B]? = some (.cells #[o0, o1, o2, o3] t (0, 0))) : ∀ W, W = (((w.setCell ⟨B, 0, none⟩ x).setCell ⟨B, 1, none⟩ y).setCell ⟨B, 2, none⟩ z).setCell ⟨B, 3, none⟩ u →
    W.heap[B]? = some (.cells #[x, y, z, u] t (0, 0)) ∧ W.cell? ⟨B, 0, none⟩ = some x ∧ W.cell? ⟨B, 1, none⟩ = some y ∧ W.cell? ⟨B, 2, none⟩ = some z ∧ W.cell? ⟨B, 3, none⟩ = some u ∧ (∀ base, base ≤ B → Below base w W) ∧ (∀ k, k ≠ B → W.heap[k]? = w.heap[k]?) := by
  rintro W rfl
  have h1 := heap_setCell_same w B 0 _ _ x h
  have h2 := heap_setCell_same _ B 1 _ _ y h1
  have h3 := heap_setCell_same _ B 2 _ _ z h2
  have h4 := heap_setCell_same _ B 3 _ _ u h3
  exact ⟨h4, cell_of_row _ B 0 _ _ _ h4, cell_of_row _ B 1 _ _ _ h4, cell_of_row _ B 2 _ _ _ h4, cell_of_row _ B 3 _ _ _ h4, fun base hb => ((((Below.refl base w).setCell hb _).setCell hb _).setCell hb _).setCell hb _, fun k hk => (heap_setCell_other _ ⟨B, 3, none⟩ k u hk).trans ((heap_setCell_other _ ⟨B, 2, none⟩ k z hk).trans ((heap_setCell_other _ ⟨B, 1, none⟩ k y hk).trans (heap_setCell_other _ ⟨B, 0, none⟩ k x hk)))⟩
theorem set3b (w : World) (B : Nat) (t : TypeId) (m o0 o1 o2 x y z : Value) (h : w.heap[B]? = some (.cells #[m, o0, o1, o2] t (0, 0))) : ∀ W, W = ((w.setCell ⟨B, 1, none⟩ x).setCell ⟨B, 2, none⟩ y).setCell ⟨B, 3, none⟩ z →
    W.heap[B]? = some (.cells #[m, x, y, z] t (0, 0)) ∧ (∀ base, base ≤ B → Below base w W) ∧ (∀ k, k ≠ B → W.heap[k]? = w.heap[k]?) := by
  rintro W rfl
  have h1 := heap_setCell_same w B 1 _ _ x h
  have h2 := heap_setCell_same _ B 2 _ _ y h1
  have h3 := heap_setCell_same _ B 3 _ _ z h2
  exact ⟨h3, fun base hb => (((Below.refl base w).setCell hb _).setCell hb _).setCell hb _, fun k hk => (heap_setCell_other _ ⟨B, 3, none⟩ k z hk).trans ((heap_setCell_other _ ⟨B, 2, none⟩ k y hk).trans (heap_setCell_other _ ⟨B, 1, none⟩ k x hk))⟩
theorem row2 {w : World} {k : Nat} {a b : Value} {t : TypeId} (h : w.heap[k]? = some (.cells #[a, b] t (0, 0))) : k < w.heap.size ∧ w.cell? ⟨k, 0, none⟩ = some a ∧ w.cell? ⟨k, 1, none⟩ = some b ∧ w.frozen? ⟨k, 0, none⟩ = false ∧ w.frozen? ⟨k, 1, none⟩ = false :=
  ⟨(Array.getElem?_eq_some_iff.1 h).1, cell_of_row _ k 0 _ _ _ h, cell_of_row _ k 1 _ _ _ h, frozen_of_row _ k 0 _ _ h, frozen_of_row _ k 1 _ _ h⟩
theorem row3 {w : World} {k : Nat} {a b c : Value} {t : TypeId} (h : w.heap[k]? = some (.cells #[a, b, c] t (0, 0))) : k < w.heap.size ∧ w.cell? ⟨k, 0, none⟩ = some a ∧ w.cell? ⟨k, 1, none⟩ = some b ∧ w.cell? ⟨k, 2, none⟩ = some c ∧ w.frozen? ⟨k, 0, none⟩ = false ∧ w.frozen? ⟨k, 1, none⟩ = false ∧ w.frozen? ⟨k, 2, none⟩ = false :=
  ⟨(Array.getElem?_eq_some_iff.1 h).1, cell_of_row _ k 0 _ _ _ h, cell_of_row _ k 1 _ _ _ h, cell_of_row _ k 2 _ _ _ h, frozen_of_row _ k 0 _ _ h, frozen_of_row _ k 1 _ _ h, frozen_of_row _ k 2 _ _ h⟩
theorem row4 {w : World} {k : Nat} {a b c d : Value} {t : TypeId} (h : w.heap[k]? = some (.cells #[a, b, c, d] t (0, 0))) : k < w.heap.size ∧ w.cell? ⟨k, 0, none⟩ = some a ∧ w.cell? ⟨k, 1, none⟩ = some b ∧ w.cell? ⟨k, 2, none⟩ = some c ∧ w.cell? ⟨k, 3, none⟩ = some d ∧ w.frozen? ⟨k, 0, none⟩ = false ∧ w.frozen? ⟨k, 1, none⟩ = false ∧ w.frozen? ⟨k, 2, none⟩ = false ∧ w.frozen? ⟨k, 3, none⟩ = false :=
  ⟨(Array.getElem?_eq_some_iff.1 h).1, cell_of_row _ k 0 _ _ _ h, cell_of_row _ k 1 _ _ _ h, cell_of_row _ k 2 _ _ _ h, cell_of_row _ k 3 _ _ _ h, frozen_of_row _ k 0 _ _ h, frozen_of_row _ k 1 _ _ h, frozen_of_row _ k 2 _ _ h, frozen_of_row _ k 3 _ _ h⟩
theorem heapO {w : World} {k : Nat} {x : Obj} (h : w.heap[k]? = some x) (o : Obj) : (w.alloc o).heap[k]? = some x := by
  rw [Below.heap_alloc _ _ _ (Array.getElem?_eq_some_iff.1 h).1]; exact h
theorem heapN {w : World} {k : Nat} (h : k = w.heap.size) (o : Obj) : (w.alloc o).heap[k]? = some o := by
  subst h; exact heap_alloc_new w o
theorem heapB {w w' : World} {k : Nat} {x : Obj} (h : w.heap[k]? = some x) (hb : Below w.heap.size w w') : w'.heap[k]? = some x := by
  rw [hb.block _ (Array.getElem?_eq_some_iff.1 h).1]; exact h
set_option maxRecDepth 100000 in
set_option maxHeartbeats 4000000 in
theorem turned_any (a b c : Nat) (ha : a < 18446744073709551616) (hb : b < 18446744073709551616) (w : World) :
    Calls Tryd.prog 88 #[wdv a b c] w fun e w' => ∃ x y : Nat, e = .returned (wdv x y 0) ∧ x < 18446744073709551616 ∧ y < 18446744073709551616 ∧
      x + y * 18446744073709551616 = (340282366920938463463374607431768211456 - (a + b * 18446744073709551616)) % 340282366920938463463374607431768211456 ∧ Below w.heap.size w w' := by
  have Ha := Lib.hid ha; have Hb := Lib.hid hb
  clear ha hb
  go_enter Tryd.func88, Tryd.ntmps88
  go_wp2_with fail
  go_loopw [3, 5] (fun v3 v5 wr => ∃ k cc x y : Nat, k ≤ 2 ∧ v5 = .int .i64 (k : Int) ∧ v3 = .int .u64 (cc : Int) ∧ TurnAt a b k cc x y ∧ wr.heap[w.heap.size]? = some (.cells #[.int .u64 (a : Int), .int .u64 (b : Int), .int .u64 (c : Int)] 98 (0, 0)) ∧ wr.heap[w.heap.size + 1]? = some (.cells #[.int .u64 (x : Int), .int .u64 (y : Int), .int .u64 0] 98 (0, 0)) ∧ Below w.heap.size w wr) (fun _ v5 _ => 2 - (intOf v5).toNat)
  case atStart => exact ⟨0, 1, 0, 0, by omega, rfl, rfl, .inl ⟨rfl, rfl, rfl, rfl⟩, by rw [Below.heap_alloc _ _ _ (by simp)]; exact heap_alloc_new w _, (by have := heap_alloc_new (w.alloc (.cells #[.int .u64 (a : Int), .int .u64 (b : Int), .int .u64 (c : Int)] 98)) (.cells #[.int .u64 0, .int .u64 0, .int .u64 0] 98); simpa using this), ((Below.refl _ w).alloc (Nat.le_refl _) _).alloc (by simp) _⟩
  case round =>
    obtain ⟨k, cc, x, y, hk, rfl, rfl, ht, hb0, hb1, hbw⟩ := hrel
    have k0 := cell_of_row wr w.heap.size 0 _ _ _ hb0
    have k1 := cell_of_row wr w.heap.size 1 _ _ _ hb0
    have s0 := (Array.getElem?_eq_some_iff.1 hb0).1
    have s1 := (Array.getElem?_eq_some_iff.1 hb1).1
    have o0 := cell_of_row wr (w.heap.size + 1) 0 _ _ _ hb1
    have o1 := cell_of_row wr (w.heap.size + 1) 1 _ _ _ hb1
    have o2 := cell_of_row wr (w.heap.size + 1) 2 _ _ _ hb1
    have f0 := frozen_of_row wr (w.heap.size + 1) 0 _ _ hb1
    have f1 := frozen_of_row wr (w.heap.size + 1) 1 _ _ hb1
    have f2 := frozen_of_row wr (w.heap.size + 1) 2 _ _ hb1
    have HB0 := Lib.hid hb0; have HB1 := Lib.hid hb1; have HB := Lib.hid hbw; have HS1 := Lib.hid s1
    clear hb0 hb1 hbw
    rcases ht with ⟨rfl, rfl, rfl, rfl⟩ | ⟨rfl, hc1, hx, rfl, he⟩ | ⟨rfl, hx, hy, c1, hc1, he1, he2⟩
    · have na := not_u64 a Ha.out
      have hsg : IntKind.u64.signed = false := rfl
      obtain ⟨sn, hsn⟩ : ∃ n, 18446744073709551615 - a = n := ⟨_, rfl⟩
      rw [hsn] at na
      obtain ⟨s, q, hs, hq, ad⟩ := add64n (sn : Int) 0 (1) sn 0 1 rfl rfl rfl (by omega)
      have e0 := heap_setCell_other wr ⟨w.heap.size + 1, 0, none⟩ w.heap.size (.int .u64 (s : Int)) (by show w.heap.size ≠ w.heap.size + 1; omega)
      have e1 := heap_setCell_same wr (w.heap.size + 1) 0 _ _ (.int .u64 (s : Int)) HB1.out
      have E0 := Lib.hid e0; have E1 := Lib.hid e1; have Hs := Lib.hid hs; have Hq := Lib.hid hq; have Hsn := Lib.hid hsn
      clear e0 e1 hs hq hsn
      go_wp2_with fail
      go_roundw
      case rel => exact ⟨1, q, s, 0, by omega, rfl, rfl, .inr (.inl ⟨rfl, by have := Hq.out; have := Hsn.out; have := Ha.out; omega, Hs.out, rfl, by have := Hq.out; have := Hsn.out; have := Ha.out; omega⟩), E0.out.trans HB0.out, E1.out.trans rfl, HB.out.setCell (by show w.heap.size ≤ w.heap.size + 1; omega) _⟩
      case measure => simp [intOf]
    · have na := not_u64 b Hb.out
      have hsg : IntKind.u64.signed = false := rfl
      obtain ⟨sn, hsn⟩ : ∃ n, 18446744073709551615 - b = n := ⟨_, rfl⟩
      rw [hsn] at na
      obtain ⟨s, q, hs, hq, ad⟩ := add64n (sn : Int) 0 (cc) sn 0 cc rfl rfl rfl (by omega)
      have e0 := heap_setCell_other wr ⟨w.heap.size + 1, 1, none⟩ w.heap.size (.int .u64 (s : Int)) (by show w.heap.size ≠ w.heap.size + 1; omega)
      have e1 := heap_setCell_same wr (w.heap.size + 1) 1 _ _ (.int .u64 (s : Int)) HB1.out
      have E0 := Lib.hid e0; have E1 := Lib.hid e1; have Hs := Lib.hid hs; have Hq := Lib.hid hq; have Hsn := Lib.hid hsn
      clear e0 e1 hs hq hsn
      go_wp2_with fail
      go_roundw
      case rel => exact ⟨2, q, x, s, by omega, rfl, rfl, .inr (.inr ⟨rfl, hx, Hs.out, cc, hc1, he, by have := Hq.out; have := Hsn.out; have := Hb.out; omega⟩), E0.out.trans HB0.out, E1.out.trans rfl, HB.out.setCell (by show w.heap.size ≤ w.heap.size + 1; omega) _⟩
      case measure => simp [intOf]
    · have Hxy := Lib.hid (turn_law (c := c) Ha.out Hb.out hx hy hc1 he1 he2); have Hx := Lib.hid hx; have Hy := Lib.hid hy
      clear he1 he2 hx hy hc1
      go_wp2_with fail
      obtain ⟨h9, g0, g1, g2, gb, -⟩ := set3 wr (w.heap.size + 1) _ _ _ _ (.int .u64 (x : Int)) (.int .u64 (y : Int)) (.int .u64 0) HB1.out _ rfl
      have hbl := HB.out.trans (gb w.heap.size (by omega))
      clear h9 gb
      generalize ((wr.setCell ⟨w.heap.size + 1, 0, none⟩ (.int .u64 (x : Int))).setCell ⟨w.heap.size + 1, 1, none⟩ (.int .u64 (y : Int))).setCell ⟨w.heap.size + 1, 2, none⟩ (.int .u64 0) = W9 at *
      have Hbl := Lib.hid hbl
      clear hbl
      simp [bodyPost, results, Tryd.results88, go_sem, g0, g1, g2]
      exact ⟨x, y, ⟨rfl, rfl⟩, Hx.out, Hy.out, Hxy.out, Hbl.out⟩
end Go.Proofs.YthhmahmclkmjpaaDoor
