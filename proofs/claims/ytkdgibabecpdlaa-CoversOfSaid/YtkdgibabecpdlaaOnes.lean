/- Contracts and plain laws that the claims of this seat use (Ones), for all arguments that their hypotheses name. -/
import Derived.Test.YtkdgibabecpdlaaSmall
import Derived.Lib.BitFns
namespace Go.Proofs.Ytkdgibabecpdlaa
open Go.RowKit
set_option maxRecDepth 100000 in
set_option maxHeartbeats 4000000 in
theorem ones_qr (x q r : Int) (w : World) (hx0 : 0 ≤ x) (hx1 : x ≤ 65535) (hq : x / 256 = q) (hr : bits .and .u16 x 255 = r) (hq0 : 0 ≤ q) (hq1 : q ≤ 255) (hr0 : 0 ≤ r) (hr1 : r ≤ 255) :
    Calls Try.prog 88 #[.int .u16 x] w fun e w' => e = .returned (.int .i64 ((Lib.pop8 q + Lib.pop8 r) % 256)) ∧ Below w.heap.size w w' := by
  go_enter Try.func88, Try.ntmps88
  go_wp2
  go_region
  go_wp2
  go_ret
  exact ⟨rfl, ⟨rfl, rfl, rfl, Nat.le_refl _, fun _ _ => rfl⟩⟩
theorem popAux_split : ∀ (f g n : Nat), Lib.popAux (f + g) n = Lib.popAux f (n % 2 ^ f) + Lib.popAux g (n / 2 ^ f)
  | 0, g, n => by simp [Lib.popAux, Nat.mod_one]
  | f + 1, g, n => by
    have h := popAux_split f g (n / 2)
    have e : f + 1 + g = (f + g) + 1 := by omega
    rw [e]
    simp only [Lib.popAux]
    rw [h]
    have e1 : n % 2 ^ (f + 1) % 2 = n % 2 := by rw [Nat.pow_succ, Nat.mul_comm, Nat.mod_mul_right_mod]
    have e2 : n % 2 ^ (f + 1) / 2 = n / 2 % 2 ^ f := by rw [Nat.pow_succ, Nat.mul_comm, Nat.mod_mul_right_div_self]
    have e3 : n / 2 ^ (f + 1) = n / 2 / 2 ^ f := by rw [Nat.pow_succ, Nat.mul_comm, Nat.div_div_eq_div_mul]
    rw [e1, e2, e3]; omega
theorem pop8_aux : ∀ n : Fin 256, Lib.pop8 (n.val : Int) = (Lib.popAux 8 n.val : Int) := by decide +kernel
theorem pop8_le : ∀ n : Fin 256, Lib.popAux 8 n.val ≤ 8 := by decide +kernel
theorem and255 (n : Nat) (hn : n < 65536) : bits .and .u16 (n : Int) 255 = ((n % 256 : Nat) : Int) := by
  have h3 := (bits_nat .u16 16 (by decide) (fun n h0 h1 => by rw [IntKind.wrap_u16]; omega) n 255 hn (by decide)).1
  have h4 : bits .and .u16 (n : Int) 255 = ((n &&& 255 : Nat) : Int) := h3
  rw [h4, show (255 : Nat) = 2 ^ 8 - 1 by decide, Nat.and_two_pow_sub_one_eq_mod]
theorem ones16_any (n : Nat) (hn : n < 65536) (w : World) :
    Calls Try.prog 88 #[.int .u16 (n : Int)] w fun e w' => e = .returned (.int .i64 (Lib.popAux 16 n : Int)) ∧ Below w.heap.size w w' := by
  have h1 := pop8_aux ⟨n / 256, by omega⟩
  have h2 := pop8_aux ⟨n % 256, by omega⟩
  have l1 := pop8_le ⟨n / 256, by omega⟩
  have l2 := pop8_le ⟨n % 256, by omega⟩
  simp only at h1 h2 l1 l2
  have hs := popAux_split 8 8 n
  have e : (Lib.pop8 ((n / 256 : Nat) : Int) + Lib.pop8 ((n % 256 : Nat) : Int)) % 256 = (Lib.popAux 16 n : Int) := by
    rw [h1, h2, show (16 : Nat) = 8 + 8 by rfl, hs]
    have : (2 : Nat) ^ 8 = 256 := by decide
    rw [this]; omega
  rw [← e]
  exact ones_qr n ((n / 256 : Nat) : Int) ((n % 256 : Nat) : Int) w (by omega) (by omega) (by omega) (and255 n hn) (by omega) (by omega) (by omega) (by omega)
theorem count_any (n : Nat) (hn : n < 65536) (w : World) :
    Calls Try.prog 33 #[.int .u16 (n : Int)] w fun e w' => e = .returned (.int .i64 (Lib.popAux 16 n : Int)) ∧ Below w.heap.size w w' := by
  go_enter Try.func33, Try.ntmps33
  go_wp2_with (go_at_call 88; refine (ones16_any n hn _).mono ?_; rintro e w1 ⟨rfl, hb1⟩)
  go_ret
  exact ⟨rfl, hb1⟩
set_option maxRecDepth 100000 in
set_option maxHeartbeats 4000000 in
theorem refCount_any (n : Nat) (hn : n < 65536) (w : World) :
    Calls Try.prog 34 #[.int .u16 (n : Int)] w fun e w' => e = .returned (.int .i64 (Lib.popAux 16 n : Int)) ∧ Below w.heap.size w w' := by
  generalize hT : Lib.popAux 16 n = T
  have HT := Lib.hid hT; clear hT
  go_enter Try.func34, Try.ntmps34
  go_wp2_with fail
  go_loopw [0, 3] (fun v0 v3 wr => ∃ (f x acc : Nat), f ≤ 16 ∧ x < 2 ^ f ∧ v0 = .int .u16 x ∧ v3 = .int .i64 acc ∧ acc + Lib.popAux f x = T ∧ acc ≤ 16 - f ∧ Below w.heap.size w wr) (fun v0 _ _ => (intOf v0).toNat)
  case atStart => exact ⟨16, n, 0, by omega, hn, rfl, rfl, by rw [HT.out]; omega, by omega, Below.refl _ _⟩
  case round =>
    obtain ⟨f, x, acc, hf, hx, rfl, rfl, ha, hacc, hb⟩ := hrel
    by_cases h0 : x = 0
    · subst h0
      have hz : ∀ f, Lib.popAux f 0 = 0 := fun f => by
        induction f with
        | zero => rfl
        | succ f ih => simp [Lib.popAux, ih]
      rw [hz] at ha
      have Ha := Lib.hid ha; clear ha
      go_wp2_with fail
      go_ret
      have := Ha.out
      exact ⟨by rw [← this]; rfl, hb⟩
    · obtain ⟨f, rfl⟩ : ∃ g, f = g + 1 := ⟨f - 1, by
        rcases f with _ | f
        · simp at hx; omega
        · simp⟩
      have hx2 : x / 2 < 2 ^ f := by rw [Nat.pow_succ] at hx; omega
      have hx16 : x < 65536 := Nat.lt_of_lt_of_le hx (Nat.pow_le_pow_right (n := 2) (by decide) hf)
      simp only [Lib.popAux] at ha
      have Ha := Lib.hid ha; have Hx2 := Lib.hid hx2; have Hx := Lib.hid hx; have Hb := Lib.hid hb
      clear ha hx2 hx hb
      have hpos : (0 : Int) < (x : Int) := by omega
      obtain ⟨r, hr⟩ : ∃ r : Nat, x % 2 = r := ⟨_, rfl⟩
      obtain ⟨q, hq⟩ : ∃ q : Nat, x / 2 = q := ⟨_, rfl⟩
      have e1 : (x : Int) % 2 = (r : Int) := by omega
      have e2 : (x : Int) / 2 = (q : Int) := by omega
      have hr1 : r ≤ 1 := by omega
      have hqx : q < x := by omega
      have Hr := Lib.hid hr; have Hq := Lib.hid hq
      clear hr hq
      go_wp2_with fail
      go_roundw
      case rel =>
        refine ⟨f, q, acc + r, by omega, by rw [← Hq.out]; exact Hx2.out, by go_num, by go_num, ?_, by omega, Hb.out⟩
        have := Ha.out
        rw [Hr.out, Hq.out] at this
        omega
      case measure => simp [intOf]; omega
end Go.Proofs.Ytkdgibabecpdlaa
