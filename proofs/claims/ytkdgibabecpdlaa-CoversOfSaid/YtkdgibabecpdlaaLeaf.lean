/- Proved: what the smallest functions of covers answer (is a dot far, does an edge meet a height, on which side is a point); for all numbers. -/
import Derived.Test.YtkdgibabecpdlaaRows
import Derived.Test.YtkdgibabecpdlaaCore
import Derived.BigQuiet
import Derived.Deep.QuietTactic
namespace Go.Proofs.Ytkdgibabecpdlaa
open Go.RowKit

def isFarB (d : Dot) : Bool := decide (1073741824 < max d.1 d.2) || decide (min d.1 d.2 < -1073741824)

theorem ret_eq {v v' : Value} (h : v = v') : Ending.returned v = Ending.returned v' := by rw [h]
theorem ret_bool {a b : Bool} (h : a = true ↔ b = true) : Ending.returned (.bool a) = Ending.returned (.bool b) := by rw [Bool.eq_iff_iff.2 h]
theorem ret_int {k : IntKind} {a b : Int} (h : a = b) : Ending.returned (.int k a) = Ending.returned (.int k b) := by rw [h]

theorem wrap64_bmod (n : Int) : wrap64 n = n.bmod 18446744073709551616 := by
  unfold wrap64; simp only [Int.bmod]; split <;> omega
theorem wrap64_sub (a b : Int) : wrap64 (wrap64 a - wrap64 b) = wrap64 (a - b) := by
  simp only [wrap64_bmod, Int.bmod_sub_bmod, Int.sub_bmod_bmod]
theorem wrap64_sub_r (a b : Int) : wrap64 (a - wrap64 b) = wrap64 (a - b) := by
  simp only [wrap64_bmod, Int.sub_bmod_bmod]
theorem wrap64_add (a b : Int) : wrap64 (wrap64 a + wrap64 b) = wrap64 (a + b) := by
  simp only [wrap64_bmod, Int.bmod_add_bmod, Int.add_bmod_bmod]
theorem wrap64_add_l (a b : Int) : wrap64 (wrap64 a + b) = wrap64 (a + b) := by
  simp only [wrap64_bmod, Int.bmod_add_bmod]
theorem wrap64_mul (a b : Int) : wrap64 (wrap64 a * wrap64 b) = wrap64 (a * b) := by
  simp only [wrap64_bmod, Int.bmod_mul_bmod, Int.mul_bmod_bmod]
theorem wrap64_id (n : Int) (h : -9223372036854775808 ≤ n ∧ n ≤ 9223372036854775807) : wrap64 n = n := IntWalk.wrap64_in n h

set_option maxHeartbeats 400000 in
theorem isFar_any (x y : Int) (w : World) :
    Calls Try.prog 36 #[.agg #[.int .i64 x, .int .i64 y]] w fun e w' => e = .returned (.bool (isFarB (x, y))) ∧ Below w.heap.size w w' := by
  go_enter Try.func36, Try.ntmps36
  go_wp2
  all_goals (go_ret; exact ⟨ret_eq (by simp [isFarB, *]), by go_grown⟩)

set_option maxHeartbeats 400000 in
theorem refFar_any (x y : Int) (w : World) :
    Calls Try.prog 40 #[.agg #[.int .i64 x, .int .i64 y]] w fun e w' => e = .returned (.bool (isFarB (x, y))) ∧ Below w.heap.size w w' := by
  go_enter Try.func40, Try.ntmps40
  go_wp2
  all_goals (go_ret; exact ⟨ret_bool (by simp [isFarB]; omega), by go_grown⟩)

set_option maxHeartbeats 400000 in
theorem far_any (x y : Int) (w : World) :
    Calls Try.prog 27 #[.agg #[.int .i64 x, .int .i64 y]] w fun e w' => e = .returned (.bool (isFarB (x, y))) ∧ Below w.heap.size w w' := by
  go_enter Try.func27, Try.ntmps27
  go_wp2
  all_goals (go_ret; exact ⟨ret_bool (by simp [isFarB]; omega), by go_grown⟩)

def meetsB (ay by' y : Int) : Bool := decide (ay ≤ y) && decide (y < by')
set_option maxHeartbeats 400000 in
theorem meets_any (ax ay bx by' t y : Int) (w : World) :
    Calls Try.prog 83 #[.agg #[.int .i64 ax, .int .i64 ay, .int .i64 bx, .int .i64 by', .int .i64 t], .int .i64 y] w fun e w' =>
      e = .returned (.bool (meetsB ay by' y)) ∧ Below w.heap.size w w' := by
  go_enter Try.func83, Try.ntmps83
  go_wp2
  all_goals (go_ret; exact ⟨ret_bool (by simp [meetsB]; omega), by go_grown⟩)

def overN (ax ay bx by' x y : Int) : Int := (bx - ax) * (y - ay) - (x - ax) * (by' - ay)
set_option maxHeartbeats 400000 in
theorem over_any (ax ay bx by' t x y : Int) (w : World) :
    Calls Try.prog 84 #[.agg #[.int .i64 ax, .int .i64 ay, .int .i64 bx, .int .i64 by', .int .i64 t], .int .i64 x, .int .i64 y] w fun e w' =>
      e = .returned (.tuple #[.int .i64 (wrap64 (overN ax ay bx by' x y)), .int .i64 (wrap64 (by' - ay))]) ∧ Below w.heap.size w w' := by
  go_enter Try.func84, Try.ntmps84
  go_wp2
  go_ret2
  refine ⟨ret_eq ?_, by go_grown⟩
  simp [wrap64_sub, wrap64_mul, overN]

/-- slices.IndexFunc of isFar: the first that is far. -/
def farFrom (l : List Dot) : Option Nat := l.findIdx? isFarB
set_option maxHeartbeats 400000 in
theorem indexFar_any (A : Option Addr) (cap : Nat) (l : List Dot) (w : World) (h : Rd w A (dotCells l)) (hl : l.length ≤ maxLen) :
    Calls Try.prog 89 #[.slice A l.length cap, .func (.func 36) #[] #[]] w fun e w' =>
      (∃ n : Int, e = .returned (.int .i64 n) ∧ (0 ≤ n ↔ l.any isFarB = true)) ∧ Below w.heap.size w w' := by
  unfold maxLen at hl
  go_enter Try.func89, Try.ntmps89
  go_wp2
  go_loopw [8] (fun v8 wr => ∃ k : Nat, k ≤ l.length ∧ v8 = .int .i64 k ∧ Below w.heap.size w wr ∧ (l.take k).any isFarB = false) (fun v8 _ => l.length - (intOf v8).toNat)
  case atStart => exact ⟨0, by omega, rfl, Below.refl _ _, by simp⟩
  case round =>
    obtain ⟨k, hk, rfl, hb, hall⟩ := hrel
    by_cases hlt : k < l.length
    · obtain ⟨b, off, rfl, hbl, c0, c1⟩ := h.dot (List.getElem?_eq_getElem hlt)
      generalize hd : l[k] = d at *
      obtain ⟨px, py⟩ := d
      rw [← hb.cell (p := ⟨b, off + k * 2, none⟩) hbl] at c0
      rw [← hb.cell (p := ⟨b, off + k * 2 + 1, none⟩) hbl] at c1
      have Hall := Lib.hid hall; clear hall
      have Hd := Lib.hid hd; clear hd
      have Hh := Lib.hid h; clear h
      by_cases hf : isFarB (px, py) = true
      · go_wp2_with (go_at_call 36; refine (isFar_any _ _ _).mono ?_; rintro e w1 ⟨rfl, hb1⟩)
        go_ret
        refine ⟨⟨k, rfl, ?_⟩, hb.trans (hb1.mono hb.size)⟩
        simp only [Int.natCast_nonneg, true_iff]
        rw [List.any_eq_true]
        exact ⟨(px, py), by rw [← Hd.out]; exact List.getElem_mem hlt, hf⟩
      · have hf' : isFarB (px, py) = false := by simpa using hf
        go_wp2_with (go_at_call 36; refine (isFar_any _ _ _).mono ?_; rintro e w1 ⟨rfl, hb1⟩)
        go_roundw
        case rel =>
          refine ⟨k + 1, by omega, by go_num, hb.trans (hb1.mono hb.size), ?_⟩
          rw [List.take_succ_eq_append_getElem hlt, List.any_append, Hall.out, Hd.out]
          simp [hf']
        case measure => simp [intOf]; omega
    · have hkl : k = l.length := by omega
      go_wp2
      go_ret
      refine ⟨⟨_, rfl, ?_⟩, hb⟩
      subst hkl
      rw [List.take_length] at hall
      simp [hall]
end Go.Proofs.Ytkdgibabecpdlaa
