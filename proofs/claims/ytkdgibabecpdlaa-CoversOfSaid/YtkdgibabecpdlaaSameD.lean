/- Proved: same of dots answers whether two lists are equal; for lists that are read from memory. -/
import Derived.Test.YtkdgibabecpdlaaTurnedW0
namespace Go.Proofs.Ytkdgibabecpdlaa
open Go.RowKit
set_option maxRecDepth 100000 in
set_option maxHeartbeats 1000000 in
theorem sameDot_any (A B : Option Addr) (ca cb n m : Nat) (a b : List Dot) (w : World) (ha : Rd w A (dotCells a)) (hb : Rd w B (dotCells b)) (hna : a.length = n) (hnb : b.length = m) (hal : a.length ≤ maxLen) (hbl : b.length ≤ maxLen) :
    Calls Try.prog 94 #[.slice A n ca, .slice B m cb] w fun e w' => e = .returned (.bool (decide (a = b))) ∧ Below w.heap.size w w' := by
  subst hna hnb
  simp only [maxLen] at hal hbl
  by_cases hlen : a.length = b.length
  · go_enter Try.func94, Try.ntmps94
    have Hl := Lib.hid hlen
    go_wp2
    go_loopw [5] (fun v5 wr => ∃ k : Nat, k ≤ a.length ∧ v5 = .int .i64 k ∧ a.take k = b.take k ∧ Below w.heap.size w wr) (fun v5 _ => a.length - (intOf v5).toNat)
    case atStart => exact ⟨0, by omega, rfl, by simp, Below.refl _ _⟩
    case round =>
      obtain ⟨k, hk, rfl, heq, hbw⟩ := hrel
      by_cases hlt : k < a.length
      · have hltb : k < b.length := by omega
        obtain ⟨g, off, rfl, hgl, c0, c1⟩ := ha.dot (List.getElem?_eq_getElem hlt)
        obtain ⟨g', off', rfl, hgl', d0, d1⟩ := hb.dot (List.getElem?_eq_getElem hltb)
        have e1 : a.take (k + 1) = a.take k ++ [a[k]] := List.take_succ_eq_append_getElem hlt
        have e2 : b.take (k + 1) = b.take k ++ [b[k]] := List.take_succ_eq_append_getElem hltb
        have hne : a[k] ≠ b[k] → a ≠ b := by intro h1 h2; subst h2; exact h1 rfl
        generalize a[k] = x at *
        generalize b[k] = y at *
        obtain ⟨x1, x2⟩ := x
        obtain ⟨y1, y2⟩ := y
        simp only at c0 c1 d0 d1
        rw [← hbw.cell (p := ⟨g, off + k * 2, none⟩) hgl] at c0
        rw [← hbw.cell (p := ⟨g, off + k * 2 + 1, none⟩) hgl] at c1
        rw [← hbw.cell (p := ⟨g', off' + k * 2, none⟩) hgl'] at d0
        rw [← hbw.cell (p := ⟨g', off' + k * 2 + 1, none⟩) hgl'] at d1
        have z0 : g < wr.heap.size := Nat.lt_of_lt_of_le hgl hbw.size
        have z1 : g' < wr.heap.size := Nat.lt_of_lt_of_le hgl' hbw.size
        have Hw := Lib.hid hbw; have H1 := Lib.hid e1; have H2 := Lib.hid e2; have Hq := Lib.hid heq; have Hne := Lib.hid hne
        clear hbw e1 e2 heq hne ha hb hlen
        by_cases hxy : x1 = y1
        · subst hxy
          by_cases hxy2 : x2 = y2
          · subst hxy2
            go_wp2_with (go_quiet (fail))
            go_roundw
            case rel => exact ⟨k + 1, by omega, by go_num, by rw [H1.out, H2.out, Hq.out], below_drewN Hw.out _⟩
            case measure => simp [intOf]; omega
          · have hb2 : (x2 == y2) = false := by simp [hxy2]
            go_wp2_with (go_quiet (fail))
            go_ret
            exact ⟨ret_bool (by simp [Hne.out (by simp [hxy2])]), below_drewN Hw.out _⟩
        · have hb2 : (x1 == y1) = false := by simp [hxy]
          go_wp2_with (go_quiet (fail))
          go_ret
          exact ⟨ret_bool (by simp [Hne.out (by simp [hxy])]), below_drewN Hw.out _⟩
      · have hkl : k = a.length := by omega
        subst hkl
        rw [List.take_length, hlen, List.take_length] at heq
        go_wp2
        go_ret
        exact ⟨ret_bool (by simp [heq]), hbw⟩
  · have hne : (a.length : Int) ≠ (b.length : Int) := by omega
    have hab : a ≠ b := by rintro rfl; exact hlen rfl
    go_enter Try.func94, Try.ntmps94
    go_wp2
    go_ret
    exact ⟨ret_bool (by simp [hab]), Below.refl _ _⟩
end Go.Proofs.Ytkdgibabecpdlaa
