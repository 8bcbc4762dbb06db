/- Proved: what box, turned, SameBits and Count of one number answer; for lists that are read from memory. -/
import Derived.Test.YtkdgibabecpdlaaCov
namespace Go.Proofs.Ytkdgibabecpdlaa
open Go.RowKit
set_option maxRecDepth 100000 in
set_option maxHeartbeats 1000000 in
theorem box_any (x y u v : Int) (w : World) :
    Calls Try.prog 28 #[.int .i64 x, .int .i64 y, .int .i64 u, .int .i64 v] w fun e w' => ∃ A, e = .returned (.slice A 4 4) ∧ Rd w' A (dotCells [(x, y), (u, y), (u, v), (x, v)]) ∧ Below w.heap.size w w' := by
  go_enter Try.func28, Try.ntmps28
  go_wp2
  go_ret
  exact ⟨_, rfl, Rd.new _ _ _ rfl, (Below.refl _ _).alloc (Nat.le_refl _) _⟩
theorem Try.etDots : ET Try.prog 51 53 2 16 := ET.mk' (z := .agg #[.int .i64 0, .int .i64 0]) (by kernel_rfl) (by kernel_rfl) rfl (by decide) (by decide)
set_option maxRecDepth 100000 in
set_option maxHeartbeats 1000000 in
theorem turned_any (A : Option Addr) (cap : Nat) (l : List Dot) (w : World) (h : Rd w A (dotCells l)) (hl : l.length ≤ 1000000) :
    Calls Try.prog 25 #[.slice A l.length cap] w fun e w' => ∃ v, e = .returned v ∧ w'.ownsRow w.heap.size 53 2 v l.reverse.length (dotCells l.reverse) ∧ Below w.heap.size w w' := by
  go_enter Try.func25, Try.ntmps25
  go_wp2
  go_loopw [3, 4] (fun v3 v4 wr => ∃ k : Nat, k ≤ l.length ∧ v4 = .int .i64 ((l.length : Int) - 1 - k) ∧ Below w.heap.size w wr ∧ wr.ownsRow w.heap.size 53 2 v3 (l.reverse.take k).length (dotCells (l.reverse.take k))) (fun _ v4 _ => (intOf v4 + 1).toNat)
  case atStart => exact ⟨0, by omega, by go_num, Below.refl _ _, World.ownsRow_nil _ _ _ _⟩
  case round =>
    obtain ⟨k, hk, rfl, hb, hown⟩ := hrel
    by_cases hlt : k < l.length
    · obtain ⟨j, hj⟩ : ∃ j, j = l.length - 1 - k := ⟨_, rfl⟩
      have hjl : j < l.length := by omega
      have hji : (l.length : Int) - 1 - k = (j : Int) := by omega
      rw [hji]
      obtain ⟨b, off, rfl, hbl, c0, c1⟩ := h.dot (List.getElem?_eq_getElem hjl)
      have hlen : (l.reverse.take k).length = k := by simp; omega
      have hsucc : l.reverse.take (k + 1) = l.reverse.take k ++ [l[j]] := by
        rw [List.take_succ_eq_append_getElem (by simpa using hlt)]
        congr 2
        rw [List.getElem_reverse]; congr 1; omega
      generalize l[j] = p at *
      obtain ⟨px, py⟩ := p
      rw [← hb.cell (p := ⟨b, off + j * 2, none⟩) hbl] at c0
      rw [← hb.cell (p := ⟨b, off + j * 2 + 1, none⟩) hbl] at c1
      have hbl' : b < wr.heap.size := Nat.lt_of_lt_of_le hbl hb.size
      have Hs := Lib.hid hsucc; clear hsucc
      have Hh := Lib.hid h; clear h
      have Hw := Lib.hid hb; clear hb
      have Hj := Lib.hid hj; clear hj hji
      have Hn := Lib.hid hlen
      rw [hlen] at hown
      clear hlen
      go_wp2_with (at_builtin; refine wpList_app rfl rfl Try.etDots (hown.alloc _) rfl rfl (Rd.new _ _ _ (by simp)) (m := 1) (by simp) (by simp [Value.oneCell']) (by omega) (by have := Hw.out.size; simp; omega) ?_; intro v' w1 hown1 hg1 _ hb1; clear hown)
      go_roundw
      case rel =>
        refine ⟨k + 1, by omega, by have := Hj.out; go_num, ?_, ?_⟩
        · exact (Hw.out.alloc Hw.out.size _).trans hb1
        · rw [Hs.out, dotCells, List.flatMap_append, List.length_append, Hn.out]
          simpa [dotCells, dotCell] using hown1
      case measure => have := Hj.out; simp [intOf]
    · have hkl : k = l.length := by omega
      subst hkl
      have e0 : (l.length : Int) - 1 - (l.length : Int) = -1 := by omega
      rw [e0]
      have Hh := Lib.hid h; clear h
      rw [List.take_of_length_le (by simp)] at hown
      have Hown := Lib.hid hown; clear hown
      go_wp2
      go_ret
      exact ⟨_, rfl, Hown.out, hb⟩
theorem Rd.bit {w : World} {A : Option Addr} {l : List Nat} (h : Rd w A (bitVs l)) {k : Nat} (hk : k < l.length) :
    ∃ b off, A = some ⟨b, off, none⟩ ∧ b < w.heap.size ∧ w.cell? ⟨b, off + k, none⟩ = some (.int .u16 ((l[k] : Nat) : Int)) := by
  obtain ⟨b, off, hA, hb, hc⟩ := h.at_ (by intro e; have := congrArg List.length e; simp [bitVs] at this; subst this; simp at hk)
  exact ⟨b, off, hA, hb, hc k _ (by simp [bitVs, hk])⟩
set_option maxRecDepth 100000 in
set_option maxHeartbeats 1000000 in
theorem sameU16_any (A B : Option Addr) (ca cb : Nat) (a b : List Nat) (w : World) (ha : Rd w A (bitVs a)) (hb : Rd w B (bitVs b)) (hal : a.length ≤ maxLen) (hbl : b.length ≤ maxLen) :
    Calls Try.prog 42 #[.slice A a.length ca, .slice B b.length cb] w fun e w' => e = .returned (.bool (decide (a = b))) ∧ Below w.heap.size w w' := by
  simp only [maxLen] at hal hbl
  by_cases hlen : a.length = b.length
  · go_enter Try.func42, Try.ntmps42
    have Hl := Lib.hid hlen
    go_wp2
    go_loopw [5] (fun v5 wr => ∃ k : Nat, k ≤ a.length ∧ v5 = .int .i64 k ∧ a.take k = b.take k ∧ Below w.heap.size w wr) (fun v5 _ => a.length - (intOf v5).toNat)
    case atStart => exact ⟨0, by omega, rfl, by simp, Below.refl _ _⟩
    case round =>
      obtain ⟨k, hk, rfl, heq, hbw⟩ := hrel
      by_cases hlt : k < a.length
      · have hltb : k < b.length := by omega
        obtain ⟨g, off, rfl, hgl, c0⟩ := ha.bit hlt
        obtain ⟨g', off', rfl, hgl', c1⟩ := hb.bit hltb
        have e1 : a.take (k + 1) = a.take k ++ [a[k]] := List.take_succ_eq_append_getElem hlt
        have e2 : b.take (k + 1) = b.take k ++ [b[k]] := List.take_succ_eq_append_getElem hltb
        have hne : a[k] ≠ b[k] → a ≠ b := by intro h1 h2; subst h2; exact h1 rfl
        generalize a[k] = x at *
        generalize b[k] = y at *
        rw [← hbw.cell (p := ⟨g, off + k, none⟩) hgl] at c0
        rw [← hbw.cell (p := ⟨g', off' + k, none⟩) hgl'] at c1
        have z0 : g < wr.heap.size := Nat.lt_of_lt_of_le hgl hbw.size
        have z1 : g' < wr.heap.size := Nat.lt_of_lt_of_le hgl' hbw.size
        have Hw := Lib.hid hbw; have H1 := Lib.hid e1; have H2 := Lib.hid e2; have Hq := Lib.hid heq; have Hne := Lib.hid hne
        clear hbw e1 e2 heq hne ha hb hlen
        by_cases hxy : x = y
        · subst hxy
          go_wp2_with (go_quiet (fail))
          go_roundw
          case rel => exact ⟨k + 1, by omega, by go_num, by rw [H1.out, H2.out, Hq.out], Go.Proofs.Ytkdgibabecpdlaa.below_drewN Hw.out _⟩
          case measure => simp [intOf]; omega
        · have hxy2 : (x : Int) ≠ (y : Int) := by omega
          go_wp2_with (go_quiet (fail))
          go_ret
          exact ⟨ret_bool (by simp [Hne.out hxy]), Go.Proofs.Ytkdgibabecpdlaa.below_drewN Hw.out _⟩
      · have hkl : k = a.length := by omega
        subst hkl
        rw [List.take_length, hlen, List.take_length] at heq
        go_wp2
        go_ret
        exact ⟨ret_bool (by simp [heq]), hbw⟩
  · have hne : (a.length : Int) ≠ (b.length : Int) := by omega
    have hab : a ≠ b := by rintro rfl; exact hlen rfl
    go_enter Try.func42, Try.ntmps42
    go_wp2
    go_ret
    exact ⟨ret_bool (by simp [hab]), Below.refl _ _⟩
theorem sameBits_any (A B : Option Addr) (ca cb : Nat) (a b : List Nat) (w : World) (ha : Rd w A (bitVs a)) (hb : Rd w B (bitVs b)) (hal : a.length ≤ maxLen) (hbl : b.length ≤ maxLen) :
    Calls Try.prog 18 #[.slice A a.length ca, .slice B b.length cb] w fun e w' => e = .returned (.bool (decide (a = b))) ∧ Below w.heap.size w w' := by
  have hc := sameU16_any A B ca cb a b w ha hb hal hbl
  clear ha hb hal hbl
  go_enter Try.func18, Try.ntmps18
  go_wp2_with (go_at_call 42; refine hc.mono ?_; rintro e w1 ⟨rfl, hb1⟩)
  go_ret
  exact ⟨rfl, hb1⟩
set_option maxRecDepth 100000 in
set_option maxHeartbeats 1000000 in
theorem ones_13107 (w : World) :
    Calls Try.prog 88 #[.int .u16 13107] w fun e w' => e = .returned (.int .i64 8) ∧ Below w.heap.size w w' := by
  have hb : bits .and .u16 13107 255 = 51 := by decide
  go_enter Try.func88, Try.ntmps88
  go_wp2
  go_region
  go_wp2
  go_ret
  exact ⟨rfl, ⟨rfl, rfl, rfl, Nat.le_refl _, fun _ _ => rfl⟩⟩
theorem count_13107 (w : World) :
    Calls Try.prog 33 #[.int .u16 13107] w fun e w' => e = .returned (.int .i64 8) ∧ Below w.heap.size w w' := by
  go_enter Try.func33, Try.ntmps33
  go_wp2_with (go_at_call 88; refine (ones_13107 _).mono ?_; rintro e w1 ⟨rfl, hb1⟩)
  go_ret
  exact ⟨rfl, hb1⟩
end Go.Proofs.Ytkdgibabecpdlaa
