/- Proved: heap.Init orders as its plain law says; for rows of edges in memory of their own. -/
import Derived.Test.YtkdgibabecpdlaaHeap3
namespace Go.Proofs.Ytkdgibabecpdlaa
open Go.RowKit

set_option maxRecDepth 100000 in
set_option maxHeartbeats 1000000 in
theorem waitPop_any (S base g cap : Nat) (l : List Edge) (w : World) (hc : w.cell? ⟨S, 0, none⟩ = some (.slice (some ⟨g, 0, none⟩) l.length cap)) (hf : w.frozen? ⟨S, 0, none⟩ = false)
    (h : RowE w base g cap l) (hne : S ≠ g) (hn : 0 < l.length) (hl : l.length ≤ 1000000) :
    Calls Try.prog 116 #[.pointer (some ⟨S, 0, none⟩)] w fun e w' => (∃ v, e = .returned v) ∧ ∃ o, w' = (w.setCell ⟨S, 0, none⟩ (.slice (some ⟨g, 0, none⟩) (l.length - 1) cap)).alloc o := by
  have hlt : l.length - 1 < l.length := by omega
  obtain ⟨b, off, e, -, a0, a1, a2, a3, a4⟩ := h.rd.edge (List.getElem?_eq_getElem hlt)
  injection e with e; injection e with e1 e2; subst e1 e2
  simp only [Nat.zero_add] at *
  have hS : S < w.heap.size := World.block_lt_of_cell? w _ hc
  have hcap : l.length ≤ cap := by
    obtain ⟨A, c, e, hle, -, -⟩ := ownsRow_form h
    injection e with _ _ e3; rw [e3]; exact hle
  generalize l[l.length - 1] = x at *
  have H := Lib.hid h; clear h
  have hz : ((l.length : Int) - 1) = ((l.length - 1 : Nat) : Int) := by omega
  have hidx : (0 : Int) ≤ ((l.length - 1 : Nat) : Int) := by omega
  have hcap' : ((l.length - 1 : Nat) : Int) ≤ (cap : Int) := by omega
  go_enter Try.func116, Try.ntmps116
  go_wp2_with fail
  go_ret
  exact ⟨⟨_, rfl⟩, _, rfl⟩

set_option maxRecDepth 100000 in
set_option maxHeartbeats 1000000 in
theorem heapDown_0 (v : Value) (w : World) : Calls Try.prog 90 #[v, .int .i64 0, .int .i64 0] w fun e w' => RetBool e ∧ w = w' := by
  go_enter Try.func90, Try.ntmps90
  go_wp2_with fail
  refine wp_loop_rounds 1 ?_
  rw [rounds_succ]
  go_wp2
  go_ret
  exact ⟨⟨_, rfl⟩, rfl⟩

theorem heapDown_all (S base g cap : Nat) (l : List Edge) (n : Nat) (x : Int) (w : World) (hx : x = n) (hc : w.cell? ⟨S, 0, none⟩ = some (.slice (some ⟨g, 0, none⟩) l.length cap)) (h : RowE w base g cap l) (hne : S ≠ g) (hn : n ≤ l.length) (hl : l.length ≤ 1000000) :
    Calls Try.prog 90 #[.iface 83 (.pointer (some ⟨S, 0, none⟩)), .int .i64 0, .int .i64 x] w fun e w' => RetBool e ∧ RowE w' base g cap (downF n l 0 n) ∧ w.grownBy w' (some g) := by
  subst hx
  rcases Nat.eq_zero_or_pos n with rfl | hp
  · exact (heapDown_0 _ w).mono fun e w' ⟨h1, h2⟩ => by subst h2; exact ⟨h1, h, World.grownBy.refl _ _⟩
  · exact heapDown_any S base g cap l 0 n w hc h hne hn hp hl

def popF (l : List Edge) : List Edge := (downF (l.length - 1) (swapL l 0 (l.length - 1)) 0 (l.length - 1)).take (l.length - 1)

set_option maxRecDepth 100000 in
set_option maxHeartbeats 1000000 in
theorem heapPop_any (S base g cap : Nat) (l : List Edge) (cs : Array Value) (t : TypeId) (w : World) (hS : w.heap[S]? = some (.cells cs t (0, 0))) (hc0 : cs[0]? = some (.slice (some ⟨g, 0, none⟩) l.length cap))
    (h : RowE w base g cap l) (hne : S ≠ g) (hn : 0 < l.length) (hl : l.length ≤ 1000000) :
    Calls Try.prog 91 #[.iface 83 (.pointer (some ⟨S, 0, none⟩))] w fun e w' => (∃ v, e = .returned v) ∧ RowE w' base g cap (popF l) ∧
      w'.heap[S]? = some (.cells (cs.setIfInBounds 0 (.slice (some ⟨g, 0, none⟩) (l.length - 1) cap)) t (0, 0)) ∧ Upd [S, g] w w' := by
  have hc : w.cell? ⟨S, 0, none⟩ = some (.slice (some ⟨g, 0, none⟩) l.length cap) := (cell_of_row w S 0 cs t (0, 0) hS).trans hc0
  have hz : ((l.length : Int) - 1) = ((l.length - 1 : Nat) : Int) := by omega
  have me := fun n => method_len n w ⟨S, 0, none⟩ hc
  have ms := fun n => method_swap n w ⟨S, 0, none⟩ hc
  have mp := fun n W => method_pop n W ⟨S, 0, none⟩
  have H := Lib.hid h; have HS := Lib.hid hS; have HC := Lib.hid hc; have H0 := Lib.hid hc0
  clear h hS hc hc0
  go_enter Try.func91, Try.ntmps91
  go_wp2_with (go_at_call 113; refine (waitLen_any _ _ _ _).mono ?_; rintro e w1 ⟨rfl, rfl⟩)
  refine (waitSwap_any base g cap l 0 (l.length - 1) _ _ _ H.out (by omega) (by omega) (by omega) (by omega)).mono ?_
  rintro e w1 ⟨rfl, hr1, hg1⟩
  have hc1 := grown_cell hg1 HC.out hne
  rw [← swapL_len l 0 (l.length - 1)] at hc1
  have Hr1 := Lib.hid hr1; have Hg1 := Lib.hid hg1; have Hc1 := Lib.hid hc1
  clear hr1 hg1 hc1
  go_wp2_with fail
  refine (heapDown_all S base g cap (swapL l 0 (l.length - 1)) (l.length - 1) _ _ (by omega) Hc1.out Hr1.out hne (by rw [swapL_len]; omega) (by rw [swapL_len]; omega)).mono ?_
  rintro e w2 ⟨⟨b, rfl⟩, hr2, hg2⟩
  have hlen : (downF (l.length - 1) (swapL l 0 (l.length - 1)) 0 (l.length - 1)).length = l.length := by rw [downF_len, swapL_len]
  have hc2 := grown_cell hg2 Hc1.out hne
  rw [swapL_len, ← hlen] at hc2
  have hS1 : w1.heap[S]? = some (.cells cs t (0, 0)) := (Hg1.out.block S (Array.getElem?_eq_some_iff.1 HS.out).1 (by simpa using hne)).trans HS.out
  have hS2 : w2.heap[S]? = some (.cells cs t (0, 0)) := (hg2.block S (Array.getElem?_eq_some_iff.1 hS1).1 (by simpa using hne)).trans hS1
  have Hr2 := Lib.hid hr2; have Hg2 := Lib.hid hg2; have Hc2 := Lib.hid hc2; have Hl := Lib.hid hlen; have HS2 := Lib.hid hS2
  clear hr2 hg2 hc2 hlen hS1 hS2
  go_wp2_with fail
  refine (waitPop_any S base g cap _ _ Hc2.out (frozen_of_row w2 S 0 cs t HS2.out) Hr2.out hne (by rw [Hl.out]; omega) (by rw [Hl.out]; omega)).mono ?_
  rintro e w3 ⟨⟨v, rfl⟩, o, rfl⟩
  have hw : w2.heap.size ≠ S := by have := (Array.getElem?_eq_some_iff.1 HS2.out).1; omega
  go_wp2_with fail
  go_ret
  refine ⟨⟨_, rfl⟩, ?_, ?_, ?_⟩
  · have h3 := Hr2.out.take (k := l.length - 1) (by rw [Hl.out]; omega)
    exact Upd.own (((Upd.refl [S] w2).setCell (p := ⟨S, 0, none⟩) (.inl (by simp)) _).alloc o) h3 (fun k hk => by simp [Value.ownBlock] at hk; subst hk; simpa using hne.symm)
  · rw [Hl.out]
    have hlt : S < (w2.setCell ⟨S, 0, none⟩ (.slice (some ⟨g, 0, none⟩) (l.length - 1) cap)).heap.size := by have := (Array.getElem?_eq_some_iff.1 HS2.out).1; simpa using this
    rw [Below.heap_alloc _ _ _ hlt]
    exact heap_setCell_same w2 S 0 cs t _ HS2.out
  · refine (((Upd.refl [S, g] w).grown Hg1.out (fun x hx => ?_)).grown Hg2.out (fun x hx => ?_)).setCell (p := ⟨S, 0, none⟩) (.inl (by simp)) _ |>.alloc o
    · injection hx with hx; subst hx; simp
    · injection hx with hx; subst hx; simp
end Go.Proofs.Ytkdgibabecpdlaa
