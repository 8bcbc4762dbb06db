/- Proved: heap.Pop takes what its plain law says; for rows of edges in memory of their own. -/
import Derived.Test.YtkdgibabecpdlaaHeap2
namespace Go.Proofs.Ytkdgibabecpdlaa
open Go.RowKit

def initF (n : Nat) : Nat → List Edge → List Edge
  | 0, l => l
  | k + 1, l => initF n k (downF n l k n)

theorem downF_len : ∀ (f : Nat) (l : List Edge) (i n : Nat), (downF f l i n).length = l.length
  | 0, _, _, _ => rfl
  | f + 1, l, i, n => by
    unfold downF
    split
    · rfl
    · simp only []
      split <;> split <;> first | rfl | rw [downF_len, swapL_len]

theorem RowE.take {w : World} {base g cap : Nat} {l : List Edge} (h : RowE w base g cap l) {k : Nat} (hk : k ≤ l.length) : RowE w base g cap (l.take k) := by
  obtain ⟨h1, h2⟩ := h
  rcases h2 with ⟨h0, _⟩ | ⟨g', cap', cur, hv, hb, hg, hnc, hm, hs, ht⟩
  · cases h0
  injection hv with hv1 hv2 hv3
  injection hv1 with hv1; injection hv1 with hv1
  subst hv1 hv3
  have hlk : (l.take k).length = k := by simp; omega
  unfold RowE; rw [hlk]
  refine ⟨by rw [edgeCells_len, hlk], .inr ⟨g, cap, cur, rfl, hb, hg, by omega, hm, hs, ?_⟩⟩
  have e : edgeCells l = edgeCells (l.take k) ++ edgeCells (l.drop k) := by rw [← edgeCells_append, List.take_append_drop]
  have e2 : (edgeCells (l.take k)).length = k * 5 := by rw [edgeCells_len, hlk]
  have e3 : cur.toList.take (k * 5) = (cur.toList.take (l.length * 5)).take (k * 5) := by rw [List.take_take, Nat.min_eq_left (by omega)]
  rw [e3, ht, e, ← e2, List.take_left]

set_option maxRecDepth 100000 in
set_option maxHeartbeats 1000000 in
theorem heapInit_none (S : Nat) (A : Option Addr) (cap : Nat) (w : World) (hc : w.cell? ⟨S, 0, none⟩ = some (.slice A 0 cap)) :
    Calls Try.prog 38 #[.iface 83 (.pointer (some ⟨S, 0, none⟩))] w fun e w' => e = .returned (.tuple #[]) ∧ w' = w := by
  have me := fun n => method_len n w ⟨S, 0, none⟩ hc
  go_enter Try.func38, Try.ntmps38
  go_wp2_with (go_at_call 113; refine (waitLen_any _ _ _ _).mono ?_; rintro e w1 ⟨rfl, rfl⟩)
  refine wp_loop_rounds 1 ?_
  rw [rounds_succ]
  go_wp2
  go_end0
  exact ⟨rfl, rfl⟩

set_option maxRecDepth 100000 in
set_option maxHeartbeats 1000000 in
theorem heapInit_any (S base g cap : Nat) (l : List Edge) (w : World) (hc : w.cell? ⟨S, 0, none⟩ = some (.slice (some ⟨g, 0, none⟩) l.length cap)) (h : RowE w base g cap l) (hne : S ≠ g) (hl : l.length ≤ 1000000) :
    Calls Try.prog 38 #[.iface 83 (.pointer (some ⟨S, 0, none⟩))] w fun e w' => e = .returned (.tuple #[]) ∧ RowE w' base g cap (initF l.length (l.length / 2) l) ∧ w.grownBy w' (some g) := by
  have me := fun n => method_len n w ⟨S, 0, none⟩ hc
  go_enter Try.func38, Try.ntmps38
  go_wp2_with (go_at_call 113; refine (waitLen_any _ _ _ _).mono ?_; rintro e w1 ⟨rfl, rfl⟩)
  clear me
  go_loopw [3] (fun v3 wr => ∃ (k : Nat) (m : List Edge), v3 = .int .i64 ((k : Int) - 1) ∧ k ≤ l.length / 2 ∧ m.length = l.length ∧ RowE wr base g cap m ∧ w.grownBy wr (some g) ∧ initF l.length (l.length / 2) l = initF l.length k m) (fun v3 _ => (intOf v3 + 1).toNat)
  case atStart => exact ⟨l.length / 2, l, by simp, by omega, rfl, h, World.grownBy.refl _ _, rfl⟩
  case round =>
    obtain ⟨k, m, rfl, hk, hm, hr, hg, hd⟩ := hrel
    have hcr := grown_cell hg hc hne
    rw [← hm] at hcr
    have Hr := Lib.hid hr; clear hr
    have Hg := Lib.hid hg; clear hg
    have H := Lib.hid h; clear h
    have Hc := Lib.hid hc; clear hc
    have Hm := Lib.hid hm; clear hm
    have Hd := Lib.hid hd; clear hd
    rcases Nat.eq_zero_or_pos k with h0 | hpos
    · subst h0
      go_wp2_with fail
      go_end0
      refine ⟨rfl, ?_, Hg.out⟩
      rw [Hd.out]; exact Hr.out
    · obtain ⟨k, rfl⟩ : ∃ k', k = k' + 1 := ⟨k - 1, by omega⟩
      have hk1 : (((k + 1 : Nat) : Int) - 1) = (k : Int) := by omega
      rw [hk1]
      have hk2 : (0 : Int) ≤ k := by omega
      go_wp2_with fail
      have Hlen := Hm.out
      refine (heapDown_any S base g cap m k l.length _ hcr Hr.out hne (by omega) (by omega) (by omega)).mono ?_
      rintro e w2 ⟨⟨b, rfl⟩, hr2, hg2⟩
      have Hr2 := Lib.hid hr2; clear hr2
      have Hg2 := Lib.hid hg2; clear hg2
      have HL := Lib.hid Hlen; clear Hlen
      go_wp2_with fail
      go_roundw
      case rel => exact ⟨k, downF l.length m k l.length, rfl, by omega, by rw [downF_len]; exact Hm.out, Hr2.out, grown_trans Hg.out Hg2.out, by rw [Hd.out]; rfl⟩
      case measure => simp [intOf]
end Go.Proofs.Ytkdgibabecpdlaa
