/- Proved: the closure that asks whether an edge meets a height; for every edge and height. -/
import Derived.Test.YtkdgibabecpdlaaHeap4
namespace Go.Proofs.Ytkdgibabecpdlaa
open Go.RowKit

/-- Does an edge meet the height? -/
def meetE (y : Int) (e : Edge) : Bool := meetsB e.1.2 e.2.1.2 y

set_option maxHeartbeats 1000000 in
theorem at1_any (ax ay bx by' t y : Int) (Y : Nat) (w : World) (hy : w.cell? ⟨Y, 0, none⟩ = some (.int .i64 y)) :
    Calls Try.prog 93 #[.agg #[.int .i64 ax, .int .i64 ay, .int .i64 bx, .int .i64 by', .int .i64 t], .pointer (some ⟨Y, 0, none⟩)] w fun e w' =>
      e = .returned (.bool (!meetsB ay by' y)) ∧ Below w.heap.size w w' := by
  have hlt := World.block_lt_of_cell? w _ hy
  go_enter Try.func93, Try.ntmps93
  go_wp2_with (go_at_call 83; refine (meets_any _ _ _ _ _ _ _).mono ?_; rintro e w1 ⟨rfl, hb1⟩)
  go_ret
  exact ⟨rfl, ((Below.refl _ _).alloc (Nat.le_refl _) _).trans (hb1.mono (by simp))⟩

def SomeIdx (y : Int) (l : List Edge) (e : Ending) : Prop :=
  (e = .returned (.int .i64 (-1)) ∧ l.all (meetE y) = true) ∨ ∃ k : Nat, e = .returned (.int .i64 k) ∧ k < l.length ∧ (l.take k).all (meetE y) = true ∧ (l.drop k).head?.any (fun e => !meetE y e) = true

set_option maxHeartbeats 1000000 in
theorem indexEdge_any (A : Option Addr) (cap : Nat) (l : List Edge) (y : Int) (Y : Nat) (w : World) (h : Rd w A (edgeCells l)) (hy : w.cell? ⟨Y, 0, none⟩ = some (.int .i64 y)) (hl : l.length ≤ 1000000) :
    Calls Try.prog 95 #[.slice A l.length cap, .func (.func 93) #[] #[.pointer (some ⟨Y, 0, none⟩)]] w fun e w' => SomeIdx y l e ∧ Below w.heap.size w w' := by
  have hYlt := World.block_lt_of_cell? w _ hy
  go_enter Try.func95, Try.ntmps95
  go_wp2
  go_loopw [8] (fun v8 wr => ∃ k : Nat, k ≤ l.length ∧ v8 = .int .i64 k ∧ Below w.heap.size w wr ∧ (l.take k).all (meetE y) = true) (fun v8 _ => l.length - (intOf v8).toNat)
  case atStart => exact ⟨0, by omega, rfl, Below.refl _ _, by simp⟩
  case round =>
    obtain ⟨k, hk, rfl, hb, hall⟩ := hrel
    by_cases hlt : k < l.length
    · obtain ⟨b, off, rfl, hbl, c0, c1, c2, c3, c4⟩ := h.edge (List.getElem?_eq_getElem hlt)
      have hdrop : l.drop k = l[k] :: l.drop (k + 1) := List.drop_eq_getElem_cons hlt
      have htake : l.take (k + 1) = l.take k ++ [l[k]] := List.take_succ_eq_append_getElem hlt
      generalize l[k] = d at *
      obtain ⟨⟨ax, ay⟩, ⟨bx, by'⟩, t⟩ := d
      rw [← hb.cell (p := ⟨b, off + k * 5, none⟩) hbl] at c0
      rw [← hb.cell (p := ⟨b, off + k * 5 + 1, none⟩) hbl] at c1
      rw [← hb.cell (p := ⟨b, off + k * 5 + 2, none⟩) hbl] at c2
      rw [← hb.cell (p := ⟨b, off + k * 5 + 3, none⟩) hbl] at c3
      rw [← hb.cell (p := ⟨b, off + k * 5 + 4, none⟩) hbl] at c4
      have hy' := hy
      rw [← hb.cell (p := ⟨Y, 0, none⟩) hYlt] at hy'
      have Hall := Lib.hid hall; have Hd := Lib.hid hdrop; have Ht := Lib.hid htake; have Hh := Lib.hid h; have Hb := Lib.hid hb; have Hy := Lib.hid hy
      clear hall hdrop htake h hb hy
      by_cases hf : meetsB ay by' y = true
      · go_wp2_with fail
        refine (at1_any _ _ _ _ _ y Y _ hy').mono ?_
        rintro e w1 ⟨rfl, hb1⟩
        have Hb1 := Lib.hid hb1; clear hb1
        go_wp2_with fail
        go_roundw
        case rel =>
          refine ⟨k + 1, by omega, by go_num, Hb.out.trans (Hb1.out.mono Hb.out.size), ?_⟩
          rw [Ht.out, List.all_append, Hall.out]; simp [meetE, hf]
        case measure => simp [intOf]; omega
      · have hf' : meetsB ay by' y = false := by simpa using hf
        clear hf
        go_wp2_with fail
        refine (at1_any _ _ _ _ _ y Y _ hy').mono ?_
        rintro e w1 ⟨rfl, hb1⟩
        have Hb1 := Lib.hid hb1; clear hb1
        go_wp2_with fail
        go_ret
        refine ⟨.inr ⟨k, rfl, hlt, Hall.out, ?_⟩, Hb.out.trans (Hb1.out.mono Hb.out.size)⟩
        rw [Hd.out]; simp [meetE, hf']
    · have hkl : k = l.length := by omega
      go_wp2
      go_ret
      refine ⟨.inl ⟨rfl, ?_⟩, hb⟩
      subst hkl
      rwa [List.take_length] at hall
end Go.Proofs.Ytkdgibabecpdlaa
