/- Proved: the closure of programs.Of that adds a step; for runs that keep what PK says. -/
import Derived.Test.YthhmahmclkmjpaaDoorStA
namespace Go.Proofs.YthhmahmclkmjpaaDoor
open Go.RowKit
def AddP (c : Cx) (i : Nat) (out : List Cd) (o : Nat) (x : Int) (w : World) (r : Ending) (w' : World) : Prop :=
  r = .returned (.int .i64 (out.length : Int)) ∧ PE c w' i (out ++ [(o, x)]) ∧ Kp c w w'
/-- Behind an append to the steps, and its store. -/
theorem PE.app {c : Cx} {w wa w5 : World} {i : Nat} {out : List Cd} {A A5 : Option Addr} {cap c5 o : Nat} {x : Int} (h : PE c w i out) (ho : w.heap[c.b + 1]? = some (.cells #[.slice A out.length cap] 31 (0, 0))) (hr : w.ownsRow c.base 36 2 (.slice A out.length cap) out.length (cdCells out))
    (ha : Below w.heap.size w wa) (h5 : w5.ownsRow c.base 36 2 (.slice A5 (out.length + 1) c5) (out.length + 1) (cdCells out ++ [.int .u8 (o : Int), .int .i32 x])) (hg : wa.grownBy w5 (Value.slice A out.length cap).ownBlock) :
    PE c (w5.setCell ⟨c.b + 1, 0, none⟩ (.slice A5 (out.length + 1) c5)) i (out ++ [(o, x)]) ∧ Kp c w (w5.setCell ⟨c.b + 1, 0, none⟩ (.slice A5 (out.length + 1) c5)) := by
  have hu := grown_upd hg
  have hua : Upd (Value.slice A out.length cap).ownBlock.toList w w5 := by
    have h1 := (Upd.refl (Value.slice A out.length cap).ownBlock.toList w).below ha
    exact h1.trans hu
  have hkb : ∀ k ∈ (Value.slice A out.length cap).ownBlock.toList, k < w.heap.size → k = c.b + 1 ∨ k = c.b + 2 ∨ (c.base ≤ k ∧ ∃ cs fr, w.heap[k]? = some (.cells cs 36 fr)) := fun k hk _ => by
    rcases hr.2 with ⟨h0, _⟩ | ⟨g, c', cur, hv, hbg, hh, _⟩
    · rw [h0] at hk; simp [Value.ownBlock] at hk
    · rw [hv] at hk
      have : k = g := by simpa [Value.ownBlock] using hk
      subst this
      exact .inr (.inr ⟨hbg, cur, _, hh⟩)
  have hk5 : Kp c w w5 := Kp.upd hua hkb
  have hb1 : c.b + 1 ∉ (Value.slice A out.length cap).ownBlock.toList := own_not hr ho (by decide)
  have hb2 : c.b + 2 ∉ (Value.slice A out.length cap).ownBlock.toList := own_not hr h.hat (by decide)
  have h51 := hua.blk hb1 ho
  have h52 := hua.blk hb2 h.hat
  have us : Upd [c.b + 1] w5 (w5.setCell ⟨c.b + 1, 0, none⟩ (.slice A5 (out.length + 1) c5)) := (Upd.refl _ w5).setCell (.inl (by simp)) _
  have hk6 : Kp c w (w5.setCell ⟨c.b + 1, 0, none⟩ (.slice A5 (out.length + 1) c5)) := hk5.trans (Kp.upd us (fun k hk _ => .inl (by simpa using hk)))
  refine ⟨⟨h.k.keep hk6, us.blk (by simp) h52, A5, c5, ?_, ?_⟩, hk6⟩
  · rw [heap_setCell_same w5 (c.b + 1) 0 _ _ (.slice A5 (out.length + 1) c5) h51]; simp
  · have := us.own h5 (own_off (own_not h5 h51 (by decide)))
    rw [cdCells_snoc, List.length_append]
    exact this
set_option maxRecDepth 100000 in
set_option maxHeartbeats 4000000 in
theorem add_any (c : Cx) (i : Nat) (out : List Cd) (o : Nat) (x : Int) (w : World) (h : PE c w i out) (hl : out.length ≤ 4398046511200) :
    Calls Tryd.prog 31 #[.agg #[.int .u8 (o : Int), .int .i32 x], pt (c.b + 1)] w (AddP c i out o x w) := by
  obtain ⟨A, cap, ho, hr⟩ := h.hout
  obtain ⟨o0, o1, of⟩ := cell1 ho
  have hbs : c.base ≤ w.heap.size := by have := h.k.base; omega
  have H := Lib.hid h; have HO := Lib.hid ho; have HR := Lib.hid hr; have Hbs := Lib.hid hbs
  clear h ho hr hbs
  obtain ⟨m, hm⟩ : ∃ m, out.length = m := ⟨_, rfl⟩
  have hm2 : (m : Int) ≤ 4398046511200 := by omega
  have hR2 := HR.out
  rw [hm] at o0 hR2
  have hne := own_ne hR2 HO.out (by decide)
  have Hne := Lib.hid hne; clear hne
  have HR2 := Lib.hid hR2; have Hm := Lib.hid hm
  clear hR2
  have Hl2 : Hid (m ≤ 4398046511200) := Lib.hid (by omega)
  clear hm hl
  have HAL := Lib.hid ((((Below.refl w.heap.size w).alloc (Nat.le_refl _) (.cells #[.int .u8 (o : Int), .int .i32 x] 36)).alloc (by simp) (.cells #[.int .u8 (o : Int), .int .i32 x] 36)))
  go_enter Tryd.func31, Tryd.ntmps31
  go_wp2_with (at_builtin; refine wpList_app rfl rfl Tryd.etCode ((HR2.out.alloc _).alloc _) rfl rfl (Rd.new _ _ _ (World.size_alloc _ _)) (m := 1) rfl (by simp [Value.oneCell']) (by have := Hl2.out; omega) (by have := Hbs.out; simp; omega) ?_; intro v5 w5 h5 hg5 hat5 hb5; have q1 : w5.cell? ⟨c.b + 1, 0, none⟩ = some (.slice A m cap) := (by rw [hg5.cell_far ⟨c.b + 1, 0, none⟩ (by simp; omega) (Ne.symm Hne.out)]; exact (HAL.out.cell (p := ⟨c.b + 1, 0, none⟩) o1).trans o0); have q2 : w5.frozen? ⟨c.b + 1, 0, none⟩ = false := (by rw [hg5.frozen_far ⟨c.b + 1, 0, none⟩ (by simp; omega) (Ne.symm Hne.out)]; exact (HAL.out.frozen (p := ⟨c.b + 1, 0, none⟩) o1).trans of); have q3 : c.b + 1 < w5.heap.size := World.block_lt_of_cell? w5 _ q1; obtain ⟨A5, c5, rfl, -, -, -⟩ := ownsRow_form h5)
  have h5' := h5
  rw [← Hm.out] at h5'
  rw [← Hm.out] at hg5
  have HP := Lib.hid (PE.app H.out HO.out HR.out (((Below.refl w.heap.size w).alloc (Nat.le_refl _) _).alloc (by simp) _) h5' hg5)
  go_ret
  have e : out.length = m := Hm.out
  subst e
  exact ⟨rfl, HP.out.1, HP.out.2⟩
end Go.Proofs.YthhmahmclkmjpaaDoor
