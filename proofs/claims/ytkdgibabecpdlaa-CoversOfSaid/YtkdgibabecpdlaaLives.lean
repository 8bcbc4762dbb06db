/- Proved: the function lives of gouachelaw28 answers true and changes no old memory; in every world. -/
import Derived.Test.YtkdgibabecpdlaaSmall
namespace Go.Proofs.Ytkdgibabecpdlaa
open Go.RowKit

theorem lives_cov : ofRes [(none, 4, [(0, 0), (128, 0), (128, 256), (0, 256)])] false 2 1 = ([13107, 0], 0) := by decide +kernel
theorem lives_cov1 : ofRes [] false 1 1 = ([0], 0) := by decide +kernel
theorem lives_cov2 : ofRes [] false 0 1 = ([], 1) := by decide +kernel
theorem ofRes_addr (P Q : List LineV) (h : P.map (·.2.2) = Q.map (·.2.2)) (even : Bool) (W H : Int) : ofRes P even W H = ofRes Q even W H := by
  have e1 : farL P = farL Q := by
    have : ∀ R : List LineV, farL R = (R.map (·.2.2)).any (fun l => l.any isFarB) := fun R => by simp [farL, List.any_map]; rfl
    rw [this, this, h]
  have e2 : edgesL P = edgesL Q := by
    have : ∀ R : List LineV, edgesL R = (R.map (·.2.2)).flatMap edgesF := fun R => by simp [edgesL, List.flatMap_map]
    rw [this, this, h]
  unfold ofRes; rw [e1, e2]
abbrev boxL : List Dot := [(0, 0), (512, 0), (512, 512), (0, 512)]
set_option maxRecDepth 100000 in
set_option maxHeartbeats 4000000 in
theorem lives_any (w : World) : Calls Try.prog 13 #[] w fun e w' => e = .returned (.bool true) ∧ Below w.heap.size w w' := by
  go_enter Try.func13, Try.ntmps13
  go_wp2_with fail
  refine (box_any 0 0 512 512 w).mono ?_
  rintro e w1 ⟨A1, rfl, hr1, hb1⟩
  go_wp2_with fail
  refine (box_any 0 0 128 256 w1).mono ?_
  rintro e w2 ⟨A2, rfl, hr2, hb2⟩
  go_wp2_with fail
  have hL : Lns (w2.alloc (.cells #[.slice A2 4 4] 51)) (some ⟨w2.heap.size, 0, none⟩) [(A2, 4, [(0, 0), (128, 0), (128, 256), (0, 256)])] :=
    ⟨Rd.new _ _ _ rfl, fun p hp => by
      have := List.mem_singleton.1 hp
      subst this
      exact hr2.below ((Below.refl _ _).alloc (Nat.le_refl _) _)⟩
  refine (coversOf_any _ 1 _ false 2 1 _ hL (by simp) (by simp [sizeL])).mono ?_
  rintro e w3 ⟨v3, rfl, hown3, hb3⟩
  rw [ofRes_addr [(A2, 4, [(0, 0), (128, 0), (128, 256), (0, 256)])] [(none, 4, [(0, 0), (128, 0), (128, 256), (0, 256)])] rfl, lives_cov] at *
  obtain ⟨A3, c3, rfl, -, hr3, -⟩ := ownsRow_form hown3
  have hB3 : Below w2.heap.size w2 w3 := ((Below.refl _ _).alloc (Nat.le_refl _) _).trans (hb3.mono (by simp))
  clear hb3 hown3 hL
  go_wp2_with fail
  refine (coversOf_any none 0 [] false 1 1 _ ⟨Rd.nil _ _, fun p hp => absurd hp (by simp)⟩ (by decide) (by decide)).mono ?_
  rintro e w4 ⟨v4, rfl, hown4, hb4⟩
  rw [lives_cov1] at *
  obtain ⟨A4, c4, rfl, -, hr4, -⟩ := ownsRow_form hown4
  clear hown4
  go_wp2_with fail
  refine (coversOf_any none 0 [] false 0 1 _ ⟨Rd.nil _ _, fun p hp => absurd hp (by simp)⟩ (by decide) (by decide)).mono ?_
  rintro e w5 ⟨v5, rfl, hown5, hb5⟩
  rw [lives_cov2] at *
  clear hown5
  go_wp2_with fail
  have hA3 : Rd (w5.alloc (.cells #[.int .u16 13107, .int .u16 0] 65)) A3 (bitVs [13107, 0]) := (((hr3.below hb4).below hb5)).below ((Below.refl _ _).alloc (Nat.le_refl _) _)
  refine (sameBits_any A3 _ c3 2 [13107, 0] [13107, 0] _ hA3 (Rd.new _ _ _ rfl) (by decide) (by decide)).mono ?_
  rintro e w6 ⟨rfl, hb6⟩
  have hB6 : Below w5.heap.size w5 w6 := ((Below.refl _ _).alloc (Nat.le_refl _) _).trans (hb6.mono (by simp))
  clear hb6 hA3 hr3
  go_wp2_with fail
  have hA4 : Rd (w6.alloc (.cells #[.int .u16 0] 65)) A4 (bitVs [0]) := ((hr4.below hb5).below hB6).below ((Below.refl _ _).alloc (Nat.le_refl _) _)
  refine (sameBits_any A4 _ c4 1 [0] [0] _ hA4 (Rd.new _ _ _ rfl) (by decide) (by decide)).mono ?_
  rintro e w7 ⟨rfl, hb7⟩
  have hB7 : Below w6.heap.size w6 w7 := ((Below.refl _ _).alloc (Nat.le_refl _) _).trans (hb7.mono (by simp))
  clear hb7 hA4 hr4
  go_wp2_with fail
  refine (count_13107 _).mono ?_
  rintro e w8 ⟨rfl, hb8⟩
  go_wp2_with fail
  have hB1 : Below w1.heap.size w1 w8 := by
    have z2 := hb2.size; have z3 := hB3.size; have z4 := hb4.size; have z5 := hb5.size; have z6 := hB6.size; have z7 := hB7.size
    exact (((((hb2.trans (hB3.mono (by omega))).trans (hb4.mono (by omega))).trans (hb5.mono (by omega))).trans (hB6.mono (by omega))).trans (hB7.mono (by omega))).trans (hb8.mono (by omega))
  have hr8 := hr1.below hB1
  have hB0 : Below w.heap.size w w8 := hb1.trans (hB1.mono hb1.size)
  clear hb2 hB3 hb4 hb5 hB6 hB7 hb8 hB1 hr1 hr2 hb1
  refine (winding_any A1 4 boxL 256 256 _ hr8 (by decide)).mono ?_
  rintro e w9 ⟨rfl, hb9⟩
  rw [show windF boxL (256, 256) = 1 by decide +kernel]
  go_wp2_with fail
  refine (turned_any A1 4 boxL _ (hr8.below hb9) (by decide)).mono ?_
  rintro e w10 ⟨v10, rfl, hown10, hb10⟩
  obtain ⟨A10, c10, rfl, -, hr10, -⟩ := ownsRow_form hown10
  clear hown10
  go_wp2_with fail
  refine (winding_any A10 c10 boxL.reverse 256 256 _ hr10 (by decide)).mono ?_
  rintro e w11 ⟨rfl, hb11⟩
  rw [show windF boxL.reverse (256, 256) = -1 by decide +kernel]
  have hB11 : Below w8.heap.size w8 w11 := by
    have z2 := hb9.size; have z3 := hb10.size
    exact (hb9.trans (hb10.mono (by omega))).trans (hb11.mono (by omega))
  clear hb9 hb10 hb11 hr10
  go_wp2_with fail
  refine (winding_any A1 4 boxL 0 0 _ (hr8.below hB11) (by decide)).mono ?_
  rintro e w12 ⟨rfl, hb12⟩
  rw [show windF boxL (0, 0) = 1 by decide +kernel]
  go_wp2_with fail
  refine (winding_any A1 4 boxL 512 0 _ ((hr8.below hB11).below hb12) (by decide)).mono ?_
  rintro e w13 ⟨rfl, hb13⟩
  rw [show windF boxL (512, 0) = 0 by decide +kernel]
  go_wp2_with fail
  refine (winding_any A1 4 boxL 0 512 _ (((hr8.below hB11).below hb12).below hb13) (by decide)).mono ?_
  rintro e w14 ⟨rfl, hb14⟩
  rw [show windF boxL (0, 512) = 0 by decide +kernel]
  go_wp2_with fail
  go_ret
  refine ⟨rfl, ?_⟩
  have z0 := hB0.size; have z1 := hB11.size; have z2 := hb12.size; have z3 := hb13.size
  exact (((hB0.trans (hB11.mono (by omega))).trans (hb12.mono (by omega))).trans (hb13.mono (by omega))).trans (hb14.mono (by omega))
end Go.Proofs.Ytkdgibabecpdlaa
