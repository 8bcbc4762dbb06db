/- Proved: the statement CoversWindingSaid; it has no conditions of ours. -/
import Derived.Test.YtkdgibabecpdlaaFrame
import Derived.Test.YtkdgibabecpdlaaWindingW
namespace Go.Proofs.Ytkdgibabecpdlaa
open Go.ChangeShapes Go.WideShapes Go.ChangeAt Go.RowKit

set_option maxRecDepth 100000 in
theorem winding_lifted (os : Os) (started : os.Started) (H : Type) (enc : TypeId × Value → H) :
    ReturnsInHanded {} Try.checked os 4 .any (Rows.coversWindingSpec.pre6 enc Try.prog Try.f4 Rows.coversWindingRow.domain false) (Rows.coversWindingSpec.post enc Try.prog Try.f4 false true false false) := by
  refine returnsInHanded_of_change (C := Try.checked) Try.own started (by kernel_rfl) Try.func4
    (ChangeSpec.witness6 (enc := enc) (C := Try.checked) false ⟨#[], #[.slice none 0 0, .agg #[.int .i64 0, .int .i64 0]], []⟩ 8 (by kernel_rfl) (by kernel_rfl) (by kernel_rfl) (by kernel_rfl)) ?_
  intro W base args ds gs before hval0 hW hcnd _
  have hval : ∀ (j : Nat) t v, Try.f4.params[j]? = some t → args[j]? = some v → Value.okWide Try.prog W .any base t v := hval0
  have hW' := hW
  have hlt : ∀ p ∈ before, p.block < W.heap.size := fun p hp => hW.lt p hp
  obtain ⟨p, q, hA0, hV, rfl, hfz, hnd⟩ := hW
  have hA : DataW.TrodAll enc Try.prog W 0 (fun _ => true) true Try.f4.params.toList args.toList ds p := hA0
  rw [Try.params4] at hA hval
  obtain ⟨v0, v1, d0, d1, p0, p1, rfl, rfl, rfl, h0, h1⟩ := trodAll_two hA
  obtain ⟨rfl, rfl⟩ := trodVars_none hV
  obtain ⟨x, y, rfl, wx, wy⟩ := open_dot (hval 1 53 v1 rfl rfl) h1
  obtain ⟨A, cap, l, rfl, hr, hl, hlc, hwf⟩ := open_dots (open_slice_cell Try.underlying51 (hval 0 51 v0 rfl rfl) h0)
  clear hA0 hval0
  simp only [List.append_nil] at hW' hlt
  refine (windingLaw_walk A cap l x y W hr hl).mono fun e W' ⟨he, hb⟩ => ?_
  subst he
  have q0 : ∀ z ∈ p0, z.block < W.heap.size := fun z hz => hlt z (by simp [hz])
  have q1 : ∀ z ∈ p1, z.block < W.heap.size := fun z hz => hlt z (by simp [hz])
  exact ⟨_, rfl, post_of_below (pa := p0 ++ p1) (pv := []) hW' (fun _ _ _ => trodAll_mk1 (shut_bool Try.underlying4 _))
    (fun sp hsp => trodAll_mk2 (stays (by kernel_rfl) (by decide +kernel) h0 hb q0 sp (fun z hz => hsp z (by simp [hz]))) (stays (by kernel_rfl) (by decide +kernel) h1 hb q1 sp (fun z hz => hsp z (by simp [hz]))))
    (fun _ _ => rfl) (by simp) hb (ok_one (by kernel_rfl) rfl (okWide_bool_mk Try.underlying4 _))⟩

theorem coversWinding_holds : Rows.CoversWindingSaid :=
  OpenClaim.holds_of_wide 4 Try.f4 rfl rfl rfl rfl rfl rfl rfl ⟨rfl, rfl, rfl, rfl, rfl⟩ rfl rfl rfl rfl rfl (by kernel_rfl) Try.func4 (by kernel_rfl)
    (of_decide_eq_true (by kernel_rfl)) (by unfold Func.isWrapper; first | (rw [if_pos (by decide +kernel)]; kernel_rfl) | (rw [if_neg (by decide +kernel)]; exact ⟨rfl, rfl⟩))
    (fun os started H enc _ => winding_lifted os started H enc)
end Go.Proofs.Ytkdgibabecpdlaa
