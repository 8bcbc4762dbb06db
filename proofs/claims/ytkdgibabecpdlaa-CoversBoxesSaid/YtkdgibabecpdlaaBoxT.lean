/- Proved: the statement CoversBoxesSaid; it has no conditions of ours. -/
import Derived.Test.YtkdgibabecpdlaaFrame
import Derived.Test.YtkdgibabecpdlaaBoxW
import Derived.OpenShut
namespace Go.Proofs.Ytkdgibabecpdlaa
open Go.ChangeShapes Go.WideShapes Go.ChangeAt Go.RowKit
set_option maxRecDepth 100000 in
theorem open_ints2 {H : Type} {enc : TypeId × Value → H} {W : World} {r : Reach} {b0 b1 : Nat} {sp : Nat → Bool} {v : Value} {d : DataW H} {p : List MemPlace} (hv : Value.okWide Try.prog W r b0 63 v) (h : DataW.Trod enc Try.prog W b1 sp true 63 v d p) :
    ∃ x y, v = .agg #[.int .i32 x, .int .i32 y] ∧ (-2147483648 ≤ x ∧ x ≤ 2147483647) ∧ (-2147483648 ≤ y ∧ y ≤ 2147483647) := by
  simp only [Value.okWide, Try.underlying63] at hv
  obtain ⟨cs, rfl, hsz, _⟩ := hv
  have hsz2 : cs.size = 2 := by rw [hsz]; kernel_rfl
  obtain ⟨c0, c1, rfl⟩ : ∃ c0 c1, cs = #[c0, c1] := by
    match cs, hsz2 with
    | ⟨[a, b]⟩, _ => exact ⟨a, b, rfl⟩
  obtain ⟨fuel, hf⟩ := h
  obtain ⟨xs, m, _, _, _, hl, hx⟩ := DataW.trod_array Try.underlying63 hf
  have hc1 : Try.prog.cellsOf 21 = 1 := by kernel_rfl
  rw [hc1] at hx
  have h0 := hx 0 (by decide)
  have h1 := hx 1 (by decide)
  match xs, hl with
  | [y0, y1], _ =>
    obtain ⟨n1, e1, _, w1⟩ := DataW.trod_int Try.underlying21 (cs := [c0]) (by simpa [Value.cells] using h0)
    obtain ⟨n2, e2, _, w2⟩ := DataW.trod_int Try.underlying21 (cs := [c1]) (by simpa [Value.cells] using h1)
    injection e1 with e1 _
    injection e2 with e2 _
    subst e1 e2
    exact ⟨n1, n2, rfl, by simpa [Lit.wf, IntKind.min, IntKind.max, IntKind.bits, IntKind.signed] using w1, by simpa [Lit.wf, IntKind.min, IntKind.max, IntKind.bits, IntKind.signed] using w2⟩

set_option maxRecDepth 100000 in
theorem box_lifted (os : Os) (started : os.Started) (H : Type) (enc : TypeId × Value → H) :
    ReturnsInHanded {} Try.checked os 7 .any (Rows.coversBoxesSpec.pre6 enc Try.prog Try.f7 Rows.coversBoxesRow.domain false) (Rows.coversBoxesSpec.post enc Try.prog Try.f7 false true false false) := by
  refine returnsInHanded_of_change (C := Try.checked) Try.own started (by kernel_rfl) Try.func7
    (ChangeSpec.witness6 (enc := enc) (C := Try.checked) false ⟨#[], #[.agg #[.int .i32 0, .int .i32 0], .agg #[.int .i32 0, .int .i32 0], .agg #[.int .i64 0, .int .i64 0]], []⟩ 8 (by kernel_rfl) (by kernel_rfl) (by kernel_rfl) (by kernel_rfl)) ?_
  intro W base args ds gs before hval0 hW hcnd _
  have hval : ∀ (j : Nat) t v, Try.f7.params[j]? = some t → args[j]? = some v → Value.okWide Try.prog W .any base t v := hval0
  have hW' := hW
  have hlt : ∀ p ∈ before, p.block < W.heap.size := fun p hp => hW.lt p hp
  obtain ⟨p, q, hA0, hV, rfl, hfz, hnd⟩ := hW
  have hA : DataW.TrodAll enc Try.prog W 0 (fun _ => true) true Try.f7.params.toList args.toList ds p := hA0
  rw [Try.params7] at hA hval
  obtain ⟨v0, v1, v2, d0, d1, d2, p0, p1, p2, rfl, rfl, rfl, h0, h1, h2⟩ := trodAll_three hA
  obtain ⟨rfl, rfl⟩ := trodVars_none hV
  obtain ⟨x0, x1, rfl, hx0, hx1⟩ := open_ints2 (hval 0 63 v0 rfl rfl) h0
  obtain ⟨y0, y1, rfl, hy0, hy1⟩ := open_ints2 (hval 1 63 v1 rfl rfl) h1
  obtain ⟨px, py, rfl, _, _⟩ := open_dot (hval 2 53 v2 rfl rfl) h2
  clear hA0 hval0
  simp only [List.append_nil] at hW' hlt
  refine (box_walk x0 x1 y0 y1 px py W hx0 hx1 hy0 hy1).mono fun e W' ⟨he, hb⟩ => ?_
  subst he
  have q0 : ∀ z ∈ p0, z.block < W.heap.size := fun z hz => hlt z (by simp [hz])
  have q1 : ∀ z ∈ p1, z.block < W.heap.size := fun z hz => hlt z (by simp [hz])
  have q2 : ∀ z ∈ p2, z.block < W.heap.size := fun z hz => hlt z (by simp [hz])
  exact ⟨_, rfl, post_of_below (pa := p0 ++ (p1 ++ p2)) (pv := []) hW' (fun _ _ _ => trodAll_mk1 (shut_bool Try.underlying4 _))
    (fun sp hsp => trodAll_mk3 (stays (by kernel_rfl) (by decide +kernel) h0 hb q0 sp (fun z hz => hsp z (by simp [hz]))) (stays (by kernel_rfl) (by decide +kernel) h1 hb q1 sp (fun z hz => hsp z (by simp [hz]))) (stays (by kernel_rfl) (by decide +kernel) h2 hb q2 sp (fun z hz => hsp z (by simp [hz]))))
    (fun _ _ => rfl) (by simp) hb (ok_one (by kernel_rfl) rfl (okWide_bool_mk Try.underlying4 _))⟩

theorem coversBoxes_holds : Rows.CoversBoxesSaid :=
  OpenClaim.holds_of_wide 7 Try.f7 rfl rfl rfl rfl rfl rfl rfl ⟨rfl, rfl, rfl, rfl, rfl⟩ rfl rfl rfl rfl rfl (by kernel_rfl) Try.func7 (by kernel_rfl)
    (of_decide_eq_true (by kernel_rfl)) (by unfold Func.isWrapper; first | (rw [if_pos (by decide +kernel)]; kernel_rfl) | (rw [if_neg (by decide +kernel)]; exact ⟨rfl, rfl⟩))
    (fun os started H enc _ => box_lifted os started H enc)
end Go.Proofs.Ytkdgibabecpdlaa
