/- Proved: the tied card ProgramsNumberCardSaid; it has no conditions of ours. -/
import Derived.Test.YthhmahmclkmjpaaDoorFrameT
import Derived.Test.YthhmahmclkmjpaaDoorRefNum
import Derived.Lib.SmallJoins
namespace Go.Proofs.YthhmahmclkmjpaaDoor
open Go.ChangeShapes Go.WideShapes Go.ChangeAt Go.RowKit Go.ChangeMaps

section
variable {H : Type} {enc : TypeId × Value → H}
set_option maxRecDepth 100000 in
theorem open_tok1 {W : World} {r : Reach} {b0 b1 : Nat} {sp : Nat → Bool} {v : Value} {d : DataW H} {p : List MemPlace} (hv : Value.okWide Tryd.prog W r b0 24 v) (h : DataW.Trod enc Tryd.prog W b1 sp true 24 v d p) (hw : ∀ n ∈ d.weights Tryd.prog 24, n ≤ reachBytes) :
    ∃ (k : Nat) (s : ByteArray) (p0 : Int), v = .agg #[.int .u8 (k : Int), .string s, .int .i64 p0] ∧ k < 256 ∧ s.size ≤ 140737488355328 := by
  obtain ⟨v0, v1, v2, y0, y1, y2, n, rfl, hd, _, h0, h1, h2⟩ := Joins.open_agg3 Tryd.underlying24 (by kernel_rfl) (by kernel_rfl) hv h
  obtain ⟨n0, e0, q0, w0⟩ := DataW.trod_int Tryd.underlying22 h0
  obtain ⟨s1, e1, q1, w1⟩ := DataW.trod_string Tryd.underlying9 h1
  obtain ⟨n2, e2, q2, w2⟩ := DataW.trod_int Tryd.underlying3 h2
  injection e0 with e0 _; injection e1 with e1 _; injection e2 with e2 _
  subst e0 e1 e2
  have hw0 : 0 ≤ n0 ∧ n0 ≤ 255 := by simpa [Lit.wf, IntKind.min, IntKind.max, IntKind.bits, IntKind.signed] using w0
  obtain ⟨m0, rfl⟩ : ∃ m : Nat, n0 = m := ⟨n0.toNat, by omega⟩
  refine ⟨m0, s1, n2, rfl, by omega, ?_⟩
  have := hw s1.data.toList.length (by
    rw [hd, q0, q1, q2]
    simp [DataW.weights, Tryd.underlying24, DataW.weightsEach])
  have hr := reachBytes_lt
  rw [Lib.size_eq]
  omega
end
set_option maxRecDepth 100000 in
theorem number_lifted (os : Os) (started : os.Started) (H : Type) (enc : TypeId × Value → H) :
    ReturnsInHanded {} Tryd.checked os 3 .any (fun w args => (Rows.programsNumberSpec.pre enc Tryd.prog Tryd.f3 Rows.programsNumberRow.domain false w args ∧ laidMetH Tryd.prog Rows.programsNumberRow.laid w) ∧ sizedMet enc Tryd.prog Tryd.f3 (OpenSpec.ofChange Rows.programsNumberSpec) false w args)
      (Rows.programsNumberSpec.post enc Tryd.prog Tryd.f3 false true false false) := by
  refine returnsInHanded_of_change_and (C := Tryd.checked) (X := fun w _ => laidMetH Tryd.prog Rows.programsNumberRow.laid w) (fun _ _ _ hh h => h.of_heap hh) Tryd.own started (by kernel_rfl) Tryd.func3
    (ChangeSpec.witness_shaped (enc := enc) (C := Tryd.checked) (os := os) (X := fun w _ => laidMetH Tryd.prog Rows.programsNumberRow.laid w) false (World.laidAll Tryd.prog os Rows.programsNumberRow.laid) #[.agg #[.int .u8 0, .string ⟨#[]⟩, .int .i64 0]] 8 (World.laidAll_os _ _ _)
      (World.shaped_of_ZipB (by kernel_rfl) (by kernel_rfl)) (by kernel_rfl) (by kernel_rfl) (by kernel_rfl)
      (by rw [MakeChecks.laidMetH_plain _ _ _ (by kernel_rfl)]; exact laidMet_laidAll _ (by kernel_rfl) (by kernel_rfl))) ?_
  intro W base args ds gs before hval0 hW _ hsz0 hL _
  have hsz : (DataW.weightsEach Tryd.prog (Tryd.f3.params.toList ++ Rows.programsNumberSpec.plain.varTypes Tryd.prog) (ds ++ gs)).all (· ≤ reachBytes) = true := hsz0
  clear hsz0
  have hval : ∀ (j : Nat) t v, Tryd.f3.params[j]? = some t → args[j]? = some v → Value.okWide Tryd.prog W .any base t v := hval0
  have hW' := hW
  have hlt : ∀ p ∈ before, p.block < W.heap.size := fun p hp => hW.lt p hp
  obtain ⟨p, q, hA0, hV, rfl, _, _⟩ := hW
  have hA : DataW.TrodAll enc Tryd.prog W 0 (fun _ => true) true Tryd.f3.params.toList args.toList ds p := hA0
  rw [Tryd.params3] at hA hval hsz
  obtain ⟨v0, d0, rfl, rfl, h0⟩ := trodAll_one hA
  obtain ⟨rfl, rfl⟩ := trodVars_none hV
  rw [MakeChecks.laidMetH_plain _ _ _ (by kernel_rfl)] at hL
  obtain ⟨hT, hG⟩ := spaceTab_of hL (.tail _ (.tail _ (.head _)))
  obtain ⟨k, s, p0, rfl, hk, hs⟩ := open_tok1 (hval 0 24 v0 rfl rfl) h0 (fun x hx => by
    refine of_decide_eq_true (List.all_eq_true.1 hsz x ?_)
    simp only [List.cons_append, List.nil_append, DataW.weightsEach, List.mem_append]
    exact .inl hx)
  obtain ⟨fuel, hf⟩ := h0
  clear hA0 hval0
  simp only [List.append_nil] at hW' hlt
  refine (number_walk k s p0 W hk hs hT hG).mono fun e W' ⟨he, hb⟩ => ?_
  subst he
  have q0 : ∀ z ∈ p, z.block < W.heap.size := hlt
  exact ⟨_, rfl, post_of_below (pa := p) (pv := []) hW' (fun _ _ _ => trodAll_mk1 (shut_bool Tryd.underlying4 _))
    (fun sp hsp => trodAll_mk1 (stays (by kernel_rfl) (by decide +kernel) ⟨fuel, hf⟩ hb q0 sp hsp))
    (fun _ _ => rfl) (by simp) hb (ok_one (by kernel_rfl) rfl (okWide_bool_mk Tryd.underlying4 _))⟩

theorem programsNumber_row : Rows.ProgramsNumberSaid :=
  OpenClaim.holds_of_wide 3 Tryd.f3 rfl rfl rfl rfl rfl rfl rfl ⟨rfl, rfl, rfl, rfl, rfl⟩ rfl rfl rfl rfl rfl (by kernel_rfl) Tryd.func3 (by kernel_rfl)
    (of_decide_eq_true (by kernel_rfl)) (by unfold Func.isWrapper; first | (rw [if_pos (by decide +kernel)]; kernel_rfl) | (rw [if_neg (by decide +kernel)]; exact ⟨rfl, rfl⟩))
    (fun os started H enc _ => number_lifted os started H enc)
theorem programsNumber_holds : Rows.ProgramsNumberCardSaid :=
  Claim7.holds_tied_plain_at .later [] [.data, .listed, .data, .pinned] true Rows.programsNumberCard.stood.harness true programsNumber_row (fun _ h => by cases h) (by kernel_rfl) (fun _ h => by cases h) programsNumber_row_tie rfl ⟨rfl, rfl⟩ (by kernel_rfl) rfl
    (fun f fn hf hfn => by
      obtain rfl : f = 3 := Option.some.inj ((show Tryd.prog.funcNamed Rows.programsNumberRow.func = some 3 by kernel_rfl).symm.trans hf) |>.symm
      obtain rfl : fn = Tryd.f3 := (Option.some.inj (Tryd.func3.symm.trans hfn)).symm
      exact ⟨by kernel_rfl, fun j t ht => by
        rw [Tryd.params3] at ht
        have hm : t ∈ [24] := by simpa using Array.mem_of_getElem? ht
        have hall : ([24].all fun u => !Tryd.prog.wantsStandIn u) = true := by kernel_rfl
        exact (show Tryd.prog.wantsStandIn t = false by simpa using List.all_eq_true.1 hall t hm)⟩)
    (by kernel_rfl)
end Go.Proofs.YthhmahmclkmjpaaDoor
