/- Contracts and plain laws that the claims of this seat use (BitsT), for all arguments that their hypotheses name. -/
import Derived.Test.YtkdgibabecpdlaaFrame
import Derived.Test.YtkdgibabecpdlaaBitsW
namespace Go.Proofs.Ytkdgibabecpdlaa
open Go.ChangeShapes Go.WideShapes Go.ChangeAt Go.RowKit

theorem open_bits {H : Type} {enc : TypeId × Value → H} {W : World} {sp : Nat → Bool} {b0 fuel : Nat} {v : Value} {x : DataW H × List MemPlace} (h : DataW.trod enc Try.prog W b0 sp true fuel 28 [v] = some x) :
    ∃ A cap, ∃ l : List Nat, v = .slice A l.length cap ∧ Rd W A (bitVs l) ∧ l.length ≤ maxLen ∧ ∀ d ∈ l, d < 65536 := by
  rcases Deep.open_slice1 Try.underlying28 (by kernel_rfl) h with ⟨h0, _⟩ | ⟨a, len, cap, m, n, V, D, Pl, h0, _, hlc, hcm, hm, _, hi⟩
  · injection h0 with h0 _
    exact ⟨none, 0, [], h0, Rd.nil _ _, by simp, by simp⟩
  · injection h0 with h0 _
    subst h0
    have hlm : len ≤ m := by rw [hm]; split <;> omega
    have each : ∀ i, i < len → ∃ d : Nat, W.cell? (a.add i) = some (.int .u16 (d : Int)) ∧ d < 65536 := by
      intro i hi'
      obtain ⟨c1, t1⟩ := hi i (by omega)
      obtain ⟨z, e1, _, w1⟩ := DataW.trod_int Try.underlying65 t1
      injection e1 with e1 _
      have hz : 0 ≤ z ∧ z ≤ 65535 := by simpa [Lit.wf, IntKind.min, IntKind.max, IntKind.bits, IntKind.signed] using w1
      obtain ⟨d, rfl⟩ := Int.eq_ofNat_of_zero_le hz.1
      exact ⟨d, by rw [c1, e1], by omega⟩
    obtain ⟨F, hF⟩ := Deep.choose_lt each
    refine ⟨some a, cap, (List.range len).map F, by simp, ?_, by simp; omega, ?_⟩
    · by_cases hl : len = 0
      · subst hl; exact Rd.nil _ _
      · have h1 := (hF 0 (by omega)).1
        have ha := spot_none (i := 0) h1 rfl
        obtain ⟨b, o, s⟩ := a
        simp only [Addr.mk.injEq, true_and] at ha
        subst ha
        refine .inr ⟨b, o, rfl, ?_, ?_⟩
        · have := cell_lt h1; simpa [Addr.add] using this
        · intro j u hj
          have hjl : j < len := by
            have := (List.getElem?_eq_some_iff.1 hj).1
            simpa [bitVs] using this
          have h2 := (hF j hjl).1
          rw [add_plain] at h2
          rw [h2]
          simp [bitVs, hjl] at hj
          rw [← hj]
    · intro d hd
      obtain ⟨i, hi2, rfl⟩ := List.mem_map.1 hd
      exact (hF i (by simpa using hi2)).2

set_option maxRecDepth 100000 in
theorem bits_lifted (os : Os) (started : os.Started) (H : Type) (enc : TypeId × Value → H) :
    ReturnsInHanded {} Try.checked os 10 .any (Rows.coversBitsSpec.pre6 enc Try.prog Try.f10 Rows.coversBitsRow.domain false) (Rows.coversBitsSpec.post enc Try.prog Try.f10 false true false false) := by
  refine returnsInHanded_of_change (C := Try.checked) Try.own started (by kernel_rfl) Try.func10
    (ChangeSpec.witness6 (enc := enc) (C := Try.checked) false ⟨#[], #[.slice none 0 0, .slice none 0 0, .int .u16 0], []⟩ 8 (by kernel_rfl) (by kernel_rfl) (by kernel_rfl) (by kernel_rfl)) ?_
  intro W base args ds gs before hval0 hW hcnd _
  have hval : ∀ (j : Nat) t v, Try.f10.params[j]? = some t → args[j]? = some v → Value.okWide Try.prog W .any base t v := hval0
  have hW' := hW
  have hlt : ∀ p ∈ before, p.block < W.heap.size := fun p hp => hW.lt p hp
  obtain ⟨p, q, hA0, hV, rfl, hfz, hnd⟩ := hW
  have hA : DataW.TrodAll enc Try.prog W 0 (fun _ => true) true Try.f10.params.toList args.toList ds p := hA0
  rw [Try.params10] at hA hval
  obtain ⟨v0, v1, v2, d0, d1, d2, p0, p1, p2, rfl, rfl, rfl, h0, h1, h2⟩ := trodAll_three hA
  obtain ⟨rfl, rfl⟩ := trodVars_none hV
  obtain ⟨A, ca, a, rfl, hra, hla, h16a⟩ := open_bits (open_slice_cell Try.underlying28 (hval 0 28 v0 rfl rfl) h0)
  obtain ⟨B, cb, b, rfl, hrb, hlb, h16b⟩ := open_bits (open_slice_cell Try.underlying28 (hval 1 28 v1 rfl rfl) h1)
  obtain ⟨n, rfl, hd2, hp2, wn⟩ := open_int Try.underlying65 (hval 2 65 v2 rfl rfl) h2
  clear hA0 hval0
  simp only [List.append_nil] at hW' hlt
  have hn : 0 ≤ n ∧ n ≤ 65535 := by simpa [Lit.wf, IntKind.min, IntKind.max, IntKind.bits, IntKind.signed] using wn
  obtain ⟨k, rfl⟩ := Int.eq_ofNat_of_zero_le hn.1
  refine (bits_walk A B ca cb a b k W hra hrb hla hlb h16a h16b (by omega)).mono fun e W' ⟨he, hb⟩ => ?_
  subst he
  have q0 : ∀ z ∈ p0, z.block < W.heap.size := fun z hz => hlt z (by simp [hz])
  have q1 : ∀ z ∈ p1, z.block < W.heap.size := fun z hz => hlt z (by simp [hz])
  have q2 : ∀ z ∈ p2, z.block < W.heap.size := fun z hz => hlt z (by simp [hz])
  exact ⟨_, rfl, post_of_below (pa := p0 ++ (p1 ++ p2)) (pv := []) hW' (fun _ _ _ => trodAll_mk1 (shut_bool Try.underlying4 _))
    (fun sp hsp => trodAll_mk3 (stays (by kernel_rfl) (by decide +kernel) h0 hb q0 sp (fun z hz => hsp z (by simp [hz]))) (stays (by kernel_rfl) (by decide +kernel) h1 hb q1 sp (fun z hz => hsp z (by simp [hz]))) (stays (by kernel_rfl) (by decide +kernel) h2 hb q2 sp (fun z hz => hsp z (by simp [hz]))))
    (fun _ _ => rfl) (by simp) hb (ok_one (by kernel_rfl) rfl (okWide_bool_mk Try.underlying4 _))⟩

theorem coversBits_holds : Rows.CoversBitsSaid :=
  OpenClaim.holds_of_wide 10 Try.f10 rfl rfl rfl rfl rfl rfl rfl ⟨rfl, rfl, rfl, rfl, rfl⟩ rfl rfl rfl rfl rfl (by kernel_rfl) Try.func10 (by kernel_rfl)
    (of_decide_eq_true (by kernel_rfl)) (by unfold Func.isWrapper; first | (rw [if_pos (by decide +kernel)]; kernel_rfl) | (rw [if_neg (by decide +kernel)]; exact ⟨rfl, rfl⟩))
    (fun os started H enc _ => bits_lifted os started H enc)
end Go.Proofs.Ytkdgibabecpdlaa
