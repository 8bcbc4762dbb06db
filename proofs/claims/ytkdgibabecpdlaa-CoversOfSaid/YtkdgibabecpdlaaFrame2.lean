/- Proved: how lines and areas that come in are opened; for arguments within the form's reach. -/
import Derived.Test.YtkdgibabecpdlaaFrame
import Derived.SizedLaws
namespace Go.Proofs.Ytkdgibabecpdlaa
open Go.ChangeShapes Go.WideShapes Go.ChangeAt Go.RowKit
section
variable {H : Type} {enc : TypeId × Value → H}
theorem weightsAll_in {P : Program} {e : TypeId} {d : DataW H} : ∀ {l : List (DataW H)}, d ∈ l → ∀ n ∈ d.weights P e, n ∈ DataW.weightsAll P e l
  | x :: l, hd, n, hn => by
    simp only [DataW.weightsAll, List.mem_append]
    rcases List.mem_cons.1 hd with rfl | h
    · exact Or.inl hn
    · exact Or.inr (weightsAll_in h n hn)
/-- Lines, opened. -/
theorem open_lines {W : World} {sp : Nat → Bool} {b0 fuel : Nat} {v : Value} {x : DataW H × List MemPlace} (h : DataW.trod enc Try.prog W b0 sp true fuel 22 [v] = some x) (hw : ∀ n ∈ x.1.weights Try.prog 22, n ≤ reachBytes) :
    ∃ A cap, ∃ P : List LineV, v = .slice A P.length cap ∧ Lns W A P ∧ P.length ≤ 140737488355328 ∧ (∀ p ∈ P, p.2.2.length ≤ 140737488355328) ∧ (∀ p ∈ P, p.2.2.length ≤ p.2.1) ∧ ∀ p ∈ P, ∀ d ∈ p.2.2, wfI d.1 ∧ wfI d.2 := by
  rcases Deep.open_slice1 Try.underlying22 (by kernel_rfl) h with ⟨h0, _⟩ | ⟨a, len, cap, m, n, V, D, Pl, h0, _, hlc, hcm, hm, hx, hi⟩
  · injection h0 with h0 _
    exact ⟨none, 0, [], h0, ⟨Rd.nil _ _, by simp⟩, by simp, by simp, by simp, by simp⟩
  · injection h0 with h0 _
    subst h0
    have hlm : len ≤ m := by rw [hm]; split <;> omega
    have hlen : len ≤ 140737488355328 := by
      have := hw (((List.range len).map D).length + ((List.range (m - len)).map fun j => D (len + j)).length |> (· * Try.prog.bytesOf 51)) (by rw [hx]; simp [DataW.weights, Try.underlying22])
      have hb : Try.prog.bytesOf 51 = 24 := by kernel_rfl
      have hr := reachBytes_lt
      rw [hb] at this
      simp only [List.length_map, List.length_range] at this
      omega
    have each : ∀ i, i < len → ∃ p : LineV, W.cell? (a.add i) = some (lineHead p) ∧ Rd W p.1 (dotCells p.2.2) ∧ p.2.2.length ≤ 140737488355328 ∧ p.2.2.length ≤ p.2.1 ∧ ∀ d ∈ p.2.2, wfI d.1 ∧ wfI d.2 := by
      intro i hi'
      obtain ⟨c1, t1⟩ := hi i (by omega)
      obtain ⟨A1, cap1, l, e1, hr, hl, hlc1, hwf⟩ := open_dots t1
      refine ⟨(A1, cap1, l), by rw [c1, e1]; rfl, hr, ?_, hlc1, hwf⟩
      rcases Deep.open_slice_pairs Try.underlying51 Try.underlying53 (by kernel_rfl) (by kernel_rfl) (by kernel_rfl) (by kernel_rfl) (by kernel_rfl) t1 with ⟨h0, _⟩ | ⟨a', len', cap', m', n', V0, V1, D0, D1, P0, P1, h0, _, hlc', hcm', hm', hx', _⟩
      · injection h0 with h0 _
        rw [e1] at h0; injection h0 with _ h0 _
        simp only; omega
      · injection h0 with h0 _
        rw [e1] at h0; injection h0 with _ h0 _
        have hD : D i = .slice ((List.range len').map fun i => .agg [D0 i, D1 i]) ((List.range (m' - len')).map fun j => .agg [D0 (len' + j), D1 (len' + j)]) := congrArg Prod.fst hx'
        have hmem : D i ∈ (List.range len).map D := List.mem_map.2 ⟨i, by simpa using hi', rfl⟩
        have := hw ((len' + (m' - len')) * Try.prog.bytesOf 53) (by
          rw [hx]
          simp only [DataW.weights, Try.underlying22, List.mem_cons, List.mem_append]
          refine Or.inr (Or.inl (weightsAll_in hmem _ ?_))
          rw [hD]
          simp [DataW.weights, Try.underlying51])
        have hb : Try.prog.bytesOf 53 = 16 := by kernel_rfl
        have hr := reachBytes_lt
        rw [hb] at this
        simp only
        omega
    obtain ⟨F, hF⟩ := Deep.choose_lt (α := LineV) (p := fun i p => W.cell? (a.add i) = some (lineHead p) ∧ Rd W p.1 (dotCells p.2.2) ∧ p.2.2.length ≤ 140737488355328 ∧ p.2.2.length ≤ p.2.1 ∧ ∀ d ∈ p.2.2, wfI d.1 ∧ wfI d.2) each
    refine ⟨some a, cap, (List.range len).map F, by simp, ⟨?_, ?_⟩, by simpa using hlen, ?_, ?_, ?_⟩
    · by_cases hl : len = 0
      · subst hl; exact Rd.nil _ _
      · have h1 := (hF 0 (by omega)).1
        have ha := spot_none (i := 0) h1 rfl
        obtain ⟨b, o, s⟩ := a
        simp only [Addr.mk.injEq, true_and] at ha
        subst ha
        refine .inr ⟨b, o, rfl, ?_, ?_⟩
        · have := cell_lt h1; simpa [Addr.add] using this
        · intro j u hj
          have hjl : j < len := by
            have := (List.getElem?_eq_some_iff.1 hj).1
            simpa using this
          have h2 := (hF j hjl).1
          rw [add_plain] at h2
          rw [h2]
          simp [hjl] at hj
          rw [← hj]
    · intro p hp
      obtain ⟨i, hi2, rfl⟩ := List.mem_map.1 hp
      exact (hF i (by simpa using hi2)).2.1
    · intro p hp
      obtain ⟨i, hi2, rfl⟩ := List.mem_map.1 hp
      exact (hF i (by simpa using hi2)).2.2.1
    · intro p hp
      obtain ⟨i, hi2, rfl⟩ := List.mem_map.1 hp
      exact (hF i (by simpa using hi2)).2.2.2.1
    · intro p hp
      obtain ⟨i, hi2, rfl⟩ := List.mem_map.1 hp
      exact (hF i (by simpa using hi2)).2.2.2.2
set_option maxRecDepth 100000 in
/-- An area, opened. -/
theorem open_area {W : World} {r : Reach} {b0 b1 : Nat} {sp : Nat → Bool} {v : Value} {d : DataW H} {p : List MemPlace} (hv : Value.okWide Try.prog W r b0 24 v) (h : DataW.Trod enc Try.prog W b1 sp true 24 v d p) (hw : ∀ n ∈ d.weights Try.prog 24, n ≤ reachBytes) :
    ∃ A cap, ∃ P : List LineV, ∃ even Wd Ht, v = .agg #[.slice A P.length cap, .bool even, .int .i64 Wd, .int .i64 Ht] ∧ Lns W A P ∧ P.length ≤ 140737488355328 ∧ (∀ p ∈ P, p.2.2.length ≤ 140737488355328) ∧ (∀ p ∈ P, p.2.2.length ≤ p.2.1) ∧ ∀ p ∈ P, ∀ d ∈ p.2.2, wfI d.1 ∧ wfI d.2 := by
  obtain ⟨v0, v1, v2, v3, y0, y1, y2, y3, n, rfl, hd, _, h0, h1, h2, h3⟩ := Joins.open_agg4 Try.underlying24 (by kernel_rfl) (by kernel_rfl) hv h
  obtain ⟨e, e1, _⟩ := DataW.trod_bool Try.underlying4 h1
  obtain ⟨n2, e2, _, _⟩ := DataW.trod_int Try.underlying3 h2
  obtain ⟨n3, e3, _, _⟩ := DataW.trod_int Try.underlying3 h3
  injection e1 with e1 _; injection e2 with e2 _; injection e3 with e3 _
  subst e1 e2 e3
  obtain ⟨A, cap, P, e0, hL, hn, hs, hc, hwf⟩ := open_lines h0 (fun n hn => hw n (by
    rw [hd]
    simp only [DataW.weights, Try.underlying24, DataW.weightsEach, List.map_cons, List.mem_append]
    exact .inl hn))
  exact ⟨A, cap, P, e, n2, n3, by rw [e0], hL, hn, hs, hc, hwf⟩
end
end Go.Proofs.Ytkdgibabecpdlaa
