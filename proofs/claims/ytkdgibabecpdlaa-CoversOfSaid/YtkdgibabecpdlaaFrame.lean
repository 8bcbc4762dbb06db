/- Proved: how a law's arguments are opened and shut (dots, lines, areas); for arguments that read as data. -/
import Derived.Test.YtkdgibabecpdlaaLives
import Derived.Test.YtkdgibabecpdlaaRows
import Derived.ProofKit
import Derived.Below
import Derived.Carry
import Derived.ChangeSame
import Derived.Deep.Slices
import Derived.Deep.SlicePairs
import Derived.Lib.SmallJoins
namespace Go.Proofs.Ytkdgibabecpdlaa
open Go.ChangeShapes Go.WideShapes Go.ChangeAt Go.RowKit

theorem Try.own : ownKnob Try.prog.godebug = none := by kernel_rfl
theorem Try.laidOut : laidOutB Try.prog = true := by kernel_rfl

section
variable {H : Type} {enc : TypeId × Value → H} {P : Program}
theorem post_of_below {f : Func} {s : ChangeSpec} {apart fresh handsOn again : Bool} {W W' : World} {args : Array Value} {v : Value} {ds gs : List (DataW H)} {before pa pv : List MemPlace}
    (hW : DataW.Whole enc P f.params.toList s.vars apart W args.toList ds gs before)
    (hres : ∀ (b : Nat) (sp : Nat → Bool) (hd : Bool), DataW.TrodAll enc P W' b sp hd f.resultTypes.toList (v.resultList f.resultTypes.size) (s.fn H (ds ++ gs)).results [])
    (hargs : ∀ sp : Nat → Bool, (∀ p ∈ before, sp p.block = true) → DataW.TrodAll enc P W' 0 sp true f.params.toList args.toList (s.fn H (ds ++ gs)).args pa)
    (hvars : ∀ sp : Nat → Bool, (∀ p ∈ before, sp p.block = true) → DataW.TrodVars enc P W' sp s.vars (s.fn H (ds ++ gs)).vars pv)
    (hps : before = pa ++ pv) (hb : Below W.heap.size W W')
    (hok : ∀ (j : Nat) (t : TypeId) (r : Value), f.resultTypes[j]? = some t → (v.resultList f.resultTypes.size)[j]? = some r → Value.okWide P W' .any 0 t r) :
    s.post enc P f apart fresh handsOn again W args v W' := by
  have hlt : ∀ p ∈ before, p.block < W.heap.size := fun p hp => hW.lt p hp
  have hold : ∀ p ∈ before, (fun b => decide (b < W.heap.size)) p.block = true := fun p hp => by simpa using hlt p hp
  refine ⟨ds, gs, before, [], pa, pv, hW, hres _ _ _, hargs _ hold, hvars _ hold, World.keptBut_mono (fun p hp => ⟨hp, ?_⟩) (hb.frame (· ∈ before)), fun _ => ?_⟩
  · rw [hps, List.mem_append] at hp
    exact Or.inr hp
  · obtain ⟨_, _, _, _, _, hz, hn⟩ := hW
    refine ⟨hok, _, _, ([] ++ pa) ++ pv, ⟨[] ++ pa, pv, trodAll_append (hargs _ (fun _ _ => rfl)) (hres _ _ _), hvars _ (fun _ _ => rfl), rfl, ?_, ?_⟩, ?_⟩
    · intro b off hp
      have hin : MemPlace.cell b off ∈ before := by rw [hps]; simpa using hp
      rw [hb.frozen (hlt _ hin)]
      exact hz b off hin
    · intro ha
      have := hn ha
      rw [hps] at this
      simpa using this
    · intro p hp _
      rw [hps]
      simpa using hp

/-- An argument reads behind the call as it did. -/
theorem stays {t : TypeId} (hr : Try.prog.readableRec t = true) (hrow : t < Try.prog.types.size) {W W' : World} {v : Value} {d : DataW H} {ps : List MemPlace}
    (h : DataW.Trod enc Try.prog W 0 (fun _ => true) true t v d ps) (hb : Below W.heap.size W W') (hlt : ∀ x ∈ ps, x.block < W.heap.size) (sp : Nat → Bool) (hsp : ∀ x ∈ ps, sp x.block = true) :
    DataW.Trod enc Try.prog W' 0 sp true t v d ps :=
  WideElems.Trod_stays Try.laidOut hr hrow h (fun x hx => hb.same (hlt x hx)) (fun x hx => hsp x hx)

theorem spot_none {w : World} {a : Addr} {i : Nat} {v : Value} (h : w.cell? (a.add (i * 2)) = some v) (h0 : i = 0) : a = ⟨a.block, a.off, none⟩ := by
  subst h0
  obtain ⟨b, o, s⟩ := a
  simp only [Nat.zero_mul, Addr.add, if_pos] at h
  cases s with
  | none => rfl
  | some k => simp [World.cell?] at h; split at h <;> simp at h
theorem cell_lt {w : World} {a : Addr} {v : Value} (h : w.cell? a = some v) : a.block < w.heap.size := World.block_lt_of_cell? w _ h

def wfI (n : Int) : Prop := -9223372036854775808 ≤ n ∧ n ≤ 9223372036854775807
/-- A slice argument is one cell. -/
theorem open_slice_cell {W : World} {r : Reach} {b0 b1 : Nat} {sp : Nat → Bool} {t e : TypeId} {v : Value} {d : DataW H} {p : List MemPlace} (ht : P.underlying t = some (.slice e)) (hv : Value.okWide P W r b0 t v) (h : DataW.Trod enc P W b1 sp true t v d p) :
    DataW.trod enc P W b1 sp true h.choose t [v] = some (d, p) := by
  have := h.choose_spec
  obtain ⟨A, n, c, rfl⟩ := okWide_slice ht hv
  simpa [Value.cells] using this
theorem open_dots {W : World} {sp : Nat → Bool} {b0 fuel : Nat} {v : Value} {x : DataW H × List MemPlace} (h : DataW.trod enc Try.prog W b0 sp true fuel 51 [v] = some x) :
    ∃ A cap, ∃ l : List Dot, v = .slice A l.length cap ∧ Rd W A (dotCells l) ∧ l.length ≤ maxLen ∧ l.length ≤ cap ∧ ∀ d ∈ l, wfI d.1 ∧ wfI d.2 := by
  rcases Deep.open_slice_pairs Try.underlying51 Try.underlying53 (by kernel_rfl) (by kernel_rfl) (by kernel_rfl) (by kernel_rfl) (by kernel_rfl) h with ⟨h0, _⟩ | ⟨a, len, cap, m, n, V0, V1, D0, D1, P0, P1, h0, _, hlc, hcm, hm, _, hx⟩
  · injection h0 with h0 _
    exact ⟨none, 0, [], h0, Rd.nil _ _, by simp, by simp, by simp⟩
  · injection h0 with h0 _
    subst h0
    have hlm : len ≤ m := by rw [hm]; split <;> omega
    have hi : ∀ i, i < len → ∃ d : Dot, W.cell? (a.add (i * 2)) = some (.int .i64 d.1) ∧ W.cell? (a.add (i * 2 + 1)) = some (.int .i64 d.2) ∧ wfI d.1 ∧ wfI d.2 := by
      intro i hi
      obtain ⟨h1, h2, h3, h4⟩ := hx i (by omega)
      obtain ⟨n1, e1, _, w1⟩ := DataW.trod_int Try.underlying2 h3
      obtain ⟨n2, e2, _, w2⟩ := DataW.trod_int Try.underlying2 h4
      injection e1 with e1 _
      injection e2 with e2 _
      refine ⟨(n1, n2), by rw [h1, e1], by rw [h2, e2], ?_, ?_⟩
      · simpa [Lit.wf, wfI, IntKind.min, IntKind.max, IntKind.bits, IntKind.signed] using w1
      · simpa [Lit.wf, wfI, IntKind.min, IntKind.max, IntKind.bits, IntKind.signed] using w2
    obtain ⟨D, hD⟩ := Deep.choose_lt hi
    refine ⟨some a, cap, (List.range len).map D, by simp, ?_, by simp; omega, by simpa using hlc, ?_⟩
    · by_cases hl : len = 0
      · subst hl; exact Rd.nil _ _
      · obtain ⟨h1, _⟩ := hD 0 (by omega)
        have ha := spot_none (i := 0) h1 rfl
        obtain ⟨b, o, s⟩ := a
        simp only [Addr.mk.injEq, true_and] at ha
        subst ha
        refine .inr ⟨b, o, rfl, ?_, ?_⟩
        · have := cell_lt h1; simpa [Addr.add] using this
        · intro j u hj
          have hjl : j < len * 2 := by
            have := (List.getElem?_eq_some_iff.1 hj).1
            rw [dotCells_len] at this; simpa using this
          have hk : j / 2 < len := by omega
          obtain ⟨c1, c2, _, _⟩ := hD (j / 2) hk
          have hg := flatMap_at dotCell 2 (fun _ => rfl) ((List.range len).map D) (j / 2) (D (j / 2)) (by simp [hk]) (j % 2) (Nat.mod_lt _ (by omega))
          have hjj : j / 2 * 2 + j % 2 = j := by omega
          rw [hjj] at hg
          have hg2 : (dotCell (D (j / 2)))[j % 2]? = some u := by rw [← hg]; exact hj
          rw [add_plain] at c1 c2
          by_cases h2 : j % 2 = 0
          · rw [h2] at hg2
            have e : u = .int .i64 (D (j / 2)).1 := by simpa [dotCell] using hg2.symm
            subst e
            have : j / 2 * 2 = j := by omega
            rw [this] at c1; exact c1
          · have h3 : j % 2 = 1 := by omega
            rw [h3] at hg2
            have e : u = .int .i64 (D (j / 2)).2 := by simpa [dotCell] using hg2.symm
            subst e
            have : j / 2 * 2 + 1 = j := by omega
            rw [this] at c2; exact c2
    · intro d hd
      obtain ⟨i, hi2, rfl⟩ := List.mem_map.1 hd
      exact (hD i (by simpa using hi2)).2.2
set_option maxRecDepth 100000 in
theorem open_dot {W : World} {r : Reach} {b0 b1 : Nat} {sp : Nat → Bool} {v : Value} {d : DataW H} {p : List MemPlace} (hv : Value.okWide Try.prog W r b0 53 v) (h : DataW.Trod enc Try.prog W b1 sp true 53 v d p) :
    ∃ x y, v = .agg #[.int .i64 x, .int .i64 y] ∧ wfI x ∧ wfI y := by
  obtain ⟨v0, v1, y0, y1, n, rfl, _, _, h0, h1⟩ := Joins.open_agg2 Try.underlying53 (by kernel_rfl) (by kernel_rfl) hv h
  obtain ⟨n1, e1, _, w1⟩ := DataW.trod_int Try.underlying2 h0
  obtain ⟨n2, e2, _, w2⟩ := DataW.trod_int Try.underlying2 h1
  injection e1 with e1 _
  injection e2 with e2 _
  subst e1 e2
  refine ⟨n1, n2, rfl, ?_, ?_⟩
  · simpa [Lit.wf, wfI, IntKind.min, IntKind.max, IntKind.bits, IntKind.signed] using w1
  · simpa [Lit.wf, wfI, IntKind.min, IntKind.max, IntKind.bits, IntKind.signed] using w2
end
end Go.Proofs.Ytkdgibabecpdlaa
