/- Proved: steps and rows that the walks of the laws on lines use; for lists of dots in memory. -/
import Derived.Test.YtkdgibabecpdlaaLives
import Derived.Test.YtkdgibabecpdlaaWindLaw
namespace Go.Proofs.Ytkdgibabecpdlaa
open Go.RowKit

/-- A call of a Go function of two arguments at a step of a region that draws. -/
theorem step_call2 {P : Program} {ops : Array Oper} {o : Oper} {a : Act} {w : World} {K : Act → World → Prop} {Q : Exit → Act → World → Prop} {E : Prop} {f : FuncId} {u u' : Value} {post : Ending → World → Prop} (hc : Calls P f #[u, u'] w post)
    (hgd : o.guard = none) {x x' : Operand} {ts : Array TypeId} (hop : o.op = .call { callee := .value (.func f), args := #[x, x'], argTypes := ts }) (hx : a.eval x = u) (hx' : a.eval x' = u') (hrun : ∀ vs, (callFunc f vs).run P w = .ok (.enter f vs) w)
    (h : ∀ e w', post e w' → ∃ v, e = .returned v ∧ K (a.put o.dst v) w') : if Region.wanted o (yielded ops a.tmps) = true then Oper.wp P o a w K Q else E := by
  have hw : Region.wanted o (yielded ops a.tmps) = true := by simp [Region.wanted, hgd]
  rw [if_pos hw]
  subst hx hx'
  unfold Oper.wp
  have : (execOp a.eval o).run P w = .ok (.enter f #[a.eval x, a.eval x']) w := by
    simp [execOp, hop, resolve, invoke, Act.eval, Deferred.ofValue, hrun]
  rw [this]
  exact hc.mono fun e w' hp => by
    obtain ⟨v, rfl, hk⟩ := h e w' hp
    exact hk
theorem Try.runTurned (w : World) : ∀ vs, (callFunc 25 vs).run Try.prog w = .ok (.enter 25 vs) w := fun vs => by
  go_simp
theorem Try.runWinding (w : World) : ∀ vs, (callFunc 22 vs).run Try.prog w = .ok (.enter 22 vs) w := fun vs => by
  go_simp
theorem windF_abs (l : List Dot) (p : Dot) : -(l.length : Int) ≤ windF l p ∧ windF l p ≤ l.length := by
  unfold windF
  split
  · omega
  · next h =>
    have hf : l.any isFarB = false := by
      have := h; simp only [Bool.or_eq_true, not_or, Bool.not_eq_true] at this; exact this.2
    have hn : ∀ e ∈ edgesF l, NearE e := by
      have := edgesL_near (P := [(none, 0, l)]) (by simp [farL, hf])
      simpa [edgesL] using this
    have := windE_abs hn p
    have h2 := edgesF_len l
    omega
theorem winding_n (A : Option Addr) (cap n : Nat) (l : List Dot) (px py : Int) (w : World) (h : Rd w A (dotCells l)) (hn : l.length = n) (hl : n ≤ 1000000) :
    Calls Try.prog 22 #[.slice A n cap, .agg #[.int .i64 px, .int .i64 py]] w fun e w' => e = .returned (.int .i64 (windF l (px, py))) ∧ Below w.heap.size w w' := by
  subst hn; exact winding_any A cap l px py w h hl
theorem dotCells_split (l : List Dot) (k : Nat) : dotCells l = dotCells (l.take k) ++ dotCells (l.drop k) := by
  rw [dotCells, dotCells, dotCells, ← List.flatMap_append, List.take_append_drop]
theorem Rd.drop {w : World} {b off : Nat} {l : List Dot} (h : Rd w (some ⟨b, off, none⟩) (dotCells l)) (k : Nat) : Rd w (some ⟨b, off + k * 2, none⟩) (dotCells (l.drop k)) := by
  rcases h with h | ⟨b', off', e, hb, hc⟩
  · have : l = [] := by
      cases l with
      | nil => rfl
      | cons a l => simp [dotCells, dotCell] at h
    subst this; simp [dotCells, Rd]
  · injection e with e; injection e with e1 e2; subst e1 e2
    refine .inr ⟨b, off + k * 2, rfl, hb, fun j u hj => ?_⟩
    have hd : dotCells (l.drop k) = (dotCells l).drop (k * 2) := by
      rw [dotCells_split l k]
      by_cases hk : k ≤ l.length
      · have e : (dotCells (l.take k)).length = k * 2 := by rw [dotCells_len, List.length_take]; omega
        rw [← e, List.drop_left]
      · have e : l.drop k = [] := List.drop_of_length_le (by omega)
        have e2 : (dotCells (l.take k)).length ≤ k * 2 := by rw [dotCells_len, List.length_take]; omega
        rw [e, dotCells, List.flatMap_nil, List.append_nil, List.drop_of_length_le e2]
    rw [hd, List.getElem?_drop] at hj
    rw [Nat.add_assoc]
    exact hc _ _ hj
theorem Rd.take {w : World} {A : Option Addr} {l : List Dot} (h : Rd w A (dotCells l)) (k : Nat) : Rd w A (dotCells (l.take k)) := by
  rcases h with h | ⟨b', off', e, hb, hc⟩
  · have : l = [] := by
      cases l with
      | nil => rfl
      | cons a l => simp [dotCells, dotCell] at h
    subst this; simp [dotCells, Rd]
  · refine .inr ⟨b', off', e, hb, fun j u hj => hc _ _ ?_⟩
    rw [dotCells_split l k, List.getElem?_append_left (List.getElem?_eq_some_iff.1 hj).1]; exact hj
theorem dotCells_one {l : List Dot} : ∀ u ∈ dotCells l, u.oneCell' = true := by
  intro u hu
  obtain ⟨e, _, he⟩ := List.mem_flatMap.1 hu
  simp only [dotCell, List.mem_cons, List.not_mem_nil, or_false] at he
  rcases he with rfl | rfl <;> simp [Value.oneCell']
/-- The cells of a boxed dot. -/
theorem box_cells {w w' : World} {x y : Int} (hb : Below (w.alloc (.cells #[.int .i64 x, .int .i64 y] 53)).heap.size (w.alloc (.cells #[.int .i64 x, .int .i64 y] 53)) w') :
    w'.cell? ⟨w.heap.size, 0, none⟩ = some (.int .i64 x) ∧ w'.cell? ⟨w.heap.size, 1, none⟩ = some (.int .i64 y) ∧ w.heap.size < w'.heap.size := by
  refine ⟨?_, ?_, ?_⟩
  · rw [hb.cell (by simp)]; simp [go_sem]
  · rw [hb.cell (by simp)]; simp [go_sem]
  · have := hb.size; simp at this; omega
end Go.Proofs.Ytkdgibabecpdlaa
