/- Proved: steps for make, append and calls inside statements whose order Go leaves open; for one-cell elements. -/
import Derived.Test.YtkdgibabecpdlaaCoverLaw
namespace Go.Proofs.Ytkdgibabecpdlaa
open Go.RowKit

/-- make of a slice of one-cell elements, as long as its room. -/
theorem wpList_mk {P : Program} {w : World} {ops : Array Oper} {rest : List Oper} {o : Oper} {a : Act} {Q : Exit → Act → World → Prop} (hgd : o.guard = none) {x y : Operand} {t : TypeId}
    (ho : o.op = .makeSlice t x y) {e : TypeId} {z : Value} {bytes : Nat} (ht : P.underlying t = some (.slice e)) (hi : (P.info? e).map (fun i => (i.zero, i.size, i.bytes)) = some (some z, 1, bytes)) (hz : z.cells = #[z])
    (base n : Nat) {kl kc : IntKind} {X : Int} (hX : X = (n : Int)) (hx : a.eval x = .int kl X) (hy : a.eval y = .int kc X) (hb : bytes * n ≤ 281474976710656) (h63 : n ≤ maxLen) (hbase : base ≤ w.heap.size)
    (h : ∀ w', w'.ownsRow base e 1 (.slice (some ⟨w.heap.size, 0, none⟩) n n) n (List.replicate n z) → w' = w.alloc (.cells (List.replicate n z).toArray e) → wpList P ops Q rest (a.put o.dst (.slice (some ⟨w.heap.size, 0, none⟩) n n)) w') :
    wpList P ops Q (o :: rest) a w :=
  wpList_plain hgd fun K hK => by
    subst hX
    obtain ⟨i, h1, h2, h3, h4⟩ := info_parts hi
    have hb' : (i.bytes : Int) * (n : Int) ≤ 281474976710656 := by
      have h : ((i.bytes * n : Nat) : Int) ≤ 281474976710656 := by rw [h4]; omega
      rwa [Int.natCast_mul] at h
    have h63' : (n : Int) ≤ 9223372036854775807 := by
      simp [maxLen] at h63; omega
    have hrun := run_make (P := P) w t e i z ht h1 h2 kl kc (n : Int) (n : Int) (by omega) (Int.le_refl _) hb' h63'
    simp only [Int.toNat_natCast] at hrun
    have hm : madeCells z.cells (n * i.size) = (List.replicate n z).toArray := by
      rw [hz, h3, Nat.mul_one]
      have h := zeroCells_one z n
      apply Array.toList_inj.1
      simp only [List.toArray_replicate, Array.toList_replicate]
      apply List.ext_getElem
      · simp [madeCells]
      · intro k hk1 hk2
        simp [madeCells, Nat.mod_one]
    rw [hm] at hrun
    unfold Oper.wp execOp
    simp only [ho, Sem.run_bind, Sem.run_pure, Result.andThen_ok, hx, hy, hrun]
    refine hK _ _ (h _ ?_ rfl)
    have := World.ownsRow_lit (base := base) (e := e) (size := 1) w (List.replicate n z).toArray n hbase h63 (by simp)
    simpa using this

theorem append_types {P : Program} (w : World) {t t' ty e e' : TypeId} (ht : P.underlying t = some (.slice e)) (ht' : P.underlying t' = some (.slice e')) (b : Option Addr) (n c : Nat) (x : Value) :
    (Builtin.append_ #[t, t'] ty #[.slice b n c, x]).run P w = (Builtin.append_ #[t, t] ty #[.slice b n c, x]).run P w := by
  simp [Builtin.append_, run_underlying ht, run_underlying ht']

/-- append at a step of a region that draws, of a list whose type is another one. -/
theorem step_app2 {P : Program} {w : World} {ops : Array Oper} {o : Oper} {a : Act} {K : Act → World → Prop} {Q : Exit → Act → World → Prop} {F : Prop} (hgd : o.guard = none) {s x : Operand} {t t' : TypeId}
    (ho : o.op = .call { callee := .builtin .append, args := #[s, x], argTypes := #[t, t'] })
    {e e' : TypeId} {size bytes : Nat} (E : ET P t e size bytes) (ht' : P.underlying t' = some (.slice e'))
    {base : Nat} {v : Value} {n : Nat} {xs : List Value} (hown : w.ownsRow base e size v n xs) (hs : a.eval s = v)
    {A : Option Addr} {m c : Nat} {news : List Value} (hx : a.eval x = .slice A m c) (hr : Rd w A news) (hl : news.length = m * size) (h1 : ∀ u ∈ news, u.oneCell' = true)
    (hbytes : (n + m) * bytes ≤ 140737488355328) (hbase : base ≤ w.heap.size)
    (h : ∀ v' w', w'.ownsRow base e size v' (n + m) (xs ++ news) → w.grownBy w' v.ownBlock → (v'.ownBlock = v.ownBlock ∨ v'.ownBlock = some w.heap.size) → Below base w w' → K (a.put o.dst v') w') :
    if Region.wanted o (yielded ops a.tmps) = true then Oper.wp P o a w K Q else F := by
  have hw : Region.wanted o (yielded ops a.tmps) = true := by simp [Region.wanted, hgd]
  rw [if_pos hw]
  obtain ⟨v', w', hrun, h2, h3, h4, h5⟩ := run_app (P := P) w (ty := o.type) E hown hr (c := c) hl h1 hbytes hbase
  obtain ⟨b0, c0, rfl, _⟩ := ownsRow_form hown
  rw [← append_types (P := P) w E.und ht'] at hrun
  unfold Oper.wp execOp
  simp only [ho, resolve, invoke, builtin, Sem.run_bind, Sem.run_pure, Result.andThen_ok, List.map_toArray, List.map_cons, List.map_nil, hs, hx, hrun]
  exact h v' w' h2 h3 h4 h5

theorem Try.etWaits : ET Try.prog 77 149 5 40 := ET.mk' (z := .agg #[.int .i64 0, .int .i64 0, .int .i64 0, .int .i64 0, .int .i64 0]) (by kernel_rfl) (by kernel_rfl) rfl (by decide) (by decide)
theorem edgeCells_one {l : List Edge} : ∀ u ∈ edgeCells l, u.oneCell' = true := by
  intro u hu
  obtain ⟨e, _, he⟩ := List.mem_flatMap.1 hu
  simp only [edgeCell, List.mem_cons, List.not_mem_nil, or_false] at he
  rcases he with rfl | rfl | rfl | rfl | rfl <;> simp [Value.oneCell']
theorem Try.runEdges (w : World) : ∀ vs, (callFunc 37 vs).run Try.prog w = .ok (.enter 37 vs) w := fun vs => by
  go_simp
/-- A call of a Go function at a step of a region that draws. -/
theorem step_call {P : Program} {ops : Array Oper} {o : Oper} {a : Act} {w : World} {K : Act → World → Prop} {Q : Exit → Act → World → Prop} {E : Prop} {f : FuncId} {u : Value} {post : Ending → World → Prop} (hc : Calls P f #[u] w post)
    (hgd : o.guard = none) {x : Operand} {ts : Array TypeId} (hop : o.op = .call { callee := .value (.func f), args := #[x], argTypes := ts }) (hx : a.eval x = u) (hrun : ∀ vs, (callFunc f vs).run P w = .ok (.enter f vs) w)
    (h : ∀ e w', post e w' → ∃ v, e = .returned v ∧ K (a.put o.dst v) w') : if Region.wanted o (yielded ops a.tmps) = true then Oper.wp P o a w K Q else E := by
  have hw : Region.wanted o (yielded ops a.tmps) = true := by simp [Region.wanted, hgd]
  rw [if_pos hw]
  subst hx
  unfold Oper.wp
  have : (execOp a.eval o).run P w = .ok (.enter f #[a.eval x]) w := by
    simp [execOp, hop, resolve, invoke, Act.eval, Deferred.ofValue, hrun]
  rw [this]
  exact hc.mono fun e w' hp => by
    obtain ⟨v, rfl, hk⟩ := h e w' hp
    exact hk
end Go.Proofs.Ytkdgibabecpdlaa
