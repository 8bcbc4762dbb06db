/- Proved: small additions to how rows of edges lie in memory; for cells that are there. -/
import Derived.Test.YthhmahmclkmjpaaDoorCore
namespace Go.Proofs.YthhmahmclkmjpaaDoor
open Go.RowKit

/-- The store of a value of several cells into the middle of a row. -/
theorem wpList_store_in {P : Program} {ops : Array Oper} {rest : List Oper} {op : Oper} {a : Act} {w : World} {Q : Exit → Act → World → Prop} (hgd : op.guard = none) {ty : TypeId} {x y : Operand} (ho : op.op = .store ty x y)
    {size : Nat} (hi : (P.info? ty).map (·.size) = some size) {b o : Nat} (ht : w.there b o size) {cs : List Value} (hl : cs.length = size) (h1 : ∀ v ∈ cs, v.oneCell' = true)
    (hx : a.eval x = .pointer (some ⟨b, o, none⟩)) (hy : a.eval y = .agg cs.toArray)
    (h : wpList P ops Q rest (a.put op.dst undef) (w.setCells b o cs)) : wpList P ops Q (op :: rest) a w := by
  subst hl
  exact wpList_store_mid hgd ty x y ho b o cs.toArray hx hy (by simpa using ht) (by simpa using hi) (all_oneCell_toArray h1) (by simpa using h)

/-- append at a step of a region that draws. -/
theorem step_app {P : Program} {w : World} {ops : Array Oper} {o : Oper} {a : Act} {K : Act → World → Prop} {Q : Exit → Act → World → Prop} {F : Prop} (hgd : o.guard = none) {s x : Operand} {t : TypeId}
    (ho : o.op = .call { callee := .builtin .append, args := #[s, x], argTypes := #[t, t] })
    {e : TypeId} {size bytes : Nat} (E : ET P t e size bytes)
    {base : Nat} {v : Value} {n : Nat} {xs : List Value} (hown : w.ownsRow base e size v n xs) (hs : a.eval s = v)
    {A : Option Addr} {m c : Nat} {news : List Value} (hx : a.eval x = .slice A m c) (hr : Rd w A news) (hl : news.length = m * size) (h1 : ∀ u ∈ news, u.oneCell' = true)
    (hbytes : (n + m) * bytes ≤ 140737488355328) (hbase : base ≤ w.heap.size)
    (h : ∀ v' w', w'.ownsRow base e size v' (n + m) (xs ++ news) → w.grownBy w' v.ownBlock → (v'.ownBlock = v.ownBlock ∨ v'.ownBlock = some w.heap.size) → Below base w w' → K (a.put o.dst v') w') :
    if Region.wanted o (yielded ops a.tmps) = true then Oper.wp P o a w K Q else F := by
  have hw : Region.wanted o (yielded ops a.tmps) = true := by simp [Region.wanted, hgd]
  rw [if_pos hw]
  exact wp_app ho E hown hs hx hr hl h1 hbytes hbase h

/-- clear of a slice, its element's size as a number. -/
theorem wpList_clr {P : Program} {w : World} {ops : Array Oper} {rest : List Oper} {o : Oper} {a : Act} {Q : Exit → Act → World → Prop} (hgd : o.guard = none) {x : Operand} {t : TypeId}
    (ho : o.op = .call { callee := .builtin .clear, args := #[x], argTypes := #[t] }) {e : TypeId} {z : Value} {size : Nat} (ht : P.underlying t = some (.slice e)) (hz : ∀ w, (zeroValue e).run P w = .ok z w) (hs : z.cells.size = size) (n : Nat)
    (h1 : ∀ v ∈ (Builtin.zeroCells z.cells n).toList, v.oneCell' = true) {A : Option Addr} {c : Nat} (hx : a.eval x = .slice A n c) (hth : 0 < n → ∃ b o, A = some ⟨b, o, none⟩ ∧ w.there b o (n * size))
    (h : ∀ w', ((n = 0 ∧ w' = w) ∨ ∃ b o vs, A = some ⟨b, o, none⟩ ∧ 0 < n ∧ w' = w.setCells b o vs ∧ vs.length = n * size ∧ vs = (Builtin.zeroCells z.cells n).toList) → wpList P ops Q rest (a.put o.dst (.tuple #[])) w') : wpList P ops Q (o :: rest) a w := by
  subst hs
  exact wpList_clear hgd ho ht hz h1 hx hth fun w' hw => h w' (hw.imp id fun ⟨b, o, h1, h2, h3⟩ => ⟨b, o, _, h1, h2, h3, zeroCells_size _ _, rfl⟩)
theorem zeroCells_mem {z : Array Value} {n : Nat} {v : Value} (h : v ∈ (Builtin.zeroCells z n).toList) (h0 : 0 < z.size) : v ∈ z.toList := by
  unfold Builtin.zeroCells at h
  simp only [Array.toList_map, Array.toList_range, List.mem_map] at h
  obtain ⟨i, _, rfl⟩ := h
  have : i % z.size < z.size := Nat.mod_lt _ h0
  rw [getElem!_pos z (i % z.size) this]
  exact Array.getElem_mem_toList this

/-- Guards for an arm: the walk stands at just this operation. -/
theorem at_store {P : Program} {ops : Array Oper} {rest : List Oper} {a : Act} {w : World} {Q : Exit → Act → World → Prop} (T : TypeId) (x y : Operand) {d : Option Tmp} {ty : TypeId} {pos : String} {af : Array Go.Edge} {g : Option (Nat × Bool)}
    (h : wpList P ops Q (⟨d, .store T x y, ty, pos, af, g⟩ :: rest) a w) : wpList P ops Q (⟨d, .store T x y, ty, pos, af, g⟩ :: rest) a w := h
theorem at_load {P : Program} {ops : Array Oper} {rest : List Oper} {a : Act} {w : World} {Q : Exit → Act → World → Prop} (T : TypeId) (x : Operand) {d : Option Tmp} {ty : TypeId} {pos : String} {af : Array Go.Edge} {g : Option (Nat × Bool)}
    (h : wpList P ops Q (⟨d, .load T x, ty, pos, af, g⟩ :: rest) a w) : wpList P ops Q (⟨d, .load T x, ty, pos, af, g⟩ :: rest) a w := h
/-- .. at a builtin's call. -/
theorem at_bi {P : Program} {ops : Array Oper} {rest : List Oper} {a : Act} {w : World} {Q : Exit → Act → World → Prop} (b : Builtin) (xs : Array Operand) {ts : Array TypeId} {d : Option Tmp} {ty : TypeId} {pos : String} {af : Array Go.Edge} {g : Option (Nat × Bool)}
    (h : wpList P ops Q (⟨d, .call { callee := .builtin b, args := xs, argTypes := ts }, ty, pos, af, g⟩ :: rest) a w) : wpList P ops Q (⟨d, .call { callee := .builtin b, args := xs, argTypes := ts }, ty, pos, af, g⟩ :: rest) a w := h
theorem at_mk {P : Program} {ops : Array Oper} {rest : List Oper} {a : Act} {w : World} {Q : Exit → Act → World → Prop} (T : TypeId) (x y : Operand) {d : Option Tmp} {ty : TypeId} {pos : String} {af : Array Go.Edge} {g : Option (Nat × Bool)}
    (h : wpList P ops Q (⟨d, .makeSlice T x y, ty, pos, af, g⟩ :: rest) a w) : wpList P ops Q (⟨d, .makeSlice T x y, ty, pos, af, g⟩ :: rest) a w := h
end Go.Proofs.YthhmahmclkmjpaaDoor
