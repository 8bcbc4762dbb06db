/- Proved: how slices of numbers and of dots are read, appended to, cleared and stored into; for cells that are there and are not frozen. -/
import Derived.Handy
import Derived.WalkSpells
import Derived.WalkLawsBesides
import Derived.Lib.MinMax
import Derived.Lib.Hide
import Derived.Deep.AppendLies
import Derived.Deep.Draws
import Derived.Laws.IdiomCopy
import Derived.Deep.MidRow
namespace Go.Proofs.YthhmahmclkmjpaaDoor
open Go.RowKit

/-- A slice's address reads the cells cs (nothing is asked of an empty list). -/
def Rd (w : World) (A : Option Addr) (cs : List Value) : Prop :=
  cs = [] ∨ ∃ b off, A = some ⟨b, off, none⟩ ∧ b < w.heap.size ∧ ∀ j u, cs[j]? = some u → w.cell? ⟨b, off + j, none⟩ = some u

theorem Rd.nil (w : World) (A : Option Addr) : Rd w A [] := .inl rfl

theorem Rd.below {w w' : World} {A : Option Addr} {cs : List Value} (h : Rd w A cs) (hb : Below w.heap.size w w') : Rd w' A cs := by
  rcases h with h | ⟨b, off, hA, hlt, hc⟩
  · exact .inl h
  · exact .inr ⟨b, off, hA, Nat.lt_of_lt_of_le hlt hb.size, fun j u hu => by rw [hb.cell (p := ⟨b, off + j, none⟩) hlt]; exact hc j u hu⟩

theorem Rd.at_ {w : World} {A : Option Addr} {cs : List Value} (h : Rd w A cs) (hn : cs ≠ []) : ∃ b off, A = some ⟨b, off, none⟩ ∧ b < w.heap.size ∧ ∀ j u, cs[j]? = some u → w.cell? ⟨b, off + j, none⟩ = some u :=
  h.resolve_left hn

abbrev Dot := Int × Int
def dotCell (d : Dot) : List Value := [.int .i64 d.1, .int .i64 d.2]
def dotCells (l : List Dot) : List Value := l.flatMap dotCell

theorem flatMap_at {α : Type} (f : α → List Value) (n : Nat) (hf : ∀ x, (f x).length = n) : ∀ (l : List α) (k : Nat) (x : α), l[k]? = some x → ∀ j, j < n → (l.flatMap f)[k * n + j]? = (f x)[j]?
  | [], _, _, h, _, _ => by simp at h
  | y :: l, 0, x, h, j, hj => by
    simp at h; subst h
    simp [List.flatMap_cons]
    rw [List.getElem?_append_left (by rw [hf]; exact hj)]
  | y :: l, k + 1, x, h, j, hj => by
    simp at h
    rw [List.flatMap_cons, List.getElem?_append_right (by rw [hf, Nat.succ_mul]; omega), hf]
    have := flatMap_at f n hf l k x h j hj
    rw [← this]; congr 1; rw [Nat.succ_mul]; omega

theorem flatMap_len {α : Type} (f : α → List Value) (n : Nat) (hf : ∀ x, (f x).length = n) : ∀ (l : List α), (l.flatMap f).length = l.length * n
  | [] => by simp
  | y :: l => by rw [List.flatMap_cons, List.length_append, hf, flatMap_len f n hf l, List.length_cons, Nat.succ_mul]; omega

theorem dotCells_len (l : List Dot) : (dotCells l).length = l.length * 2 := flatMap_len _ 2 (fun _ => rfl) l

/-- The two cells of dot number k. -/
theorem Rd.dot {w : World} {A : Option Addr} {l : List Dot} (h : Rd w A (dotCells l)) {k : Nat} {d : Dot} (hk : l[k]? = some d) :
    ∃ b off, A = some ⟨b, off, none⟩ ∧ b < w.heap.size ∧ w.cell? ⟨b, off + k * 2, none⟩ = some (.int .i64 d.1) ∧ w.cell? ⟨b, off + k * 2 + 1, none⟩ = some (.int .i64 d.2) := by
  have e0 := flatMap_at dotCell 2 (fun _ => rfl) l k d hk 0 (by omega)
  have e1 := flatMap_at dotCell 2 (fun _ => rfl) l k d hk 1 (by omega)
  obtain ⟨b, off, hA, hb, hc⟩ := h.at_ (by intro e; rw [dotCells] at e; rw [e] at e0; simp [dotCell] at e0)
  exact ⟨b, off, hA, hb, hc _ _ (e0.trans rfl), hc _ _ (e1.trans rfl)⟩

/-- What the laws on append and make ask of a slice type t over elements e. -/
structure ET (P : Program) (t e : TypeId) (size bytes : Nat) : Prop where
  und : P.underlying t = some (.slice e)
  info : ∃ i z, P.info? e = some i ∧ i.zero = some z ∧ i.size = size ∧ i.bytes = bytes ∧ z.cells.size = size
  pos : 0 < size
  posb : 0 < bytes

theorem ET.mk' {P : Program} {t e : TypeId} {z : Value} {size bytes : Nat} (h : P.underlying t = some (.slice e))
    (hi : (P.info? e).map (fun i => (i.zero, i.size, i.bytes)) = some (some z, size, bytes)) (hz : z.cells.size = size) (hp : 0 < size) (hb : 0 < bytes) : ET P t e size bytes := by
  obtain ⟨i, h1, h2, h3, h4⟩ := info_parts hi
  exact ⟨h, ⟨i, z, h1, h2, h3, h4, hz⟩, hp, hb⟩

theorem add_plain (b off j : Nat) : (⟨b, off, none⟩ : Addr).add j = ⟨b, off + j, none⟩ := by
  unfold Addr.add; split <;> simp_all

theorem Rd.new (w : World) (cs : Array Value) (e : TypeId) {g : Nat} (hg : w.heap.size = g) : Rd (w.alloc (.cells cs e)) (some ⟨g, 0, none⟩) cs.toList := by
  subst hg
  refine .inr ⟨_, 0, rfl, by simp, fun j u hu => ?_⟩
  have := World.news_of_block (heap_alloc_new w (.cells cs e)) j u hu
  rwa [add_plain] at this

theorem run_append_nil0 {P : Program} (w : World) (base : Nat) (t ty e : TypeId) (i : TypeInfo) (size : Nat) (ht : P.underlying t = some (.slice e)) (hi : P.info? e = some i)
    (v : Value) (n : Nat) (xs : List Value) (hown : w.ownsRow base e size v n xs) (A : Option Addr) (c : Nat) : (Builtin.append_ #[t, t] ty #[v, .slice A 0 c]).run P w = .ok v w := by
  rcases hown.2 with ⟨rfl, rfl⟩ | ⟨g, cap, cur, rfl, _, _, hnc, _⟩
  · cases A <;> simp [Builtin.append_, run_underlying ht, sizeOf, typeInfo, hi, Builtin.lenOf, Builtin.firstCells, loadCells, loadCellsFrom]
  · cases A <;> simp [Builtin.append_, run_underlying ht, sizeOf, typeInfo, hi, Builtin.lenOf, Builtin.firstCells, hnc, storeCells, loadCells, loadCellsFrom]

theorem below_grown {w w' : World} {base e size n : Nat} {v : Value} {xs : List Value} (hown : w.ownsRow base e size v n xs) (hg : w.grownBy w' v.ownBlock) (hbase : base ≤ w.heap.size) : Below base w w' :=
  (Below.refl base w).grown hg hbase (fun k hk => (hown.lt k hk).1)

theorem run_app {P : Program} (w : World) {t ty e : TypeId} {size bytes : Nat} (E : ET P t e size bytes)
    {base : Nat} {v : Value} {n : Nat} {xs : List Value} (hown : w.ownsRow base e size v n xs)
    {A : Option Addr} {m c : Nat} {news : List Value} (hr : Rd w A news) (hl : news.length = m * size) (h1 : ∀ u ∈ news, u.oneCell' = true)
    (hbytes : (n + m) * bytes ≤ 140737488355328) (hbase : base ≤ w.heap.size) :
    ∃ v' w', (Builtin.append_ #[t, t] ty #[v, .slice A m c]).run P w = .ok v' w' ∧ w'.ownsRow base e size v' (n + m) (xs ++ news) ∧ w.grownBy w' v.ownBlock ∧
      (v'.ownBlock = v.ownBlock ∨ v'.ownBlock = some w.heap.size) ∧ Below base w w' := by
  obtain ⟨ht, ⟨i, z, hi, hz, hs, hb, hzs⟩, hp, hpb⟩ := E
  have h63 : n + m ≤ maxLen := by
    have := Nat.le_trans (Nat.le_mul_of_pos_right (n + m) hpb) hbytes
    simp only [maxLen]; omega
  rcases Nat.eq_zero_or_pos m with h0 | hm
  · subst h0
    have hn : news = [] := List.eq_nil_of_length_eq_zero (by simpa using hl)
    subst hn
    exact ⟨v, w, run_append_nil0 w base t ty e i size ht hi v n xs hown A c, by simpa using hown, World.grownBy.refl w _, .inl rfl, Below.refl _ _⟩
  · obtain ⟨b, off, rfl, _, hc⟩ := hr.at_ (by intro e0; rw [e0] at hl; have := Nat.mul_pos hm hp; simp only [List.length_nil] at hl; omega)
    obtain ⟨v', w', hrun, h2, h3, _, h5⟩ := run_append_own_at (P := P) w base t ty e i z size bytes ht hi hz hs hb hzs hp v n xs hown ⟨b, off, none⟩ m c news hl
      (fun j u hu => by rw [add_plain]; exact hc j u hu) h1 h63 hbytes hbase
    exact ⟨v', w', hrun, h2, h3, h5, below_grown hown h3 hbase⟩

section
variable {P : Program} {w : World} {ops : Array Oper} {rest : List Oper} {o : Oper} {a : Act} {Q : Exit → Act → World → Prop}
theorem wp_app {K : Act → World → Prop} {s x : Operand} {t : TypeId}
    (ho : o.op = .call { callee := .builtin .append, args := #[s, x], argTypes := #[t, t] })
    {e : TypeId} {size bytes : Nat} (E : ET P t e size bytes)
    {base : Nat} {v : Value} {n : Nat} {xs : List Value} (hown : w.ownsRow base e size v n xs) (hs : a.eval s = v)
    {A : Option Addr} {m c : Nat} {news : List Value} (hx : a.eval x = .slice A m c) (hr : Rd w A news) (hl : news.length = m * size) (h1 : ∀ u ∈ news, u.oneCell' = true)
    (hbytes : (n + m) * bytes ≤ 140737488355328) (hbase : base ≤ w.heap.size)
    (h : ∀ v' w', w'.ownsRow base e size v' (n + m) (xs ++ news) → w.grownBy w' v.ownBlock → (v'.ownBlock = v.ownBlock ∨ v'.ownBlock = some w.heap.size) → Below base w w' → K (a.put o.dst v') w') : o.wp P a w K Q := by
  obtain ⟨v', w', hrun, h2, h3, h4, h5⟩ := run_app (P := P) w (ty := o.type) E hown hr (c := c) hl h1 hbytes hbase
  unfold Oper.wp execOp
  simp only [ho, resolve, invoke, builtin, Sem.run_bind, Sem.run_pure, Result.andThen_ok, List.map_toArray, List.map_cons, List.map_nil, hs, hx, hrun]
  exact h v' w' h2 h3 h4 h5

theorem wpList_app (hgd : o.guard = none) {s x : Operand} {t : TypeId}
    (ho : o.op = .call { callee := .builtin .append, args := #[s, x], argTypes := #[t, t] })
    {e : TypeId} {size bytes : Nat} (E : ET P t e size bytes)
    {base : Nat} {v : Value} {n : Nat} {xs : List Value} (hown : w.ownsRow base e size v n xs) (hs : a.eval s = v)
    {A : Option Addr} {m c : Nat} {news : List Value} (hx : a.eval x = .slice A m c) (hr : Rd w A news) (hl : news.length = m * size) (h1 : ∀ u ∈ news, u.oneCell' = true)
    (hbytes : (n + m) * bytes ≤ 140737488355328) (hbase : base ≤ w.heap.size)
    (h : ∀ v' w', w'.ownsRow base e size v' (n + m) (xs ++ news) → w.grownBy w' v.ownBlock → (v'.ownBlock = v.ownBlock ∨ v'.ownBlock = some w.heap.size) → Below base w w' → wpList P ops Q rest (a.put o.dst v') w') : wpList P ops Q (o :: rest) a w :=
  wpList_plain hgd fun _ hK => wp_app ho E hown hs hx hr hl h1 hbytes hbase fun v' w' h2 h3 h4 h5 => hK _ _ (h v' w' h2 h3 h4 h5)
end

theorem ownsRow_below {w w' : World} {base e size n : Nat} {v : Value} {xs : List Value} (h : w.ownsRow base e size v n xs) (hb : Below w.heap.size w w') : w'.ownsRow base e size v n xs :=
  h.kept (row := none) ⟨hb.os, hb.tape, hb.output, hb.size, fun k hk _ => hb.block k hk⟩ (by cases hv : v.ownBlock <;> simp)
theorem ownsRow_mono {w : World} {base base' e size n : Nat} {v : Value} {xs : List Value} (h : w.ownsRow base e size v n xs) (hb : base' ≤ base) : w.ownsRow base' e size v n xs := by
  refine ⟨h.1, h.2.imp id ?_⟩
  rintro ⟨g, cap, cur, h1, h2, h3⟩
  exact ⟨g, cap, cur, h1, by omega, h3⟩
theorem ownsRow_form {w : World} {base e size n : Nat} {v : Value} {xs : List Value} (h : w.ownsRow base e size v n xs) : ∃ A cap, v = .slice A n cap ∧ n ≤ cap ∧ Rd w A xs ∧ (∀ ad, A = some ad → base ≤ ad.block ∧ ad.block < w.heap.size) := by
  rcases h.2 with ⟨rfl, rfl⟩ | ⟨g, cap, cur, rfl, hb, hg, hc, _, _, ht⟩
  · have : xs = [] := List.eq_nil_of_length_eq_zero (by simpa using h.1)
    subst this
    exact ⟨none, 0, rfl, Nat.le_refl _, Rd.nil _ _, by simp⟩
  · have hlt : g < w.heap.size := (Array.getElem?_eq_some_iff.1 hg).1
    refine ⟨some ⟨g, 0, none⟩, cap, rfl, hc, .inr ⟨g, 0, rfl, hlt, fun j u hu => ?_⟩, fun ad he => ?_⟩
    · have := h.cells (g := g) rfl j u hu
      rwa [add_plain] at this
    · injection he with he; subst he; exact ⟨hb, hlt⟩
/-! ### Stores into an owned row -/
theorem setCells_heap (g : Nat) (e : TypeId) : ∀ (vs : List Value) (o : Nat) (w : World) (cur : Array Value), w.heap[g]? = some (.cells cur e (0, 0)) → o + vs.length ≤ cur.size →
    (w.setCells g o vs).heap[g]? = some (.cells (cur.toList.take o ++ vs ++ cur.toList.drop (o + vs.length)).toArray e (0, 0))
  | [], o, w, cur, h, _ => by simpa [World.setCells] using h
  | v :: vs, o, w, cur, h, hl => by
    rw [World.setCells]
    have h1 := heap_setCell_same w g o cur e v h
    simp only [List.length_cons] at hl
    rw [setCells_heap g e vs (o + 1) _ _ h1 (by simp; omega)]
    congr 3
    have ho : o < cur.toList.length := by simp; omega
    simp only [Array.toList_setIfInBounds, List.length_cons]
    rw [List.set_eq_take_append_cons_drop, if_pos ho]
    have e2 : (cur.toList.take o).length = o := by simp; omega
    have e3 : (cur.toList.take o ++ v :: cur.toList.drop (o + 1)).take (o + 1) = cur.toList.take o ++ [v] := by
      rw [List.take_append, e2, List.take_of_length_le (by omega), show o + 1 - o = 1 by omega]; rfl
    have e4 : (cur.toList.take o ++ v :: cur.toList.drop (o + 1)).drop (o + 1 + vs.length) = cur.toList.drop (o + (vs.length + 1)) := by
      rw [List.drop_append, e2, List.drop_of_length_le (by omega), show o + 1 + vs.length - o = vs.length + 1 by omega, List.drop_succ_cons, List.drop_drop]
      simp; congr 1; omega
    rw [e3, e4]; simp

theorem setCells_other (g : Nat) : ∀ (vs : List Value) (o : Nat) (w : World) (k : Nat), k ≠ g → (w.setCells g o vs).heap[k]? = w.heap[k]?
  | [], _, _, _, _ => rfl
  | v :: vs, o, w, k, h => by
    rw [World.setCells, setCells_other g vs (o + 1) _ k h, heap_setCell_other _ _ _ _ h]

theorem setCells_grown (g : Nat) : ∀ (vs : List Value) (o : Nat) (w : World), w.grownBy (w.setCells g o vs) (some g)
  | [], _, w => World.grownBy.refl w _
  | v :: vs, o, w => by
    rw [World.setCells]
    have h := setCells_grown g vs (o + 1) (w.setCell ⟨g, o, none⟩ v)
    refine ⟨h.os, h.tape, h.output, by simpa using h.size, fun k hk hne => ?_⟩
    have hk' : k ≠ g := fun e => hne (by rw [e])
    rw [h.block k (by simpa using hk) hne, heap_setCell_other _ _ _ _ hk']

theorem flatMap_set {α : Type} (f : α → List Value) (n : Nat) (hf : ∀ x, (f x).length = n) : ∀ (l : List α) (k : Nat) (x : α), k < l.length →
    (l.flatMap f).take (k * n) ++ f x ++ (l.flatMap f).drop (k * n + n) = (l.set k x).flatMap f
  | [], _, _, h => by simp at h
  | y :: l, 0, x, _ => by simp [List.flatMap_cons, ← hf y]
  | y :: l, k + 1, x, h => by
    have ih := flatMap_set f n hf l k x (by simpa using h)
    rw [List.set_cons_succ, List.flatMap_cons, List.flatMap_cons, ← ih, Nat.succ_mul]
    rw [List.take_append, List.drop_append, hf, List.take_of_length_le (by rw [hf]; omega), List.drop_of_length_le (by rw [hf]; omega), show k * n + n - n = k * n by omega, show k * n + n + n - n = k * n + n by omega]
    simp

theorem own_setCells {w : World} {base e size g n cap k : Nat} {xs cs : List Value} (h : w.ownsRow base e size (.slice (some ⟨g, 0, none⟩) n cap) n xs) (hk : k < n) (hc : cs.length = size) :
    (w.setCells g (k * size) cs).ownsRow base e size (.slice (some ⟨g, 0, none⟩) n cap) n (xs.take (k * size) ++ cs ++ xs.drop (k * size + size)) := by
  obtain ⟨hl, h2⟩ := h
  rcases h2 with ⟨h0, _⟩ | ⟨g', cap', cur, hv, hb, hg, hnc, hm, hs, ht⟩
  · cases h0
  injection hv with hv1 hv2 hv3
  injection hv1 with hv1; injection hv1 with hv1
  subst hv1 hv3
  have hkn : k * size + size ≤ n * size := by rw [← Nat.succ_mul]; exact Nat.mul_le_mul_right _ hk
  have hnc' : n * size ≤ cap * size := Nat.mul_le_mul_right _ hnc
  refine ⟨?_, .inr ⟨g, cap, _, rfl, hb, setCells_heap g e cs (k * size) w cur hg (by omega), hnc, hm, ?_, ?_⟩⟩
  · simp only [List.length_append, List.length_take, List.length_drop]; omega
  · simp only [List.size_toArray, List.length_append, List.length_take, List.length_drop, Array.length_toList]; omega
  · have hlc : cur.toList.length = cap * size := by simpa using hs
    have e0 : cur.toList = xs ++ cur.toList.drop (n * size) := by rw [← ht]; exact (List.take_append_drop _ _).symm
    have e2 : (xs.take (k * size) ++ cs ++ xs.drop (k * size + size)).length = n * size := by simp only [List.length_append, List.length_take, List.length_drop]; omega
    have e1 : cur.toList.take (k * size) ++ cs ++ cur.toList.drop (k * size + cs.length) = (xs.take (k * size) ++ cs ++ xs.drop (k * size + size)) ++ cur.toList.drop (n * size) := by
      rw [hc]
      conv => lhs; rw [e0]
      rw [List.take_append, List.drop_append, show k * size - xs.length = 0 by omega, show k * size + size - xs.length = 0 by omega]
      simp
    rw [e1, ← e2, List.take_left]

/-! ### clear -/
theorem zeroCells_one (z : Value) (n : Nat) : (Builtin.zeroCells #[z] n).toList = List.replicate n z := by
  unfold Builtin.zeroCells
  apply List.ext_getElem?
  intro j
  simp only [Array.toList_map, Array.toList_range, List.getElem?_map, List.getElem?_replicate, List.size_toArray, List.length_cons, List.length_nil, Nat.zero_add, Nat.mul_one]
  by_cases h : j < n
  · simp [h, Nat.mod_one]
  · simp [h]
theorem zeroCells_size (z : Array Value) (n : Nat) : (Builtin.zeroCells z n).toList.length = n * z.size := by simp [Builtin.zeroCells]

theorem run_clear {P : Program} (w : World) {t ty e : TypeId} {z : Value} (ht : P.underlying t = some (.slice e)) (hz : ∀ w, (zeroValue e).run P w = .ok z w) {n : Nat}
    (h1 : ∀ v ∈ (Builtin.zeroCells z.cells n).toList, v.oneCell' = true) {A : Option Addr} {c : Nat} (hth : 0 < n → ∃ b o, A = some ⟨b, o, none⟩ ∧ w.there b o (n * z.cells.size)) :
    ∃ w', (Builtin.clear_ #[t] ty #[.slice A n c]).run P w = .ok (.tuple #[]) w' ∧ ((n = 0 ∧ w' = w) ∨ ∃ b o, A = some ⟨b, o, none⟩ ∧ 0 < n ∧ w' = w.setCells b o (Builtin.zeroCells z.cells n).toList) := by
  rcases Nat.eq_zero_or_pos n with rfl | hp
  · exact ⟨w, by cases A <;> simp [Builtin.clear_, run_underlying ht], .inl ⟨rfl, rfl⟩⟩
  · obtain ⟨b, o, rfl, hh⟩ := hth hp
    have hst := run_storeCells_cells (P := P) b o (Builtin.zeroCells z.cells n).toList 0 w (fun j hj => by simpa using (hh j (by rw [zeroCells_size] at hj; exact hj)).1)
      (fun j hj => by simpa using (hh j (by rw [zeroCells_size] at hj; exact hj)).2) h1
    simp only [Nat.add_zero] at hst
    obtain ⟨m, rfl⟩ : ∃ m, n = m + 1 := ⟨n - 1, by omega⟩
    exact ⟨_, by simp [Builtin.clear_, run_underlying ht, hz, hst], .inr ⟨b, o, rfl, hp, rfl⟩⟩

theorem wpList_clear {P : Program} {w : World} {ops : Array Oper} {rest : List Oper} {o : Oper} {a : Act} {Q : Exit → Act → World → Prop} (hgd : o.guard = none) {x : Operand} {t : TypeId}
    (ho : o.op = .call { callee := .builtin .clear, args := #[x], argTypes := #[t] }) {e : TypeId} {z : Value} (ht : P.underlying t = some (.slice e)) (hz : ∀ w, (zeroValue e).run P w = .ok z w) {n : Nat}
    (h1 : ∀ v ∈ (Builtin.zeroCells z.cells n).toList, v.oneCell' = true) {A : Option Addr} {c : Nat} (hx : a.eval x = .slice A n c) (hth : 0 < n → ∃ b o, A = some ⟨b, o, none⟩ ∧ w.there b o (n * z.cells.size))
    (h : ∀ w', ((n = 0 ∧ w' = w) ∨ ∃ b o, A = some ⟨b, o, none⟩ ∧ 0 < n ∧ w' = w.setCells b o (Builtin.zeroCells z.cells n).toList) → wpList P ops Q rest (a.put o.dst (.tuple #[])) w') : wpList P ops Q (o :: rest) a w :=
  wpList_plain hgd fun K hK => by
    obtain ⟨w', hrun, hw⟩ := run_clear (P := P) w (ty := o.type) ht hz h1 (c := c) hth
    unfold Oper.wp execOp
    simp only [ho, resolve, invoke, builtin, Sem.run_bind, Sem.run_pure, Result.andThen_ok, List.map_toArray, List.map_cons, List.map_nil, hx, hrun]
    exact hK _ _ (h w' hw)

theorem own_there {w : World} {base e size g n cap : Nat} {xs : List Value} (h : w.ownsRow base e size (.slice (some ⟨g, 0, none⟩) n cap) n xs) {o m : Nat} (hm : o + m ≤ cap * size) : w.there g o m := by
  rcases h.2 with ⟨h0, _⟩ | ⟨g', cap', cur, hv, hb, hg, hnc, _, hs, _⟩
  · cases h0
  injection hv with hv1 hv2 hv3
  injection hv1 with hv1; injection hv1 with hv1
  subst hv1 hv3
  intro j hj
  refine ⟨?_, frozen_of_row w g _ cur e hg⟩
  rw [cell_of_row w g (o + j) cur e (0, 0) hg, Array.getElem?_eq_getElem (by omega)]; rfl

theorem own_cap {w : World} {base e size g n cap : Nat} {xs : List Value} (h : w.ownsRow base e size (.slice (some ⟨g, 0, none⟩) n cap) n xs) : n ≤ cap ∧ cap ≤ maxLen := by
  rcases h.2 with ⟨h0, _⟩ | ⟨g', cap', cur, hv, hb, hg, hnc, hm, hs, _⟩
  · cases h0
  injection hv with hv1 hv2 hv3
  subst hv3; exact ⟨hnc, hm⟩

/-- What is cleared behind place o leaves the first o cells. -/
theorem own_clear {w : World} {base e size g n cap k : Nat} {xs vs : List Value} (h : w.ownsRow base e size (.slice (some ⟨g, 0, none⟩) n cap) n xs) (hk : k ≤ n) (hv : k * size + vs.length ≤ cap * size) :
    (w.setCells g (k * size) vs).ownsRow base e size (.slice (some ⟨g, 0, none⟩) k cap) k (xs.take (k * size)) := by
  obtain ⟨hl, h2⟩ := h
  rcases h2 with ⟨h0, _⟩ | ⟨g', cap', cur, hv', hb, hg, hnc, hm, hs, ht⟩
  · cases h0
  injection hv' with hv1 hv2 hv3
  injection hv1 with hv1; injection hv1 with hv1
  subst hv1 hv3
  have hkn : k * size ≤ n * size := Nat.mul_le_mul_right _ hk
  refine ⟨by rw [List.length_take, hl]; omega, .inr ⟨g, cap, _, rfl, hb, setCells_heap g e vs (k * size) w cur hg (by omega), by omega, hm, ?_, ?_⟩⟩
  · simp only [List.size_toArray, List.length_append, List.length_take, List.length_drop, Array.length_toList]; omega
  · have e2 : (cur.toList.take (k * size)).length = k * size := by simp; have := Nat.mul_le_mul_right size hnc; omega
    rw [List.append_assoc, List.take_append, e2, List.take_of_length_le (by omega), Nat.sub_self, List.take_zero, List.append_nil, ← ht, List.take_take, Nat.min_eq_left hkn]

/-! ### Only these old blocks have turned -/
structure Upd (bs : List Nat) (w w' : World) : Prop where
  os : w'.os = w.os
  tape : w'.tape = w.tape
  output : w'.output = w.output
  size : w.heap.size ≤ w'.heap.size
  block : ∀ k, k < w.heap.size → k ∉ bs → w'.heap[k]? = w.heap[k]?

theorem Upd.refl (bs : List Nat) (w : World) : Upd bs w w := ⟨rfl, rfl, rfl, Nat.le_refl _, fun _ _ _ => rfl⟩
theorem Upd.trans {bs : List Nat} {a b c : World} (h : Upd bs a b) (k : Upd bs b c) : Upd bs a c :=
  ⟨k.os.trans h.os, k.tape.trans h.tape, k.output.trans h.output, Nat.le_trans h.size k.size, fun i hi hn => (k.block i (Nat.lt_of_lt_of_le hi h.size) hn).trans (h.block i hi hn)⟩
theorem Upd.mono {bs bs' : List Nat} {a b : World} (h : Upd bs a b) (hs : ∀ x ∈ bs, x ∈ bs') : Upd bs' a b :=
  ⟨h.os, h.tape, h.output, h.size, fun i hi hn => h.block i hi (fun hm => hn (hs _ hm))⟩
theorem Upd.drewN {bs : List Nat} {a b : World} (h : Upd bs a b) (n : Nat) : Upd bs a (b.drewN n) := ⟨h.os, h.tape, h.output, h.size, h.block⟩
theorem Upd.drew {bs : List Nat} {a b : World} (h : Upd bs a b) : Upd bs a b.drew := ⟨h.os, h.tape, h.output, h.size, h.block⟩
theorem Upd.alloc {bs : List Nat} {a b : World} (h : Upd bs a b) (o : Obj) : Upd bs a (b.alloc o) :=
  h.trans ⟨rfl, rfl, rfl, by simp, fun k hk _ => Below.heap_alloc _ _ _ hk⟩
theorem Upd.setCell {bs : List Nat} {a b : World} (h : Upd bs a b) {p : Addr} (hp : p.block ∈ bs ∨ a.heap.size ≤ p.block) (u : Value) : Upd bs a (b.setCell p u) :=
  ⟨h.os, h.tape, h.output, by simpa using h.size, fun k hk hn => by
    rw [heap_setCell_other _ _ _ _ (by rintro rfl; rcases hp with hp | hp; exact hn hp; omega)]; exact h.block k hk hn⟩
theorem Upd.setCells {bs : List Nat} {a b : World} (h : Upd bs a b) {g : Nat} (hp : g ∈ bs ∨ a.heap.size ≤ g) (o : Nat) (vs : List Value) : Upd bs a (b.setCells g o vs) := by
  have hg := setCells_grown g vs o b
  exact ⟨hg.os.trans h.os, hg.tape.trans h.tape, hg.output.trans h.output, Nat.le_trans h.size hg.size, fun k hk hn => by
    rw [setCells_other g vs o b k (by rintro rfl; rcases hp with hp | hp; exact hn hp; omega)]; exact h.block k hk hn⟩
theorem Upd.grown {bs : List Nat} {a b c : World} (h : Upd bs a b) {row : Option Nat} (hg : b.grownBy c row) (hr : ∀ g, row = some g → g ∈ bs ∨ a.heap.size ≤ g) : Upd bs a c :=
  ⟨hg.os.trans h.os, hg.tape.trans h.tape, hg.output.trans h.output, Nat.le_trans h.size hg.size, fun k hk hn => by
    rw [hg.block k (Nat.lt_of_lt_of_le hk h.size) (fun e => by rcases hr k e.symm with hp | hp; exact hn hp; omega)]; exact h.block k hk hn⟩
theorem Upd.below {bs : List Nat} {a b c : World} (h : Upd bs a b) (hb : Below b.heap.size b c) : Upd bs a c :=
  h.trans ⟨hb.os, hb.tape, hb.output, hb.size, fun k hk _ => hb.block k hk⟩
theorem Upd.toBelow {a b : World} {bs : List Nat} (h : Upd bs a b) {B : Nat} (hB : B ≤ a.heap.size) (hn : ∀ x ∈ bs, B ≤ x) : Below B a b :=
  ⟨h.os, h.tape, h.output, h.size, fun k hk => h.block k (by omega) (fun hm => by have := hn k hm; omega)⟩
theorem Upd.cell {bs : List Nat} {a b : World} (h : Upd bs a b) {p : Addr} (hp : p.block < a.heap.size) (hn : p.block ∉ bs) : b.cell? p = a.cell? p := World.cell?_of_block (w := a) (h.block p.block hp hn)
theorem Upd.blk {bs : List Nat} {a b : World} (h : Upd bs a b) {k : Nat} (hn : k ∉ bs) {o : Obj} (ho : a.heap[k]? = some o) : b.heap[k]? = some o :=
  (h.block k (Array.getElem?_eq_some_iff.1 ho).1 hn).trans ho
theorem Upd.own {bs : List Nat} {a b : World} (h : Upd bs a b) {base e size n : Nat} {v : Value} {xs : List Value} (ho : a.ownsRow base e size v n xs) (hn : ∀ g, v.ownBlock = some g → g ∉ bs) : b.ownsRow base e size v n xs := by
  refine ⟨ho.1, ho.2.imp id ?_⟩
  rintro ⟨g, cap, cur, rfl, hb, hg, r⟩
  exact ⟨g, cap, cur, rfl, hb, h.blk (hn g rfl) hg, r⟩
theorem Upd.rd {bs : List Nat} {a b : World} (h : Upd bs a b) {A : Option Addr} {cs : List Value} (hr : Rd a A cs) (hn : ∀ ad, A = some ad → ad.block ∉ bs) : Rd b A cs := by
  rcases hr with hr | ⟨g, off, rfl, hlt, hc⟩
  · exact .inl hr
  · exact .inr ⟨g, off, rfl, Nat.lt_of_lt_of_le hlt h.size, fun j u hu => by rw [h.cell (p := ⟨g, off + j, none⟩) hlt (hn ⟨g, off, none⟩ rfl)]; exact hc j u hu⟩

end Go.Proofs.YthhmahmclkmjpaaDoor
