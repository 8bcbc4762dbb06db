/- Proved: steps of append told which way it went, and of a call inside a region; for rows in memory of their own. -/
import Derived.Test.YthhmahmclkmjpaaDoorGen
namespace Go.Proofs.YthhmahmclkmjpaaDoor
open Go.RowKit
/-- A list's address, where it is not empty. -/
theorem own_addr {w : World} {base e s n : Nat} {v : Value} {xs : List Value} (h : w.ownsRow base e s v n xs) (hn : 0 < n) :
    ∃ g c cur, v = .slice (some ⟨g, 0, none⟩) n c ∧ base ≤ g ∧ w.heap[g]? = some (.cells cur e (0, 0)) ∧ n ≤ c ∧ c ≤ maxLen ∧ cur.size = c * s ∧ cur.toList.take (n * s) = xs := by
  rcases h.2 with ⟨_, h0⟩ | ⟨g, c, cur, hv, r⟩
  · omega
  · exact ⟨g, c, cur, hv, r⟩
theorem own_ne {w : World} {base e size n k : Nat} {v : Value} {xs : List Value} {cs : Array Value} {t : TypeId} {fr : Nat × Nat} (h : w.ownsRow base e size v n xs) (hk : w.heap[k]? = some (.cells cs t fr)) (hne : e ≠ t) : v.ownBlock ≠ some k := by
  rcases h.2 with ⟨rfl, _⟩ | ⟨g, cap, cur, rfl, _, hg, _⟩
  · simp [Value.ownBlock]
  · intro he
    have : g = k := by simpa [Value.ownBlock] using he
    subst this
    rw [hg] at hk; injection hk with hk; injection hk with _ ht; exact hne ht
/-- Rows over different element types lie apart. -/
theorem own_apart {w : World} {b1 b2 e1 e2 s1 s2 n1 n2 : Nat} {u v : Value} {xs ys : List Value} (hu : w.ownsRow b1 e1 s1 u n1 xs) (hv : w.ownsRow b2 e2 s2 v n2 ys) (he : e1 ≠ e2) : ∀ g, u.ownBlock = some g → g ∉ v.ownBlock.toList := by
  intro g hg hm
  have hvg : v.ownBlock = some g := by simpa using hm
  rcases hv.2 with ⟨rfl, _⟩ | ⟨g2, cap2, cur2, rfl, _, hg2, _⟩
  · simp [Value.ownBlock] at hvg
  · have : g2 = g := by simpa [Value.ownBlock] using hvg
    subst this
    exact own_ne hu hg2 he hg
theorem grown_upd {w w' : World} {v : Value} (hg : w.grownBy w' v.ownBlock) : Upd v.ownBlock.toList w w' := (Upd.refl _ _).grown hg (fun g h => .inl (by simp [h]))
theorem run_fit {P : Program} (w : World) {t ty e : TypeId} {size bytes : Nat} (E : ET P t e size bytes)
    {base g n cap : Nat} {xs : List Value} (hown : w.ownsRow base e size (.slice (some ⟨g, 0, none⟩) n cap) n xs)
    {A : Option Addr} {m c : Nat} {news : List Value} (hr : Rd w A news) (hl : news.length = m * size) (h1 : ∀ u ∈ news, u.oneCell' = true) (hroom : n + m ≤ cap) (hbase : base ≤ w.heap.size) :
    ∃ w', (Builtin.append_ #[t, t] ty #[.slice (some ⟨g, 0, none⟩) n cap, .slice A m c]).run P w = .ok (.slice (some ⟨g, 0, none⟩) (n + m) cap) w' ∧ w'.ownsRow base e size (.slice (some ⟨g, 0, none⟩) (n + m) cap) (n + m) (xs ++ news) ∧ Below base w w' ∧ Upd [g] w w' := by
  have E' := E
  obtain ⟨ht, ⟨i, z, hi, hz, hs, hb, hzs⟩, hp, hpb⟩ := E
  rcases Nat.eq_zero_or_pos m with h0 | hm
  · subst h0
    have hn : news = [] := List.eq_nil_of_length_eq_zero (by simpa using hl)
    subst hn
    exact ⟨w, run_append_nil0 w base t ty e i size ht hi _ n xs hown A c, by simpa using hown, Below.refl _ _, Upd.refl _ _⟩
  · obtain ⟨b, off, rfl, _, hc⟩ := hr.at_ (by intro e0; rw [e0] at hl; have := Nat.mul_pos hm hp; simp only [List.length_nil] at hl; omega)
    obtain ⟨w', hrun, h2, h3⟩ := run_append_fits (P := P) w base t ty e i size ht hi hs g n cap xs hown ⟨b, off, none⟩ m c news hl (fun j u hu => by rw [add_plain]; exact hc j u hu) h1 hroom
    exact ⟨w', hrun, h2, below_grown hown h3 hbase, (Upd.refl _ _).grown h3 (by intro k hk; injection hk with hk; left; simp [hk])⟩
/-- append, told which way it went. -/
theorem run_app3 {P : Program} (w : World) {t ty e : TypeId} {size bytes : Nat} (E : ET P t e size bytes)
    {base : Nat} {v : Value} {n : Nat} {xs : List Value} (hown : w.ownsRow base e size v n xs)
    {A : Option Addr} {m c : Nat} {news : List Value} (hr : Rd w A news) (hl : news.length = m * size) (h1 : ∀ u ∈ news, u.oneCell' = true) (hm : 0 < m)
    (hbytes : (n + m) * bytes ≤ 140737488355328) (hbase : base ≤ w.heap.size) :
    ∃ v' w', (Builtin.append_ #[t, t] ty #[v, .slice A m c]).run P w = .ok v' w' ∧ w'.ownsRow base e size v' (n + m) (xs ++ news) ∧ Below base w w' ∧
      ((v'.ownBlock = v.ownBlock ∧ Upd v.ownBlock.toList w w') ∨ (v'.ownBlock = some w.heap.size ∧ Upd [] w w')) := by
  obtain ⟨v', w', hrun, hown', hg, hat, hb⟩ := run_app (P := P) w (ty := ty) E hown hr (c := c) hl h1 hbytes hbase
  refine ⟨v', w', hrun, hown', hb, ?_⟩
  have hu := grown_upd hg
  rcases hown.2 with ⟨rfl, _⟩ | ⟨g, cap, cur, rfl, hbg, hh, hnc, hcm, hcs, htk⟩
  · rcases hat with e1 | e1
    · obtain ⟨g', _, _, hv', _⟩ := own_addr hown' (by omega)
      rw [hv'] at e1; simp [Value.ownBlock] at e1
    · exact .inr ⟨e1, by simpa [Value.ownBlock] using hu⟩
  · by_cases hroom : n + m ≤ cap
    · obtain ⟨w2, hrun2, _, _⟩ := run_fit (P := P) w (ty := ty) E hown hr (c := c) hl h1 hroom hbase
      rw [hrun] at hrun2
      injection hrun2 with h2 _
      left
      exact ⟨by rw [h2]; rfl, hu⟩
    · obtain ⟨ht, ⟨i, z, hi, hz, hs, hbt, hzs⟩, hp, hpb⟩ := E
      have hl0 : news ≠ [] := by intro e0; rw [e0] at hl; have := Nat.mul_pos hm hp; simp only [List.length_nil] at hl; omega
      obtain ⟨b, off, rfl, _, hc⟩ := hr.at_ hl0
      have holds : ∀ j u, xs[j]? = some u → w.cell? ((⟨g, 0, none⟩ : Addr).add j) = some u := hown.cells (g := g) rfl
      have h63 : n + m ≤ maxLen := by
        have := Nat.le_trans (Nat.le_mul_of_pos_right (n + m) hpb) hbytes
        simp only [maxLen]; omega
      have hsmall : n + m ≤ 9223372036854775807 := by simp only [maxLen] at h63; omega
      have hrun2 := run_append_grow (P := P) w t ty e i z ht hi hz ⟨g, 0, none⟩ n cap xs (by rw [hs]; exact hown.1) holds ⟨b, off, none⟩ m c news (by rw [hs]; exact hl) (fun j u hu => by rw [add_plain]; exact hc j u hu) (by omega) (by omega) (by rw [hbt]; exact growslice_fits (by omega) hbytes)
      rw [hrun] at hrun2
      injection hrun2 with h2 h3
      right
      exact ⟨by rw [h2]; rfl, by rw [h3]; exact ((Upd.refl [] w).drew).alloc _⟩
/-- append at a step of a region, told which way it went. -/
theorem step_app3 {P : Program} {w : World} {ops : Array Oper} {o : Oper} {a : Act} {K : Act → World → Prop} {Q : Exit → Act → World → Prop} {F : Prop} (hgd : o.guard = none) {s x : Operand} {t : TypeId}
    (ho : o.op = .call { callee := .builtin .append, args := #[s, x], argTypes := #[t, t] })
    {e : TypeId} {size bytes : Nat} (E : ET P t e size bytes)
    {base : Nat} {v : Value} {n : Nat} {xs : List Value} (hown : w.ownsRow base e size v n xs) (hs : a.eval s = v)
    {A : Option Addr} {m c : Nat} {news : List Value} (hx : a.eval x = .slice A m c) (hr : Rd w A news) (hl : news.length = m * size) (h1 : ∀ u ∈ news, u.oneCell' = true) (hm : 0 < m)
    (hbytes : (n + m) * bytes ≤ 140737488355328) (hbase : base ≤ w.heap.size)
    (h : ∀ v' w', w'.ownsRow base e size v' (n + m) (xs ++ news) → Below base w w' → ((v'.ownBlock = v.ownBlock ∧ Upd v.ownBlock.toList w w') ∨ (v'.ownBlock = some w.heap.size ∧ Upd [] w w')) → K (a.put o.dst v') w') :
    if Region.wanted o (yielded ops a.tmps) = true then Oper.wp P o a w K Q else F := by
  have hw : Region.wanted o (yielded ops a.tmps) = true := by simp [Region.wanted, hgd]
  rw [if_pos hw]
  obtain ⟨v', w', hrun, h2, h3, h4⟩ := run_app3 (P := P) w (ty := o.type) E hown hr (c := c) hl h1 hm hbytes hbase
  unfold Oper.wp execOp
  simp only [ho, resolve, invoke, builtin, Sem.run_bind, Sem.run_pure, Result.andThen_ok, List.map_toArray, List.map_cons, List.map_nil, hs, hx, hrun]
  exact h v' w' h2 h3 h4
theorem dir_keeps {wa w5 : World} {S : Nat} {lk lk' : Value} (hd : (lk'.ownBlock = lk.ownBlock ∧ Upd lk.ownBlock.toList wa w5) ∨ (lk'.ownBlock = some wa.heap.size ∧ Upd [] wa w5)) (hn : S ∉ lk.ownBlock.toList) (hS : S < wa.heap.size) (o : Nat) :
    w5.cell? ⟨S, o, none⟩ = wa.cell? ⟨S, o, none⟩ ∧ w5.frozen? ⟨S, o, none⟩ = wa.frozen? ⟨S, o, none⟩ ∧ S < w5.heap.size := by
  have hu : Upd lk.ownBlock.toList wa w5 := by
    rcases hd with ⟨_, h1⟩ | ⟨_, h1⟩
    · exact h1
    · exact h1.mono (by simp)
  have hb := hu.block S hS hn
  exact ⟨World.cell?_of_block (w := wa) hb, World.frozen?_of_block (w := wa) hb, Nat.lt_of_lt_of_le hS hu.size⟩
/-- A row whose elements are of another type than a block's lies elsewhere. -/
theorem own_not {w : World} {base e s n k : Nat} {v : Value} {xs : List Value} {co : Array Value} {t : TypeId} (h : w.ownsRow base e s v n xs) (hk : w.heap[k]? = some (.cells co t (0, 0))) (he : e ≠ t) : k ∉ v.ownBlock.toList := by
  intro hm
  have := own_ne h hk he
  exact this (by simpa using hm)
theorem own_off {k : Nat} {v : Value} (h : k ∉ v.ownBlock.toList) : ∀ g, v.ownBlock = some g → g ∉ [k] := by
  intro g hg hm
  have e : g = k := by simpa using hm
  subst e
  exact h (by rw [hg]; simp)
/-- A call of a Go function at a step of a region that draws. -/
theorem step_call {P : Program} {ops : Array Oper} {o : Oper} {a : Act} {w : World} {K : Act → World → Prop} {Q : Exit → Act → World → Prop} {E : Prop} {f : FuncId} {u : Value} {post : Ending → World → Prop} (hc : Calls P f #[u] w post)
    (hgd : o.guard = none) {x : Operand} {ts : Array TypeId} (hop : o.op = .call { callee := .value (.func f), args := #[x], argTypes := ts }) (hx : a.eval x = u) (hrun : ∀ vs, (callFunc f vs).run P w = .ok (.enter f vs) w)
    (h : ∀ e w', post e w' → ∃ v, e = .returned v ∧ K (a.put o.dst v) w') : if Region.wanted o (yielded ops a.tmps) = true then Oper.wp P o a w K Q else E := by
  have hw : Region.wanted o (yielded ops a.tmps) = true := by simp [Region.wanted, hgd]
  rw [if_pos hw]
  subst hx
  unfold Oper.wp
  have : (execOp a.eval o).run P w = .ok (.enter f #[a.eval x]) w := by
    simp [execOp, hop, resolve, invoke, Act.eval, Deferred.ofValue, hrun]
  rw [this]
  exact hc.mono fun e w' hp => by
    obtain ⟨v, rfl, hk⟩ := h e w' hp
    exact hk
end Go.Proofs.YthhmahmclkmjpaaDoor
