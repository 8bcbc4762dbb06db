/- Contracts and plain laws that the claims of this seat use (BookC), for all arguments that their hypotheses name. -/
import Derived.Test.YtkdgibabecpdlaaBookB
import Derived.Test.YtkdgibabecpdlaaTwinD
namespace Go.Proofs.Ytkdgibabecpdlaa
open Go.RowKit
/-- append, told which way it went. -/
theorem run_app3 {P : Program} (w : World) {t ty e : TypeId} {size bytes : Nat} (E : ET P t e size bytes)
    {base : Nat} {v : Value} {n : Nat} {xs : List Value} (hown : w.ownsRow base e size v n xs)
    {A : Option Addr} {m c : Nat} {news : List Value} (hr : Rd w A news) (hl : news.length = m * size) (h1 : ∀ u ∈ news, u.oneCell' = true) (hm : 0 < m)
    (hbytes : (n + m) * bytes ≤ 140737488355328) (hbase : base ≤ w.heap.size) :
    ∃ v' w', (Builtin.append_ #[t, t] ty #[v, .slice A m c]).run P w = .ok v' w' ∧ w'.ownsRow base e size v' (n + m) (xs ++ news) ∧ Below base w w' ∧
      ((v'.ownBlock = v.ownBlock ∧ Upd v.ownBlock.toList w w') ∨ (v'.ownBlock = some w.heap.size ∧ Upd [] w w')) := by
  obtain ⟨v', w', hrun, hown', hg, hat, hb⟩ := run_app (P := P) w (ty := ty) E hown hr (c := c) hl h1 hbytes hbase
  refine ⟨v', w', hrun, hown', hb, ?_⟩
  have hu := grown_upd hg
  rcases hown.2 with ⟨rfl, _⟩ | ⟨g, cap, cur, rfl, hbg, hh, hnc, hcm, hcs, htk⟩
  · rcases hat with e1 | e1
    · obtain ⟨g', _, _, hv', _⟩ := own_addr hown' (by omega)
      rw [hv'] at e1; simp [Value.ownBlock] at e1
    · exact .inr ⟨e1, by simpa [Value.ownBlock] using hu⟩
  · by_cases hroom : n + m ≤ cap
    · obtain ⟨w2, hrun2, _, _⟩ := run_fit (P := P) w (ty := ty) E hown hr (c := c) hl h1 hroom hbase
      rw [hrun] at hrun2
      injection hrun2 with h2 _
      left
      exact ⟨by rw [h2]; rfl, hu⟩
    · obtain ⟨ht, ⟨i, z, hi, hz, hs, hbt, hzs⟩, hp, hpb⟩ := E
      have hl0 : news ≠ [] := by intro e0; rw [e0] at hl; have := Nat.mul_pos hm hp; simp only [List.length_nil] at hl; omega
      obtain ⟨b, off, rfl, _, hc⟩ := hr.at_ hl0
      have holds : ∀ j u, xs[j]? = some u → w.cell? ((⟨g, 0, none⟩ : Addr).add j) = some u := hown.cells (g := g) rfl
      have h63 : n + m ≤ maxLen := by
        have := Nat.le_trans (Nat.le_mul_of_pos_right (n + m) hpb) hbytes
        simp only [maxLen]; omega
      have hsmall : n + m ≤ 9223372036854775807 := by simp only [maxLen] at h63; omega
      have hrun2 := run_append_grow (P := P) w t ty e i z ht hi hz ⟨g, 0, none⟩ n cap xs (by rw [hs]; exact hown.1) holds ⟨b, off, none⟩ m c news (by rw [hs]; exact hl) (fun j u hu => by rw [add_plain]; exact hc j u hu) (by omega) (by omega) (by rw [hbt]; exact growslice_fits (by omega) hbytes)
      rw [hrun] at hrun2
      injection hrun2 with h2 h3
      right
      exact ⟨by rw [h2]; rfl, by rw [h3]; exact ((Upd.refl [] w).drew).alloc _⟩
/-- append at a step of a region, told which way it went. -/
theorem step_app3 {P : Program} {w : World} {ops : Array Oper} {o : Oper} {a : Act} {K : Act → World → Prop} {Q : Exit → Act → World → Prop} {F : Prop} (hgd : o.guard = none) {s x : Operand} {t : TypeId}
    (ho : o.op = .call { callee := .builtin .append, args := #[s, x], argTypes := #[t, t] })
    {e : TypeId} {size bytes : Nat} (E : ET P t e size bytes)
    {base : Nat} {v : Value} {n : Nat} {xs : List Value} (hown : w.ownsRow base e size v n xs) (hs : a.eval s = v)
    {A : Option Addr} {m c : Nat} {news : List Value} (hx : a.eval x = .slice A m c) (hr : Rd w A news) (hl : news.length = m * size) (h1 : ∀ u ∈ news, u.oneCell' = true) (hm : 0 < m)
    (hbytes : (n + m) * bytes ≤ 140737488355328) (hbase : base ≤ w.heap.size)
    (h : ∀ v' w', w'.ownsRow base e size v' (n + m) (xs ++ news) → Below base w w' → ((v'.ownBlock = v.ownBlock ∧ Upd v.ownBlock.toList w w') ∨ (v'.ownBlock = some w.heap.size ∧ Upd [] w w')) → K (a.put o.dst v') w') :
    if Region.wanted o (yielded ops a.tmps) = true then Oper.wp P o a w K Q else F := by
  have hw : Region.wanted o (yielded ops a.tmps) = true := by simp [Region.wanted, hgd]
  rw [if_pos hw]
  obtain ⟨v', w', hrun, h2, h3, h4⟩ := run_app3 (P := P) w (ty := o.type) E hown hr (c := c) hl h1 hm hbytes hbase
  unfold Oper.wp execOp
  simp only [ho, resolve, invoke, builtin, Sem.run_bind, Sem.run_pure, Result.andThen_ok, List.map_toArray, List.map_cons, List.map_nil, hs, hx, hrun]
  exact h v' w' h2 h3 h4
theorem Try.etBits : ET Try.prog 28 65 1 2 := ET.mk' (z := .int .u16 0) (by kernel_rfl) (by kernel_rfl) rfl (by decide) (by decide)
theorem stCells_setLong (u : Value) : ∀ (M : List St) (i : Nat) (hi : i < M.length), (stCells M).set (i * 3 + 1) u = stCells (M.set i { M[i] with long := u })
  | s :: M, 0, _ => by simp [stCells, stCell]
  | s :: M, i + 1, hi => by
    have hi' : i < M.length := by simpa using hi
    have := stCells_setLong u M i hi'
    have e1 : stCells (s :: M) = stCell s ++ stCells M := by simp [stCells]
    have e2 : stCells ((s :: M).set (i + 1) { (s :: M)[i + 1] with long := u }) = stCell s ++ stCells (M.set i { M[i] with long := u }) := by simp [stCells]
    have e3 : (i + 1) * 3 + 1 = (stCell s).length + (i * 3 + 1) := by simp [stCell]; omega
    rw [e1, e2, e3, List.set_append_right _ _ (by omega), Nat.add_sub_cancel_left, this]
/-- A strip's second list is another one. -/
theorem row_setLong {w : World} {base S cap : Nat} {M : List St} (h : w.ownsRow base 88 3 (.slice (some ⟨S, 0, none⟩) M.length cap) M.length (stCells M)) {i : Nat} (hi : i < M.length) (u : Value) :
    (w.setCell ⟨S, i * 3 + 1, none⟩ u).ownsRow base 88 3 (.slice (some ⟨S, 0, none⟩) M.length cap) M.length (stCells (M.set i { M[i] with long := u })) := by
  obtain ⟨g, c, cur, hv, hbg, hh, hnc, hcm, hcs, htk⟩ := own_addr h (by omega)
  injection hv with h1 h2 h3
  injection h1 with h1; injection h1 with h1
  subst h1 h3
  refine ⟨by rw [stCells_len]; simp, .inr ⟨S, cap, cur.setIfInBounds (i * 3 + 1) u, rfl, hbg, heap_setCell_same w S (i * 3 + 1) _ _ _ hh, hnc, hcm, by simpa using hcs, ?_⟩⟩
  rw [Array.toList_setIfInBounds, List.take_set, htk, stCells_setLong]
theorem row_setLong' {w : World} {base S cap N : Nat} {M : List St} (hN : M.length = N) (h : w.ownsRow base 88 3 (.slice (some ⟨S, 0, none⟩) N cap) N (stCells M)) {i : Nat} {s : St} (hs : M[i]? = some s) (u : Value) :
    (w.setCell ⟨S, i * 3 + 1, none⟩ u).ownsRow base 88 3 (.slice (some ⟨S, 0, none⟩) N cap) N (stCells (M.set i { s with long := u })) := by
  subst hN
  obtain ⟨hi, rfl⟩ := List.getElem?_eq_some_iff.1 hs
  exact row_setLong h hi u
/-- The strips' row when i strips have grown, and the next one's second list is lk. -/
def gAt (i : Nat) (lv : Nat → Value) (j : Nat) (s : St) : St := if j < i then { s with long := lv j } else s
def gL (i : Nat) (lv : Nat → Value) (L : List St) : List St := L.mapIdx (gAt i lv)
theorem gL_len (i : Nat) (lv : Nat → Value) (L : List St) : (gL i lv L).length = L.length := by simp [gL]
theorem gL_at (i : Nat) (lv : Nat → Value) (L : List St) (j : Nat) (hj : j < (gL i lv L).length) : (gL i lv L)[j] = gAt i lv j (L[j]'(by rw [gL_len] at hj; exact hj)) := by simp [gL]
theorem gL_zero (lv : Nat → Value) (L : List St) : gL 0 lv L = L := by
  apply List.ext_getElem
  · rw [gL_len]
  · intro j h1 h2
    rw [gL_at]; simp [gAt]
/-- A strip that has grown. -/
def Gr (w0 w : World) (s : St) (lv : Value) : Prop :=
  (∃ A c, s.v = .slice A s.n c ∧ Rd w A (bitVs (List.replicate s.n s.m))) ∧
  ∃ g c, lv = .slice (some ⟨g, 0, none⟩) (s.n + 24) c ∧ Rd w (some ⟨g, 0, none⟩) (bitVs (List.replicate (s.n + 24) s.m)) ∧ (s.v.ownBlock = some g ∨ w0.heap.size ≤ g)
structure Gs (w0 w : World) (base S cap : Nat) (L : List St) (i : Nat) (lv : Nat → Value) : Prop where
  row : w.ownsRow base 88 3 (.slice (some ⟨S, 0, none⟩) L.length cap) L.length (stCells (gL i lv L))
  own : ∀ j (hj : j < L.length), i ≤ j → w.ownsRow base 65 1 L[j].v L[j].n (bitVs (List.replicate L[j].n L[j].m))
  done : ∀ j (hj : j < L.length), j < i → Gr w0 w L[j] (lv j)
  below : Below base w0 w
/-- In the middle of a strip: k marks are appended. -/
structure Gi (wi w : World) (base S cap : Nat) (L : List St) (i : Nat) (hi : i < L.length) (lv : Nat → Value) (k : Nat) (lk : Value) : Prop where
  row : w.ownsRow base 88 3 (.slice (some ⟨S, 0, none⟩) L.length cap) L.length (stCells ((gL i lv L).set i { L[i] with long := lk }))
  own : w.ownsRow base 65 1 lk (L[i].n + k) (bitVs (List.replicate (L[i].n + k) L[i].m))
  old : L[i].n = 0 ∨ ∃ g0 c, L[i].v = .slice (some ⟨g0, 0, none⟩) L[i].n c ∧ g0 < wi.heap.size ∧ g0 ≠ S ∧ Rd w (some ⟨g0, 0, none⟩) (bitVs (List.replicate L[i].n L[i].m))
  blk : lk.ownBlock = L[i].v.ownBlock ∨ ∃ g, lk.ownBlock = some g ∧ wi.heap.size ≤ g
  upd : Upd (S :: L[i].v.ownBlock.toList) wi w
  below : Below base wi w
theorem bitVs_rep_len (n m : Nat) : (bitVs (List.replicate n m)).length = n := by simp [bitVs]
theorem Gi.start {w0 wi : World} {base S cap : Nat} {L : List St} {i : Nat} {lv : Nat → Value} (h : Gs w0 wi base S cap L i lv) (hi : i < L.length) :
    Gi wi (wi.setCell ⟨S, i * 3 + 1, none⟩ L[i].v) base S cap L i hi lv 0 L[i].v := by
  have hM := gL_len i lv L
  have hMi : (gL i lv L)[i]'(by rw [hM]; exact hi) = L[i] := by rw [gL_at]; simp [gAt]
  have hrow := row_setLong' hM h.row (i := i) (s := L[i]) (by rw [List.getElem?_eq_getElem (by rw [hM]; exact hi), hMi]) L[i].v
  have hown := h.own i hi (Nat.le_refl _)
  have hu : Upd [S] wi (wi.setCell ⟨S, i * 3 + 1, none⟩ L[i].v) := (Upd.refl [S] wi).setCell (.inl (by simp)) _
  have hnS : ∀ g, L[i].v.ownBlock = some g → g ≠ S := fun g hg e => by
    have := own_apart hown h.row (by decide) g hg
    subst e
    simp [Value.ownBlock] at this
  have hown1 := hu.own hown (fun g hg hm => hnS g hg (by simpa using hm))
  have hbS : base ≤ S := by
    obtain ⟨g, c, cur, hv, hbg, _⟩ := own_addr h.row (by omega)
    injection hv with h1 _ _
    injection h1 with h1; injection h1 with h1
    omega
  refine ⟨hrow, by simpa using hown1, ?_, .inl rfl, hu.mono (by simp), ?_⟩
  · rcases Nat.eq_zero_or_pos L[i].n with h0 | h0
    · exact .inl h0
    · right
      obtain ⟨g, c, cur, hv, hbg, hh, _⟩ := own_addr hown1 h0
      obtain ⟨A, c', e', -, hr, -⟩ := ownsRow_form hown1
      rw [hv] at e'
      injection e' with e1 _ _
      subst e1
      exact ⟨g, c, hv, own_lt hown g (by rw [hv]; rfl), hnS g (by rw [hv]; rfl), hr⟩
  · have hlt : S < wi.heap.size := own_lt h.row S rfl
    exact hu.toBelow (by omega) (by simp; exact hbS)
theorem Gi.step {wi w wa w2 : World} {base S cap : Nat} {L : List St} {i : Nat} {hi : i < L.length} {lv : Nat → Value} {k : Nat} {lk lk' : Value} (h : Gi wi w base S cap L i hi lv k lk) (hbw : base ≤ wi.heap.size)
    (ha : Below w.heap.size w wa) (hown : w2.ownsRow base 65 1 lk' (L[i].n + k + 1) (bitVs (List.replicate (L[i].n + k) L[i].m) ++ [.int .u16 (L[i].m : Int)])) (hb : Below base wa w2)
    (hd : (lk'.ownBlock = lk.ownBlock ∧ Upd lk.ownBlock.toList wa w2) ∨ (lk'.ownBlock = some wa.heap.size ∧ Upd [] wa w2)) :
    Gi wi (w2.setCell ⟨S, i * 3 + 1, none⟩ lk') base S cap L i hi lv (k + 1) lk' := by
  have hu : Upd lk.ownBlock.toList wa w2 := by
    rcases hd with ⟨_, h1⟩ | ⟨_, h1⟩
    · exact h1
    · exact h1.mono (by simp)
  have hrowa := ownsRow_below h.row ha
  have howna := ownsRow_below h.own ha
  have hM : ((gL i lv L).set i { L[i] with long := lk }).length = L.length := by rw [List.length_set, gL_len]
  have hrow2 := hu.own hrowa (own_apart hrowa howna (by decide))
  have hMi : ((gL i lv L).set i { L[i] with long := lk })[i]'(by rw [hM]; exact hi) = { L[i] with long := lk } := by simp
  have hrow3 := row_setLong' hM hrow2 (i := i) (s := { L[i] with long := lk }) (by rw [List.getElem?_eq_getElem (by rw [hM]; exact hi), hMi]) lk'
  rw [List.set_set] at hrow3
  have hown' : w2.ownsRow base 65 1 lk' (L[i].n + (k + 1)) (bitVs (List.replicate (L[i].n + (k + 1)) L[i].m)) := by
    have e : bitVs (List.replicate (L[i].n + (k + 1)) L[i].m) = bitVs (List.replicate (L[i].n + k) L[i].m) ++ [.int .u16 (L[i].m : Int)] := by
      rw [show L[i].n + (k + 1) = (L[i].n + k) + 1 by omega, List.replicate_succ']; simp [bitVs]
    rw [e, show L[i].n + (k + 1) = L[i].n + k + 1 by omega]; exact hown
  have hs : Upd [S] w2 (w2.setCell ⟨S, i * 3 + 1, none⟩ lk') := (Upd.refl [S] w2).setCell (.inl (by simp)) _
  have hS2 : ∀ g, lk'.ownBlock = some g → g ≠ S := fun g hg e => by
    have := own_apart hown' hrow2 (by decide) g hg
    subst e
    simp [Value.ownBlock] at this
  have hwz : wi.heap.size ≤ wa.heap.size := Nat.le_trans h.upd.size ha.size
  have hbS : base ≤ S := by
    obtain ⟨g, c, cur, hv, hbg, _⟩ := own_addr h.row (by omega)
    injection hv with h1 _ _
    injection h1 with h1; injection h1 with h1
    omega
  refine ⟨hrow3, hs.own hown' (fun g hg hm => hS2 g hg (by simpa using hm)), ?_, ?_, ?_, ?_⟩
  · rcases h.old with h0 | ⟨g0, c, hv, hg0, hgS, hr⟩
    · exact .inl h0
    · right
      have hra := hr.below ha
      have hr2 : Rd w2 (some ⟨g0, 0, none⟩) (bitVs (List.replicate L[i].n L[i].m)) := by
        rcases hd with ⟨e1, h1⟩ | ⟨_, h1⟩
        · rcases h.blk with e2 | ⟨g, e2, hg⟩
          · have e3 : lk'.ownBlock = some g0 := by rw [e1, e2, hv]; rfl
            rcases Nat.eq_zero_or_pos (L[i].n + (k + 1)) with z | z
            · omega
            · obtain ⟨g4, c4, cur4, hv4, _⟩ := own_addr hown' z
              obtain ⟨A5, c5, e5, -, hr5, -⟩ := ownsRow_form hown'
              rw [hv4] at e5 e3
              injection e5 with e5 _ _
              have : g4 = g0 := by simpa [Value.ownBlock] using e3
              subst this
              rw [← e5] at hr5
              have := hr5.bitTake L[i].n
              rw [List.take_replicate, Nat.min_eq_left (by omega)] at this
              exact this
          · exact h1.rd hra (fun ad had hm => by
              injection had with had
              subst had
              rw [e2] at hm
              have : g0 = g := by simpa using hm
              omega)
        · exact h1.rd hra (by simp)
      exact ⟨g0, c, hv, hg0, hgS, hs.rd hr2 (fun ad had hm => by
        injection had with had
        subst had
        exact hgS (by simpa using hm))⟩
  · rcases hd with ⟨e1, _⟩ | ⟨e1, _⟩
    · rw [e1]; exact h.blk
    · exact .inr ⟨_, e1, hwz⟩
  · have hu2 : Upd (S :: L[i].v.ownBlock.toList) wi w2 := by
      have h1 := (h.upd.below ha)
      refine ⟨hu.os.trans h1.os, hu.tape.trans h1.tape, hu.output.trans h1.output, Nat.le_trans h1.size hu.size, fun q hq hn => ?_⟩
      rw [hu.block q (Nat.lt_of_lt_of_le hq h1.size) (fun hm => ?_)]
      · exact h1.block q hq hn
      · have e3 : lk.ownBlock = some q := by simpa using hm
        rcases h.blk with e2 | ⟨g, e2, hg⟩
        · exact hn (by rw [← e2, e3]; simp)
        · rw [e2] at e3
          injection e3 with e3
          omega
    exact hu2.setCell (.inl (by simp)) _
  · exact (h.below.trans ((ha.mono (by have := h.upd.size; omega)).trans hb)).setCell hbS _
theorem Gi.finish {w0 wi w : World} {base S cap : Nat} {L : List St} {i : Nat} {hi : i < L.length} {lv : Nat → Value} {lk : Value} (h : Gi wi w base S cap L i hi lv 24 lk) (hs : Gs w0 wi base S cap L i lv)
    (hap : L.Pairwise fun s t => s.v.ownBlock = none ∨ s.v.ownBlock ≠ t.v.ownBlock) (hown0 : ∀ s ∈ L, w0.ownsRow base 65 1 s.v s.n (bitVs (List.replicate s.n s.m))) (hS0 : ∀ s ∈ L, ∀ g, s.v.ownBlock = some g → g ≠ S) (hSz : S < w0.heap.size) :
    Gs w0 w base S cap L (i + 1) (fun j => if j = i then lk else lv j) := by
  have hapart : ∀ j (hj : j < L.length), j ≠ i → ∀ g, L[j].v.ownBlock = some g → g ∉ S :: L[i].v.ownBlock.toList := by
    intro j hj hne g hg hm
    rcases List.mem_cons.1 hm with e | hm
    · exact hS0 L[j] (List.getElem_mem hj) g hg e
    · have hig : L[i].v.ownBlock = some g := by simpa using hm
      have hp := List.pairwise_iff_getElem.1 hap
      rcases Nat.lt_or_gt_of_ne hne with hlt | hlt
      · rcases hp j i hj hi hlt with e | e
        · rw [hg] at e; cases e
        · exact e (hg.trans hig.symm)
      · rcases hp i j hi hj hlt with e | e
        · rw [hig] at e; cases e
        · exact e (hig.trans hg.symm)
  refine ⟨?_, ?_, ?_, hs.below.trans h.below⟩
  · have e : gL (i + 1) (fun j => if j = i then lk else lv j) L = (gL i lv L).set i { L[i] with long := lk } := by
      apply List.ext_getElem
      · simp [gL_len]
      · intro j h1 h2
        rw [gL_len] at h1
        rw [List.getElem_set]
        simp only [gL_at, gAt]
        by_cases hji : i = j
        · subst hji; simp
        · have h3 : ¬ j = i := fun e => hji e.symm
          by_cases hlt : j < i
          · have : j < i + 1 := by omega
            simp [hji, h3, hlt, this]
          · have : ¬ j < i + 1 := by omega
            simp [hji, hlt, this]
    rw [e]; exact h.row
  · intro j hj hij
    exact h.upd.own (hs.own j hj (by omega)) (hapart j hj (by omega))
  · intro j hj hji
    by_cases hlt : j < i
    · have hne : ¬ j = i := by omega
      obtain ⟨⟨A, c, hv, hr⟩, g, c', hl, hr2, hg⟩ := hs.done j hj hlt
      simp only [hne, if_false]
      refine ⟨⟨A, c, hv, h.upd.rd hr (fun ad had hm => ?_)⟩, g, c', hl, h.upd.rd hr2 (fun ad had hm => ?_), hg⟩
      · exact hapart j hj (by omega) ad.block (by rw [hv, had]; rfl) hm
      · injection had with had
        subst had
        rcases hg with e | e
        · exact hapart j hj (by omega) g e hm
        · rcases List.mem_cons.1 hm with e2 | hm
          · simp only at e2; omega
          · have hig : L[i].v.ownBlock = some g := by simpa using hm
            have := own_lt (hown0 L[i] (List.getElem_mem hi)) g hig
            omega
    · obtain rfl : j = i := by omega
      simp only [if_true]
      obtain ⟨g, c, cur, hv, _⟩ := own_addr h.own (by omega)
      obtain ⟨A5, c5, e5, -, hr5, -⟩ := ownsRow_form h.own
      rw [hv] at e5
      injection e5 with e5 _ _
      rw [← e5] at hr5
      refine ⟨?_, g, c, hv, hr5, ?_⟩
      · rcases h.old with h0 | ⟨g0, c0, hv0, _, _, hr0⟩
        · obtain ⟨A, c0, e0, -, _, -⟩ := ownsRow_form (hown0 L[j] (List.getElem_mem hj))
          refine ⟨A, c0, e0, ?_⟩
          rw [h0]
          exact Rd.nil _ _
        · exact ⟨_, c0, hv0, hr0⟩
      · rcases h.blk with e | ⟨g2, e, hg2⟩
        · left; rw [← e, hv]; rfl
        · right
          rw [hv] at e
          have : g = g2 := by simpa [Value.ownBlock] using e
          have := hs.below.size
          omega
end Go.Proofs.Ytkdgibabecpdlaa
