/- Proved: covers.Both answers the plain common bits, in new memory; for lists that are read from memory. -/
import Derived.Test.YtkdgibabecpdlaaSmall
import Derived.Test.YtkdgibabecpdlaaPointsW0
namespace Go.Proofs.Ytkdgibabecpdlaa
open Go.RowKit
theorem wpList_cp {P : Program} {w : World} {ops : Array Oper} {rest : List Oper} {o : Oper} {a : Act} {Q : Exit → Act → World → Prop} (hgd : o.guard = none) {x y : Operand} {t t' e : TypeId}
    (ho : o.op = .call { callee := .builtin .copy, args := #[x, y], argTypes := #[t, t'] }) (ht : P.underlying t = some (.slice e)) (hs : (P.info? e).map (·.size) = some 1) {g n c m c' : Nat} {A : Option Addr} {cs : List Value}
    (hx : a.eval x = .slice (some ⟨g, 0, none⟩) n c) (hy : a.eval y = .slice A m c') (hn : cs.length = Nat.min m n) (hr : Rd w A cs) (hth : w.there g 0 cs.length) (h1 : ∀ v ∈ cs, v.oneCell' = true)
    (h : ∀ w' v, w' = w.setCells g 0 cs → wpList P ops Q rest (a.put o.dst v) w') : wpList P ops Q (o :: rest) a w :=
  wpList_plain hgd fun K hK => by
    by_cases h0 : cs = []
    · subst h0
      have hrun := run_copy_none (P := P) w t t' o.type e (some ⟨g, 0, none⟩) A n c m c' ht hs (by rw [← hn]; rfl)
      unfold Oper.wp execOp
      simp only [ho, resolve, invoke, builtin, Sem.run_bind, Sem.run_pure, Result.andThen_ok, List.map_toArray, List.map_cons, List.map_nil, hx, hy, hrun]
      exact hK _ _ (h _ _ rfl)
    · obtain ⟨b, off, rfl, _, hc⟩ := hr.at_ h0
      have hrun := run_copy_cells (P := P) w t t' o.type e g 0 n c ⟨b, off, none⟩ m c' cs ht hs hn (fun j u hu => by rw [add_plain]; exact hc j u hu) (fun j hj => (hth j hj).1) (fun j hj => (hth j hj).2) h1
      unfold Oper.wp execOp
      simp only [ho, resolve, invoke, builtin, Sem.run_bind, Sem.run_pure, Result.andThen_ok, List.map_toArray, List.map_cons, List.map_nil, hx, hy, hrun]
      exact hK _ _ (h _ _ rfl)
/-- The common bits, k of m done. -/
def bothTo (a b : List Nat) (m k : Nat) : List Nat := (List.range m).map fun j => if j < k then a.getD j 0 &&& b.getD j 0 else a.getD j 0
def bothF (a b : List Nat) : List Nat := bothTo a b (min a.length b.length) (min a.length b.length)
theorem bothTo_len (a b : List Nat) (m k : Nat) : (bothTo a b m k).length = m := by simp [bothTo]
theorem bothTo_step (a b : List Nat) (m k : Nat) (hk : k < m) : bothTo a b m (k + 1) = (bothTo a b m k).set k (a.getD k 0 &&& b.getD k 0) := by
  apply List.ext_getElem
  · simp [bothTo]
  · intro j h1 h2
    rw [List.getElem_set]
    simp only [bothTo, List.getElem_map, List.getElem_range]
    by_cases h : k = j
    · subst h; simp
    · rw [if_neg h]
      have : j < k + 1 ↔ j < k := by omega
      simp [this]
theorem bothTo_zero (a b : List Nat) (m : Nat) (hm : m ≤ a.length) : bothTo a b m 0 = a.take m := by
  apply List.ext_getElem
  · simp [bothTo]; omega
  · intro j h1 h2
    have hj : j < a.length := by simp at h2; omega
    simp [bothTo, hj]
theorem bitVs_one {l : List Nat} : ∀ u ∈ bitVs l, u.oneCell' = true := by
  intro u hu
  obtain ⟨e, _, he⟩ := List.mem_map.1 hu
  rw [← he]; rfl
theorem Rd.bitTake {w : World} {A : Option Addr} {l : List Nat} (h : Rd w A (bitVs l)) (k : Nat) : Rd w A (bitVs (l.take k)) := by
  rcases h with h | ⟨b', off', e, hb, hc⟩
  · have : l = [] := by simpa [bitVs] using h
    subst this; simp [bitVs, Rd]
  · refine .inr ⟨b', off', e, hb, fun j u hj => hc _ _ ?_⟩
    have hj2 := (List.getElem?_eq_some_iff.1 hj).1
    simp only [bitVs, List.length_map, List.length_take] at hj2
    simp only [bitVs, List.getElem?_map, List.getElem?_take] at hj ⊢
    rw [if_pos (by omega)] at hj
    exact hj
set_option maxRecDepth 100000 in
set_option maxHeartbeats 4000000 in
theorem both_any (A B : Option Addr) (ca cb : Nat) (a b : List Nat) (w : World) (ha : Rd w A (bitVs a)) (hb : Rd w B (bitVs b)) (hal : a.length ≤ 1000000) (hbl : b.length ≤ 1000000) (ha16 : ∀ x ∈ a, x < 65536) (hb16 : ∀ x ∈ b, x < 65536) :
    Calls Try.prog 30 #[.slice A a.length ca, .slice B b.length cb] w fun e w' => ∃ v, e = .returned v ∧ w'.ownsRow w.heap.size 65 1 v (bothF a b).length (bitVs (bothF a b)) ∧ Below w.heap.size w w' := by
  have HA := Lib.hid ha; have HB := Lib.hid hb; have H16 := Lib.hid ha16; have G16 := Lib.hid hb16
  clear ha hb ha16 hb16
  obtain ⟨m, hm⟩ : ∃ m, min a.length b.length = m := ⟨_, rfl⟩
  have hma : m ≤ a.length := by omega
  have hmb : m ≤ b.length := by omega
  have hmi : min (a.length : Int) (b.length : Int) = (m : Int) := by omega
  have HF : Hid (bothF a b = bothTo a b m m) := Lib.hid (by unfold bothF; rw [hm])
  clear hm
  have Hcs : Hid ((bitVs (a.take m)).length = m) := Lib.hid (by simp only [bitVs, List.length_map, List.length_take]; omega)
  have Hmin : Hid (Nat.min a.length m = m) := Lib.hid (Nat.min_eq_right hma)
  go_enter Try.func30, Try.ntmps30
  go_upto_block 0 with (first
    | (with_reducible refine at_mk 28 (.tmp 11) (.tmp 11) ?_; refine wpList_mk rfl rfl Try.underlying28 (z := .int .u16 0) (bytes := 2) (by kernel_rfl) rfl w.heap.size m (X := (m : Int)) rfl rfl rfl (by omega) (by simp only [maxLen]; omega) (Nat.le_refl _) ?_; intro w1 hown1 hw1; have Hown1 := Lib.hid hown1; have Hw1 := Lib.hid hw1; clear hown1 hw1)
    | (with_reducible refine at_bi .copy #[.tmp 13, .tmp 14] ?_; refine wpList_cp rfl rfl Try.underlying28 (by kernel_rfl) rfl rfl (cs := bitVs (a.take m)) (by rw [Hcs.out]; exact Hmin.out.symm) ((HA.out.bitTake m).below (by rw [Hw1.out]; exact (Below.refl _ _).alloc (Nat.le_refl _) _)) (own_there Hown1.out (by rw [Hcs.out]; omega)) bitVs_one ?_; intro w2 v2 hw2; have Hw2 := Lib.hid hw2; clear hw2))
  have hgz : w.heap.size < w1.heap.size := by have := (made_upd Hw1.out).2; omega
  have hu2 : Upd [] w w2 := by rw [Hw2.out]; exact (made_upd Hw1.out).1.setCells (.inr (Nat.le_refl _)) _ _
  have hh2 : w2.heap[w.heap.size]? = some (.cells (bitVs (bothTo a b m 0)).toArray 65 (0, 0)) := by
    have h1 : w1.heap[w.heap.size]? = some (.cells (List.replicate m (.int .u16 0)).toArray 65 (0, 0)) := by rw [Hw1.out]; exact heap_alloc_new w _
    have h2 := setCells_heap w.heap.size 65 (bitVs (a.take m)) 0 w1 _ h1 (by rw [Hcs.out]; simp)
    rw [Hw2.out, h2, bothTo_zero a b m hma, Hcs.out]
    simp
  have hz2 : w.heap.size < w2.heap.size := (Array.getElem?_eq_some_iff.1 hh2).1
  have HU2 := Lib.hid (hu2.toBelow (Nat.le_refl _) (by simp)); have HH2 := Lib.hid hh2
  clear hu2 hh2 Hw1 Hw2 Hown1
  go_wp2_with fail
  go_loopw [18] (fun v18 wr => ∃ k : Nat, k ≤ m ∧ v18 = .int .i64 k ∧ wr.heap[w.heap.size]? = some (.cells (bitVs (bothTo a b m k)).toArray 65 (0, 0)) ∧ Below w.heap.size w wr) (fun v18 _ => m - (intOf v18).toNat)
  case atStart => exact ⟨0, by omega, rfl, HH2.out, HU2.out⟩
  case round =>
    obtain ⟨k, hk, rfl, hh, hbw⟩ := hrel
    by_cases hlt : k < m
    · obtain ⟨ba, oa, rfl, hbal, ca0⟩ := (HA.out.below hbw).bit (show k < a.length by omega)
      obtain ⟨bb, ob, rfl, hbbl, cb0⟩ := (HB.out.below hbw).bit (show k < b.length by omega)
      have hx16 := H16.out _ (List.getElem_mem (show k < a.length by omega))
      have hy16 := G16.out _ (List.getElem_mem (show k < b.length by omega))
      have hka : k < a.length := by omega
      have hkb : k < b.length := by omega
      have hga : a.getD k 0 = a[k] := by simp [List.getD, hka]
      have hgb : b.getD k 0 = b[k] := by simp [List.getD, hkb]
      have hstep := bothTo_step a b m k hlt
      rw [hga, hgb] at hstep
      have hxs : (bitVs (bothTo a b m k))[k]? = some (.int .u16 (a[k] : Nat)) := by
        have hkl : k < (bothTo a b m k).length := by rw [bothTo_len]; exact hlt
        simp only [bitVs, List.getElem?_map, List.getElem?_eq_getElem hkl, Option.map_some]
        simp [bothTo, hka]
      have hcell := cell_of_row wr w.heap.size k _ _ _ hh
      rw [List.getElem?_toArray, hxs] at hcell
      have hfr := frozen_of_row wr w.heap.size k _ _ hh
      have hgl := World.block_lt_of_cell? wr _ hcell
      generalize a[k] = x at *
      generalize b[k] = y at *
      have hand : bits .and .u16 (x : Int) (y : Int) = ((x &&& y : Nat) : Int) := (bits_nat .u16 16 (by decide) (fun n h0 h1 => by rw [IntKind.wrap_u16]; omega) x y hx16 hy16).1
      have Hstep := Lib.hid hstep; have Hh := Lib.hid hh; have Hb := Lib.hid hbw
      clear hstep hh hbw hxs hga hgb
      have hki : (k : Int) < (m : Int) := by omega
      go_upto_region 6 with (fail)
      go_region
      have hn : (wr.setCell ⟨w.heap.size, k, none⟩ (.int .u16 ((x &&& y : Nat) : Int))).heap[w.heap.size]? = some (.cells (bitVs (bothTo a b m (k + 1))).toArray 65 (0, 0)) := by
        rw [heap_setCell_same wr w.heap.size k _ _ (.int .u16 ((x &&& y : Nat) : Int)) Hh.out, Hstep.out]
        congr 2
        have hkl : k < (bothTo a b m k).length := by rw [bothTo_len]; exact hlt
        simp [bitVs, Array.setIfInBounds, List.map_set, bothTo_len, hlt]
      have hbn : Below w.heap.size w (wr.setCell ⟨w.heap.size, k, none⟩ (.int .u16 ((x &&& y : Nat) : Int))) := Hb.out.setCell (Nat.le_refl _) _
      have HN := Lib.hid hn; have HBN := Lib.hid hbn
      clear hn hbn
      generalize wr.setCell ⟨w.heap.size, k, none⟩ (.int .u16 ((x &&& y : Nat) : Int)) = wn at *
      go_wp2_with fail
      go_roundw
      case rel => exact ⟨k + 1, by omega, by go_num, HN.out, HBN.out.drew⟩
      case measure => simp [intOf]; omega
    · have hkm : k = m := by omega
      subst hkm
      have Hh := Lib.hid hh; clear hh
      go_wp2_with fail
      go_ret
      refine ⟨_, rfl, ?_, hbw⟩
      rw [HF.out, bothTo_len]
      exact ⟨by simp [bitVs, bothTo_len], .inr ⟨_, _, _, rfl, Nat.le_refl _, Hh.out, Nat.le_refl _, by simp only [maxLen]; omega, by simp [bitVs, bothTo_len], by simp only [Nat.mul_one]; exact List.take_of_length_le (by simp [bitVs, bothTo_len])⟩⟩
end Go.Proofs.Ytkdgibabecpdlaa
