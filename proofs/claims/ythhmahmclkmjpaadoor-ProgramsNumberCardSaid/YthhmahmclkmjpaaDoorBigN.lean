/- Proved: the functions Tell, Times, Mul, Cmp, Int and divided of gouacheref01; for numbers that fit. -/
import Derived.Test.YthhmahmclkmjpaaDoorBigM
import Derived.Deep.DeepCutAuto
import Derived.Deep.CutRange
import Derived.Test.YthhmahmclkmjpaaDoorWideI
import Derived.Test.YthhmahmclkmjpaaDoorBigLaws
namespace Go.Proofs.YthhmahmclkmjpaaDoor
section
open Go.RowKit
def halfL : List Nat := [0, 0, 0, 0, 0, 0, 0, 32768, 0, 0, 0, 0]
def topL : List Nat := [0, 0, 0, 0, 0, 0, 0, 0, 1, 0, 0, 0]
theorem half_v : vD halfL = 170141183460469231731687303715884105728 := by decide +kernel
theorem top_v : vD topL = 340282366920938463463374607431768211456 := by decide +kernel
theorem half_12 : Dg12 halfL := ⟨rfl, by unfold Dgt halfL; decide⟩
theorem top_12 : Dg12 topL := ⟨rfl, by unfold Dgt topL; decide⟩
theorem cmp_m1 {x y : Nat} (h : x < y) : cmpV x y = -1 := by simp [cmpV, h]
theorem cmp_0 {x y : Nat} (h : x = y) : cmpV x y = 0 := by simp [cmpV, h]
/-- What the two's complement of a number holds. -/
structure TwoC (v : Int) (E : List Nat) : Prop where
  d : Dg12 E
  pos : 0 ≤ v → (vD E : Int) = v
  neg : v < 0 → (vD E : Int) = v + 340282366920938463463374607431768211456
theorem low8 {E : List Nat} (h : Dg12 E) (hv : vD E < 340282366920938463463374607431768211456) : vD E = vD (E.take 4) + 18446744073709551616 * vD ((E.drop 4).take 4) ∧ vD (E.take 4) < 18446744073709551616 ∧ vD ((E.drop 4).take 4) < 18446744073709551616 := by
  have h1 := h.dgt
  obtain ⟨a0, a1, a2, a3, a4, a5, a6, a7, a8, a9, a10, a11, rfl⟩ := len12 h.len
  simp only [List.take_succ_cons, List.take_zero, List.drop_succ_cons, List.drop_zero, vD] at hv ⊢
  simp only [Dgt, List.mem_cons, List.not_mem_nil, or_false, forall_eq_or_imp, forall_eq] at h1
  omega
theorem tell_step {l : List Nat} {n : Nat} (hd : Dgt l) (hl : l.length = 4) (hn : n < 4) : ∃ x, l[n]? = some x ∧ x < 65536 ∧ vD (l.drop n) = vD (l.drop (n + 1)) * 65536 + x ∧ vD (l.drop (n + 1)) * 65536 + x < 18446744073709551616 := by
  have h1 : n < l.length := by omega
  refine ⟨l[n], List.getElem?_eq_getElem h1, hd.at_ h1, ?_⟩
  have e : vD (l.drop n) = vD (l.drop (n + 1)) * 65536 + l[n] := by rw [List.drop_eq_getElem_cons h1, vD]; omega
  have h2 := vD_lt (hd.drop n)
  rw [List.length_drop, hl] at h2
  refine ⟨e, ?_⟩
  rw [← e]
  refine Nat.lt_of_lt_of_le h2 ?_
  have : 4 - n ≤ 4 := by omega
  exact Nat.pow_le_pow_right (by decide) this
def WideOk (w : World) (v : Int) (e : Ending) (w' : World) : Prop := ∃ (hi : Int) (lo : Nat), e = .returned (.tuple #[.agg #[.int .i64 hi, .int .u64 (lo : Int)], .int .i64 0]) ∧ lo < 18446744073709551616 ∧ hi * 18446744073709551616 + lo = v ∧ -9223372036854775808 ≤ hi ∧ hi ≤ 9223372036854775807 ∧ Below w.heap.size w w'
theorem nm_at' {w : World} {k : Nat} {m : Bool} {l : List Nat} {t : TypeId} {i x : Nat} (h : w.heap[k]? = some (.cells (nm m l) t (0, 0))) (hi : l[i]? = some x) : w.cell? ⟨k, 1 + i, none⟩ = some (.int .i64 (x : Int)) := by
  rw [cell_of_row w k (1 + i) _ _ _ h]; simp [nm, Nat.add_comm 1 i, hi]
theorem nm_loadAt {w : World} {k : Nat} {m : Bool} {l : List Nat} (h : w.heap[k]? = some (.cells (nm m l) 82 (0, 0))) (hl : l.length = 12) : (Instr.loadAt 82 (.pointer (some ⟨k, 0, none⟩))).run Tryd.prog w = .ok (.agg (nm m l)) w := by
  have hr : w.rangeAt k 0 (Value.bool m :: l.map fun d : Nat => Value.int .i64 (d : Int)) := fun j v hv => by
    rw [cell_of_row w k (0 + j) _ _ _ h, Nat.zero_add]; simpa [nm] using hv
  exact run_loadAt_mid w k 0 82 _ _ hr Tryd.underlying82 rfl (by rw [List.length_cons, List.length_map, hl]; kernel_rfl)
theorem wpList_want {P : Program} {ops : Array Oper} {rest : List Oper} {o : Oper} {a : Act} {w : World} {Q : Exit → Act → World → Prop} (hw : Region.wanted o (yielded ops a.tmps) = true)
    (h : ∀ K : Act → World → Prop, (∀ a w, wpList P ops Q rest a w → K a w) → o.wp P a w K Q) : wpList P ops Q (o :: rest) a w :=
  wpList_step fun K hK => by rw [if_pos hw]; exact h K hK
theorem dg_infoS' {l : List Nat} (h : l.length = 12) : (Tryd.prog.info? 80).map (·.size) = some (dg l).size := by rw [dg_size, h]; kernel_rfl
set_option maxRecDepth 100000 in
set_option maxHeartbeats 4000000 in
theorem rTell_any (m : Bool) (D : List Nat) (w : World) (hD : Dg12 D) (h0 : -170141183460469231731687303715884105728 ≤ sgV m D) (h1 : sgV m D < 170141183460469231731687303715884105728) :
    Calls Tryd.prog 46 #[.agg (nm m D)] w (WideOk w (sgV m D)) := by
  have HD := Lib.hid hD; have H0 := Lib.hid h0; have H1 := Lib.hid h1
  clear hD h0 h1
  go_enter Tryd.func46, Tryd.ntmps46
  go_upto_region 2 with (fail)
  obtain ⟨g1, g2, g3, g4⟩ := alloc3 w (.cells (nm m D) 82) (.cells #[.int .i64 0, .int .u64 0] 48) (.cells (dg halfL) 80) _ rfl
  rw [show dg halfL = #[.int .i64 0, .int .i64 0, .int .i64 0, .int .i64 0, .int .i64 0, .int .i64 0, .int .i64 0, .int .i64 32768, .int .i64 0, .int .i64 0, .int .i64 0, .int .i64 0] from rfl] at g1 g2 g3 g4
  generalize ((w.alloc (.cells (nm m D) 82)).alloc (.cells #[.int .i64 0, .int .u64 0] 48)).alloc (.cells #[.int .i64 0, .int .i64 0, .int .i64 0, .int .i64 0, .int .i64 0, .int .i64 0, .int .i64 0, .int .i64 32768, .int .i64 0, .int .i64 0, .int .i64 0, .int .i64 0] 80) = wq at *
  obtain ⟨k, hk⟩ : ∃ k, k = w.heap.size := ⟨_, rfl⟩
  rw [← hk] at g1 g2 g3 ⊢
  rw [← hk] at g4
  have G1 := Lib.hid g1; have G2 := Lib.hid g2; have G4 := Lib.hid g4; have Hk := Lib.hid hk
  have G3 : Hid (wq.heap[k + 1 + 1]? = some (.cells (dg halfL) 80 (0, 0))) := Lib.hid g3
  clear g1 g2 g3 g4 hk
  have Hcmp := Lib.hid (compare_any D halfL wq HD.out half_12)
  go_wp2_with (first | (refine wpList_load_mid rfl 80 _ rfl k 1 rfl _ _ (nm_range G1.out) Tryd.underlying80 rfl (dg_info HD.out.len) ?_) | (refine wpList_load_row rfl 80 _ rfl (k + 1 + 1) rfl 80 (dg halfL) (0, 0) _ G3.out Tryd.underlying80 rfl (dg_infoS' half_12.len) ?_))
  refine Hcmp.out.mono ?_
  rintro e w2 ⟨rfl, hb⟩
  have hz := (Array.getElem?_eq_some_iff.1 G3.out).1
  have h1 := (hb.block k (by omega)).trans G1.out
  have h2 := (hb.block (k + 1) (by omega)).trans G2.out
  have h4 := G4.out.trans (hb.mono (by omega))
  have c0 := nm_head h1
  have K1 := Lib.hid h1; have K2 := Lib.hid h2; have K4 := Lib.hid h4; have Kz : Hid (k + 1 < w2.heap.size) := Lib.hid (Array.getElem?_eq_some_iff.1 h2).1
  clear h1 h2 h4 hb hz
  cases m
  · have hlt : vD D < 170141183460469231731687303715884105728 := by have := H1.out; simp only [sgV] at this; simp at this; omega
    have hc : cmpV (vD D) (vD halfL) = -1 := cmp_m1 (by rw [half_v]; exact hlt)
    have HT : Hid (TwoC (sgV false D) D) := Lib.hid ⟨HD.out, fun _ => by simp [sgV], fun h => by simp [sgV] at h; omega⟩
    rw [hc]
    clear hc hlt
    have c0 := cell_of_row w2 (k + 1) 0 _ _ _ K2.out
    have HE := Lib.hid (low8 HT.out.d (by have h1 := HT.out.pos; have h2 := HT.out.neg; have h3 := H0.out; have h4 := H1.out; omega))
    have HdE := Lib.hid HT.out.d
    clear c0
    go_wp2_with fail
    go_loopw [6, 7, 8] (fun v6 v7 v8 wr => ∃ (n lo hi : Nat), v8 = .int .i64 ((n : Int) - 1) ∧ v6 = .int .u64 (lo : Int) ∧ v7 = .int .u64 (hi : Int) ∧ Hid (n ≤ 4 ∧ lo = vD ((D.take 4).drop n) ∧ hi = vD (((D.drop 4).take 4).drop n)) ∧ wr = w2) (fun _ _ v8 _ => (intOf v8 + 1).toNat)
    case atStart => exact ⟨4, 0, 0, rfl, rfl, rfl, Lib.hid ⟨Nat.le_refl _, by rw [List.drop_eq_nil_of_le (by simp; omega)]; rfl, by rw [List.drop_eq_nil_of_le (by simp; omega)]; rfl⟩, rfl⟩
    case round =>
      obtain ⟨n, lo, hi, rfl, rfl, rfl, hh, rfl⟩ := hrel
      cases n with
      | zero =>
        have hlo : lo = vD (D.take 4) := by have := hh.out.2.1; simpa using this
        have hhi : hi = vD ((D.drop 4).take 4) := by have := hh.out.2.2; simpa using this
        rw [← hlo, ← hhi] at HE
        have h64 : ∃ hs : Int, IntKind.i64.wrap (hi : Int) = hs ∧ hs * 18446744073709551616 + (lo : Int) = sgV false D ∧ -9223372036854775808 ≤ hs ∧ hs ≤ 9223372036854775807 := by
          refine ⟨_, rfl, ?_⟩
          rw [IntKind.wrap_i64]
          have e1 := HE.out.1; have e2 := HE.out.2.1; have e3 := HE.out.2.2
          have h1 := HT.out.pos; have h2 := HT.out.neg; have h3 := H0.out; have h4 := H1.out
          generalize sgV false D = v at *
          omega
        obtain ⟨hs, hs1, hs2⟩ := h64
        have Hs2 := Lib.hid hs2
        have Hl : Hid (lo < 18446744073709551616) := Lib.hid HE.out.2.1
        have d0 : wr.cell? ⟨k + 1, 0, none⟩ = some (.int .i64 0) := by rw [cell_of_row wr (k + 1) 0 _ _ _ K2.out]; rfl
        have d1 : wr.cell? ⟨k + 1, 1, none⟩ = some (.int .u64 0) := by rw [cell_of_row wr (k + 1) 1 _ _ _ K2.out]; rfl
        have f0 := frozen_of_row wr (k + 1) 0 _ _ K2.out
        have f1 := frozen_of_row wr (k + 1) 1 _ _ K2.out
        have kz := (Array.getElem?_eq_some_iff.1 K2.out).1
        clear hs2 hlo hhi
        go_wp2_with fail
        obtain ⟨q1, q2, q3, q4, -⟩ := set2 wr (k + 1) _ _ _ (.int .i64 hs) (.int .u64 (lo : Int)) K2.out _ rfl
        have q5 := q4 k (by omega)
        generalize (wr.setCell ⟨k + 1, 0, none⟩ (.int .i64 hs)).setCell ⟨k + 1, 1, none⟩ (.int .u64 (lo : Int)) = w9 at *
        simp [bodyPost, results, Tryd.results46, go_sem, q2, q3]
        exact ⟨hs, lo, rfl, Hl.out, Hs2.out.1, Hs2.out.2.1, Hs2.out.2.2, by rw [← Hk.out]; exact K4.out.trans (q5.mono (Nat.le_refl _))⟩
      | succ n =>
        have hn4 : n < 4 := by have := hh.out.1; omega
        obtain ⟨x, ex, hx, sx, bx⟩ := tell_step (l := D.take 4) (n := n) (fun d hd => HdE.out.dgt d (List.mem_of_mem_take hd)) (by simp [HdE.out.len]) hn4
        obtain ⟨y, ey, hy, sy, by'⟩ := tell_step (l := (D.drop 4).take 4) (n := n) (fun d hd => HdE.out.dgt d (List.mem_of_mem_drop (List.mem_of_mem_take hd))) (by simp [HdE.out.len]) hn4
        rw [← hh.out.2.1] at sx bx
        rw [← hh.out.2.2] at sy by'
        have ex2 : D[n]? = some x := by rw [List.getElem?_take_of_lt hn4] at ex; exact ex
        have ey2 : D[4 + n]? = some y := by rw [List.getElem?_take_of_lt hn4, List.getElem?_drop] at ey; exact ey
        obtain ⟨s, hs⟩ : ∃ s : Nat, s = 4 + n := ⟨_, rfl⟩
        rw [← hs] at ey2
        have c1 := nm_at' K1.out ex2
        have c2 := nm_at' K1.out ey2
        rw [show (((n + 1 : Nat) : Int) - 1) = (n : Int) by omega]
        have n0 : (0 : Int) ≤ (n : Int) := by omega
        have n1 : (n : Int) < 4 := by omega
        obtain ⟨u, hu⟩ : ∃ u : Nat, u = lo * 65536 + x := ⟨_, rfl⟩
        obtain ⟨v, hv⟩ : ∃ v : Nat, v = hi * 65536 + y := ⟨_, rfl⟩
        rw [← hu] at sx bx
        rw [← hv] at sy by'
        obtain ⟨lo', hlo'⟩ : ∃ l : Nat, l = lo * 65536 := ⟨_, rfl⟩
        obtain ⟨hi', hhi'⟩ : ∃ l : Nat, l = hi * 65536 := ⟨_, rfl⟩
        have m1 : IntKind.u64.wrap ((lo : Int) * 65536) = (lo' : Int) := by rw [IntKind.wrap_u64]; omega
        have m2 : IntKind.u64.wrap ((hi : Int) * 65536) = (hi' : Int) := by rw [IntKind.wrap_u64]; omega
        have m3 : IntKind.u64.wrap ((lo' : Int) + (x : Int)) = (u : Int) := by rw [IntKind.wrap_u64]; omega
        have m4 : IntKind.u64.wrap ((hi' : Int) + (y : Int)) = (v : Int) := by rw [IntKind.wrap_u64]; omega
        have m5 : IntKind.u64.wrap (x : Int) = (x : Int) := by rw [IntKind.wrap_u64]; omega
        have m6 : IntKind.u64.wrap (y : Int) = (y : Int) := by rw [IntKind.wrap_u64]; omega
        have m7 : (4 : Int) + (n : Int) = (s : Int) := by omega
        have m8 : IntKind.i64.wrap ((4 : Int) + (n : Int)) = (s : Int) := by rw [IntKind.wrap_i64]; omega
        have s0 : (0 : Int) ≤ (s : Int) := by omega
        have s1 : (s : Int) < 12 := by omega
        have Hn4 := Lib.hid hn4; have Hsx := Lib.hid sx; have Hsy := Lib.hid sy
        clear ex ey hx hy sx sy bx by' ex2 ey2 hu hv hn4 hlo' hhi' hs
        go_wp2_with fail
        go_roundw
        case rel => exact ⟨n, u, v, rfl, rfl, rfl, Lib.hid ⟨by have := Hn4.out; omega, Hsx.out.symm, Hsy.out.symm⟩, trivial⟩
        case measure => simp [intOf]
  · have hle : vD D ≤ 170141183460469231731687303715884105728 := by have := H0.out; simp only [sgV] at this; simp at this; omega
    have hc : cmpV (vD D) (vD halfL) = -1 ∨ cmpV (vD D) (vD halfL) = 0 := by
      rcases Nat.lt_or_ge (vD D) 170141183460469231731687303715884105728 with h | h
      · exact .inl (cmp_m1 (by rw [half_v]; exact h))
      · exact .inr (cmp_0 (by rw [half_v]; omega))
    have Hle := Lib.hid hle
    clear hle
    rcases hc with hc | hc
    all_goals
      rw [hc]
      clear hc
      by_cases hz : vD D = 0
      · have hzd : decide (vD D = 0) = true := by simp [hz]
        have HT : Hid (TwoC (sgV true D) D) := Lib.hid ⟨HD.out, fun _ => by simp [sgV, hz], fun h => by simp [sgV, hz] at h⟩
        clear hz
        go_wp2_with (refine wpList_want (by rfl) fun K hK => wp_load_row 82 _ rfl k rfl 82 (nm true D) (0, 0) _ K1.out Tryd.underlying82 rfl (nm_info HD.out.len) (hK _ _ ?_))
        refine (zero_any true D w2 HD.out.len).mono ?_
        rw [hzd]
        rintro e w3 ⟨rfl, hb⟩
        have h1 := (hb.block k (by have := Kz.out; omega)).trans K1.out
        have h2 := (hb.block (k + 1) Kz.out).trans K2.out
        have h4 := K4.out.trans (hb.mono (by have := Kz.out; omega))
        have L1 := Lib.hid h1; have L2 := Lib.hid h2; have L4 := Lib.hid h4
        clear h1 h2 h4 hb hzd
        have c0 := cell_of_row w3 (k + 1) 0 _ _ _ L2.out
        have HE := Lib.hid (low8 HT.out.d (by have h1 := HT.out.pos; have h2 := HT.out.neg; have h3 := H0.out; have h4 := H1.out; omega))
        have HdE := Lib.hid HT.out.d
        clear c0
        go_wp2_with fail
        go_loopw [6, 7, 8] (fun v6 v7 v8 wr => ∃ (n lo hi : Nat), v8 = .int .i64 ((n : Int) - 1) ∧ v6 = .int .u64 (lo : Int) ∧ v7 = .int .u64 (hi : Int) ∧ Hid (n ≤ 4 ∧ lo = vD ((D.take 4).drop n) ∧ hi = vD (((D.drop 4).take 4).drop n)) ∧ wr = w3) (fun _ _ v8 _ => (intOf v8 + 1).toNat)
        case atStart => exact ⟨4, 0, 0, rfl, rfl, rfl, Lib.hid ⟨Nat.le_refl _, by rw [List.drop_eq_nil_of_le (by simp; omega)]; rfl, by rw [List.drop_eq_nil_of_le (by simp; omega)]; rfl⟩, rfl⟩
        case round =>
          obtain ⟨n, lo, hi, rfl, rfl, rfl, hh, rfl⟩ := hrel
          cases n with
          | zero =>
            have hlo : lo = vD (D.take 4) := by have := hh.out.2.1; simpa using this
            have hhi : hi = vD ((D.drop 4).take 4) := by have := hh.out.2.2; simpa using this
            rw [← hlo, ← hhi] at HE
            have h64 : ∃ hs : Int, IntKind.i64.wrap (hi : Int) = hs ∧ hs * 18446744073709551616 + (lo : Int) = sgV true D ∧ -9223372036854775808 ≤ hs ∧ hs ≤ 9223372036854775807 := by
              refine ⟨_, rfl, ?_⟩
              rw [IntKind.wrap_i64]
              have e1 := HE.out.1; have e2 := HE.out.2.1; have e3 := HE.out.2.2
              have h1 := HT.out.pos; have h2 := HT.out.neg; have h3 := H0.out; have h4 := H1.out
              generalize sgV true D = v at *
              omega
            obtain ⟨hs, hs1, hs2⟩ := h64
            have Hs2 := Lib.hid hs2
            have Hl : Hid (lo < 18446744073709551616) := Lib.hid HE.out.2.1
            have d0 : wr.cell? ⟨k + 1, 0, none⟩ = some (.int .i64 0) := by rw [cell_of_row wr (k + 1) 0 _ _ _ L2.out]; rfl
            have d1 : wr.cell? ⟨k + 1, 1, none⟩ = some (.int .u64 0) := by rw [cell_of_row wr (k + 1) 1 _ _ _ L2.out]; rfl
            have f0 := frozen_of_row wr (k + 1) 0 _ _ L2.out
            have f1 := frozen_of_row wr (k + 1) 1 _ _ L2.out
            have kz := (Array.getElem?_eq_some_iff.1 L2.out).1
            clear hs2 hlo hhi
            go_wp2_with fail
            obtain ⟨q1, q2, q3, q4, -⟩ := set2 wr (k + 1) _ _ _ (.int .i64 hs) (.int .u64 (lo : Int)) L2.out _ rfl
            have q5 := q4 k (by omega)
            generalize (wr.setCell ⟨k + 1, 0, none⟩ (.int .i64 hs)).setCell ⟨k + 1, 1, none⟩ (.int .u64 (lo : Int)) = w9 at *
            simp [bodyPost, results, Tryd.results46, go_sem, q2, q3]
            exact ⟨hs, lo, rfl, Hl.out, Hs2.out.1, Hs2.out.2.1, Hs2.out.2.2, by rw [← Hk.out]; exact L4.out.trans (q5.mono (Nat.le_refl _))⟩
          | succ n =>
            have hn4 : n < 4 := by have := hh.out.1; omega
            obtain ⟨x, ex, hx, sx, bx⟩ := tell_step (l := D.take 4) (n := n) (fun d hd => HdE.out.dgt d (List.mem_of_mem_take hd)) (by simp [HdE.out.len]) hn4
            obtain ⟨y, ey, hy, sy, by'⟩ := tell_step (l := (D.drop 4).take 4) (n := n) (fun d hd => HdE.out.dgt d (List.mem_of_mem_drop (List.mem_of_mem_take hd))) (by simp [HdE.out.len]) hn4
            rw [← hh.out.2.1] at sx bx
            rw [← hh.out.2.2] at sy by'
            have ex2 : D[n]? = some x := by rw [List.getElem?_take_of_lt hn4] at ex; exact ex
            have ey2 : D[4 + n]? = some y := by rw [List.getElem?_take_of_lt hn4, List.getElem?_drop] at ey; exact ey
            obtain ⟨s, hs⟩ : ∃ s : Nat, s = 4 + n := ⟨_, rfl⟩
            rw [← hs] at ey2
            have c1 := nm_at' L1.out ex2
            have c2 := nm_at' L1.out ey2
            rw [show (((n + 1 : Nat) : Int) - 1) = (n : Int) by omega]
            have n0 : (0 : Int) ≤ (n : Int) := by omega
            have n1 : (n : Int) < 4 := by omega
            obtain ⟨u, hu⟩ : ∃ u : Nat, u = lo * 65536 + x := ⟨_, rfl⟩
            obtain ⟨v, hv⟩ : ∃ v : Nat, v = hi * 65536 + y := ⟨_, rfl⟩
            rw [← hu] at sx bx
            rw [← hv] at sy by'
            obtain ⟨lo', hlo'⟩ : ∃ l : Nat, l = lo * 65536 := ⟨_, rfl⟩
            obtain ⟨hi', hhi'⟩ : ∃ l : Nat, l = hi * 65536 := ⟨_, rfl⟩
            have m1 : IntKind.u64.wrap ((lo : Int) * 65536) = (lo' : Int) := by rw [IntKind.wrap_u64]; omega
            have m2 : IntKind.u64.wrap ((hi : Int) * 65536) = (hi' : Int) := by rw [IntKind.wrap_u64]; omega
            have m3 : IntKind.u64.wrap ((lo' : Int) + (x : Int)) = (u : Int) := by rw [IntKind.wrap_u64]; omega
            have m4 : IntKind.u64.wrap ((hi' : Int) + (y : Int)) = (v : Int) := by rw [IntKind.wrap_u64]; omega
            have m5 : IntKind.u64.wrap (x : Int) = (x : Int) := by rw [IntKind.wrap_u64]; omega
            have m6 : IntKind.u64.wrap (y : Int) = (y : Int) := by rw [IntKind.wrap_u64]; omega
            have m7 : (4 : Int) + (n : Int) = (s : Int) := by omega
            have m8 : IntKind.i64.wrap ((4 : Int) + (n : Int)) = (s : Int) := by rw [IntKind.wrap_i64]; omega
            have s0 : (0 : Int) ≤ (s : Int) := by omega
            have s1 : (s : Int) < 12 := by omega
            have Hn4 := Lib.hid hn4; have Hsx := Lib.hid sx; have Hsy := Lib.hid sy
            clear ex ey hx hy sx sy bx by' ex2 ey2 hu hv hn4 hlo' hhi' hs
            go_wp2_with fail
            go_roundw
            case rel => exact ⟨n, u, v, rfl, rfl, rfl, Lib.hid ⟨by have := Hn4.out; omega, Hsx.out.symm, Hsy.out.symm⟩, trivial⟩
            case measure => simp [intOf]
      · have hzd : decide (vD D = 0) = false := by simp [hz]
        have hv := lessL_v topL D 0 (by rw [HD.out.len]; rfl) top_12.dgt HD.out.dgt (by omega) (by rw [top_v]; have := Hle.out; omega)
        have hsl := lessL_len topL D 0 (by rw [HD.out.len]; rfl)
        have hcall := fun w => less_any topL D w top_12 HD.out (by rw [top_v]; have := Hle.out; omega)
        rw [show dg topL = #[.int .i64 0, .int .i64 0, .int .i64 0, .int .i64 0, .int .i64 0, .int .i64 0, .int .i64 0, .int .i64 0, .int .i64 1, .int .i64 0, .int .i64 0, .int .i64 0] from rfl] at hcall
        rw [top_v] at hv
        generalize lessL topL D 0 = R at *
        have hR : Dg12 R := ⟨hsl, hv.2⟩
        have HT : Hid (TwoC (sgV true D) R) := Lib.hid ⟨hR, fun h => by simp [sgV] at h; omega, fun _ => by have := hv.1; simp [sgV]; omega⟩
        have HR := Lib.hid hR; have Hcall := Lib.hid hcall
        clear hv hsl hcall hR hz
        go_wp2_with (refine wpList_want (by rfl) fun K hK => wp_load_row 82 _ rfl k rfl 82 (nm true D) (0, 0) _ K1.out Tryd.underlying82 rfl (nm_info HD.out.len) (hK _ _ ?_))
        refine (zero_any true D w2 HD.out.len).mono ?_
        rw [hzd]
        rintro e w3 ⟨rfl, hb⟩
        have h1 := (hb.block k (by have := Kz.out; omega)).trans K1.out
        have h2 := (hb.block (k + 1) Kz.out).trans K2.out
        have h4 := K4.out.trans (hb.mono (by have := Kz.out; omega))
        have L1 := Lib.hid h1; have L2 := Lib.hid h2; have L4 := Lib.hid h4; have Lz := Lib.hid (Nat.lt_of_lt_of_le Kz.out hb.size)
        clear h1 h2 h4 hb hzd
        go_wp2_with (refine wpList_load_mid rfl 80 _ rfl k 1 rfl _ _ (nm_range L1.out) Tryd.underlying80 rfl (dg_info HD.out.len) ?_)
        refine (Hcall.out w3).mono ?_
        rintro e w4 ⟨rfl, hb⟩
        have h1 := (hb.block k (by have := Lz.out; omega)).trans L1.out
        have h2 := (hb.block (k + 1) Lz.out).trans L2.out
        have h4 := L4.out.trans (hb.mono (by have := Lz.out; omega))
        have M1 := Lib.hid h1; have M2 := Lib.hid h2; have M4 := Lib.hid h4; have Mz := Lib.hid (Nat.lt_of_lt_of_le Lz.out hb.size)
        clear h1 h2 h4 hb
        go_upto_region 7 with (refine wpList_store_mid rfl 80 _ _ rfl k 1 (dg R) rfl rfl (by rw [dg_size, HR.out.len]; exact nm_there M1.out HD.out.len) (by rw [dg_size, HR.out.len]; kernel_rfl) dg_one ?_)
        have h1 := nm_put M1.out HD.out.len HR.out.len
        have h2 := (setCells_other k (dg R).toList 1 w4 (k + 1) (by omega)).trans M2.out
        have h4 := setCells_below M4.out (g := k) (Nat.le_refl _) (by have := Mz.out; omega) 1 (dg R).toList
        generalize w4.setCells k 1 (dg R).toList = w5 at *
        have N1 := Lib.hid h1; have N2 := Lib.hid h2; have N4 := Lib.hid h4
        clear h1 h2 h4
        have c0 := cell_of_row w5 (k + 1) 0 _ _ _ N2.out
        have HE := Lib.hid (low8 HT.out.d (by have h1 := HT.out.pos; have h2 := HT.out.neg; have h3 := H0.out; have h4 := H1.out; omega))
        have HdE := Lib.hid HT.out.d
        clear c0
        go_wp2_with fail
        go_loopw [6, 7, 8] (fun v6 v7 v8 wr => ∃ (n lo hi : Nat), v8 = .int .i64 ((n : Int) - 1) ∧ v6 = .int .u64 (lo : Int) ∧ v7 = .int .u64 (hi : Int) ∧ Hid (n ≤ 4 ∧ lo = vD ((R.take 4).drop n) ∧ hi = vD (((R.drop 4).take 4).drop n)) ∧ wr = w5) (fun _ _ v8 _ => (intOf v8 + 1).toNat)
        case atStart => exact ⟨4, 0, 0, rfl, rfl, rfl, Lib.hid ⟨Nat.le_refl _, by rw [List.drop_eq_nil_of_le (by simp; omega)]; rfl, by rw [List.drop_eq_nil_of_le (by simp; omega)]; rfl⟩, rfl⟩
        case round =>
          obtain ⟨n, lo, hi, rfl, rfl, rfl, hh, rfl⟩ := hrel
          cases n with
          | zero =>
            have hlo : lo = vD (R.take 4) := by have := hh.out.2.1; simpa using this
            have hhi : hi = vD ((R.drop 4).take 4) := by have := hh.out.2.2; simpa using this
            rw [← hlo, ← hhi] at HE
            have h64 : ∃ hs : Int, IntKind.i64.wrap (hi : Int) = hs ∧ hs * 18446744073709551616 + (lo : Int) = sgV true D ∧ -9223372036854775808 ≤ hs ∧ hs ≤ 9223372036854775807 := by
              refine ⟨_, rfl, ?_⟩
              rw [IntKind.wrap_i64]
              have e1 := HE.out.1; have e2 := HE.out.2.1; have e3 := HE.out.2.2
              have h1 := HT.out.pos; have h2 := HT.out.neg; have h3 := H0.out; have h4 := H1.out
              generalize sgV true D = v at *
              omega
            obtain ⟨hs, hs1, hs2⟩ := h64
            have Hs2 := Lib.hid hs2
            have Hl : Hid (lo < 18446744073709551616) := Lib.hid HE.out.2.1
            have d0 : wr.cell? ⟨k + 1, 0, none⟩ = some (.int .i64 0) := by rw [cell_of_row wr (k + 1) 0 _ _ _ N2.out]; rfl
            have d1 : wr.cell? ⟨k + 1, 1, none⟩ = some (.int .u64 0) := by rw [cell_of_row wr (k + 1) 1 _ _ _ N2.out]; rfl
            have f0 := frozen_of_row wr (k + 1) 0 _ _ N2.out
            have f1 := frozen_of_row wr (k + 1) 1 _ _ N2.out
            have kz := (Array.getElem?_eq_some_iff.1 N2.out).1
            clear hs2 hlo hhi
            go_wp2_with fail
            obtain ⟨q1, q2, q3, q4, -⟩ := set2 wr (k + 1) _ _ _ (.int .i64 hs) (.int .u64 (lo : Int)) N2.out _ rfl
            have q5 := q4 k (by omega)
            generalize (wr.setCell ⟨k + 1, 0, none⟩ (.int .i64 hs)).setCell ⟨k + 1, 1, none⟩ (.int .u64 (lo : Int)) = w9 at *
            simp [bodyPost, results, Tryd.results46, go_sem, q2, q3]
            exact ⟨hs, lo, rfl, Hl.out, Hs2.out.1, Hs2.out.2.1, Hs2.out.2.2, by rw [← Hk.out]; exact N4.out.trans (q5.mono (Nat.le_refl _))⟩
          | succ n =>
            have hn4 : n < 4 := by have := hh.out.1; omega
            obtain ⟨x, ex, hx, sx, bx⟩ := tell_step (l := R.take 4) (n := n) (fun d hd => HdE.out.dgt d (List.mem_of_mem_take hd)) (by simp [HdE.out.len]) hn4
            obtain ⟨y, ey, hy, sy, by'⟩ := tell_step (l := (R.drop 4).take 4) (n := n) (fun d hd => HdE.out.dgt d (List.mem_of_mem_drop (List.mem_of_mem_take hd))) (by simp [HdE.out.len]) hn4
            rw [← hh.out.2.1] at sx bx
            rw [← hh.out.2.2] at sy by'
            have ex2 : R[n]? = some x := by rw [List.getElem?_take_of_lt hn4] at ex; exact ex
            have ey2 : R[4 + n]? = some y := by rw [List.getElem?_take_of_lt hn4, List.getElem?_drop] at ey; exact ey
            obtain ⟨s, hs⟩ : ∃ s : Nat, s = 4 + n := ⟨_, rfl⟩
            rw [← hs] at ey2
            have c1 := nm_at' N1.out ex2
            have c2 := nm_at' N1.out ey2
            rw [show (((n + 1 : Nat) : Int) - 1) = (n : Int) by omega]
            have n0 : (0 : Int) ≤ (n : Int) := by omega
            have n1 : (n : Int) < 4 := by omega
            obtain ⟨u, hu⟩ : ∃ u : Nat, u = lo * 65536 + x := ⟨_, rfl⟩
            obtain ⟨v, hv⟩ : ∃ v : Nat, v = hi * 65536 + y := ⟨_, rfl⟩
            rw [← hu] at sx bx
            rw [← hv] at sy by'
            obtain ⟨lo', hlo'⟩ : ∃ l : Nat, l = lo * 65536 := ⟨_, rfl⟩
            obtain ⟨hi', hhi'⟩ : ∃ l : Nat, l = hi * 65536 := ⟨_, rfl⟩
            have m1 : IntKind.u64.wrap ((lo : Int) * 65536) = (lo' : Int) := by rw [IntKind.wrap_u64]; omega
            have m2 : IntKind.u64.wrap ((hi : Int) * 65536) = (hi' : Int) := by rw [IntKind.wrap_u64]; omega
            have m3 : IntKind.u64.wrap ((lo' : Int) + (x : Int)) = (u : Int) := by rw [IntKind.wrap_u64]; omega
            have m4 : IntKind.u64.wrap ((hi' : Int) + (y : Int)) = (v : Int) := by rw [IntKind.wrap_u64]; omega
            have m5 : IntKind.u64.wrap (x : Int) = (x : Int) := by rw [IntKind.wrap_u64]; omega
            have m6 : IntKind.u64.wrap (y : Int) = (y : Int) := by rw [IntKind.wrap_u64]; omega
            have m7 : (4 : Int) + (n : Int) = (s : Int) := by omega
            have m8 : IntKind.i64.wrap ((4 : Int) + (n : Int)) = (s : Int) := by rw [IntKind.wrap_i64]; omega
            have s0 : (0 : Int) ≤ (s : Int) := by omega
            have s1 : (s : Int) < 12 := by omega
            have Hn4 := Lib.hid hn4; have Hsx := Lib.hid sx; have Hsy := Lib.hid sy
            clear ex ey hx hy sx sy bx by' ex2 ey2 hu hv hn4 hlo' hhi' hs
            go_wp2_with fail
            go_roundw
            case rel => exact ⟨n, u, v, rfl, rfl, rfl, Lib.hid ⟨by have := Hn4.out; omega, Hsx.out.symm, Hsy.out.symm⟩, trivial⟩
            case measure => simp [intOf]
end
section
open Go.RowKit
theorem sgV_read {hi : Int} {lo : Nat} {D : List Nat} (hl : lo < 18446744073709551616) (h : vD D = (hi * 18446744073709551616 + lo).natAbs) : sgV (decide (hi < 0)) D = hi * 18446744073709551616 + lo := by
  unfold sgV
  by_cases h0 : hi < 0 <;> simp [h0] <;> omega
theorem sgV_small {n : Int} {D : List Nat} (h : vD D = n.natAbs) : sgV (decide (n < 0)) D = n := by
  unfold sgV
  by_cases h0 : n < 0 <;> simp [h0] <;> omega
theorem mul_fit {x n : Int} {A B : Nat} (hA : A = x.natAbs) (hB : B = n.natAbs) (hx0 : -170141183460469231731687303715884105728 ≤ x) (hx1 : x < 170141183460469231731687303715884105728) (hn0 : -9223372036854775808 ≤ n) (hn1 : n ≤ 9223372036854775807) : A * B < 65536 ^ 12 := by
  have h1 : A ≤ 170141183460469231731687303715884105728 := by omega
  have h2 : B ≤ 9223372036854775808 := by omega
  exact Nat.lt_of_le_of_lt (Nat.mul_le_mul h1 h2) (by decide +kernel)
set_option maxRecDepth 100000 in
set_option maxHeartbeats 2000000 in
theorem rTimes_any (hi n : Int) (lo : Nat) (w : World) (h0 : -9223372036854775808 ≤ hi) (h1 : hi ≤ 9223372036854775807) (hl : lo < 18446744073709551616) (hn0 : -9223372036854775808 ≤ n) (hn1 : n ≤ 9223372036854775807)
    (hv0 : -170141183460469231731687303715884105728 ≤ (hi * 18446744073709551616 + lo) * n) (hv1 : (hi * 18446744073709551616 + lo) * n < 170141183460469231731687303715884105728) :
    Calls Tryd.prog 50 #[.agg #[.int .i64 hi, .int .u64 (lo : Int)], .int .i64 n] w (WideOk w ((hi * 18446744073709551616 + lo) * n)) := by
  obtain ⟨x, hx⟩ : ∃ x : Int, x = hi * 18446744073709551616 + lo := ⟨_, rfl⟩
  have hx0 : -170141183460469231731687303715884105728 ≤ x := by omega
  have hx1 : x < 170141183460469231731687303715884105728 := by omega
  rw [← hx] at hv0 hv1 ⊢
  have Hv := Lib.hid (And.intro hv0 hv1); have Hx := Lib.hid (And.intro hx0 hx1); have Hn := Lib.hid (And.intro hn0 hn1); have Hxe := Lib.hid hx; have Hl := Lib.hid hl
  have Hread := Lib.hid (fun w => rRead_any hi lo w h0 h1 hl)
  have Hsm := Lib.hid (fun w => rSmall_any n w hn0 hn1)
  clear hx hv0 hv1 hx0 hx1 hn0 hn1 h0 h1 hl
  go_enter Tryd.func50, Tryd.ntmps50
  go_upto_region 1 with (fail)
  obtain ⟨g1, g2, g3⟩ := alloc2 w (.cells #[.int .i64 hi, .int .u64 (lo : Int)] 48) (.cells #[.int .i64 0, .int .u64 0] 48) _ rfl
  generalize (w.alloc (.cells #[.int .i64 hi, .int .u64 (lo : Int)] 48)).alloc (.cells #[.int .i64 0, .int .u64 0] 48) = wq at *
  obtain ⟨k, hk⟩ : ∃ k, k = w.heap.size := ⟨_, rfl⟩
  rw [← hk] at g1 g2 g3 ⊢
  obtain ⟨-, c0, c1, -, -⟩ := row2 g1
  have G2 := Lib.hid g2; have G3 := Lib.hid g3; have Hk := Lib.hid hk
  clear g1 g2 g3 hk
  go_wp2_with fail
  refine (Hread.out wq).mono ?_
  rintro e w2 ⟨A, rfl, hA, hAv, hb⟩
  have HA := Lib.hid hA; have HAv := Lib.hid hAv; have HB := Lib.hid hb
  have HAs := Lib.hid (sgV_read Hl.out hAv)
  clear hA hAv hb c0 c1
  generalize decide (hi < 0) = m1 at *
  go_wp2_with fail
  refine (Hsm.out w2).mono ?_
  rintro e w3 ⟨B, rfl, hB, hBv, hb⟩
  have hfit := mul_fit (A := vD A) (x := x) (by rw [Hxe.out]; exact HAv.out) hBv Hx.out.1 Hx.out.2 Hn.out.1 Hn.out.2
  have HBs := Lib.hid (sgV_small hBv)
  have HB2 := Lib.hid (HB.out.trans (hb.mono HB.out.size))
  generalize decide (n < 0) = m2 at *
  have Hpr := Lib.hid (rProduct_any m1 m2 A B w3 HA.out hB hfit)
  clear hB hBv hb hfit
  go_wp2_with fail
  refine Hpr.out.mono ?_
  rintro e w4 ⟨m, D, rfl, hD, hDv, hb⟩
  rw [HAs.out, HBs.out, ← Hxe.out] at hDv
  have HB3 := Lib.hid (HB2.out.trans (hb.mono HB2.out.size))
  have Hte := Lib.hid (rTell_any m D w4 hD (by rw [hDv]; exact Hv.out.1) (by rw [hDv]; exact Hv.out.2))
  have HDv := Lib.hid hDv
  clear hD hDv hb
  go_wp2_with fail
  refine Hte.out.mono ?_
  rintro e w5 ⟨rh, rl, rfl, hrl, hrv, hr0, hr1, hb⟩
  rw [HDv.out] at hrv
  have HR := Lib.hid (And.intro hrl (And.intro hrv (And.intro hr0 hr1)))
  have HB4 := Lib.hid (HB3.out.trans (hb.mono HB3.out.size))
  have hz := (Array.getElem?_eq_some_iff.1 G2.out).1
  have g2 := (HB4.out.block (k + 1) hz).trans G2.out
  have HF := Lib.hid (G3.out.trans (HB4.out.mono (by omega)))
  obtain ⟨kz, d0, d1, f0, f1⟩ := row2 g2
  have G2' := Lib.hid g2
  clear hrl hrv hr0 hr1 hb hz g2
  go_wp2_with fail
  obtain ⟨q1, q2, q3, q4, -⟩ := set2 w5 (k + 1) _ _ _ (.int .i64 rh) (.int .u64 (rl : Int)) G2'.out _ rfl
  have q5 := q4 k (by omega)
  generalize (w5.setCell ⟨k + 1, 0, none⟩ (.int .i64 rh)).setCell ⟨k + 1, 1, none⟩ (.int .u64 (rl : Int)) = w9 at *
  simp [bodyPost, results, Tryd.results50, go_sem, q2, q3]
  exact ⟨rh, rl, rfl, HR.out.1, HR.out.2.1, HR.out.2.2.1, HR.out.2.2.2, by rw [← Hk.out]; exact HF.out.trans q5⟩
def WideVal (w : World) (v : Int) (e : Ending) (w' : World) : Prop := ∃ (hi : Int) (lo : Nat), e = .returned (.agg #[.int .i64 hi, .int .u64 (lo : Int)]) ∧ lo < 18446744073709551616 ∧ hi * 18446744073709551616 + lo = v ∧ -9223372036854775808 ≤ hi ∧ hi ≤ 9223372036854775807 ∧ Below w.heap.size w w'
set_option maxRecDepth 100000 in
set_option maxHeartbeats 2000000 in
theorem rMul_any (a n : Int) (w : World) (h0 : -9223372036854775808 ≤ a) (h1 : a ≤ 9223372036854775807) (hn0 : -9223372036854775808 ≤ n) (hn1 : n ≤ 9223372036854775807) (hv0 : -170141183460469231731687303715884105728 ≤ a * n) (hv1 : a * n < 170141183460469231731687303715884105728) :
    Calls Tryd.prog 22 #[.int .i64 a, .int .i64 n] w (WideVal w (a * n)) := by
  have Hof := Lib.hid (fun w => rOf_any a w h0 h1)
  have Hti := Lib.hid (fun hi lo w => rTimes_any hi n lo w)
  have Hn := Lib.hid (And.intro hn0 (And.intro hn1 (And.intro hv0 hv1)))
  clear h0 h1 hn0 hn1 hv0 hv1
  go_enter Tryd.func22, Tryd.ntmps22
  go_upto_region 1 with (fail)
  have g1 := heapN (w := w) rfl (.cells #[.int .i64 0, .int .u64 0] 48)
  have g2 := (Below.refl w.heap.size w).alloc (Nat.le_refl _) (.cells #[.int .i64 0, .int .u64 0] 48)
  generalize w.alloc (.cells #[.int .i64 0, .int .u64 0] 48) = wq at *
  obtain ⟨k, hk⟩ : ∃ k, k = w.heap.size := ⟨_, rfl⟩
  rw [← hk] at g1 g2 ⊢
  have G1 := Lib.hid g1; have G2 := Lib.hid g2; have Hk := Lib.hid hk
  clear g1 g2 hk
  go_wp2_with fail
  refine (Hof.out wq).mono ?_
  rintro e w2 ⟨lo, rfl, hl, hv, hb⟩
  obtain ⟨q, hq⟩ : ∃ q : Int, (if a < 0 then -1 else 0) = q := ⟨_, rfl⟩
  rw [hq] at hv ⊢
  have hq1 : -9223372036854775808 ≤ q ∧ q ≤ 9223372036854775807 := by rw [← hq]; split <;> omega
  have ht := Hti.out q lo w2 hq1.1 hq1.2 hl Hn.out.1 Hn.out.2.1 (by rw [hv]; exact Hn.out.2.2.1) (by rw [hv]; exact Hn.out.2.2.2)
  rw [hv] at ht
  have Ht := Lib.hid ht; have HB := Lib.hid hb
  clear hq hq1 ht hv hl hb
  go_wp2_with fail
  refine Ht.out.mono ?_
  rintro e w3 ⟨rh, rl, rfl, hrl, hrv, hr0, hr1, hb⟩
  have HR := Lib.hid (And.intro hrl (And.intro hrv (And.intro hr0 hr1)))
  have HB2 := Lib.hid (HB.out.trans (hb.mono HB.out.size))
  have hz := (Array.getElem?_eq_some_iff.1 G1.out).1
  have g1 := (HB2.out.block k hz).trans G1.out
  have HF := Lib.hid (G2.out.trans (HB2.out.mono (by omega)))
  obtain ⟨kz, d0, d1, f0, f1⟩ := row2 g1
  have G1' := Lib.hid g1
  clear hrl hrv hr0 hr1 hb g1
  go_wp2_with fail
  obtain ⟨q1, q2, q3, q4, -⟩ := set2 w3 k _ _ _ (.int .i64 rh) (.int .u64 (rl : Int)) G1'.out _ rfl
  have q5 := (q4 k (Nat.le_refl _)).alloc (by simp; omega) (.cells #[.int .i64 rh, .int .u64 (rl : Int)] 48)
  obtain ⟨-, r2, r3, -, -⟩ := row2 (heapO q1 (.cells #[.int .i64 rh, .int .u64 (rl : Int)] 48))
  generalize ((w3.setCell ⟨k, 0, none⟩ (.int .i64 rh)).setCell ⟨k, 1, none⟩ (.int .u64 (rl : Int))).alloc (.cells #[.int .i64 rh, .int .u64 (rl : Int)] 48) = w9 at *
  simp [bodyPost, results, Tryd.results22, go_sem, r2, r3]
  exact ⟨rh, rl, rfl, HR.out.1, HR.out.2.1, HR.out.2.2.1, HR.out.2.2.2, by rw [← Hk.out]; exact HF.out.trans q5⟩
theorem Two.lt {k : Nat} {x y : Obj} {w : World} (h : Two k x y w) : k + 1 < w.heap.size := (Array.getElem?_eq_some_iff.1 h.2).1
theorem Two.more {k : Nat} {x y : Obj} {w0 w w' : World} (h : Two k x y w) (hb : Below k w0 w) (hb' : Below w.heap.size w w') : Below k w0 w' := hb.trans (hb'.mono (by have := h.lt; omega))
theorem Two.fresh {k g : Nat} {o : Obj} {w w' : World} (h : k + 1 < g ∧ w.heap[g]? = some o) (hb : Below w.heap.size w w') : k + 1 < g ∧ w'.heap[g]? = some o := ⟨h.1, (hb.block g (Array.getElem?_eq_some_iff.1 h.2).1).trans h.2⟩
theorem sgV_not (m : Bool) (D : List Nat) : sgV (!m) D = -sgV m D := by cases m <;> simp [sgV]
/-- Compare two wides. -/
def sgnI (x : Int) : Int := if x = 0 then 0 else if x < 0 then -1 else 1
set_option maxRecDepth 100000 in
set_option maxHeartbeats 4000000 in
theorem rCmp_any (ah bh : Int) (al bl : Nat) (w : World) (h0 : -9223372036854775808 ≤ ah) (h1 : ah ≤ 9223372036854775807) (hl : al < 18446744073709551616) (g0 : -9223372036854775808 ≤ bh) (g1 : bh ≤ 9223372036854775807) (gl : bl < 18446744073709551616) :
    Calls Tryd.prog 52 #[.agg #[.int .i64 ah, .int .u64 (al : Int)], .agg #[.int .i64 bh, .int .u64 (bl : Int)]] w fun e w' => e = .returned (.int .i64 (sgnI (ah * 18446744073709551616 + al - (bh * 18446744073709551616 + bl)))) ∧ Below w.heap.size w w' := by
  have HrA := Lib.hid (fun w => rRead_any ah al w h0 h1 hl)
  have HrB := Lib.hid (fun w => rRead_any bh bl w g0 g1 gl)
  obtain ⟨x, hx⟩ : ∃ x : Int, x = ah * 18446744073709551616 + al := ⟨_, rfl⟩
  obtain ⟨y, hy⟩ : ∃ y : Int, y = bh * 18446744073709551616 + bl := ⟨_, rfl⟩
  have Hl := Lib.hid hl; have Gl := Lib.hid gl
  have HX : Hid (-170141183460469231731687303715884105728 ≤ x ∧ x < 170141183460469231731687303715884105728) := Lib.hid (by omega)
  have HY : Hid (-170141183460469231731687303715884105728 ≤ y ∧ y < 170141183460469231731687303715884105728) := Lib.hid (by omega)
  rw [← hx, ← hy]
  have Hx := Lib.hid hx; have Hy := Lib.hid hy
  clear h0 h1 hl g0 g1 gl hx hy
  go_enter Tryd.func52, Tryd.ntmps52
  go_upto_region 1 with (fail)
  obtain ⟨g1, g2, g3⟩ := alloc2 w (.cells #[.int .i64 ah, .int .u64 (al : Int)] 48) (.cells #[.int .i64 bh, .int .u64 (bl : Int)] 48) _ rfl
  generalize (w.alloc (.cells #[.int .i64 ah, .int .u64 (al : Int)] 48)).alloc (.cells #[.int .i64 bh, .int .u64 (bl : Int)] 48) = wq at *
  obtain ⟨k, hk⟩ : ∃ k, k = w.heap.size := ⟨_, rfl⟩
  rw [← hk] at g1 g2 g3 ⊢
  have G1 := Lib.hid g1; have G2 := Lib.hid g2; have G3 := Lib.hid g3; have Hk := Lib.hid hk
  clear g1 g2 g3 hk
  go_cut [5] from 6 to 11 (fun v5 wc => ∃ (g : Nat) (m : Bool) (D : List Nat), v5 = .pointer (some ⟨g, 0, none⟩) ∧ Hid (k + 1 < g ∧ wc.heap[g]? = some (.cells (nm m D) 82 (0, 0)) ∧ Dg12 D ∧ sgV m D = x - y ∧ Below k w wc))
  case first =>
    refine wp_region_held_drew (S := Two k (.cells #[.int .i64 ah, .int .u64 (al : Int)] 48) (.cells #[.int .i64 bh, .int .u64 (bl : Int)] 48)) (by kernel_rfl) ⟨G1.out, G2.out⟩ (fun hHeld => ?_)
    refine wpAnyH_take (i := 0) (oi := ⟨some 6, _, _, _, _, _⟩) (v := .agg #[.int .i64 ah, .int .u64 (al : Int)]) rfl (by kernel_rfl) (by kernel_rfl) (by kernel_rfl) (fun _ _ _ h => h) (Or.inl ⟨by rfl, fun w h => by obtain ⟨-, h1, h2, -, -⟩ := row2 h.1; go_simp⟩) hHeld ?_
    simp only [Act.put, List.setIfInBounds_toArray, List.set_cons_zero, List.set_cons_succ]
    refine wpAnyH_take (i := 2) (oi := ⟨some 8, _, _, _, _, _⟩) (v := .agg #[.int .i64 bh, .int .u64 (bl : Int)]) rfl (by kernel_rfl) (by kernel_rfl) (by kernel_rfl) (fun _ _ _ h => h) (Or.inl ⟨by rfl, fun w h => by obtain ⟨-, h1, h2, -, -⟩ := row2 h.2; go_simp⟩) hHeld ?_
    simp only [Act.put, List.setIfInBounds_toArray, List.set_cons_zero, List.set_cons_succ]
    have hbw : Below k w wq.drew := G3.out.drew
    generalize wq.drew = u0 at *
    refine wpAnyH_ready (rs := [1, 6]) (by kernel_rfl) (by simp) (AllReadyH.cons (o := ⟨some 7, _, _, _, _, _⟩) rfl (fun K hK => ?_) (AllReadyH.cons (o := ⟨some 5, _, _, _, _, _⟩) rfl (fun K hK => ?_) AllReadyH.nil))
    · go_simp
      refine (HrA.out u0).mono ?_
      rintro e u1 ⟨A, rfl, hA, hAv, hb⟩
      have hAs := sgV_read Hl.out hAv
      rw [← Hx.out] at hAs
      have hAn : vD A ≤ 170141183460469231731687303715884105728 := by rw [hAv, ← Hx.out]; have := HX.out; omega
      clear hAv
      generalize decide (ah < 0) = ma at *
      have hbw := Two.more hHeld hbw hb
      have hHeld2 := hHeld.below hb
      clear hb hHeld
      refine hK.out _ _ hHeld2 (fun hHeld => ?_)
      clear hHeld2
      clear hK K
      try simp only [Act.put, List.setIfInBounds_toArray, List.set_cons_zero, List.set_cons_succ]
      refine wpAnyH_ready (rs := [3, 6]) (by kernel_rfl) (by simp) (AllReadyH.cons (o := ⟨some 9, _, _, _, _, _⟩) rfl (fun K hK => ?_) (AllReadyH.cons (o := ⟨some 5, _, _, _, _, _⟩) rfl (fun K hK => ?_) AllReadyH.nil))
      · go_simp
        refine (HrB.out u1).mono ?_
        rintro e u2 ⟨B, rfl, hB, hBv, hb⟩
        have hBs := sgV_read Gl.out hBv
        rw [← Hy.out] at hBs
        have hBn : vD B ≤ 170141183460469231731687303715884105728 := by rw [hBv, ← Hy.out]; have := HY.out; omega
        clear hBv
        generalize decide (bh < 0) = mb at *
        have hbw := Two.more hHeld hbw hb
        have hHeld2 := hHeld.below hb
        clear hb hHeld
        refine hK.out _ _ hHeld2 (fun hHeld => ?_)
        clear hHeld2
        clear hK K
        try simp only [Act.put, List.setIfInBounds_toArray, List.set_cons_zero, List.set_cons_succ]
        refine wpAnyH_ready (rs := [4, 6]) (by kernel_rfl) (by simp) (AllReadyH.cons (o := ⟨some 10, _, _, _, _, _⟩) rfl (fun K hK => ?_) (AllReadyH.cons (o := ⟨some 5, _, _, _, _, _⟩) rfl (fun K hK => ?_) AllReadyH.nil))
        · go_simp
          refine (minus_any mb B u2 hB.len).mono ?_
          rintro e u3 ⟨rfl, hb⟩
          have hbw := Two.more hHeld hbw hb
          have hHeld2 := hHeld.below hb
          clear hb hHeld
          refine hK.out _ _ hHeld2 (fun hHeld => ?_)
          clear hHeld2
          clear hK K
          try simp only [Act.put, List.setIfInBounds_toArray, List.set_cons_zero, List.set_cons_succ]
          refine wpAnyH_ready (rs := [5, 6]) (by kernel_rfl) (by simp) (AllReadyH.cons (o := ⟨some 11, _, _, _, _, _⟩) rfl (fun K hK => ?_) (AllReadyH.cons (o := ⟨some 5, _, _, _, _, _⟩) rfl (fun K hK => ?_) AllReadyH.nil))
          · go_simp
            refine (rSum_any ma (!mb) A B u3 hA hB (Nat.lt_of_le_of_lt (Nat.add_le_add hAn hBn) (by decide +kernel))).mono ?_
            rintro e u4 ⟨m, D, rfl, hD, hDv, hb⟩
            have hbw := Two.more hHeld hbw hb
            have hHeld2 := hHeld.below hb
            clear hb hHeld
            refine hK.out _ _ hHeld2 (fun hHeld => ?_)
            clear hHeld2
            clear hK K
            try simp only [Act.put, List.setIfInBounds_toArray, List.set_cons_zero, List.set_cons_succ]
            refine wpAnyH_ready (rs := [6]) (by kernel_rfl) (by simp) (AllReadyH.cons (o := ⟨some 5, _, _, _, _, _⟩) rfl (fun K hK => ?_) AllReadyH.nil)
            go_simp
            have hb := (Below.refl u4.heap.size u4).alloc (Nat.le_refl _) (.cells #[.bool false, .int .i64 0, .int .i64 0, .int .i64 0, .int .i64 0, .int .i64 0, .int .i64 0, .int .i64 0, .int .i64 0, .int .i64 0, .int .i64 0, .int .i64 0, .int .i64 0] 82)
            obtain ⟨g5, hg⟩ : ∃ g, g = u4.heap.size := ⟨_, rfl⟩
            have hg5 : k + 1 < g5 ∧ (u4.alloc (.cells #[.bool false, .int .i64 0, .int .i64 0, .int .i64 0, .int .i64 0, .int .i64 0, .int .i64 0, .int .i64 0, .int .i64 0, .int .i64 0, .int .i64 0, .int .i64 0, .int .i64 0] 82)).heap[g5]? = some (.cells #[.bool false, .int .i64 0, .int .i64 0, .int .i64 0, .int .i64 0, .int .i64 0, .int .i64 0, .int .i64 0, .int .i64 0, .int .i64 0, .int .i64 0, .int .i64 0, .int .i64 0] 82) := ⟨by rw [hg]; exact hHeld.lt, heapN hg _⟩
            rw [← hg]
            have hbw := Two.more hHeld hbw hb
            have hHeld2 := hHeld.below hb
            clear hb hHeld hg
            refine hK.out _ _ hHeld2 (fun hHeld => ?_)
            clear hHeld2
            generalize u4.alloc (.cells #[.bool false, .int .i64 0, .int .i64 0, .int .i64 0, .int .i64 0, .int .i64 0, .int .i64 0, .int .i64 0, .int .i64 0, .int .i64 0, .int .i64 0, .int .i64 0, .int .i64 0] 82) = u5 at *
            clear hK K
            try simp only [Act.put, List.setIfInBounds_toArray, List.set_cons_zero, List.set_cons_succ]
            refine wpAnyH_ready (rs := [7]) (by kernel_rfl) (by simp) (AllReadyH.cons (o := ⟨none, _, _, _, _, _⟩) rfl (fun K hK => ?_) AllReadyH.nil)
            refine step_of_wp rfl (wp_store_row 82 _ _ rfl g5 (nm m D) rfl rfl 82 zn13 hg5.2 (nm_info hD.len) (by rw [nm_size, hD.len]; rfl) nm_one ?_)
            have hq := setRow_heap _ _ _ (nm m D) _ _ hg5.2
            have hbz := below_setRow hbw (g := g5) (by omega) (nm m D)
            refine hK.out _ _ (hHeld.row hg5.1 _) (fun hHeld => ?_)
            clear hK K
            refine wpAnyH_done (by kernel_rfl) ?_ _
            simp only [Act.put]
            go_wp2_with fail
            go_meet
            case rel => exact ⟨g5, m, D, rfl, Lib.hid ⟨hg5.1, hq, hD, by rw [hDv, hAs, sgV_not, hBs]; omega, hbz⟩⟩
          · go_simp
            have hb := (Below.refl u3.heap.size u3).alloc (Nat.le_refl _) (.cells #[.bool false, .int .i64 0, .int .i64 0, .int .i64 0, .int .i64 0, .int .i64 0, .int .i64 0, .int .i64 0, .int .i64 0, .int .i64 0, .int .i64 0, .int .i64 0, .int .i64 0] 82)
            obtain ⟨g6, hg⟩ : ∃ g, g = u3.heap.size := ⟨_, rfl⟩
            have hg6 : k + 1 < g6 ∧ (u3.alloc (.cells #[.bool false, .int .i64 0, .int .i64 0, .int .i64 0, .int .i64 0, .int .i64 0, .int .i64 0, .int .i64 0, .int .i64 0, .int .i64 0, .int .i64 0, .int .i64 0, .int .i64 0] 82)).heap[g6]? = some (.cells #[.bool false, .int .i64 0, .int .i64 0, .int .i64 0, .int .i64 0, .int .i64 0, .int .i64 0, .int .i64 0, .int .i64 0, .int .i64 0, .int .i64 0, .int .i64 0, .int .i64 0] 82) := ⟨by rw [hg]; exact hHeld.lt, heapN hg _⟩
            rw [← hg]
            have hbw := Two.more hHeld hbw hb
            have hHeld2 := hHeld.below hb
            clear hb hHeld hg
            refine hK.out _ _ hHeld2 (fun hHeld => ?_)
            clear hHeld2
            generalize u3.alloc (.cells #[.bool false, .int .i64 0, .int .i64 0, .int .i64 0, .int .i64 0, .int .i64 0, .int .i64 0, .int .i64 0, .int .i64 0, .int .i64 0, .int .i64 0, .int .i64 0, .int .i64 0] 82) = u6 at *
            clear hK K
            try simp only [Act.put, List.setIfInBounds_toArray, List.set_cons_zero, List.set_cons_succ]
            refine wpAnyH_ready (rs := [5]) (by kernel_rfl) (by simp) (AllReadyH.cons (o := ⟨some 11, _, _, _, _, _⟩) rfl (fun K hK => ?_) AllReadyH.nil)
            go_simp
            refine (rSum_any ma (!mb) A B u6 hA hB (Nat.lt_of_le_of_lt (Nat.add_le_add hAn hBn) (by decide +kernel))).mono ?_
            rintro e u7 ⟨m, D, rfl, hD, hDv, hb⟩
            have hbw := Two.more hHeld hbw hb
            have hg6 := Two.fresh hg6 hb
            have hHeld2 := hHeld.below hb
            clear hb hHeld
            refine hK.out _ _ hHeld2 (fun hHeld => ?_)
            clear hHeld2
            clear hK K
            try simp only [Act.put, List.setIfInBounds_toArray, List.set_cons_zero, List.set_cons_succ]
            refine wpAnyH_ready (rs := [7]) (by kernel_rfl) (by simp) (AllReadyH.cons (o := ⟨none, _, _, _, _, _⟩) rfl (fun K hK => ?_) AllReadyH.nil)
            refine step_of_wp rfl (wp_store_row 82 _ _ rfl g6 (nm m D) rfl rfl 82 zn13 hg6.2 (nm_info hD.len) (by rw [nm_size, hD.len]; rfl) nm_one ?_)
            have hq := setRow_heap _ _ _ (nm m D) _ _ hg6.2
            have hbz := below_setRow hbw (g := g6) (by omega) (nm m D)
            refine hK.out _ _ (hHeld.row hg6.1 _) (fun hHeld => ?_)
            clear hK K
            refine wpAnyH_done (by kernel_rfl) ?_ _
            simp only [Act.put]
            go_wp2_with fail
            go_meet
            case rel => exact ⟨g6, m, D, rfl, Lib.hid ⟨hg6.1, hq, hD, by rw [hDv, hAs, sgV_not, hBs]; omega, hbz⟩⟩
        · go_simp
          have hb := (Below.refl u2.heap.size u2).alloc (Nat.le_refl _) (.cells #[.bool false, .int .i64 0, .int .i64 0, .int .i64 0, .int .i64 0, .int .i64 0, .int .i64 0, .int .i64 0, .int .i64 0, .int .i64 0, .int .i64 0, .int .i64 0, .int .i64 0] 82)
          obtain ⟨g8, hg⟩ : ∃ g, g = u2.heap.size := ⟨_, rfl⟩
          have hg8 : k + 1 < g8 ∧ (u2.alloc (.cells #[.bool false, .int .i64 0, .int .i64 0, .int .i64 0, .int .i64 0, .int .i64 0, .int .i64 0, .int .i64 0, .int .i64 0, .int .i64 0, .int .i64 0, .int .i64 0, .int .i64 0] 82)).heap[g8]? = some (.cells #[.bool false, .int .i64 0, .int .i64 0, .int .i64 0, .int .i64 0, .int .i64 0, .int .i64 0, .int .i64 0, .int .i64 0, .int .i64 0, .int .i64 0, .int .i64 0, .int .i64 0] 82) := ⟨by rw [hg]; exact hHeld.lt, heapN hg _⟩
          rw [← hg]
          have hbw := Two.more hHeld hbw hb
          have hHeld2 := hHeld.below hb
          clear hb hHeld hg
          refine hK.out _ _ hHeld2 (fun hHeld => ?_)
          clear hHeld2
          generalize u2.alloc (.cells #[.bool false, .int .i64 0, .int .i64 0, .int .i64 0, .int .i64 0, .int .i64 0, .int .i64 0, .int .i64 0, .int .i64 0, .int .i64 0, .int .i64 0, .int .i64 0, .int .i64 0] 82) = u8 at *
          clear hK K
          try simp only [Act.put, List.setIfInBounds_toArray, List.set_cons_zero, List.set_cons_succ]
          refine wpAnyH_ready (rs := [4]) (by kernel_rfl) (by simp) (AllReadyH.cons (o := ⟨some 10, _, _, _, _, _⟩) rfl (fun K hK => ?_) AllReadyH.nil)
          go_simp
          refine (minus_any mb B u8 hB.len).mono ?_
          rintro e u9 ⟨rfl, hb⟩
          have hbw := Two.more hHeld hbw hb
          have hg8 := Two.fresh hg8 hb
          have hHeld2 := hHeld.below hb
          clear hb hHeld
          refine hK.out _ _ hHeld2 (fun hHeld => ?_)
          clear hHeld2
          clear hK K
          try simp only [Act.put, List.setIfInBounds_toArray, List.set_cons_zero, List.set_cons_succ]
          refine wpAnyH_ready (rs := [5]) (by kernel_rfl) (by simp) (AllReadyH.cons (o := ⟨some 11, _, _, _, _, _⟩) rfl (fun K hK => ?_) AllReadyH.nil)
          go_simp
          refine (rSum_any ma (!mb) A B u9 hA hB (Nat.lt_of_le_of_lt (Nat.add_le_add hAn hBn) (by decide +kernel))).mono ?_
          rintro e u10 ⟨m, D, rfl, hD, hDv, hb⟩
          have hbw := Two.more hHeld hbw hb
          have hg8 := Two.fresh hg8 hb
          have hHeld2 := hHeld.below hb
          clear hb hHeld
          refine hK.out _ _ hHeld2 (fun hHeld => ?_)
          clear hHeld2
          clear hK K
          try simp only [Act.put, List.setIfInBounds_toArray, List.set_cons_zero, List.set_cons_succ]
          refine wpAnyH_ready (rs := [7]) (by kernel_rfl) (by simp) (AllReadyH.cons (o := ⟨none, _, _, _, _, _⟩) rfl (fun K hK => ?_) AllReadyH.nil)
          refine step_of_wp rfl (wp_store_row 82 _ _ rfl g8 (nm m D) rfl rfl 82 zn13 hg8.2 (nm_info hD.len) (by rw [nm_size, hD.len]; rfl) nm_one ?_)
          have hq := setRow_heap _ _ _ (nm m D) _ _ hg8.2
          have hbz := below_setRow hbw (g := g8) (by omega) (nm m D)
          refine hK.out _ _ (hHeld.row hg8.1 _) (fun hHeld => ?_)
          clear hK K
          refine wpAnyH_done (by kernel_rfl) ?_ _
          simp only [Act.put]
          go_wp2_with fail
          go_meet
          case rel => exact ⟨g8, m, D, rfl, Lib.hid ⟨hg8.1, hq, hD, by rw [hDv, hAs, sgV_not, hBs]; omega, hbz⟩⟩
      · go_simp
        have hb := (Below.refl u1.heap.size u1).alloc (Nat.le_refl _) (.cells #[.bool false, .int .i64 0, .int .i64 0, .int .i64 0, .int .i64 0, .int .i64 0, .int .i64 0, .int .i64 0, .int .i64 0, .int .i64 0, .int .i64 0, .int .i64 0, .int .i64 0] 82)
        obtain ⟨g11, hg⟩ : ∃ g, g = u1.heap.size := ⟨_, rfl⟩
        have hg11 : k + 1 < g11 ∧ (u1.alloc (.cells #[.bool false, .int .i64 0, .int .i64 0, .int .i64 0, .int .i64 0, .int .i64 0, .int .i64 0, .int .i64 0, .int .i64 0, .int .i64 0, .int .i64 0, .int .i64 0, .int .i64 0] 82)).heap[g11]? = some (.cells #[.bool false, .int .i64 0, .int .i64 0, .int .i64 0, .int .i64 0, .int .i64 0, .int .i64 0, .int .i64 0, .int .i64 0, .int .i64 0, .int .i64 0, .int .i64 0, .int .i64 0] 82) := ⟨by rw [hg]; exact hHeld.lt, heapN hg _⟩
        rw [← hg]
        have hbw := Two.more hHeld hbw hb
        have hHeld2 := hHeld.below hb
        clear hb hHeld hg
        refine hK.out _ _ hHeld2 (fun hHeld => ?_)
        clear hHeld2
        generalize u1.alloc (.cells #[.bool false, .int .i64 0, .int .i64 0, .int .i64 0, .int .i64 0, .int .i64 0, .int .i64 0, .int .i64 0, .int .i64 0, .int .i64 0, .int .i64 0, .int .i64 0, .int .i64 0] 82) = u11 at *
        clear hK K
        try simp only [Act.put, List.setIfInBounds_toArray, List.set_cons_zero, List.set_cons_succ]
        refine wpAnyH_ready (rs := [3]) (by kernel_rfl) (by simp) (AllReadyH.cons (o := ⟨some 9, _, _, _, _, _⟩) rfl (fun K hK => ?_) AllReadyH.nil)
        go_simp
        refine (HrB.out u11).mono ?_
        rintro e u12 ⟨B, rfl, hB, hBv, hb⟩
        have hBs := sgV_read Gl.out hBv
        rw [← Hy.out] at hBs
        have hBn : vD B ≤ 170141183460469231731687303715884105728 := by rw [hBv, ← Hy.out]; have := HY.out; omega
        clear hBv
        generalize decide (bh < 0) = mb at *
        have hbw := Two.more hHeld hbw hb
        have hg11 := Two.fresh hg11 hb
        have hHeld2 := hHeld.below hb
        clear hb hHeld
        refine hK.out _ _ hHeld2 (fun hHeld => ?_)
        clear hHeld2
        clear hK K
        try simp only [Act.put, List.setIfInBounds_toArray, List.set_cons_zero, List.set_cons_succ]
        refine wpAnyH_ready (rs := [4]) (by kernel_rfl) (by simp) (AllReadyH.cons (o := ⟨some 10, _, _, _, _, _⟩) rfl (fun K hK => ?_) AllReadyH.nil)
        go_simp
        refine (minus_any mb B u12 hB.len).mono ?_
        rintro e u13 ⟨rfl, hb⟩
        have hbw := Two.more hHeld hbw hb
        have hg11 := Two.fresh hg11 hb
        have hHeld2 := hHeld.below hb
        clear hb hHeld
        refine hK.out _ _ hHeld2 (fun hHeld => ?_)
        clear hHeld2
        clear hK K
        try simp only [Act.put, List.setIfInBounds_toArray, List.set_cons_zero, List.set_cons_succ]
        refine wpAnyH_ready (rs := [5]) (by kernel_rfl) (by simp) (AllReadyH.cons (o := ⟨some 11, _, _, _, _, _⟩) rfl (fun K hK => ?_) AllReadyH.nil)
        go_simp
        refine (rSum_any ma (!mb) A B u13 hA hB (Nat.lt_of_le_of_lt (Nat.add_le_add hAn hBn) (by decide +kernel))).mono ?_
        rintro e u14 ⟨m, D, rfl, hD, hDv, hb⟩
        have hbw := Two.more hHeld hbw hb
        have hg11 := Two.fresh hg11 hb
        have hHeld2 := hHeld.below hb
        clear hb hHeld
        refine hK.out _ _ hHeld2 (fun hHeld => ?_)
        clear hHeld2
        clear hK K
        try simp only [Act.put, List.setIfInBounds_toArray, List.set_cons_zero, List.set_cons_succ]
        refine wpAnyH_ready (rs := [7]) (by kernel_rfl) (by simp) (AllReadyH.cons (o := ⟨none, _, _, _, _, _⟩) rfl (fun K hK => ?_) AllReadyH.nil)
        refine step_of_wp rfl (wp_store_row 82 _ _ rfl g11 (nm m D) rfl rfl 82 zn13 hg11.2 (nm_info hD.len) (by rw [nm_size, hD.len]; rfl) nm_one ?_)
        have hq := setRow_heap _ _ _ (nm m D) _ _ hg11.2
        have hbz := below_setRow hbw (g := g11) (by omega) (nm m D)
        refine hK.out _ _ (hHeld.row hg11.1 _) (fun hHeld => ?_)
        clear hK K
        refine wpAnyH_done (by kernel_rfl) ?_ _
        simp only [Act.put]
        go_wp2_with fail
        go_meet
        case rel => exact ⟨g11, m, D, rfl, Lib.hid ⟨hg11.1, hq, hD, by rw [hDv, hAs, sgV_not, hBs]; omega, hbz⟩⟩
    · go_simp
      have hb := (Below.refl u0.heap.size u0).alloc (Nat.le_refl _) (.cells #[.bool false, .int .i64 0, .int .i64 0, .int .i64 0, .int .i64 0, .int .i64 0, .int .i64 0, .int .i64 0, .int .i64 0, .int .i64 0, .int .i64 0, .int .i64 0, .int .i64 0] 82)
      obtain ⟨g15, hg⟩ : ∃ g, g = u0.heap.size := ⟨_, rfl⟩
      have hg15 : k + 1 < g15 ∧ (u0.alloc (.cells #[.bool false, .int .i64 0, .int .i64 0, .int .i64 0, .int .i64 0, .int .i64 0, .int .i64 0, .int .i64 0, .int .i64 0, .int .i64 0, .int .i64 0, .int .i64 0, .int .i64 0] 82)).heap[g15]? = some (.cells #[.bool false, .int .i64 0, .int .i64 0, .int .i64 0, .int .i64 0, .int .i64 0, .int .i64 0, .int .i64 0, .int .i64 0, .int .i64 0, .int .i64 0, .int .i64 0, .int .i64 0] 82) := ⟨by rw [hg]; exact hHeld.lt, heapN hg _⟩
      rw [← hg]
      have hbw := Two.more hHeld hbw hb
      have hHeld2 := hHeld.below hb
      clear hb hHeld hg
      refine hK.out _ _ hHeld2 (fun hHeld => ?_)
      clear hHeld2
      generalize u0.alloc (.cells #[.bool false, .int .i64 0, .int .i64 0, .int .i64 0, .int .i64 0, .int .i64 0, .int .i64 0, .int .i64 0, .int .i64 0, .int .i64 0, .int .i64 0, .int .i64 0, .int .i64 0] 82) = u15 at *
      clear hK K
      try simp only [Act.put, List.setIfInBounds_toArray, List.set_cons_zero, List.set_cons_succ]
      refine wpAnyH_ready (rs := [1]) (by kernel_rfl) (by simp) (AllReadyH.cons (o := ⟨some 7, _, _, _, _, _⟩) rfl (fun K hK => ?_) AllReadyH.nil)
      go_simp
      refine (HrA.out u15).mono ?_
      rintro e u16 ⟨A, rfl, hA, hAv, hb⟩
      have hAs := sgV_read Hl.out hAv
      rw [← Hx.out] at hAs
      have hAn : vD A ≤ 170141183460469231731687303715884105728 := by rw [hAv, ← Hx.out]; have := HX.out; omega
      clear hAv
      generalize decide (ah < 0) = ma at *
      have hbw := Two.more hHeld hbw hb
      have hg15 := Two.fresh hg15 hb
      have hHeld2 := hHeld.below hb
      clear hb hHeld
      refine hK.out _ _ hHeld2 (fun hHeld => ?_)
      clear hHeld2
      clear hK K
      try simp only [Act.put, List.setIfInBounds_toArray, List.set_cons_zero, List.set_cons_succ]
      refine wpAnyH_ready (rs := [3]) (by kernel_rfl) (by simp) (AllReadyH.cons (o := ⟨some 9, _, _, _, _, _⟩) rfl (fun K hK => ?_) AllReadyH.nil)
      go_simp
      refine (HrB.out u16).mono ?_
      rintro e u17 ⟨B, rfl, hB, hBv, hb⟩
      have hBs := sgV_read Gl.out hBv
      rw [← Hy.out] at hBs
      have hBn : vD B ≤ 170141183460469231731687303715884105728 := by rw [hBv, ← Hy.out]; have := HY.out; omega
      clear hBv
      generalize decide (bh < 0) = mb at *
      have hbw := Two.more hHeld hbw hb
      have hg15 := Two.fresh hg15 hb
      have hHeld2 := hHeld.below hb
      clear hb hHeld
      refine hK.out _ _ hHeld2 (fun hHeld => ?_)
      clear hHeld2
      clear hK K
      try simp only [Act.put, List.setIfInBounds_toArray, List.set_cons_zero, List.set_cons_succ]
      refine wpAnyH_ready (rs := [4]) (by kernel_rfl) (by simp) (AllReadyH.cons (o := ⟨some 10, _, _, _, _, _⟩) rfl (fun K hK => ?_) AllReadyH.nil)
      go_simp
      refine (minus_any mb B u17 hB.len).mono ?_
      rintro e u18 ⟨rfl, hb⟩
      have hbw := Two.more hHeld hbw hb
      have hg15 := Two.fresh hg15 hb
      have hHeld2 := hHeld.below hb
      clear hb hHeld
      refine hK.out _ _ hHeld2 (fun hHeld => ?_)
      clear hHeld2
      clear hK K
      try simp only [Act.put, List.setIfInBounds_toArray, List.set_cons_zero, List.set_cons_succ]
      refine wpAnyH_ready (rs := [5]) (by kernel_rfl) (by simp) (AllReadyH.cons (o := ⟨some 11, _, _, _, _, _⟩) rfl (fun K hK => ?_) AllReadyH.nil)
      go_simp
      refine (rSum_any ma (!mb) A B u18 hA hB (Nat.lt_of_le_of_lt (Nat.add_le_add hAn hBn) (by decide +kernel))).mono ?_
      rintro e u19 ⟨m, D, rfl, hD, hDv, hb⟩
      have hbw := Two.more hHeld hbw hb
      have hg15 := Two.fresh hg15 hb
      have hHeld2 := hHeld.below hb
      clear hb hHeld
      refine hK.out _ _ hHeld2 (fun hHeld => ?_)
      clear hHeld2
      clear hK K
      try simp only [Act.put, List.setIfInBounds_toArray, List.set_cons_zero, List.set_cons_succ]
      refine wpAnyH_ready (rs := [7]) (by kernel_rfl) (by simp) (AllReadyH.cons (o := ⟨none, _, _, _, _, _⟩) rfl (fun K hK => ?_) AllReadyH.nil)
      refine step_of_wp rfl (wp_store_row 82 _ _ rfl g15 (nm m D) rfl rfl 82 zn13 hg15.2 (nm_info hD.len) (by rw [nm_size, hD.len]; rfl) nm_one ?_)
      have hq := setRow_heap _ _ _ (nm m D) _ _ hg15.2
      have hbz := below_setRow hbw (g := g15) (by omega) (nm m D)
      refine hK.out _ _ (hHeld.row hg15.1 _) (fun hHeld => ?_)
      clear hK K
      refine wpAnyH_done (by kernel_rfl) ?_ _
      simp only [Act.put]
      go_wp2_with fail
      go_meet
      case rel => exact ⟨g15, m, D, rfl, Lib.hid ⟨hg15.1, hq, hD, by rw [hDv, hAs, sgV_not, hBs]; omega, hbz⟩⟩
  case rest =>
    obtain ⟨g, m, D, rfl, hg⟩ := hcut
    have h12 := hg.out.2.2.1.len
    have hz := fun w => zero_any m D w h12
    have Hz := Lib.hid hz
    have c0 := nm_head hg.out.2.1
    clear hz h12
    go_wp2_with (refine wpList_load_row rfl 82 _ rfl g rfl 82 (nm m D) (0, 0) _ hg.out.2.1 Tryd.underlying82 rfl (nm_info hg.out.2.2.1.len) ?_)
    refine (Hz.out wc).mono ?_
    rintro e w5 ⟨rfl, hb⟩
    have hgz := (Array.getElem?_eq_some_iff.1 hg.out.2.1).1
    have d0 := (hb.cell (p := ⟨g, 0, none⟩) hgz).trans c0
    have HF := Lib.hid (hg.out.2.2.2.2.trans (hb.mono (by have := hg.out.1; omega)))
    have hv := hg.out.2.2.2.1
    have Hv := Lib.hid hv
    clear hb c0 hgz hv
    by_cases hz : vD D = 0
    · have hd : decide (vD D = 0) = true := by simp [hz]
      have hs : sgnI (x - y) = 0 := by rw [← Hv.out]; simp [sgV, hz, sgnI]
      have Hs := Lib.hid hs
      rw [hd]
      clear hs hd hz
      go_wp2_with fail
      go_ret
      exact ⟨by rw [Hs.out]; rfl, by rw [← Hk.out]; exact HF.out⟩
    · have hd : decide (vD D = 0) = false := by simp [hz]
      rw [hd]
      cases m
      · have hs : sgnI (x - y) = 1 := by rw [← Hv.out]; simp only [sgV, sgnI]; simp; omega
        have Hs := Lib.hid hs
        clear hs hd hz
        go_wp2_with fail
        go_ret
        exact ⟨by rw [Hs.out]; rfl, by rw [← Hk.out]; exact HF.out⟩
      · have hs : sgnI (x - y) = -1 := by rw [← Hv.out]; simp only [sgV, sgnI]; simp; omega
        have Hs := Lib.hid hs
        clear hs hd hz
        go_wp2_with fail
        go_ret
        exact ⟨by rw [Hs.out]; rfl, by rw [← Hk.out]; exact HF.out⟩
end
section
open Go.RowKit
theorem rOf_min (w : World) : Calls Tryd.prog 51 #[.int .i64 (-9223372036854775808)] w fun e w' => e = .returned (.agg #[.int .i64 (-1), .int .u64 9223372036854775808]) ∧ Below w.heap.size w w' :=
  (rOf_any (-9223372036854775808) w (by decide) (by decide)).mono fun e w' ⟨lo, h1, h2, h3, h4⟩ => by
    rw [if_pos (by decide)] at h1 h3
    have : lo = 9223372036854775808 := by omega
    subst this
    exact ⟨h1, h4⟩
theorem rOf_max (w : World) : Calls Tryd.prog 51 #[.int .i64 9223372036854775807] w fun e w' => e = .returned (.agg #[.int .i64 0, .int .u64 9223372036854775807]) ∧ Below w.heap.size w w' :=
  (rOf_any 9223372036854775807 w (by decide) (by decide)).mono fun e w' ⟨lo, h1, h2, h3, h4⟩ => by
    rw [if_neg (by decide)] at h1 h3
    have : lo = 9223372036854775807 := by omega
    subst this
    exact ⟨h1, h4⟩
set_option maxRecDepth 100000 in
set_option maxHeartbeats 4000000 in
theorem rInt_any (hi : Int) (lo : Nat) (w : World) (h0 : -9223372036854775808 ≤ hi) (h1 : hi ≤ 9223372036854775807) (hl : lo < 18446744073709551616) :
    Calls Tryd.prog 23 #[.agg #[.int .i64 hi, .int .u64 (lo : Int)]] w fun e w' => e = .returned (.tuple #[.int .i64 (intW (hi * 18446744073709551616 + lo)).1, .bool (intW (hi * 18446744073709551616 + lo)).2]) ∧ Below w.heap.size w w' := by
  obtain ⟨x, hx⟩ : ∃ x : Int, x = hi * 18446744073709551616 + lo := ⟨_, rfl⟩
  have Hmin := Lib.hid (fun w => rCmp_any hi (-1) lo 9223372036854775808 w h0 h1 hl (by decide) (by decide) (by decide))
  have Hmax := Lib.hid (fun w => rCmp_any hi 0 lo 9223372036854775807 w h0 h1 hl (by decide) (by decide) (by decide))
  rw [← hx] at Hmin Hmax ⊢
  obtain ⟨c, hc⟩ : ∃ c, c = sgnI (x - (-1 * 18446744073709551616 + (9223372036854775808 : Nat))) := ⟨_, rfl⟩
  obtain ⟨d, hd⟩ : ∃ d, d = sgnI (x - (0 * 18446744073709551616 + (9223372036854775807 : Nat))) := ⟨_, rfl⟩
  rw [← hc] at Hmin
  rw [← hd] at Hmax
  have hcx : (c < 0 ↔ x < -9223372036854775808) := by rw [hc]; unfold sgnI; constructor <;> intro h <;> (repeat' split at h) <;> (repeat' split) <;> omega
  have hdx : (0 < d ↔ 9223372036854775807 < x) := by rw [hd]; unfold sgnI; constructor <;> intro h <;> (repeat' split at h) <;> (repeat' split) <;> omega
  have hlo : (-9223372036854775808 ≤ x ∧ x ≤ 9223372036854775807) → IntKind.i64.wrap (lo : Int) = x := by intro h; rw [IntKind.wrap_i64]; omega
  have Hlo := Lib.hid hlo
  obtain ⟨r, hr⟩ : ∃ r, r = intW x := ⟨_, rfl⟩
  have hrx : (¬ (-9223372036854775808 ≤ x ∧ x ≤ 9223372036854775807) → r = (0, false)) ∧ ((-9223372036854775808 ≤ x ∧ x ≤ 9223372036854775807) → r = (x, true)) := by
    rw [hr]; unfold intW; constructor <;> intro h
    · rw [if_neg h]
    · rw [if_pos h]
  rw [← hr]
  have Hr := Lib.hid hrx
  clear h0 h1 hl hx hc hd hlo hr hrx
  go_enter Tryd.func23, Tryd.ntmps23
  go_upto_region 1 with (fail)
  have g1 := heapN (w := w) rfl (.cells #[.int .i64 hi, .int .u64 (lo : Int)] 48)
  have g2 := (Below.refl w.heap.size w).alloc (Nat.le_refl _) (.cells #[.int .i64 hi, .int .u64 (lo : Int)] 48)
  generalize w.alloc (.cells #[.int .i64 hi, .int .u64 (lo : Int)] 48) = wq at *
  obtain ⟨k, hk⟩ : ∃ k, k = w.heap.size := ⟨_, rfl⟩
  rw [← hk] at g1 g2 ⊢
  obtain ⟨kz, c0, c1, -, -⟩ := row2 g1
  have G2 := Lib.hid g2; have Hk := Lib.hid hk
  clear g1 g2 hk
  by_cases hA : x < -9223372036854775808
  · have hcn : decide (c < 0) = true := by simpa using hcx.2 hA
    have hR := Hr.out.1 (by omega)
    have HR := Lib.hid hR
    clear hcx hdx hA hR
    refine wp_region_held_drew (S := fun w' => w'.cell? ⟨k, 0, none⟩ = some (.int .i64 hi) ∧ w'.cell? ⟨k, 1, none⟩ = some (.int .u64 (lo : Int))) (by kernel_rfl) ⟨c0, c1⟩ (fun hHeld => ?_)
    have hbw : Below k w wq.drew := G2.out.drew
    have hkz : k < wq.drew.heap.size := kz
    clear c0 c1 kz
    refine wpAnyH_take (i := 0) (oi := ⟨some 4, _, _, _, _, _⟩) (v := .agg #[.int .i64 hi, .int .u64 (lo : Int)]) rfl (by kernel_rfl) (by kernel_rfl) (by kernel_rfl) (fun _ _ _ h => h) (Or.inl ⟨by rfl, fun w h => by obtain ⟨h1, h2⟩ := h; go_simp⟩) hHeld ?_
    simp only [Act.put, List.setIfInBounds_toArray, List.set_cons_zero, List.set_cons_succ]
    refine wpAnyH_ready (rs := [1]) (by kernel_rfl) (by simp) (AllReadyH.cons (o := ⟨some 5, _, _, _, _, _⟩) rfl (fun K hK => ?_) AllReadyH.nil)
    go_simp
    refine (rOf_min wq.drew).mono ?_
    rintro e w2 ⟨rfl, hb⟩
    have hHeld2 : w2.cell? ⟨k, 0, none⟩ = some (.int .i64 hi) ∧ w2.cell? ⟨k, 1, none⟩ = some (.int .u64 (lo : Int)) := ⟨(hb.cell (p := ⟨k, 0, none⟩) hkz).trans hHeld.1, (hb.cell (p := ⟨k, 1, none⟩) hkz).trans hHeld.2⟩
    have hkz := Nat.lt_of_lt_of_le hkz hb.size
    have hbw := hbw.trans (hb.mono (by have := hbw.size; have := Hk.out; omega))
    clear hb hHeld
    refine hK.out _ _ hHeld2 (fun hHeld => ?_)
    clear hHeld2 hK K
    try simp only [Act.put, List.setIfInBounds_toArray, List.set_cons_zero, List.set_cons_succ]
    refine wpAnyH_ready (rs := [2]) (by kernel_rfl) (by simp) (AllReadyH.cons (o := ⟨some 6, _, _, _, _, _⟩) rfl (fun K hK => ?_) AllReadyH.nil)
    go_simp
    refine (Hmin.out w2).mono ?_
    rintro e w3 ⟨rfl, hb⟩
    have hHeld2 : w3.cell? ⟨k, 0, none⟩ = some (.int .i64 hi) ∧ w3.cell? ⟨k, 1, none⟩ = some (.int .u64 (lo : Int)) := ⟨(hb.cell (p := ⟨k, 0, none⟩) hkz).trans hHeld.1, (hb.cell (p := ⟨k, 1, none⟩) hkz).trans hHeld.2⟩
    have hkz := Nat.lt_of_lt_of_le hkz hb.size
    have hbw := hbw.trans (hb.mono (by have := hbw.size; have := Hk.out; omega))
    clear hb hHeld
    refine hK.out _ _ hHeld2 (fun hHeld => ?_)
    clear hHeld2 hK K
    try simp only [Act.put, List.setIfInBounds_toArray, List.set_cons_zero, List.set_cons_succ]
    refine wpAnyH_take (i := 3) (oi := ⟨some 7, _, _, _, _, _⟩) (v := .bool true) rfl (by kernel_rfl) (by kernel_rfl) (by kernel_rfl) (fun _ _ _ h => h) (Or.inl ⟨by rfl, fun w _ => by go_simp⟩) hHeld ?_
    simp only [Act.put, List.setIfInBounds_toArray, List.set_cons_zero, List.set_cons_succ]
    refine wpAnyH_take (i := 4) (oi := ⟨some 8, _, _, _, _, _⟩) (v := .bool true) rfl (by kernel_rfl) (by kernel_rfl) (by kernel_rfl) (fun _ _ _ h => h) (Or.inl ⟨by rfl, fun w _ => by go_simp⟩) hHeld ?_
    simp only [Act.put, List.setIfInBounds_toArray, List.set_cons_zero, List.set_cons_succ]
    refine wpAnyH_take (i := 5) (oi := ⟨some 9, _, _, _, _, _⟩) (v := undef) rfl (by kernel_rfl) (by kernel_rfl) (by kernel_rfl) (fun _ _ _ h => h) (Or.inr ⟨by rfl, rfl⟩) hHeld ?_
    simp only [Act.put, List.setIfInBounds_toArray, List.set_cons_zero, List.set_cons_succ]
    refine wpAnyH_take (i := 6) (oi := ⟨some 10, _, _, _, _, _⟩) (v := undef) rfl (by kernel_rfl) (by kernel_rfl) (by kernel_rfl) (fun _ _ _ h => h) (Or.inr ⟨by rfl, rfl⟩) hHeld ?_
    simp only [Act.put, List.setIfInBounds_toArray, List.set_cons_zero, List.set_cons_succ]
    refine wpAnyH_take (i := 7) (oi := ⟨some 11, _, _, _, _, _⟩) (v := undef) rfl (by kernel_rfl) (by kernel_rfl) (by kernel_rfl) (fun _ _ _ h => h) (Or.inr ⟨by rfl, rfl⟩) hHeld ?_
    simp only [Act.put, List.setIfInBounds_toArray, List.set_cons_zero, List.set_cons_succ]
    refine wpAnyH_take (i := 8) (oi := ⟨some 12, _, _, _, _, _⟩) (v := undef) rfl (by kernel_rfl) (by kernel_rfl) (by kernel_rfl) (fun _ _ _ h => h) (Or.inr ⟨by rfl, rfl⟩) hHeld ?_
    simp only [Act.put, List.setIfInBounds_toArray, List.set_cons_zero, List.set_cons_succ]
    refine wpAnyH_take (i := 9) (oi := ⟨some 13, _, _, _, _, _⟩) (v := .bool true) rfl (by kernel_rfl) (by kernel_rfl) (by kernel_rfl) (fun _ _ _ h => h) (Or.inl ⟨by rfl, fun w _ => by go_simp⟩) hHeld ?_
    simp only [Act.put, List.setIfInBounds_toArray, List.set_cons_zero, List.set_cons_succ]
    refine wpAnyH_done (by kernel_rfl) ?_ _
    have HB := Lib.hid hbw
    clear hbw
    have hr1 : r.1 = 0 := by rw [HR.out]
    have hr2 : r.2 = false := by rw [HR.out]
    have R1 := Lib.hid hr1; have R2 := Lib.hid hr2
    clear hr1 hr2
    go_wp2_with fail
    go_ret2
    exact ⟨by rw [R1.out, R2.out]; rfl, by rw [← Hk.out]; exact HB.out⟩
  · have hcn : decide (c < 0) = false := by simp only [decide_eq_false_iff_not]; intro h; exact hA (hcx.1 h)
    by_cases hB : 9223372036854775807 < x
    · have hdn : decide (0 < d) = true := by simpa using hdx.2 hB
      have hR := Hr.out.1 (by omega)
      have HR := Lib.hid hR
      clear hcx hdx hA hB hR
      refine wp_region_held_drew (S := fun w' => w'.cell? ⟨k, 0, none⟩ = some (.int .i64 hi) ∧ w'.cell? ⟨k, 1, none⟩ = some (.int .u64 (lo : Int))) (by kernel_rfl) ⟨c0, c1⟩ (fun hHeld => ?_)
      have hbw : Below k w wq.drew := G2.out.drew
      have hkz : k < wq.drew.heap.size := kz
      clear c0 c1 kz
      refine wpAnyH_take (i := 0) (oi := ⟨some 4, _, _, _, _, _⟩) (v := .agg #[.int .i64 hi, .int .u64 (lo : Int)]) rfl (by kernel_rfl) (by kernel_rfl) (by kernel_rfl) (fun _ _ _ h => h) (Or.inl ⟨by rfl, fun w h => by obtain ⟨h1, h2⟩ := h; go_simp⟩) hHeld ?_
      simp only [Act.put, List.setIfInBounds_toArray, List.set_cons_zero, List.set_cons_succ]
      refine wpAnyH_ready (rs := [1]) (by kernel_rfl) (by simp) (AllReadyH.cons (o := ⟨some 5, _, _, _, _, _⟩) rfl (fun K hK => ?_) AllReadyH.nil)
      go_simp
      refine (rOf_min wq.drew).mono ?_
      rintro e w2 ⟨rfl, hb⟩
      have hHeld2 : w2.cell? ⟨k, 0, none⟩ = some (.int .i64 hi) ∧ w2.cell? ⟨k, 1, none⟩ = some (.int .u64 (lo : Int)) := ⟨(hb.cell (p := ⟨k, 0, none⟩) hkz).trans hHeld.1, (hb.cell (p := ⟨k, 1, none⟩) hkz).trans hHeld.2⟩
      have hkz := Nat.lt_of_lt_of_le hkz hb.size
      have hbw := hbw.trans (hb.mono (by have := hbw.size; have := Hk.out; omega))
      clear hb hHeld
      refine hK.out _ _ hHeld2 (fun hHeld => ?_)
      clear hHeld2 hK K
      try simp only [Act.put, List.setIfInBounds_toArray, List.set_cons_zero, List.set_cons_succ]
      refine wpAnyH_ready (rs := [2]) (by kernel_rfl) (by simp) (AllReadyH.cons (o := ⟨some 6, _, _, _, _, _⟩) rfl (fun K hK => ?_) AllReadyH.nil)
      go_simp
      refine (Hmin.out w2).mono ?_
      rintro e w3 ⟨rfl, hb⟩
      have hHeld2 : w3.cell? ⟨k, 0, none⟩ = some (.int .i64 hi) ∧ w3.cell? ⟨k, 1, none⟩ = some (.int .u64 (lo : Int)) := ⟨(hb.cell (p := ⟨k, 0, none⟩) hkz).trans hHeld.1, (hb.cell (p := ⟨k, 1, none⟩) hkz).trans hHeld.2⟩
      have hkz := Nat.lt_of_lt_of_le hkz hb.size
      have hbw := hbw.trans (hb.mono (by have := hbw.size; have := Hk.out; omega))
      clear hb hHeld
      refine hK.out _ _ hHeld2 (fun hHeld => ?_)
      clear hHeld2 hK K
      try simp only [Act.put, List.setIfInBounds_toArray, List.set_cons_zero, List.set_cons_succ]
      refine wpAnyH_take (i := 3) (oi := ⟨some 7, _, _, _, _, _⟩) (v := .bool false) rfl (by kernel_rfl) (by kernel_rfl) (by kernel_rfl) (fun _ _ _ h => h) (Or.inl ⟨by rfl, fun w _ => by go_simp⟩) hHeld ?_
      simp only [Act.put, List.setIfInBounds_toArray, List.set_cons_zero, List.set_cons_succ]
      refine wpAnyH_take (i := 4) (oi := ⟨some 8, _, _, _, _, _⟩) (v := .bool false) rfl (by kernel_rfl) (by kernel_rfl) (by kernel_rfl) (fun _ _ _ h => h) (Or.inl ⟨by rfl, fun w _ => by go_simp⟩) hHeld ?_
      simp only [Act.put, List.setIfInBounds_toArray, List.set_cons_zero, List.set_cons_succ]
      refine wpAnyH_take (i := 5) (oi := ⟨some 9, _, _, _, _, _⟩) (v := .agg #[.int .i64 hi, .int .u64 (lo : Int)]) rfl (by kernel_rfl) (by kernel_rfl) (by kernel_rfl) (fun _ _ _ h => h) (Or.inl ⟨by rfl, fun w h => by obtain ⟨h1, h2⟩ := h; go_simp⟩) hHeld ?_
      simp only [Act.put, List.setIfInBounds_toArray, List.set_cons_zero, List.set_cons_succ]
      refine wpAnyH_ready (rs := [6]) (by kernel_rfl) (by simp) (AllReadyH.cons (o := ⟨some 10, _, _, _, _, _⟩) rfl (fun K hK => ?_) AllReadyH.nil)
      go_simp
      refine (rOf_max w3).mono ?_
      rintro e w4 ⟨rfl, hb⟩
      have hHeld2 : w4.cell? ⟨k, 0, none⟩ = some (.int .i64 hi) ∧ w4.cell? ⟨k, 1, none⟩ = some (.int .u64 (lo : Int)) := ⟨(hb.cell (p := ⟨k, 0, none⟩) hkz).trans hHeld.1, (hb.cell (p := ⟨k, 1, none⟩) hkz).trans hHeld.2⟩
      have hkz := Nat.lt_of_lt_of_le hkz hb.size
      have hbw := hbw.trans (hb.mono (by have := hbw.size; have := Hk.out; omega))
      clear hb hHeld
      refine hK.out _ _ hHeld2 (fun hHeld => ?_)
      clear hHeld2 hK K
      try simp only [Act.put, List.setIfInBounds_toArray, List.set_cons_zero, List.set_cons_succ]
      refine wpAnyH_ready (rs := [7]) (by kernel_rfl) (by simp) (AllReadyH.cons (o := ⟨some 11, _, _, _, _, _⟩) rfl (fun K hK => ?_) AllReadyH.nil)
      go_simp
      refine (Hmax.out w4).mono ?_
      rintro e w5 ⟨rfl, hb⟩
      have hHeld2 : w5.cell? ⟨k, 0, none⟩ = some (.int .i64 hi) ∧ w5.cell? ⟨k, 1, none⟩ = some (.int .u64 (lo : Int)) := ⟨(hb.cell (p := ⟨k, 0, none⟩) hkz).trans hHeld.1, (hb.cell (p := ⟨k, 1, none⟩) hkz).trans hHeld.2⟩
      have hkz := Nat.lt_of_lt_of_le hkz hb.size
      have hbw := hbw.trans (hb.mono (by have := hbw.size; have := Hk.out; omega))
      clear hb hHeld
      refine hK.out _ _ hHeld2 (fun hHeld => ?_)
      clear hHeld2 hK K
      try simp only [Act.put, List.setIfInBounds_toArray, List.set_cons_zero, List.set_cons_succ]
      refine wpAnyH_take (i := 8) (oi := ⟨some 12, _, _, _, _, _⟩) (v := .bool true) rfl (by kernel_rfl) (by kernel_rfl) (by kernel_rfl) (fun _ _ _ h => h) (Or.inl ⟨by rfl, fun w _ => by go_simp⟩) hHeld ?_
      simp only [Act.put, List.setIfInBounds_toArray, List.set_cons_zero, List.set_cons_succ]
      refine wpAnyH_take (i := 9) (oi := ⟨some 13, _, _, _, _, _⟩) (v := .bool true) rfl (by kernel_rfl) (by kernel_rfl) (by kernel_rfl) (fun _ _ _ h => h) (Or.inl ⟨by rfl, fun w _ => by go_simp⟩) hHeld ?_
      simp only [Act.put, List.setIfInBounds_toArray, List.set_cons_zero, List.set_cons_succ]
      refine wpAnyH_done (by kernel_rfl) ?_ _
      have HB := Lib.hid hbw
      clear hbw
      have hr1 : r.1 = 0 := by rw [HR.out]
      have hr2 : r.2 = false := by rw [HR.out]
      have R1 := Lib.hid hr1; have R2 := Lib.hid hr2
      clear hr1 hr2
      go_wp2_with fail
      go_ret2
      exact ⟨by rw [R1.out, R2.out]; rfl, by rw [← Hk.out]; exact HB.out⟩
    · have hdn : decide (0 < d) = false := by simp only [decide_eq_false_iff_not]; intro h; exact hB (hdx.1 h)
      have hR := Hr.out.2 (by omega)
      have hw := Hlo.out (by omega)
      have HR := Lib.hid hR
      clear hcx hdx hA hB hR
      refine wp_region_held_drew (S := fun w' => w'.cell? ⟨k, 0, none⟩ = some (.int .i64 hi) ∧ w'.cell? ⟨k, 1, none⟩ = some (.int .u64 (lo : Int))) (by kernel_rfl) ⟨c0, c1⟩ (fun hHeld => ?_)
      have hbw : Below k w wq.drew := G2.out.drew
      have hkz : k < wq.drew.heap.size := kz
      clear c0 c1 kz
      refine wpAnyH_take (i := 0) (oi := ⟨some 4, _, _, _, _, _⟩) (v := .agg #[.int .i64 hi, .int .u64 (lo : Int)]) rfl (by kernel_rfl) (by kernel_rfl) (by kernel_rfl) (fun _ _ _ h => h) (Or.inl ⟨by rfl, fun w h => by obtain ⟨h1, h2⟩ := h; go_simp⟩) hHeld ?_
      simp only [Act.put, List.setIfInBounds_toArray, List.set_cons_zero, List.set_cons_succ]
      refine wpAnyH_ready (rs := [1]) (by kernel_rfl) (by simp) (AllReadyH.cons (o := ⟨some 5, _, _, _, _, _⟩) rfl (fun K hK => ?_) AllReadyH.nil)
      go_simp
      refine (rOf_min wq.drew).mono ?_
      rintro e w2 ⟨rfl, hb⟩
      have hHeld2 : w2.cell? ⟨k, 0, none⟩ = some (.int .i64 hi) ∧ w2.cell? ⟨k, 1, none⟩ = some (.int .u64 (lo : Int)) := ⟨(hb.cell (p := ⟨k, 0, none⟩) hkz).trans hHeld.1, (hb.cell (p := ⟨k, 1, none⟩) hkz).trans hHeld.2⟩
      have hkz := Nat.lt_of_lt_of_le hkz hb.size
      have hbw := hbw.trans (hb.mono (by have := hbw.size; have := Hk.out; omega))
      clear hb hHeld
      refine hK.out _ _ hHeld2 (fun hHeld => ?_)
      clear hHeld2 hK K
      try simp only [Act.put, List.setIfInBounds_toArray, List.set_cons_zero, List.set_cons_succ]
      refine wpAnyH_ready (rs := [2]) (by kernel_rfl) (by simp) (AllReadyH.cons (o := ⟨some 6, _, _, _, _, _⟩) rfl (fun K hK => ?_) AllReadyH.nil)
      go_simp
      refine (Hmin.out w2).mono ?_
      rintro e w3 ⟨rfl, hb⟩
      have hHeld2 : w3.cell? ⟨k, 0, none⟩ = some (.int .i64 hi) ∧ w3.cell? ⟨k, 1, none⟩ = some (.int .u64 (lo : Int)) := ⟨(hb.cell (p := ⟨k, 0, none⟩) hkz).trans hHeld.1, (hb.cell (p := ⟨k, 1, none⟩) hkz).trans hHeld.2⟩
      have hkz := Nat.lt_of_lt_of_le hkz hb.size
      have hbw := hbw.trans (hb.mono (by have := hbw.size; have := Hk.out; omega))
      clear hb hHeld
      refine hK.out _ _ hHeld2 (fun hHeld => ?_)
      clear hHeld2 hK K
      try simp only [Act.put, List.setIfInBounds_toArray, List.set_cons_zero, List.set_cons_succ]
      refine wpAnyH_take (i := 3) (oi := ⟨some 7, _, _, _, _, _⟩) (v := .bool false) rfl (by kernel_rfl) (by kernel_rfl) (by kernel_rfl) (fun _ _ _ h => h) (Or.inl ⟨by rfl, fun w _ => by go_simp⟩) hHeld ?_
      simp only [Act.put, List.setIfInBounds_toArray, List.set_cons_zero, List.set_cons_succ]
      refine wpAnyH_take (i := 4) (oi := ⟨some 8, _, _, _, _, _⟩) (v := .bool false) rfl (by kernel_rfl) (by kernel_rfl) (by kernel_rfl) (fun _ _ _ h => h) (Or.inl ⟨by rfl, fun w _ => by go_simp⟩) hHeld ?_
      simp only [Act.put, List.setIfInBounds_toArray, List.set_cons_zero, List.set_cons_succ]
      refine wpAnyH_take (i := 5) (oi := ⟨some 9, _, _, _, _, _⟩) (v := .agg #[.int .i64 hi, .int .u64 (lo : Int)]) rfl (by kernel_rfl) (by kernel_rfl) (by kernel_rfl) (fun _ _ _ h => h) (Or.inl ⟨by rfl, fun w h => by obtain ⟨h1, h2⟩ := h; go_simp⟩) hHeld ?_
      simp only [Act.put, List.setIfInBounds_toArray, List.set_cons_zero, List.set_cons_succ]
      refine wpAnyH_ready (rs := [6]) (by kernel_rfl) (by simp) (AllReadyH.cons (o := ⟨some 10, _, _, _, _, _⟩) rfl (fun K hK => ?_) AllReadyH.nil)
      go_simp
      refine (rOf_max w3).mono ?_
      rintro e w4 ⟨rfl, hb⟩
      have hHeld2 : w4.cell? ⟨k, 0, none⟩ = some (.int .i64 hi) ∧ w4.cell? ⟨k, 1, none⟩ = some (.int .u64 (lo : Int)) := ⟨(hb.cell (p := ⟨k, 0, none⟩) hkz).trans hHeld.1, (hb.cell (p := ⟨k, 1, none⟩) hkz).trans hHeld.2⟩
      have hkz := Nat.lt_of_lt_of_le hkz hb.size
      have hbw := hbw.trans (hb.mono (by have := hbw.size; have := Hk.out; omega))
      clear hb hHeld
      refine hK.out _ _ hHeld2 (fun hHeld => ?_)
      clear hHeld2 hK K
      try simp only [Act.put, List.setIfInBounds_toArray, List.set_cons_zero, List.set_cons_succ]
      refine wpAnyH_ready (rs := [7]) (by kernel_rfl) (by simp) (AllReadyH.cons (o := ⟨some 11, _, _, _, _, _⟩) rfl (fun K hK => ?_) AllReadyH.nil)
      go_simp
      refine (Hmax.out w4).mono ?_
      rintro e w5 ⟨rfl, hb⟩
      have hHeld2 : w5.cell? ⟨k, 0, none⟩ = some (.int .i64 hi) ∧ w5.cell? ⟨k, 1, none⟩ = some (.int .u64 (lo : Int)) := ⟨(hb.cell (p := ⟨k, 0, none⟩) hkz).trans hHeld.1, (hb.cell (p := ⟨k, 1, none⟩) hkz).trans hHeld.2⟩
      have hkz := Nat.lt_of_lt_of_le hkz hb.size
      have hbw := hbw.trans (hb.mono (by have := hbw.size; have := Hk.out; omega))
      clear hb hHeld
      refine hK.out _ _ hHeld2 (fun hHeld => ?_)
      clear hHeld2 hK K
      try simp only [Act.put, List.setIfInBounds_toArray, List.set_cons_zero, List.set_cons_succ]
      refine wpAnyH_take (i := 8) (oi := ⟨some 12, _, _, _, _, _⟩) (v := .bool false) rfl (by kernel_rfl) (by kernel_rfl) (by kernel_rfl) (fun _ _ _ h => h) (Or.inl ⟨by rfl, fun w _ => by go_simp⟩) hHeld ?_
      simp only [Act.put, List.setIfInBounds_toArray, List.set_cons_zero, List.set_cons_succ]
      refine wpAnyH_take (i := 9) (oi := ⟨some 13, _, _, _, _, _⟩) (v := .bool false) rfl (by kernel_rfl) (by kernel_rfl) (by kernel_rfl) (fun _ _ _ h => h) (Or.inl ⟨by rfl, fun w _ => by go_simp⟩) hHeld ?_
      simp only [Act.put, List.setIfInBounds_toArray, List.set_cons_zero, List.set_cons_succ]
      refine wpAnyH_done (by kernel_rfl) ?_ _
      have HB := Lib.hid hbw
      clear hbw
      have HH := Lib.hid hHeld.2
      have c1 : w5.cell? ⟨k, 1, none⟩ = some (.int .u64 (lo : Int)) := hHeld.2
      clear hHeld
      go_wp2_with fail
      go_ret2
      exact ⟨by rw [HR.out]; rfl, by rw [← Hk.out]; exact HB.out⟩
end
section
open Go.RowKit
theorem alloc6 (w : World) (o0 o1 o2 o3 o4 o5 : Obj) : ∀ W, W = (((((w.alloc o0).alloc o1).alloc o2).alloc o3).alloc o4).alloc o5 → W.heap[w.heap.size]? = some o0 ∧ W.heap[w.heap.size + 1]? = some o1 ∧ W.heap[w.heap.size + 1 + 1]? = some o2 ∧ W.heap[w.heap.size + 1 + 1 + 1]? = some o3 ∧ W.heap[w.heap.size + 1 + 1 + 1 + 1]? = some o4 ∧ W.heap[w.heap.size + 1 + 1 + 1 + 1 + 1]? = some o5 ∧ Below w.heap.size w W := by
  rintro W rfl
  exact ⟨heapO (heapO (heapO (heapO (heapO (heapN rfl _) _) _) _) _) _, heapO (heapO (heapO (heapO (heapN (by simp) _) _) _) _) _, heapO (heapO (heapO (heapN (by simp) _) _) _) _, heapO (heapO (heapN (by simp) _) _) _, heapO (heapN (by simp) _) _, heapN (by simp) _, ((((((Below.refl _ _).alloc (Nat.le_refl _) _).alloc (by simp) _).alloc (by simp; omega) _).alloc (by simp; omega) _).alloc (by simp; omega) _).alloc (by simp; omega) _⟩
/-- The blocks of a division. -/
structure DvS (w : World) (k : Nat) (a d Q R : List Nat) (wr : World) : Prop where
  a : wr.heap[k]? = some (.cells (dg a) 80 (0, 0))
  d : wr.heap[k + 1]? = some (.cells (dg d) 80 (0, 0))
  x : wr.heap[k + 1 + 1]? = some (.cells zs12 80 (0, 0))
  y : wr.heap[k + 1 + 1 + 1]? = some (.cells zs12 80 (0, 0))
  q : wr.heap[k + 1 + 1 + 1 + 1]? = some (.cells (dg Q) 80 (0, 0))
  r : wr.heap[k + 1 + 1 + 1 + 1 + 1]? = some (.cells (dg R) 80 (0, 0))
  b : Below k w wr
theorem DvS.lt {w wr : World} {k : Nat} {a d Q R : List Nat} (h : DvS w k a d Q R wr) : k + 1 + 1 + 1 + 1 + 1 < wr.heap.size := (Array.getElem?_eq_some_iff.1 h.r).1
theorem DvS.call {w wr w2 : World} {k : Nat} {a d Q R : List Nat} (h : DvS w k a d Q R wr) (hb : Below wr.heap.size wr w2) : DvS w k a d Q R w2 := by
  have hz := h.lt
  exact ⟨(hb.block k (by omega)).trans h.a, (hb.block (k + 1) (by omega)).trans h.d, (hb.block (k + 1 + 1) (by omega)).trans h.x, (hb.block (k + 1 + 1 + 1) (by omega)).trans h.y, (hb.block (k + 1 + 1 + 1 + 1) (by omega)).trans h.q, (hb.block (k + 1 + 1 + 1 + 1 + 1) (by omega)).trans h.r, h.b.trans (hb.mono (by omega))⟩
theorem DvS.rowR {w wr : World} {k : Nat} {a d Q R R' : List Nat} (h : DvS w k a d Q R wr) : DvS w k a d Q R' (wr.setRow (k + 1 + 1 + 1 + 1 + 1) (dg R')) :=
  ⟨(setRow_other _ _ _ _ (by omega)).trans h.a, (setRow_other _ _ _ _ (by omega)).trans h.d, (setRow_other _ _ _ _ (by omega)).trans h.x, (setRow_other _ _ _ _ (by omega)).trans h.y, (setRow_other _ _ _ _ (by omega)).trans h.q, setRow_heap _ _ _ _ _ _ h.r, below_setRow h.b (by omega) _⟩
theorem DvS.rowQ {w wr : World} {k : Nat} {a d Q R Q' : List Nat} (h : DvS w k a d Q R wr) : DvS w k a d Q' R (wr.setRow (k + 1 + 1 + 1 + 1) (dg Q')) :=
  ⟨(setRow_other _ _ _ _ (by omega)).trans h.a, (setRow_other _ _ _ _ (by omega)).trans h.d, (setRow_other _ _ _ _ (by omega)).trans h.x, (setRow_other _ _ _ _ (by omega)).trans h.y, setRow_heap _ _ _ _ _ _ h.q, (setRow_other _ _ _ _ (by omega)).trans h.r, below_setRow h.b (by omega) _⟩
theorem DvS.cellR {w wr : World} {k : Nat} {a d Q R : List Nat} (h : DvS w k a d Q R wr) {x y : Nat} {l : List Nat} (hl : R = x :: l) : DvS w k a d Q (y :: l) (wr.setCell ⟨k + 1 + 1 + 1 + 1 + 1, 0, none⟩ (.int .i64 (y : Int))) := by
  subst hl
  exact ⟨(Below.heap_setCell _ _ _ _ (by simp <;> omega)).trans h.a, (Below.heap_setCell _ _ _ _ (by simp <;> omega)).trans h.d, (Below.heap_setCell _ _ _ _ (by simp <;> omega)).trans h.x, (Below.heap_setCell _ _ _ _ (by simp <;> omega)).trans h.y, (Below.heap_setCell _ _ _ _ (by simp <;> omega)).trans h.q, dg_store (w := wr) h.r (by simp), h.b.setCell (by simp; omega) _⟩
theorem DvS.cellQ {w wr : World} {k : Nat} {a d Q R : List Nat} (h : DvS w k a d Q R wr) {x y : Nat} {l : List Nat} (hl : Q = x :: l) : DvS w k a d (y :: l) R (wr.setCell ⟨k + 1 + 1 + 1 + 1, 0, none⟩ (.int .i64 (y : Int))) := by
  subst hl
  exact ⟨(Below.heap_setCell _ _ _ _ (by simp <;> omega)).trans h.a, (Below.heap_setCell _ _ _ _ (by simp <;> omega)).trans h.d, (Below.heap_setCell _ _ _ _ (by simp <;> omega)).trans h.x, (Below.heap_setCell _ _ _ _ (by simp <;> omega)).trans h.y, dg_store (w := wr) h.q (by simp), (Below.heap_setCell _ _ _ _ (by simp <;> omega)).trans h.r, h.b.setCell (by simp; omega) _⟩
theorem DvS.drew {w wr : World} {k : Nat} {a d Q R : List Nat} (h : DvS w k a d Q R wr) : DvS w k a d Q R wr.drew := ⟨h.a, h.d, h.x, h.y, h.q, h.r, h.b.drew⟩
theorem dg_range {w : World} {k : Nat} {l : List Nat} {t : TypeId} (h : w.heap[k]? = some (.cells (dg l) t (0, 0))) : w.rangeAt k 0 (l.map fun d : Nat => Value.int .i64 (d : Int)) := by
  intro j v hv
  rw [cell_of_row w k (0 + j) _ _ _ h, Nat.zero_add]
  simpa [dg] using hv
theorem results_two_rows {P : Program} {fn : Func} {p q : Tmp} {ty : TypeId} (h : fn.results = #[.cell p ty, .cell q ty]) (tmps : Array Value) (w : World) (g g' : Nat) (t : TypeId) (cs cs' : Array Value) (d : TypeDesc)
    (hp : tmps.getD p undef = .pointer (some ⟨g, 0, none⟩)) (hq : tmps.getD q undef = .pointer (some ⟨g', 0, none⟩)) (hg : w.heap[g]? = some (.cells cs t (0, 0))) (hg' : w.heap[g']? = some (.cells cs' t (0, 0)))
    (hu : P.underlying ty = some d) (hd : (match d with | .struct _ | .array _ _ => true | _ => false) = true) (hi : (P.info? ty).map (·.size) = some cs.size) (hi' : (P.info? ty).map (·.size) = some cs'.size) :
    (results fn tmps).run P w = .ok (.tuple #[.agg cs, .agg cs']) w := by
  have hp' : tmps[p]?.getD undef = .pointer (some ⟨g, 0, none⟩) := by simpa using hp
  have hq' : tmps[q]?.getD undef = .pointer (some ⟨g', 0, none⟩) := by simpa using hq
  simp [results, h, hp', hq', asAddr, Sem.run_bind, run_loadVar_row w g t ty cs (0, 0) d hg hu hd hi, run_loadVar_row w g' t ty cs' (0, 0) d hg' hu hd hi']
theorem cons12 {a : List Nat} (h : Dg12 a) : ∃ x l, a = x :: l := by
  obtain ⟨a0, a1, a2, a3, a4, a5, a6, a7, a8, a9, a10, a11, rfl⟩ := len12 h.len
  exact ⟨_, _, rfl⟩
theorem dg_infoS {l : List Nat} (h : l.length = 12) : (Tryd.prog.info? 80).map (·.size) = some (dg l).size := by rw [dg_size, h]; kernel_rfl
set_option maxRecDepth 100000 in
set_option maxHeartbeats 2000000 in
theorem rDivided_any (a d : List Nat) (w : World) (ha : Dg12 a) (hd : Dg12 d) (hd0 : 0 < vD d) (hp : vD d < 2 ^ 190) (hpa : vD a < 2 ^ 190) :
    Calls Tryd.prog 74 #[.agg (dg a), .agg (dg d)] w fun e w' => ∃ Q R, e = .returned (.tuple #[.agg (dg Q), .agg (dg R)]) ∧ Dg12 Q ∧ Dg12 R ∧ vD Q = vD a / vD d ∧ vD R = vD a % vD d ∧ Below w.heap.size w w' := by
  have HA := Lib.hid ha; have HD := Lib.hid hd; have HD0 := Lib.hid hd0; have HP := Lib.hid hp; have HPA := Lib.hid hpa
  clear ha hd hd0 hp hpa
  go_enter Tryd.func74, Tryd.ntmps74
  go_upto_region 2 with (fail)
  obtain ⟨g1, g2, g3, g4, g5, g6, g7⟩ := alloc6 w (.cells (dg a) 80) (.cells (dg d) 80) (.cells zs12 80) (.cells zs12 80) (.cells zs12 80) (.cells zs12 80) _ rfl
  unfold zs12 at g1 g2 g3 g4 g5 g6 g7
  generalize (((((w.alloc (.cells (dg a) 80)).alloc (.cells (dg d) 80)).alloc (.cells #[.int .i64 0, .int .i64 0, .int .i64 0, .int .i64 0, .int .i64 0, .int .i64 0, .int .i64 0, .int .i64 0, .int .i64 0, .int .i64 0, .int .i64 0, .int .i64 0] 80)).alloc (.cells #[.int .i64 0, .int .i64 0, .int .i64 0, .int .i64 0, .int .i64 0, .int .i64 0, .int .i64 0, .int .i64 0, .int .i64 0, .int .i64 0, .int .i64 0, .int .i64 0] 80)).alloc (.cells #[.int .i64 0, .int .i64 0, .int .i64 0, .int .i64 0, .int .i64 0, .int .i64 0, .int .i64 0, .int .i64 0, .int .i64 0, .int .i64 0, .int .i64 0, .int .i64 0] 80)).alloc (.cells #[.int .i64 0, .int .i64 0, .int .i64 0, .int .i64 0, .int .i64 0, .int .i64 0, .int .i64 0, .int .i64 0, .int .i64 0, .int .i64 0, .int .i64 0, .int .i64 0] 80) = wq at *
  obtain ⟨k, hk⟩ : ∃ k, k = w.heap.size := ⟨_, rfl⟩
  rw [← hk] at g1 g2 g3 g4 g5 g6 ⊢
  rw [← hk] at g7
  have hz12 : Dg12 [0, 0, 0, 0, 0, 0, 0, 0, 0, 0, 0, 0] := ⟨rfl, by unfold Dgt; decide⟩
  have H0 : Hid (DvS w k a d [0, 0, 0, 0, 0, 0, 0, 0, 0, 0, 0, 0] [0, 0, 0, 0, 0, 0, 0, 0, 0, 0, 0, 0] wq) := Lib.hid ⟨g1, g2, g3, g4, g5, g6, g7⟩
  have Hk := Lib.hid hk
  have HS0 : Hid (DivS a d [0, 0, 0, 0, 0, 0, 0, 0, 0, 0, 0, 0] [0, 0, 0, 0, 0, 0, 0, 0, 0, 0, 0, 0] 192) := Lib.hid ⟨hz12, hz12, by
    rw [Nat.div_eq_of_lt (Nat.lt_trans HPA.out (by decide +kernel))]; simp [vD], HD0.out⟩
  clear g1 g2 g3 g4 g5 g6 g7 hk hz12
  go_wp2_with fail
  go_loopw [8] (fun v8 wr => ∃ (n : Nat) (Q R : List Nat), v8 = .int .i64 ((n : Int) - 1) ∧ Hid (n ≤ 192 ∧ DivS a d Q R n ∧ DvS w k a d Q R wr)) (fun v8 _ => (intOf v8 + 1).toNat)
  case atStart => exact ⟨192, _, _, rfl, Lib.hid ⟨Nat.le_refl _, HS0.out, H0.out⟩⟩
  case round =>
    obtain ⟨n, Q, R, rfl, hh⟩ := hrel
    cases n with
    | zero =>
      have hSq := hh.out.2.1
      have hS := hh.out.2.2
      have HSq := Lib.hid hSq; have HS := Lib.hid hS
      have hv : vD Q = vD a / vD d ∧ vD R = vD a % vD d := by
        have h1 := hSq.eq
        have h2 := hSq.lt
        rw [Nat.pow_zero, Nat.div_one] at h1
        rw [← h1]
        constructor
        · rw [Nat.add_comm, Nat.add_mul_div_right _ _ HD0.out, Nat.div_eq_of_lt h2, Nat.zero_add]
        · rw [Nat.add_comm, Nat.add_mul_mod_self_right, Nat.mod_eq_of_lt h2]
      have HV := Lib.hid hv
      clear hSq hS hv
      go_wp2_with fail
      refine wp_region_held_drew (S := Two (k + 1 + 1 + 1 + 1) (.cells (dg Q) 80) (.cells (dg R) 80)) (by kernel_rfl) ⟨HS.out.q, HS.out.r⟩ (fun hHeld => ?_)
      refine wpAnyH_take (i := 0) (oi := ⟨some 42, _, _, _, _, _⟩) (v := .agg (dg Q)) rfl (by kernel_rfl) (by kernel_rfl) (by kernel_rfl) (fun _ _ _ h => h) (yieldsIf_load_mid (by rfl) _ _ rfl (k + 1 + 1 + 1 + 1) 0 rfl (Q.map fun d : Nat => Value.int .i64 (d : Int)) _ (fun w h => dg_range h.1) Tryd.underlying80 rfl (dg_info HSq.out.q.len)) hHeld ?_
      simp only [Act.put, List.setIfInBounds_toArray, List.set_cons_zero, List.set_cons_succ]
      refine wpAnyH_take (i := 1) (oi := ⟨some 43, _, _, _, _, _⟩) (v := .agg (dg R)) rfl (by kernel_rfl) (by kernel_rfl) (by kernel_rfl) (fun _ _ _ h => h) (yieldsIf_load_mid (by rfl) _ _ rfl (k + 1 + 1 + 1 + 1 + 1) 0 rfl (R.map fun d : Nat => Value.int .i64 (d : Int)) _ (fun w h => dg_range h.2) Tryd.underlying80 rfl (dg_info HSq.out.r.len)) hHeld ?_
      simp only [Act.put, List.setIfInBounds_toArray, List.set_cons_zero, List.set_cons_succ]
      have hs := HS.out.drew
      refine wpAnyH_ready (rs := [2]) (by kernel_rfl) (by simp) (AllReadyH.cons (o := ⟨none, _, _, _, _, _⟩) rfl (fun K hK => ?_) AllReadyH.nil)
      refine step_of_wp rfl (wp_store_row 80 _ _ rfl (k + 1 + 1) (dg Q) rfl rfl 80 zs12 hs.x (dg_infoS HSq.out.q.len) (by rw [dg_size, HSq.out.q.len]; rfl) dg_one ?_)
      have hx1 := setRow_heap wr.drew (k + 1 + 1) _ (dg Q) _ _ hs.x
      have hy1 := (setRow_other wr.drew (k + 1 + 1) (k + 1 + 1 + 1) (dg Q) (by omega)).trans hs.y
      have hb1 := below_setRow hs.b (g := k + 1 + 1) (by omega) (dg Q)
      refine hK.out _ _ ⟨(setRow_other _ _ _ _ (by omega)).trans hs.q, (setRow_other _ _ _ _ (by omega)).trans hs.r⟩ (fun hHeld => ?_)
      clear hK K
      generalize wr.drew.setRow (k + 1 + 1) (dg Q) = w2 at *
      refine wpAnyH_ready (rs := [3]) (by kernel_rfl) (by simp) (AllReadyH.cons (o := ⟨none, _, _, _, _, _⟩) rfl (fun K hK => ?_) AllReadyH.nil)
      refine step_of_wp rfl (wp_store_row 80 _ _ rfl (k + 1 + 1 + 1) (dg R) rfl rfl 80 zs12 hy1 (dg_infoS HSq.out.r.len) (by rw [dg_size, HSq.out.r.len]; rfl) dg_one ?_)
      have hx2 := (setRow_other w2 (k + 1 + 1 + 1) (k + 1 + 1) (dg R) (by omega)).trans hx1
      have hy2 := setRow_heap w2 (k + 1 + 1 + 1) _ (dg R) _ _ hy1
      have hb2 := below_setRow hb1 (g := k + 1 + 1 + 1) (by omega) (dg R)
      refine hK.out _ _ ⟨(setRow_other _ _ _ _ (by omega)).trans hHeld.1, (setRow_other _ _ _ _ (by omega)).trans hHeld.2⟩ (fun hHeld => ?_)
      clear hK K
      generalize w2.setRow (k + 1 + 1 + 1) (dg R) = w3 at *
      refine wpAnyH_done (by kernel_rfl) ?_ _
      simp only [Act.put]
      have HX := Lib.hid hx2; have HY := Lib.hid hy2; have HB3 := Lib.hid hb2
      clear hx1 hy1 hb1 hx2 hy2 hb2 hs hHeld
      go_wp2_with fail
      refine bodyPost_ret (v := .tuple #[.agg (dg Q), .agg (dg R)]) (results_two_rows rfl _ _ (k + 1 + 1) (k + 1 + 1 + 1) 80 (dg Q) (dg R) _ rfl rfl HX.out HY.out Tryd.underlying80 rfl (dg_infoS HSq.out.q.len) (dg_infoS HSq.out.r.len)) rfl ⟨Q, R, rfl, HSq.out.q, HSq.out.r, HV.out.1, HV.out.2, ?_⟩
      rw [← Hk.out]
      exact HB3.out
    | succ n =>
      rw [show (((n + 1 : Nat) : Int) - 1) = (n : Int) by omega]
      have hn0 : (0 : Int) ≤ (n : Int) := by omega
      have hn1 : (n : Int) ≤ 191 := by have := hh.out.1; omega
      have hRl := hh.out.2.1.r
      have hQl := hh.out.2.1.q
      have hdR : vD R + vD R < 65536 ^ R.length := by rw [hRl.len]; have := hh.out.2.1.lt; have := HP.out; omega
      have hsR := plusL_sum rfl hdR
      have hlR := plusL_len R R 0 rfl
      have hdg := plusL_dgt R R 0
      have hcR := fun w => plus_any R R w hRl hRl
      have hhd := fun x r => @dbl_head R x r
      generalize plusL R R 0 = R2 at *
      rw [hRl.len] at hlR
      have HsR := Lib.hid hsR; have HR2 := Lib.hid (⟨hlR, hdg⟩ : Dg12 R2); have HcR := Lib.hid hcR; have Hhd := Lib.hid hhd; have HRl := Lib.hid hRl; have HQl := Lib.hid hQl
      clear hsR hlR hdg hcR hhd hdR hRl hQl
      obtain ⟨wo, rfl⟩ : ∃ wo : World, wo = wr := ⟨_, rfl⟩
      go_wp2_with (refine wpList_load_row rfl 80 _ rfl (k + 1 + 1 + 1 + 1 + 1) rfl 80 (dg R) (0, 0) _ hh.out.2.2.r Tryd.underlying80 rfl (dg_infoS HRl.out.len) ?_)
      refine (HcR.out wo).mono ?_
      rintro e w2 ⟨rfl, hb⟩
      have h2 := hh.out.2.2.call hb
      have H2 := Lib.hid h2
      clear h2 hb
      go_upto_region 6 with (refine wpList_store_row rfl 80 _ _ rfl (k + 1 + 1 + 1 + 1 + 1) (dg R2) rfl rfl 80 (dg R) H2.out.r (dg_infoS HR2.out.len) (by rw [dg_size, dg_size, HR2.out.len, HRl.out.len]) dg_one ?_)
      have h3 := H2.out.rowR (R' := R2)
      generalize w2.setRow (k + 1 + 1 + 1 + 1 + 1) (dg R2) = w3 at *
      have H3 := Lib.hid h3
      clear h3
      obtain ⟨x, l, hxl⟩ := cons12 HR2.out
      obtain ⟨hx1, hx2⟩ := Hhd.out _ _ hxl
      have hqa : n / 16 < a.length := by rw [HA.out.len]; have := hh.out.1; omega
      have hbit := bit_of HA.out.dgt hqa
      have haq := HA.out.dgt.at_ hqa
      have c1 := dg_cell H3.out.a hqa
      have c2 := dg_cell? H3.out.r (i := 0) (x := x) (by rw [hxl]; rfl)
      have f2 := frozen_of_row w3 (k + 1 + 1 + 1 + 1 + 1) 0 _ _ H3.out.r
      generalize a[n / 16] = z at *
      obtain ⟨nq, hnq⟩ : ∃ nq : Nat, nq = n / 16 := ⟨_, rfl⟩
      obtain ⟨nr, hnr⟩ : ∃ nr : Nat, nr = n % 16 := ⟨_, rfl⟩
      rw [← hnq] at c1
      rw [← hnr] at hbit
      obtain ⟨y, hy⟩ : ∃ y : Nat, y = z / 2 ^ nr := ⟨_, rfl⟩
      rw [← hy] at hbit
      obtain ⟨bt, hbt⟩ : ∃ bt : Nat, bt = y % 2 := ⟨_, rfl⟩
      rw [← hbt] at hbit
      have hbt1 : bt ≤ 1 := by omega
      obtain ⟨xb, hxb⟩ : ∃ xb : Nat, xb = x + bt := ⟨_, rfl⟩
      have e1 : Int.tdiv (n : Int) 16 = (nq : Int) := by rw [Int.tdiv_eq_ediv_of_nonneg hn0]; omega
      have e2 : Int.tmod (n : Int) 16 = (nr : Int) := by rw [Int.tmod_eq_emod_of_nonneg hn0]; omega
      have e1' : (n : Int) / 16 = (nq : Int) := by omega
      have e2' : (n : Int) % 16 = (nr : Int) := by omega
      have e3 : Int.tmod (y : Int) 2 = (bt : Int) := by rw [Int.tmod_eq_emod_of_nonneg (by omega)]; omega
      have e3' : (y : Int) % 2 = (bt : Int) := by omega
      have e4 : IntKind.i64.wrap ((x : Int) + (bt : Int)) = (xb : Int) := by rw [IntKind.wrap_i64]; omega
      have e5 : IntKind.i64.wrap (nq : Int) = (nq : Int) := by rw [IntKind.wrap_i64]; omega
      have sh : Op.shift .shr .i64 (z : Int) .i64 (nr : Int) = pure (.int .i64 (y : Int)) := by
        rw [shift_shr .i64 .i64 _ _ (by omega) (by show (nr : Int) ≤ 64; omega), Int.toNat_natCast, hy]; simp
      have ez : (z : Int) / 2 ^ nr = (y : Int) := by rw [hy]; simp
      have nq0 : (0 : Int) ≤ (nq : Int) := by omega
      have nq1 : (nq : Int) < 12 := by omega
      have nr0 : (0 : Int) ≤ (nr : Int) := by omega
      have Hbit := Lib.hid hbit; have Hxl := Lib.hid hxl; have Hx := Lib.hid (⟨hx1, hx2, hbt1, hxb⟩ : x % 2 = 0 ∧ x ≤ 65534 ∧ bt ≤ 1 ∧ xb = x + bt)
      clear hbit hxl hx1 hx2 hbt1 hxb hbt hy hnq hnr hqa haq
      have h4 := (H3.out.cellR (y := xb) Hxl.out).drew
      have H4 := Lib.hid h4
      clear h4
      go_region
      all_goals
        clear e1 e2 e1' e2' e3 e3' e4 e5 sh ez nq0 nq1 nr0 c1 c2 f2
        have hR3 : Dg12 (xb :: l) := by
          have h1 := HR2.out
          rw [Hxl.out] at h1
          exact ⟨h1.len, Dgt.mk (by have := Hx.out; omega) (h1.dgt.cons).2⟩
        have hv3 : vD (xb :: l) = 2 * vD R + vD a / 2 ^ n % 2 := by
          have h1 := HsR.out
          rw [Hxl.out] at h1
          simp only [vD] at h1 ⊢
          rw [← Hbit.out, Hx.out.2.2.2]; omega
        generalize (w3.setCell ⟨k + 1 + 1 + 1 + 1 + 1, 0, none⟩ (.int .i64 (xb : Int))).drew = w4 at *
        generalize xb :: l = R3 at *
        have HR3 := Lib.hid hR3; have HV3 := Lib.hid hv3
        clear hR3 hv3
        have hst := div_step (vD Q) (vD R) (vD a) (vD d) n hh.out.2.1.eq hh.out.2.1.lt
        rw [← HV3.out] at hst
        have Hst := Lib.hid hst
        have hQb : vD Q + vD Q < 65536 ^ Q.length := by
          have h1 := hh.out.2.1.eq
          have h2 : vD Q ≤ vD Q * vD d := Nat.le_mul_of_pos_right _ HD0.out
          have h3 : vD a / 2 ^ (n + 1) ≤ vD a := Nat.div_le_self _ _
          rw [HQl.out.len]; have := HPA.out; omega
        have hsQ := plusL_sum rfl hQb
        have hlQ := plusL_len Q Q 0 rfl
        have hdQ := plusL_dgt Q Q 0
        have hcQ := fun w => plus_any Q Q w HQl.out HQl.out
        have hhd := fun x r => @dbl_head Q x r
        generalize plusL Q Q 0 = Q2 at *
        rw [HQl.out.len] at hlQ
        have HsQ := Lib.hid hsQ; have HQ2 := Lib.hid (⟨hlQ, hdQ⟩ : Dg12 Q2); have HcQ := Lib.hid hcQ; have HhQ := Lib.hid hhd
        clear hst hQb hsQ hlQ hdQ hcQ hhd
        go_wp2_with (refine wpList_load_row rfl 80 _ rfl (k + 1 + 1 + 1 + 1) rfl 80 (dg Q) (0, 0) _ H4.out.q Tryd.underlying80 rfl (dg_infoS HQl.out.len) ?_)
        refine (HcQ.out w4).mono ?_
        rintro e w5 ⟨rfl, hb⟩
        have h5 := H4.out.call hb
        have H5 := Lib.hid h5
        clear h5 hb
        go_upto_region 8 with (refine wpList_store_row rfl 80 _ _ rfl (k + 1 + 1 + 1 + 1) (dg Q2) rfl rfl 80 (dg Q) H5.out.q (dg_infoS HQ2.out.len) (by rw [dg_size, dg_size, HQ2.out.len, HQl.out.len]) dg_one ?_)
        have h6 := H5.out.rowQ (Q' := Q2)
        generalize w5.setRow (k + 1 + 1 + 1 + 1) (dg Q2) = w6 at *
        have H6 := Lib.hid h6
        clear h6
        go_wp2_with (first | (refine wpList_load_row rfl 80 _ rfl (k + 1 + 1 + 1 + 1 + 1) rfl 80 (dg R3) (0, 0) _ H6.out.r Tryd.underlying80 rfl (dg_infoS HR3.out.len) ?_) | (refine wpList_load_row rfl 80 _ rfl (k + 1) rfl 80 (dg d) (0, 0) _ H6.out.d Tryd.underlying80 rfl (dg_infoS HD.out.len) ?_))
        refine (compare_any R3 d w6 HR3.out HD.out).mono ?_
        rintro e w7 ⟨rfl, hb⟩
        have h7 := H6.out.call hb
        have H7 := Lib.hid h7
        clear h7 hb
        by_cases hge : vD d ≤ vD R3
        · have hc : decide (0 ≤ cmpV (vD R3) (vD d)) = true := by unfold cmpV; split; omega; split <;> rfl
          have hc' : ¬ cmpV (vD R3) (vD d) < 0 := by unfold cmpV; split; omega; split <;> decide
          obtain ⟨v1, v2⟩ := Hst.out.1 hge
          have hv := lessL_v R3 d 0 (by rw [HR3.out.len, HD.out.len]) HR3.out.dgt HD.out.dgt (by omega) (by omega)
          have hsl := lessL_len R3 d 0 (by rw [HR3.out.len, HD.out.len])
          have hcall := fun w => less_any R3 d w HR3.out HD.out hge
          generalize lessL R3 d 0 = R4 at *
          rw [HR3.out.len] at hsl
          have HR4 := Lib.hid (⟨hsl, hv.2⟩ : Dg12 R4); have HV4 := Lib.hid hv.1; have Hcall := Lib.hid hcall; have HV := Lib.hid (And.intro v1 v2)
          clear hv hsl hcall v1 v2
          generalize cmpV (vD R3) (vD d) = cv at *
          go_wp2_with (first | (refine wpList_load_row rfl 80 _ rfl (k + 1 + 1 + 1 + 1 + 1) rfl 80 (dg R3) (0, 0) _ H7.out.r Tryd.underlying80 rfl (dg_infoS HR3.out.len) ?_) | (refine wpList_load_row rfl 80 _ rfl (k + 1) rfl 80 (dg d) (0, 0) _ H7.out.d Tryd.underlying80 rfl (dg_infoS HD.out.len) ?_))
          refine (Hcall.out w7).mono ?_
          rintro e w8 ⟨rfl, hb⟩
          have h8 := H7.out.call hb
          have H8 := Lib.hid h8
          clear h8 hb
          go_upto_region 10 with (refine wpList_store_row rfl 80 _ _ rfl (k + 1 + 1 + 1 + 1 + 1) (dg R4) rfl rfl 80 (dg R3) H8.out.r (dg_infoS HR4.out.len) (by rw [dg_size, dg_size, HR4.out.len, HR3.out.len]) dg_one ?_)
          have h9 := H8.out.rowR (R' := R4)
          generalize w8.setRow (k + 1 + 1 + 1 + 1 + 1) (dg R4) = w9 at *
          have H9 := Lib.hid h9
          clear h9
          obtain ⟨x', l', hxl'⟩ := cons12 HQ2.out
          obtain ⟨hx1', hx2'⟩ := HhQ.out _ _ hxl'
          have c2 := dg_cell? H9.out.q (i := 0) (x := x') (by rw [hxl']; rfl)
          have f2 := frozen_of_row w9 (k + 1 + 1 + 1 + 1) 0 _ _ H9.out.q
          have x0 : (0 : Int) ≤ (x' : Int) := by omega
          have x1 : (x' : Int) ≤ 65534 := by omega
          have Hxl' := Lib.hid hxl'; have Hx' := Lib.hid (And.intro hx1' hx2')
          clear hxl' hx1' hx2'
          go_wp2_with fail
          go_roundw
          case rel =>
            refine ⟨n, (x' + 1) :: l', R4, rfl, Lib.hid ⟨by have := hh.out.1; omega, ⟨?_, HR4.out, ?_, ?_⟩, ?_⟩⟩
            · have h1 := HQ2.out
              rw [Hxl'.out] at h1
              exact ⟨h1.len, Dgt.mk (by have := Hx'.out; omega) (h1.dgt.cons).2⟩
            · have h1 := HsQ.out
              rw [Hxl'.out] at h1
              have h2 : vD ((x' + 1) :: l') = 2 * vD Q + 1 := by simp only [vD] at h1 ⊢; omega
              have h3 : vD R4 = vD R3 - vD d := by have := HV4.out; omega
              rw [h2, h3]
              exact HV.out.1
            · have h3 : vD R4 = vD R3 - vD d := by have := HV4.out; omega
              rw [h3]; exact HV.out.2
            · exact H9.out.cellQ Hxl'.out
          case measure => simp [intOf]
        · have hc : decide (0 ≤ cmpV (vD R3) (vD d)) = false := by unfold cmpV; rw [if_pos (by omega)]; rfl
          have hv := Hst.out.2 hge
          have HV := Lib.hid hv
          have Hge := Lib.hid hge
          clear hv hge
          generalize cmpV (vD R3) (vD d) = cv at *
          go_wp2_with fail
          go_roundw
          case rel => exact ⟨n, Q2, R3, rfl, Lib.hid ⟨by have := hh.out.1; omega, ⟨HQ2.out, HR3.out, by rw [show vD Q2 = 2 * vD Q by have := HsQ.out; omega]; exact HV.out, by have := Hge.out; omega⟩, H7.out⟩⟩
          case measure => simp [intOf]
end
end Go.Proofs.YthhmahmclkmjpaaDoor
