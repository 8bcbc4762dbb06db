/- Proved: the functions of gouacheref01 on digits (compare, plus, less, Read, Small, Sum, Product); for numbers of twelve digits. -/
import Derived.Test.YthhmahmclkmjpaaDoorBigLaws
import Derived.Test.YthhmahmclkmjpaaDoorWideA
import Derived.Deep.QuietTactic
import Derived.BigQuiet
import Derived.Test.YthhmahmclkmjpaaDoorGen
import Derived.Test.YthhmahmclkmjpaaDoorProg
import Derived.Laws.Bits64
import Derived.Laws.Bits64b
import Derived.Shelf.Spec.BitsCarry
import Derived.RegionTactic
import Derived.ChangeAlike
import Derived.Deep.MidRow
import Derived.Deep.RegionWith
namespace Go.Proofs.YthhmahmclkmjpaaDoor
section
open Go.RowKit
def dg (l : List Nat) : Array Value := (l.map fun d : Nat => Value.int .i64 (d : Int)).toArray
theorem dg_at {l : List Nat} {i : Nat} (h : i < l.length) : (dg l)[i]? = some (.int .i64 (l[i] : Int)) := by
  simp [dg, h]
theorem dg_cell {w : World} {k : Nat} {l : List Nat} {t : TypeId} {i : Nat} (h : w.heap[k]? = some (.cells (dg l) t (0, 0))) (hi : i < l.length) : w.cell? ⟨k, i, none⟩ = some (.int .i64 (l[i] : Int)) := by
  rw [cell_of_row w k i _ _ _ h, dg_at hi]
set_option maxRecDepth 100000 in
set_option maxHeartbeats 1000000 in
theorem compare_any (a b : List Nat) (w : World) (ha : Dg12 a) (hb : Dg12 b) :
    Calls Tryd.prog 69 #[.agg (dg a), .agg (dg b)] w fun e w' => e = .returned (.int .i64 (cmpV (vD a) (vD b))) ∧ Below w.heap.size w w' := by
  have HA := Lib.hid ha; have HB := Lib.hid hb
  clear ha hb
  go_enter Tryd.func69, Tryd.ntmps69
  go_wp2_with fail
  obtain ⟨k, hk⟩ : ∃ k, k = w.heap.size := ⟨_, rfl⟩
  have h1 : ((w.alloc (Obj.cells (dg a) 80)).alloc (Obj.cells (dg b) 80)).heap[k]? = some (.cells (dg a) 80 (0, 0)) := by rw [hk]; exact heapO (heapN rfl _) _
  have h2 : ((w.alloc (Obj.cells (dg a) 80)).alloc (Obj.cells (dg b) 80)).heap[k + 1]? = some (.cells (dg b) 80 (0, 0)) := heapN (by rw [hk]; simp) _
  have h3 : Below w.heap.size w ((w.alloc (Obj.cells (dg a) 80)).alloc (Obj.cells (dg b) 80)) := ((Below.refl _ _).alloc (Nat.le_refl _) _).alloc (by simp) _
  generalize (w.alloc (Obj.cells (dg a) 80)).alloc (Obj.cells (dg b) 80) = wq at *
  rw [← hk]
  have H1 := Lib.hid h1; have H2 := Lib.hid h2; have H3 := Lib.hid h3
  clear h1 h2 h3 hk
  go_loopw [5] (fun v5 wr => ∃ i : Nat, v5 = .int .i64 ((i : Int) - 1) ∧ Hid (i ≤ 12 ∧ a.drop i = b.drop i) ∧ Below wq.heap.size wq wr) (fun v5 _ => (intOf v5 + 1).toNat)
  case atStart => exact ⟨12, rfl, Lib.hid ⟨by omega, by rw [List.drop_eq_nil_of_le (by rw [HA.out.len]; omega), List.drop_eq_nil_of_le (by rw [HB.out.len]; omega)]⟩, Below.refl _ _⟩
  case round =>
    obtain ⟨i, rfl, hi, hb⟩ := hrel
    have HR := Lib.hid hb
    clear hb
    cases i with
    | zero =>
      have he : a = b := by simpa using hi.out.2
      go_wp2_with fail
      go_ret
      exact ⟨by rw [he]; simp [cmpV], H3.out.trans (HR.out.mono H3.out.size)⟩
    | succ i =>
      have hi1 : i < a.length := by rw [HA.out.len]; have := hi.out.1; omega
      have hi2 : i < b.length := by rw [HB.out.len]; have := hi.out.1; omega
      have c1 := dg_cell ((HR.out.block k (Array.getElem?_eq_some_iff.1 H1.out).1).trans H1.out) hi1
      have c2 := dg_cell ((HR.out.block (k + 1) (Array.getElem?_eq_some_iff.1 H2.out).1).trans H2.out) hi2
      have hlt := @cmp_lt a b i HA.out.dgt hi1 hi2 hi.out.2
      have hgt := @cmp_lt b a i HB.out.dgt hi2 hi1 hi.out.2.symm
      have heq := @cmp_drop a b i hi1 hi2 hi.out.2
      generalize a[i] = x at *
      generalize b[i] = y at *
      have Hlt := Lib.hid hlt; have Hgt := Lib.hid hgt; have Heq := Lib.hid heq
      have hi0 : (0 : Int) ≤ (i : Int) := by omega
      have hi12 : (i : Int) < 12 := by have := hi.out.1; omega
      rw [show (((i + 1 : Nat) : Int) - 1) = (i : Int) by omega]
      clear hlt hgt heq hi1 hi2
      rcases Nat.lt_trichotomy x y with h | h | h
      · have d1 : decide ((x : Int) < (y : Int)) = true := by simp; exact h
        have hv := Hlt.out h
        have Hv := Lib.hid hv
        clear hv
        go_wp2_with fail
        go_quiet (fail)
        go_wp2_with fail
        go_ret
        exact ⟨by have := Hv.out; simp [cmpV, this], H3.out.trans ((below_drewN HR.out nq).mono H3.out.size)⟩
      · have d1 : decide ((x : Int) < (y : Int)) = false := by simp; omega
        have d2 : decide ((y : Int) < (x : Int)) = false := by simp; omega
        have hv := Heq.out h
        have Hv := Lib.hid hv
        clear hv
        go_wp2_with fail
        go_quiet (fail)
        go_wp2_with fail
        go_quiet (fail)
        go_wp2_with fail
        go_roundw
        case rel => exact ⟨i, rfl, Lib.hid ⟨by have := hi.out.1; omega, Hv.out⟩, below_drewN HR.out _⟩
        case measure => simp [intOf]
      · have d1 : decide ((x : Int) < (y : Int)) = false := by simp; omega
        have d2 : decide ((y : Int) < (x : Int)) = true := by simp; exact h
        have hv := Hgt.out h
        have Hv := Lib.hid hv
        clear hv
        go_wp2_with fail
        go_quiet (fail)
        go_wp2_with fail
        go_quiet (fail)
        go_wp2_with fail
        go_ret
        exact ⟨by have := Hv.out; have h2 : ¬ vD a < vD b := by omega
                  simp [cmpV, this, h2], H3.out.trans ((below_drewN (below_drewN HR.out _) _).mono H3.out.size)⟩
/-- A block that holds digits, read and stored into. -/
theorem dg_set {l : List Nat} {i x : Nat} (_h : i < l.length) : (dg l).set! i (.int .i64 (x : Int)) = dg (l.set i x) := by
  simp [dg, List.map_set]
theorem dg_store {w : World} {k : Nat} {l : List Nat} {t : TypeId} {i x : Nat} (h : w.heap[k]? = some (.cells (dg l) t (0, 0))) (hi : i < l.length) : (w.setCell ⟨k, i, none⟩ (.int .i64 (x : Int))).heap[k]? = some (.cells (dg (l.set i x)) t (0, 0)) := by
  rw [← dg_set hi]
  exact heap_setCell_same w k i _ _ _ h
theorem alloc3 (w : World) (o0 o1 o2 : Obj) : ∀ W, W = ((w.alloc o0).alloc o1).alloc o2 → W.heap[w.heap.size]? = some o0 ∧ W.heap[w.heap.size + 1]? = some o1 ∧ W.heap[w.heap.size + 1 + 1]? = some o2 ∧ Below w.heap.size w W := by
  rintro W rfl
  exact ⟨heapO (heapO (heapN rfl _) _) _, heapO (heapN (by simp) _) _, heapN (by simp) _, (((Below.refl _ _).alloc (Nat.le_refl _) _).alloc (by simp) _).alloc (by simp; omega) _⟩
theorem take_set_succ {D : List Nat} {i x : Nat} (h : i < D.length) : (D.set i x).take (i + 1) = D.take i ++ [x] := by
  rw [List.take_add_one, List.getElem?_set_self h, List.take_set_of_le (Nat.le_refl _)]; rfl
theorem drop_set_succ {D : List Nat} {i x : Nat} : (D.set i x).drop (i + 1) = D.drop (i + 1) := by
  rw [List.drop_set_of_lt (by omega)]
/-- How far a sum of digits has been laid. -/
structure PlusS (a b D : List Nat) (i K : Nat) : Prop where
  i12 : i ≤ 12
  k1 : K ≤ 1
  len : D.length = 12
  rest : D.drop i = a.drop i
  eq : D.take i ++ plusL (a.drop i) (b.drop i) K = plusL a b 0
theorem PlusS.step {a b D : List Nat} {i K : Nat} (h : PlusS a b D i K) (ha : Dg12 a) (hb : Dg12 b) (hi : i < 12) :
    ∃ x y s q m : Nat, D[i]? = some x ∧ b[i]? = some y ∧ s = K + x + y ∧ s ≤ 131071 ∧ (s : Int) % 65536 = (m : Int) ∧ (s : Int) / 65536 = (q : Int) ∧ (K : Int) + x ≤ 65536 ∧ x < 65536 ∧ y < 65536 ∧ PlusS a b (D.set i m) (i + 1) q := by
  have hia : i < a.length := by rw [ha.len]; exact hi
  have hib : i < b.length := by rw [hb.len]; exact hi
  have hiD : i < D.length := by rw [h.len]; exact hi
  have e := h.eq
  have hr := h.rest
  rw [List.drop_eq_getElem_cons hia, List.drop_eq_getElem_cons hib] at e
  rw [List.drop_eq_getElem_cons hia, List.drop_eq_getElem_cons hiD] at hr
  injection hr with hx hr
  have hxa := ha.dgt.at_ hia
  have hyb := hb.dgt.at_ hib
  have hk := h.k1
  refine ⟨a[i], b[i], K + a[i] + b[i], (K + a[i] + b[i]) / 65536, (K + a[i] + b[i]) % 65536, by rw [List.getElem?_eq_getElem hiD, hx], List.getElem?_eq_getElem hib, rfl, by omega, by omega, by omega, by omega, hxa, hyb, by omega, by omega, by simp [h.len], ?_, ?_⟩
  · rw [drop_set_succ, hr]
  · rw [take_set_succ hiD, List.append_assoc, ← e]
    rfl
def zs12 : Array Value := #[.int .i64 0, .int .i64 0, .int .i64 0, .int .i64 0, .int .i64 0, .int .i64 0, .int .i64 0, .int .i64 0, .int .i64 0, .int .i64 0, .int .i64 0, .int .i64 0]
theorem dg_cell? {w : World} {k : Nat} {l : List Nat} {t : TypeId} {i x : Nat} (h : w.heap[k]? = some (.cells (dg l) t (0, 0))) (hi : l[i]? = some x) : w.cell? ⟨k, i, none⟩ = some (.int .i64 (x : Int)) := by
  obtain ⟨h1, rfl⟩ := List.getElem?_eq_some_iff.1 hi
  exact dg_cell h h1
theorem dg_size (l : List Nat) : (dg l).size = l.length := by simp [dg]
theorem dg_one {l : List Nat} : (dg l).all (·.oneCell') = true := by
  rw [Array.all_eq_true_iff_forall_mem]
  intro u hu
  simp only [dg, List.mem_toArray, List.mem_map] at hu
  obtain ⟨x, -, rfl⟩ := hu
  rfl
theorem below_setRow {B : Nat} {w w' : World} (h : Below B w w') {g : Nat} (hg : B ≤ g) (cs : Array Value) : Below B w (w'.setRow g cs) :=
  ⟨h.os, h.tape, h.output, by simp; exact h.size, fun i hi => (setRow_other w' g i cs (by omega)).trans (h.block i hi)⟩
set_option maxRecDepth 100000 in
set_option maxHeartbeats 1000000 in
theorem plus_any (a b : List Nat) (w : World) (ha : Dg12 a) (hb : Dg12 b) :
    Calls Tryd.prog 75 #[.agg (dg a), .agg (dg b)] w fun e w' => e = .returned (.agg (dg (plusL a b 0))) ∧ Below w.heap.size w w' := by
  have HA := Lib.hid ha; have HB := Lib.hid hb
  clear ha hb
  go_enter Tryd.func75, Tryd.ntmps75
  go_wp2_with fail
  obtain ⟨h1, h2, h3, h4⟩ := alloc3 w (.cells (dg a) 80) (.cells (dg b) 80) (.cells zs12 80) _ rfl
  unfold zs12 at h1 h2 h3 h4
  generalize ((w.alloc (Obj.cells (dg a) 80)).alloc (Obj.cells (dg b) 80)).alloc (.cells #[.int .i64 0, .int .i64 0, .int .i64 0, .int .i64 0, .int .i64 0, .int .i64 0, .int .i64 0, .int .i64 0, .int .i64 0, .int .i64 0, .int .i64 0, .int .i64 0] 80) = wq at *
  obtain ⟨k, hk⟩ : ∃ k, k = w.heap.size := ⟨_, rfl⟩
  rw [← hk] at h1 h2 h3 ⊢
  rw [← hk] at h4
  have H1 := Lib.hid h1; have H2 := Lib.hid h2; have H3 := Lib.hid h3; have H4 := Lib.hid h4; have Hk := Lib.hid hk
  clear h1 h2 h3 h4 hk
  go_loopw [5, 6] (fun v5 v6 wr => ∃ (i K : Nat) (D : List Nat), v6 = .int .i64 (i : Int) ∧ v5 = .int .i64 (K : Int) ∧ Hid (PlusS a b D i K ∧ wr.heap[k]? = some (.cells (dg D) 80 (0, 0)) ∧ wr.heap[k + 1]? = some (.cells (dg b) 80 (0, 0)) ∧ wr.heap[k + 1 + 1]? = some (.cells zs12 80 (0, 0)) ∧ Below k w wr)) (fun _ v6 _ => 12 - (intOf v6).toNat)
  case atStart => exact ⟨0, 0, a, rfl, rfl, Lib.hid ⟨⟨by omega, by omega, HA.out.len, rfl, rfl⟩, H1.out, H2.out, H3.out, H4.out⟩⟩
  case round =>
    obtain ⟨i, K, D, rfl, rfl, hh⟩ := hrel
    by_cases hlt : i < 12
    · obtain ⟨x, y, s, q, m, e1, e2, es, hs, em, eq, hkx, hx, hy, hS⟩ := hh.out.1.step HA.out HB.out hlt
      have c1 := dg_cell? hh.out.2.1 e1
      have c2 := dg_cell? hh.out.2.2.1 e2
      have hk1 : (K : Int) ≤ 1 := by have := hh.out.1.k1; omega
      have hk0 : (0 : Int) ≤ (K : Int) := by omega
      have s1 : IntKind.i64.wrap ((K : Int) + (x : Int)) = (K : Int) + (x : Int) := by rw [IntKind.wrap_i64]; omega
      have s2 : IntKind.i64.wrap ((K : Int) + (x : Int) + (y : Int)) = (s : Int) := by rw [IntKind.wrap_i64]; omega
      have s0 : (0 : Int) ≤ (s : Int) := by omega
      have s9 : (s : Int) ≤ 131071 := by omega
      have hii : (i : Int) < 12 := by omega
      have hi0 : (0 : Int) ≤ (i : Int) := by omega
      have f1 : wr.frozen? ⟨k, i, none⟩ = false := frozen_of_row wr k i _ _ hh.out.2.1
      have Hm := Lib.hid em; have Hq := Lib.hid eq; have HS := Lib.hid hS; have Hlt := Lib.hid hlt
      clear es hs hkx hx hy hS e1 e2 em eq hlt
      go_wp2_with fail
      go_quiet (fail)
      go_wp2_with fail
      go_roundw
      case rel =>
        refine ⟨i + 1, q, D.set i m, by go_num, by rw [Hq.out], Lib.hid ⟨HS.out, ?_, ?_, ?_, ?_⟩⟩
        · rw [Hm.out]
          exact dg_store (w := wr.drewN nq) hh.out.2.1 (by have := hh.out.1.len; omega)
        · rw [Below.heap_setCell _ _ _ _ (by simp)]; exact hh.out.2.2.1
        · rw [Below.heap_setCell _ _ _ _ (by simp; omega)]; exact hh.out.2.2.2.1
        · exact (below_drewN hh.out.2.2.2.2 nq).setCell (Nat.le_refl _) _
      case measure => have := Hlt.out; simp [intOf]; omega
    · obtain rfl : i = 12 := by have := hh.out.1.i12; omega
      have hD : D = plusL a b 0 := by
        have e := hh.out.1.eq
        rw [List.take_of_length_le (by rw [hh.out.1.len]; omega), show a.drop 12 = [] from List.drop_eq_nil_of_le (by rw [HA.out.len]; omega)] at e
        simpa [plusL] using e
      have hi : (Tryd.prog.info? 80).map (·.size) = some (dg D).size := by rw [dg_size, hh.out.1.len]; kernel_rfl
      have hz : zs12.size = (dg D).size := by rw [dg_size, hh.out.1.len]; rfl
      have Hi := Lib.hid hi; have Hz := Lib.hid hz; have HD := Lib.hid hD
      clear hi hz hD hlt
      go_wp2_with (first | (refine wpList_load_row rfl 80 _ rfl k rfl 80 (dg D) (0, 0) _ hh.out.2.1 Tryd.underlying80 rfl Hi.out ?_) | (refine wpList_store_row rfl 80 _ _ rfl (k + 1 + 1) (dg D) rfl rfl 80 zs12 hh.out.2.2.2.1 Hi.out Hz.out dg_one ?_))
      refine bodyPost_ret (v := .agg (dg D)) (results_cell_row rfl _ _ (k + 1 + 1) 80 (dg D) (0, 0) _ rfl (setRow_heap _ _ _ _ _ _ hh.out.2.2.2.1) Tryd.underlying80 rfl Hi.out) rfl ⟨by rw [HD.out], ?_⟩
      rw [← Hk.out]
      exact below_setRow hh.out.2.2.2.2 (by omega) _
end
section
open Go.RowKit
def dgi (l : List Int) : Array Value := (l.map fun d : Int => Value.int .i64 d).toArray
theorem dgi_cast (l : List Nat) : dgi (l.map fun d : Nat => (d : Int)) = dg l := by simp [dgi, dg]
theorem dgi_size (l : List Int) : (dgi l).size = l.length := by simp [dgi]
theorem dgi_cell {w : World} {k : Nat} {l : List Int} {t : TypeId} {i : Nat} {x : Int} (h : w.heap[k]? = some (.cells (dgi l) t (0, 0))) (hi : l[i]? = some x) : w.cell? ⟨k, i, none⟩ = some (.int .i64 x) := by
  rw [cell_of_row w k i _ _ _ h]; simp [dgi, hi]
theorem dgi_store {w : World} {k : Nat} {l : List Int} {t : TypeId} {i : Nat} {x : Int} (h : w.heap[k]? = some (.cells (dgi l) t (0, 0))) : (w.setCell ⟨k, i, none⟩ (.int .i64 x)).heap[k]? = some (.cells (dgi (l.set i x)) t (0, 0)) := by
  have e : (dgi l).setIfInBounds i (.int .i64 x) = dgi (l.set i x) := by simp [dgi, List.map_set]
  rw [← e]
  exact heap_setCell_same w k i _ _ _ h
theorem itake_set_succ {D : List Int} {i : Nat} {x : Int} (h : i < D.length) : (D.set i x).take (i + 1) = D.take i ++ [x] := by
  rw [List.take_add_one, List.getElem?_set_self h, List.take_set_of_le (Nat.le_refl _)]; rfl
theorem idrop_set_succ {D : List Int} {i : Nat} {x : Int} : (D.set i x).drop (i + 1) = D.drop (i + 1) := by
  rw [List.drop_set_of_lt (by omega)]
abbrev ic (l : List Nat) : List Int := l.map fun d : Nat => (d : Int)
/-- How far a difference of digits has been laid. -/
structure LessS (a b : List Nat) (E : List Int) (i c : Nat) : Prop where
  i12 : i ≤ 12
  c1 : c ≤ 1
  len : E.length = 12
  at_ : ∀ x, a[i]? = some x → E[i]? = some ((x : Int) - c)
  rest : E.drop (i + 1) = ic (a.drop (i + 1))
  le : vD (b.drop i) + c ≤ vD (a.drop i)
  eq : E.take i ++ ic (lessL (a.drop i) (b.drop i) c) = ic (lessL a b 0)
theorem LessS.start {a b : List Nat} (ha : Dg12 a) (h : vD b ≤ vD a) : LessS a b (ic a) 0 0 :=
  ⟨by omega, by omega, by simp [ha.len], fun x hx => by simp [ic, hx], by simp [ic, List.map_drop], by simpa using h, by simp⟩
theorem LessS.keep {a b : List Nat} {E : List Int} {i c : Nat} (h : LessS a b E i c) (ha : Dg12 a) (hb : Dg12 b) (hi : i < 12) :
    ∃ x y : Nat, E[i]? = some ((x : Int) - c) ∧ b[i]? = some y ∧ x < 65536 ∧ y < 65536 ∧
      (y + c ≤ x → LessS a b (E.set i ((x : Int) - c - y)) (i + 1) 0) ∧
      (¬ y + c ≤ x → i + 1 < 12 ∧ ∃ z : Nat, E[i + 1]? = some (z : Int) ∧ z < 65536 ∧ LessS a b (((E.set i ((x : Int) - c - y)).set i ((x : Int) - c - y + 65536)).set (i + 1) ((z : Int) - 1)) (i + 1) 1) := by
  have hia : i < a.length := by rw [ha.len]; exact hi
  have hib : i < b.length := by rw [hb.len]; exact hi
  have hiE : i < E.length := by rw [h.len]; exact hi
  have hxa := ha.dgt.at_ hia
  have hyb := hb.dgt.at_ hib
  have e := h.eq
  have hle := h.le
  have hc := h.c1
  rw [List.drop_eq_getElem_cons hia, List.drop_eq_getElem_cons hib] at e hle
  refine ⟨a[i], b[i], h.at_ _ (List.getElem?_eq_getElem hia), List.getElem?_eq_getElem hib, hxa, hyb, fun h1 => ?_, fun h1 => ?_⟩
  · have hn := less_next0 hyb hxa hle h1
    refine ⟨by omega, by omega, by simp [h.len], fun x hx => ?_, ?_, by omega, ?_⟩
    · have hr := congrArg (fun l : List Int => l[0]?) h.rest
      simp only [List.getElem?_drop, ic, List.getElem?_map, Nat.add_zero] at hr
      rw [List.getElem?_set_ne (by omega), hr, hx]; simp
    · rw [List.drop_set_of_lt (by omega)]
      have hr := congrArg (List.drop 1) h.rest
      simpa [ic, List.map_drop] using hr
    · rw [itake_set_succ hiE, List.append_assoc, ← e]
      simp only [lessL, if_pos h1, ic, List.map_cons, List.cons_append, List.nil_append]
      rw [show ((a[i] - c - b[i] : Nat) : Int) = (a[i] : Int) - c - b[i] by omega]
  · have hn := less_next hxa hyb hc hle h1
    have h12 : i + 1 < 12 := by
      rcases Nat.lt_or_ge (i + 1) 12 with h2 | h2
      · exact h2
      · rw [show a.drop (i + 1) = [] from List.drop_eq_nil_of_le (by rw [ha.len]; omega)] at hn
        simp [vD] at hn
    have hia1 : i + 1 < a.length := by rw [ha.len]; exact h12
    have hz := ha.dgt.at_ hia1
    have hr := congrArg (fun l : List Int => l[0]?) h.rest
    simp only [List.getElem?_drop, ic, List.getElem?_map, Nat.add_zero] at hr
    rw [List.getElem?_eq_getElem hia1] at hr
    refine ⟨h12, a[i + 1], by rw [hr]; rfl, hz, by omega, by omega, by simp [h.len], fun x hx => ?_, ?_, by omega, ?_⟩
    · rw [List.getElem?_set_self (by simp [h.len]; omega)]
      rw [List.getElem?_eq_getElem hia1] at hx
      injection hx with hx
      rw [hx]; rfl
    · rw [List.drop_set_of_lt (by omega), List.drop_set_of_lt (by omega), List.drop_set_of_lt (by omega)]
      have hr := congrArg (List.drop 1) h.rest
      simpa [ic, List.map_drop] using hr
    · rw [List.take_set_of_le (Nat.le_refl _), itake_set_succ (by simp [h.len]; omega), List.take_set_of_le (Nat.le_refl _), List.append_assoc, ← e]
      simp only [lessL, if_neg h1, ic, List.map_cons, List.cons_append, List.nil_append]
      rw [show ((a[i] + 65536 - c - b[i] : Nat) : Int) = (a[i] : Int) - c - b[i] + 65536 by omega]
set_option maxRecDepth 100000 in
set_option maxHeartbeats 1000000 in
theorem less_any (a b : List Nat) (w : World) (ha : Dg12 a) (hb : Dg12 b) (hv : vD b ≤ vD a) :
    Calls Tryd.prog 71 #[.agg (dg a), .agg (dg b)] w fun e w' => e = .returned (.agg (dg (lessL a b 0))) ∧ Below w.heap.size w w' := by
  have HA := Lib.hid ha; have HB := Lib.hid hb; have HV := Lib.hid hv
  clear ha hb hv
  go_enter Tryd.func71, Tryd.ntmps71
  go_wp2_with fail
  obtain ⟨h1, h2, h3, h4⟩ := alloc3 w (.cells (dg a) 80) (.cells (dg b) 80) (.cells zs12 80) _ rfl
  unfold zs12 at h1 h2 h3 h4
  generalize ((w.alloc (Obj.cells (dg a) 80)).alloc (Obj.cells (dg b) 80)).alloc (.cells #[.int .i64 0, .int .i64 0, .int .i64 0, .int .i64 0, .int .i64 0, .int .i64 0, .int .i64 0, .int .i64 0, .int .i64 0, .int .i64 0, .int .i64 0, .int .i64 0] 80) = wq at *
  obtain ⟨k, hk⟩ : ∃ k, k = w.heap.size := ⟨_, rfl⟩
  rw [← hk] at h1 h2 h3 ⊢
  rw [← hk] at h4
  have H1 := Lib.hid h1; have H2 := Lib.hid h2; have H3 := Lib.hid h3; have H4 := Lib.hid h4; have Hk := Lib.hid hk
  clear h1 h2 h3 h4 hk
  go_loopw [5] (fun v5 wr => ∃ (i c : Nat) (E : List Int), v5 = .int .i64 (i : Int) ∧ Hid (LessS a b E i c ∧ wr.heap[k]? = some (.cells (dgi E) 80 (0, 0)) ∧ wr.heap[k + 1]? = some (.cells (dg b) 80 (0, 0)) ∧ wr.heap[k + 1 + 1]? = some (.cells zs12 80 (0, 0)) ∧ Below k w wr)) (fun v5 _ => 12 - (intOf v5).toNat)
  case atStart => exact ⟨0, 0, ic a, rfl, Lib.hid ⟨LessS.start HA.out HV.out, by rw [dgi_cast]; exact H1.out, H2.out, H3.out, H4.out⟩⟩
  case round =>
    obtain ⟨i, c, E, rfl, hh⟩ := hrel
    by_cases hlt : i < 12
    · obtain ⟨x, y, e1, e2, hx, hy, s1, s2⟩ := hh.out.1.keep HA.out HB.out hlt
      obtain ⟨X, hX⟩ : ∃ X : Int, X = (x : Int) - c := ⟨_, rfl⟩
      have hc1 := hh.out.1.c1
      have hX0 : -1 ≤ X := by omega
      have hX1 : X ≤ 65536 := by omega
      have hy0 : (0 : Int) ≤ (y : Int) := by omega
      have hy1 : (y : Int) ≤ 65536 := by omega
      rw [← hX] at e1 s1 s2
      have c1 := dgi_cell hh.out.2.1 e1
      have c2 := dg_cell? hh.out.2.2.1 e2
      have hii : (i : Int) < 12 := by omega
      have hi0 : (0 : Int) ≤ (i : Int) := by omega
      have f1 : wr.frozen? ⟨k, i, none⟩ = false := frozen_of_row wr k i _ _ hh.out.2.1
      have ww : IntKind.i64.wrap (X - (y : Int)) = X - (y : Int) := by rw [IntKind.wrap_i64]; omega
      have Hlt := Lib.hid hlt
      by_cases hyc : y + c ≤ x
      · have hS := s1 hyc
        have HS := Lib.hid hS
        have hneg : ¬ X - (y : Int) < 0 := by omega
        have hd : decide (X - (y : Int) < 0) = false := by simp; omega
        clear hS s1 s2 hyc hX hc1 e1 e2 hlt hx hy
        go_wp2_with fail
        go_region
        all_goals
          go_wp2_with fail
          go_roundw
          case rel =>
            refine ⟨i + 1, 0, _, by go_num, Lib.hid ⟨HS.out, ?_, ?_, ?_, ?_⟩⟩
            · exact dgi_store (w := wr) hh.out.2.1
            · exact (Below.heap_setCell wr _ _ _ (by simp)).trans hh.out.2.2.1
            · exact (Below.heap_setCell wr _ _ _ (by simp; omega)).trans hh.out.2.2.2.1
            · exact (hh.out.2.2.2.2.setCell (Nat.le_refl _) _).drew
          case measure => have := Hlt.out; simp [intOf]; omega
      · obtain ⟨h12, z, ez, hz, hS⟩ := s2 hyc
        have HS := Lib.hid hS
        have hd : decide (X - (y : Int) < 0) = true := by simp; omega
        have c3 := dgi_cell hh.out.2.1 ez
        have f3 : wr.frozen? ⟨k, i + 1, none⟩ = false := frozen_of_row wr k (i + 1) _ _ hh.out.2.1
        have hii1 : (i : Int) + 1 < 12 := by omega
        have hz0 : (0 : Int) ≤ (z : Int) := by omega
        have hz1 : (z : Int) ≤ 65536 := by omega
        have hXy : -65537 ≤ X - (y : Int) := by omega
        have hXy2 : X - (y : Int) < 0 := by omega
        have ww2 : IntKind.i64.wrap (X - (y : Int) + 65536) = X - (y : Int) + 65536 := by rw [IntKind.wrap_i64]; omega
        have ww3 : IntKind.i64.wrap ((z : Int) - 1) = (z : Int) - 1 := by rw [IntKind.wrap_i64]; omega
        clear hS s1 s2 hyc hX hc1 e1 e2 hlt hx hy ez hz h12
        go_wp2_with fail
        go_region
        all_goals
          go_wp2_with fail
          go_roundw
          case rel =>
            refine ⟨i + 1, 1, _, by go_num, Lib.hid ⟨HS.out, ?_, ?_, ?_, ?_⟩⟩
            · exact dgi_store (w := (wr.setCell ⟨k, i, none⟩ (.int .i64 (X - (y : Int)))).setCell ⟨k, i, none⟩ (.int .i64 (X - (y : Int) + 65536))) (dgi_store (w := wr.setCell ⟨k, i, none⟩ (.int .i64 (X - (y : Int)))) (dgi_store (w := wr) hh.out.2.1))
            · refine (Below.heap_setCell _ _ _ _ (by simp)).trans ((Below.heap_setCell _ _ _ _ (by simp)).trans ((Below.heap_setCell wr _ _ _ (by simp)).trans hh.out.2.2.1))
            · refine (Below.heap_setCell _ _ _ _ (by simp; omega)).trans ((Below.heap_setCell _ _ _ _ (by simp; omega)).trans ((Below.heap_setCell wr _ _ _ (by simp; omega)).trans hh.out.2.2.2.1))
            · exact (((hh.out.2.2.2.2.setCell (Nat.le_refl _) _).setCell (Nat.le_refl _) _).setCell (Nat.le_refl _) _).drew
          case measure => have := Hlt.out; simp [intOf]; omega
    · obtain rfl : i = 12 := by have := hh.out.1.i12; omega
      have hD : dgi E = dg (lessL a b 0) := by
        have e := hh.out.1.eq
        rw [List.take_of_length_le (by rw [hh.out.1.len]; omega), show a.drop 12 = [] from List.drop_eq_nil_of_le (by rw [HA.out.len]; omega)] at e
        rw [← dgi_cast]
        simpa [lessL] using congrArg dgi e
      have hll := lessL_len a b 0 (by rw [HA.out.len, HB.out.len])
      have hi : (Tryd.prog.info? 80).map (·.size) = some (dg (lessL a b 0)).size := by rw [dg_size, hll, HA.out.len]; kernel_rfl
      have hz : zs12.size = (dg (lessL a b 0)).size := by rw [dg_size, hll, HA.out.len]; rfl
      have hr := hh.out.2.1
      rw [hD] at hr
      have Hi := Lib.hid hi; have Hz := Lib.hid hz; have Hr := Lib.hid hr
      clear hi hz hD hlt hr hll
      go_wp2_with (first | (refine wpList_load_row rfl 80 _ rfl k rfl 80 (dg (lessL a b 0)) (0, 0) _ Hr.out Tryd.underlying80 rfl Hi.out ?_) | (refine wpList_store_row rfl 80 _ _ rfl (k + 1 + 1) (dg (lessL a b 0)) rfl rfl 80 zs12 hh.out.2.2.2.1 Hi.out Hz.out dg_one ?_))
      refine bodyPost_ret (v := .agg (dg (lessL a b 0))) (results_cell_row rfl _ _ (k + 1 + 1) 80 (dg (lessL a b 0)) (0, 0) _ rfl (setRow_heap _ _ _ _ _ _ hh.out.2.2.2.1) Tryd.underlying80 rfl Hi.out) rfl ⟨rfl, ?_⟩
      rw [← Hk.out]
      exact below_setRow hh.out.2.2.2.2 (by omega) _
/-- A number: its sign, its digits. -/
def nm (m : Bool) (l : List Nat) : Array Value := (Value.bool m :: l.map fun d : Nat => Value.int .i64 (d : Int)).toArray
theorem nm_size (m : Bool) (l : List Nat) : (nm m l).size = l.length + 1 := by simp [nm]
theorem nm_range {w : World} {k : Nat} {m : Bool} {l : List Nat} {t : TypeId} (h : w.heap[k]? = some (.cells (nm m l) t (0, 0))) : w.rangeAt k 1 (l.map fun d : Nat => Value.int .i64 (d : Int)) := by
  intro j v hv
  rw [cell_of_row w k (1 + j) _ _ _ h]
  simp only [nm, List.getElem?_toArray, Nat.add_comm 1 j, List.getElem?_cons_succ]
  exact hv
theorem nm_head {w : World} {k : Nat} {m : Bool} {l : List Nat} {t : TypeId} (h : w.heap[k]? = some (.cells (nm m l) t (0, 0))) : w.cell? ⟨k, 0, none⟩ = some (.bool m) := by
  rw [cell_of_row w k 0 _ _ _ h]; simp [nm]
theorem nm_one {m : Bool} {l : List Nat} : (nm m l).all (·.oneCell') = true := by
  rw [Array.all_eq_true_iff_forall_mem]
  intro u hu
  simp only [nm, List.mem_toArray, List.mem_cons, List.mem_map] at hu
  rcases hu with rfl | ⟨x, -, rfl⟩ <;> rfl
theorem dg_info {l : List Nat} (h : l.length = 12) : (Tryd.prog.info? 80).map (·.size) = some (l.map fun d : Nat => Value.int .i64 (d : Int)).length := by rw [List.length_map, h]; kernel_rfl
theorem nm_info {m : Bool} {l : List Nat} (h : l.length = 12) : (Tryd.prog.info? 82).map (·.size) = some (nm m l).size := by rw [nm_size, h]; kernel_rfl
theorem len12 {a : List Nat} (h : a.length = 12) : ∃ a0 a1 a2 a3 a4 a5 a6 a7 a8 a9 a10 a11, a = [a0, a1, a2, a3, a4, a5, a6, a7, a8, a9, a10, a11] := by
  match a, h with
  | [a0, a1, a2, a3, a4, a5, a6, a7, a8, a9, a10, a11], _ => exact ⟨a0, a1, a2, a3, a4, a5, a6, a7, a8, a9, a10, a11, rfl⟩
theorem built_num {m : Bool} {a : List Nat} (h : a.length = 12) : Tryd.prog.built 82 [(0, .bool m), (1, .agg (dg a))] = some (nm m a) := by
  obtain ⟨a0, a1, a2, a3, a4, a5, a6, a7, a8, a9, a10, a11, rfl⟩ := len12 h
  kernel_rfl
section
variable {ops : Array Oper} {rest : List Oper} {o : Oper} {a : Act} {w : World} {Q : Exit → Act → World → Prop}
theorem wpList_build_num (hg : o.guard = none) (x y : Operand) (ho : o.op = .build 82 #[(0, x), (1, y)]) {m : Bool} {l : List Nat} (hx : a.eval x = .bool m) (hy : a.eval y = .agg (dg l)) (hl : l.length = 12)
    (h : wpList Tryd.prog ops Q rest (a.put o.dst (.agg (nm m l))) w) : wpList Tryd.prog ops Q (o :: rest) a w := by
  have e : ((#[(0, x), (1, y)] : Array (Nat × Operand)).map fun (i, x) => (i, a.eval x)).toList = [(0, .bool m), (1, .agg (dg l))] := by simp [hx, hy]
  refine wpList_build hg 82 _ ho (by rw [e, built_num hl]; rfl) ?_
  rw [e, built_num hl]
  exact h
end
theorem alloc2 (w : World) (o0 o1 : Obj) : ∀ W, W = (w.alloc o0).alloc o1 → W.heap[w.heap.size]? = some o0 ∧ W.heap[w.heap.size + 1]? = some o1 ∧ Below w.heap.size w W := by
  rintro W rfl
  exact ⟨heapO (heapN rfl _) _, heapN (by simp) _, ((Below.refl _ _).alloc (Nat.le_refl _) _).alloc (by simp) _⟩
def zn13 : Array Value := #[.bool false, .int .i64 0, .int .i64 0, .int .i64 0, .int .i64 0, .int .i64 0, .int .i64 0, .int .i64 0, .int .i64 0, .int .i64 0, .int .i64 0, .int .i64 0, .int .i64 0]
set_option maxRecDepth 100000 in
set_option maxHeartbeats 1000000 in
theorem minus_any (m : Bool) (a : List Nat) (w : World) (ha : a.length = 12) :
    Calls Tryd.prog 72 #[.agg (nm m a)] w fun e w' => e = .returned (.agg (nm (!m) a)) ∧ Below w.heap.size w w' := by
  have HA := Lib.hid ha
  clear ha
  go_enter Tryd.func72, Tryd.ntmps72
  go_upto_region 1 with (fail)
  obtain ⟨h1, h2, h3⟩ := alloc2 w (.cells (nm m a) 82) (.cells zn13 82) _ rfl
  unfold zn13 at h1 h2 h3
  generalize (w.alloc (.cells (nm m a) 82)).alloc (.cells #[.bool false, .int .i64 0, .int .i64 0, .int .i64 0, .int .i64 0, .int .i64 0, .int .i64 0, .int .i64 0, .int .i64 0, .int .i64 0, .int .i64 0, .int .i64 0, .int .i64 0] 82) = wq at *
  obtain ⟨k, hk⟩ : ∃ k, k = w.heap.size := ⟨_, rfl⟩
  rw [← hk] at h1 h2 h3 ⊢
  have c0 := nm_head h1
  have H1 := Lib.hid h1; have H2 := Lib.hid h2; have H3 := Lib.hid h3; have Hk := Lib.hid hk
  clear h1 h2 h3 hk
  go_wp2_with (first | (refine wpList_load_mid rfl 80 _ rfl k 1 rfl _ _ (nm_range H1.out) Tryd.underlying80 rfl (dg_info HA.out) ?_) | (refine wpList_build_num rfl _ _ rfl rfl rfl HA.out ?_) | (refine wpList_store_row rfl 82 _ _ rfl (k + 1) (nm (!m) a) rfl rfl 82 zn13 H2.out (nm_info HA.out) (by rw [nm_size, HA.out]; rfl) nm_one ?_))
  refine bodyPost_ret (v := .agg (nm (!m) a)) (results_cell_row rfl _ _ (k + 1) 82 (nm (!m) a) (0, 0) _ rfl (setRow_heap _ _ _ _ _ _ H2.out) Tryd.underlying82 rfl (nm_info HA.out)) rfl ⟨rfl, ?_⟩
  rw [← Hk.out]
  exact below_setRow H3.out (by omega) _
end
section
open Go.RowKit
theorem vD_zero : ∀ (a : List Nat), vD a = 0 ↔ ∀ d ∈ a, d = 0
  | [] => by simp [vD]
  | d :: l => by simp only [vD, List.mem_cons, forall_eq_or_imp]; rw [← vD_zero l]; omega
theorem shr_nat (x n : Nat) (hn : n ≤ 64) : Op.shift .shr .u64 (x : Int) .i64 (n : Int) = pure (.int .u64 ((x / 2 ^ n : Nat) : Int)) := by
  rw [shift_shr .u64 .i64 _ _ (by omega) (by show (n : Int) ≤ 64; omega), Int.toNat_natCast]
  simp
set_option maxRecDepth 100000 in
set_option maxHeartbeats 1000000 in
theorem eq_dig0 (a : List Nat) (ha : a.length = 12) (w : World) : (Op.equalIn 10000 80 (.agg (dg a)) (.agg zs12)).run Tryd.prog w = .ok (decide (vD a = 0)) w := by
  have u3 := Tryd.underlying3
  have a3 := Tryd.isAgg3
  have z3 := Tryd.sizeOf3
  have e : decide (vD a = 0) = decide (∀ d ∈ a, d = 0) := by rw [decide_eq_decide]; exact vD_zero a
  rw [e]
  obtain ⟨a0, a1, a2, a3, a4, a5, a6, a7, a8, a9, a10, a11, rfl⟩ := len12 ha
  rw [show (10000 : Nat) = 9999 + 1 from rfl, Op.equalIn]
  simp only [Sem.run_bind, run_underlying Tryd.underlying80, Result.andThen_ok]
  simp only [Std.Legacy.Range.forIn_eq_forIn_range', Std.Legacy.Range.size, Nat.sub_zero, Nat.add_sub_cancel, Nat.div_one, List.range'_succ, List.range'_zero, List.forIn_cons, List.forIn_nil, dg, zs12]
  go_simp
  clear u3 z3 e ha
  (repeat' split) <;> simp_all
set_option maxRecDepth 100000 in
set_option maxHeartbeats 1000000 in
theorem zero_any (m : Bool) (a : List Nat) (w : World) (ha : a.length = 12) :
    Calls Tryd.prog 70 #[.agg (nm m a)] w fun e w' => e = .returned (.bool (decide (vD a = 0))) ∧ Below w.heap.size w w' := by
  have HA := Lib.hid ha
  clear ha
  go_enter Tryd.func70, Tryd.ntmps70
  go_upto_region 1 with (fail)
  have h1 := heapN (w := w) rfl (.cells (nm m a) 82)
  have h3 := (Below.refl w.heap.size w).alloc (Nat.le_refl _) (.cells (nm m a) 82)
  generalize w.alloc (.cells (nm m a) 82) = wq at *
  obtain ⟨k, hk⟩ : ∃ k, k = w.heap.size := ⟨_, rfl⟩
  rw [← hk] at h1 h3 ⊢
  have H1 := Lib.hid h1; have H3 := Lib.hid h3; have Hk := Lib.hid hk
  clear h1 h3 hk
  have hq := eq_dig0 a HA.out
  unfold dg zs12 at hq
  go_wp2_with (first | (refine wpList_load_mid rfl 80 _ rfl k 1 rfl _ _ (nm_range H1.out) Tryd.underlying80 rfl (dg_info HA.out) ?_))
  go_ret
  exact ⟨rfl, by rw [← Hk.out]; exact H3.out⟩
set_option maxRecDepth 100000 in
set_option maxHeartbeats 1000000 in
theorem rOf_any (a : Int) (w : World) (h0 : -9223372036854775808 ≤ a) (h1 : a ≤ 9223372036854775807) :
    Calls Tryd.prog 51 #[.int .i64 a] w fun e w' => ∃ lo : Nat, e = .returned (.agg #[.int .i64 (if a < 0 then -1 else 0), .int .u64 (lo : Int)]) ∧ lo < 18446744073709551616 ∧ (if a < 0 then -1 else 0) * 18446744073709551616 + (lo : Int) = a ∧ Below w.heap.size w w' := by
  go_enter Tryd.func51, Tryd.ntmps51
  by_cases h : a < 0
  · obtain ⟨lo, hlo⟩ : ∃ lo : Nat, IntKind.u64.wrap a = lo := ⟨(a % 18446744073709551616).toNat, by rw [IntKind.wrap_u64]; omega⟩
    have HR : Hid (lo < 18446744073709551616 ∧ -1 * 18446744073709551616 + (lo : Int) = a) := Lib.hid (by rw [IntKind.wrap_u64] at hlo; omega)
    clear h0 h1
    go_wp2_with fail
    have hb := (Below.refl w.heap.size w).alloc (Nat.le_refl _) (.cells #[.int .i64 (-1), .int .u64 (lo : Int)] 48)
    simp [bodyPost, results, Tryd.results51, go_sem]
    exact ⟨lo, rfl, HR.out.1, by have := HR.out.2; omega, hb⟩
  · obtain ⟨lo, rfl⟩ : ∃ lo : Nat, a = lo := ⟨a.toNat, by omega⟩
    have HR : Hid (lo < 18446744073709551616) := Lib.hid (by omega)
    have wl : IntKind.u64.wrap (lo : Int) = (lo : Int) := by rw [IntKind.wrap_u64]; omega
    go_wp2_with fail
    have hb := (Below.refl w.heap.size w).alloc (Nat.le_refl _) (.cells #[.int .i64 0, .int .u64 (lo : Int)] 48)
    simp [bodyPost, results, Tryd.results51, go_sem]
    exact ⟨lo, rfl, HR.out, by simp, hb⟩
/-- The digits of one word. -/
def dig4 (x : Nat) : List Nat := [x % 65536, x / 65536 % 65536, x / 4294967296 % 65536, x / 281474976710656 % 65536]
theorem dig4_v {x : Nat} (h : x < 18446744073709551616) : vD (dig4 x) = x := by
  simp only [dig4, vD]; omega
theorem dig4_d (x : Nat) : Dgt (dig4 x) := by
  intro d hd
  simp only [dig4, List.mem_cons, List.not_mem_nil, or_false] at hd
  rcases hd with rfl | rfl | rfl | rfl <;> omega
def digW (lo hi : Nat) : List Nat := dig4 lo ++ (dig4 hi ++ [0, 0, 0, 0])
theorem digW_v {lo hi : Nat} (h1 : lo < 18446744073709551616) (h2 : hi < 18446744073709551616) : vD (digW lo hi) = lo + 18446744073709551616 * hi := by
  unfold digW
  rw [vD_app, vD_app, dig4_v h1, dig4_v h2]
  simp [dig4, vD]
theorem digW_12 (lo hi : Nat) : Dg12 (digW lo hi) :=
  ⟨rfl, fun d hd => by
    simp only [digW, List.mem_append] at hd
    rcases hd with h | h | h
    · exact dig4_d lo d h
    · exact dig4_d hi d h
    · simp at h; omega⟩
theorem nm_there {w : World} {k : Nat} {m : Bool} {l : List Nat} {t : TypeId} (h : w.heap[k]? = some (.cells (nm m l) t (0, 0))) (hl : l.length = 12) : w.there k 1 12 := fun j hj =>
  ⟨by rw [cell_of_row w k (1 + j) _ _ _ h]; simp [nm, Nat.add_comm 1 j]; omega, frozen_of_row w k (1 + j) _ _ h⟩
theorem nm_put {w : World} {k : Nat} {m : Bool} {l r : List Nat} {t : TypeId} (h : w.heap[k]? = some (.cells (nm m l) t (0, 0))) (hl : l.length = 12) (hr : r.length = 12) : (w.setCells k 1 (dg r).toList).heap[k]? = some (.cells (nm m r) t (0, 0)) := by
  rw [setCells_heap k t _ 1 w _ h (by simp [dg, nm]; omega)]
  congr 2
  simp [dg, nm, hl, hr]
theorem setCells_below {B : Nat} {w w' : World} (h : Below B w w') {g : Nat} (hg : B ≤ g) (hB : B ≤ w'.heap.size) (o : Nat) (vs : List Value) : Below B w (w'.setCells g o vs) :=
  h.grown (setCells_grown g vs o w') hB (fun k hk => by injection hk with hk; omega)
theorem nm_sign {w : World} {k : Nat} {m m' : Bool} {l : List Nat} {t : TypeId} (h : w.heap[k]? = some (.cells (nm m l) t (0, 0))) : (w.setCell ⟨k, 0, none⟩ (.bool m')).heap[k]? = some (.cells (nm m' l) t (0, 0)) := by
  refine (heap_setCell_same w k 0 _ _ _ h).trans ?_
  simp [nm]
end
section
open Go.RowKit
def readR (lo hu i : Nat) : List Nat := (dig4 lo).take i ++ (List.replicate (4 - i) 0 ++ ((dig4 hu).take i ++ (List.replicate (4 - i) 0 ++ [0, 0, 0, 0])))
set_option maxRecDepth 100000 in
set_option maxHeartbeats 1000000 in
theorem rRead_any (hi : Int) (lo : Nat) (w : World) (h0 : -9223372036854775808 ≤ hi) (h1 : hi ≤ 9223372036854775807) (hl : lo < 18446744073709551616) :
    Calls Tryd.prog 48 #[.agg #[.int .i64 hi, .int .u64 (lo : Int)]] w fun e w' => ∃ D, e = .returned (.agg (nm (decide (hi < 0)) D)) ∧ Dg12 D ∧ vD D = (hi * 18446744073709551616 + lo).natAbs ∧ Below w.heap.size w w' := by
  obtain ⟨hu, hhu⟩ : ∃ hu : Nat, IntKind.u64.wrap hi = hu := ⟨(hi % 18446744073709551616).toNat, by rw [IntKind.wrap_u64]; omega⟩
  have HU : Hid (hu < 18446744073709551616 ∧ (hi < 0 → (hu : Int) = hi + 18446744073709551616) ∧ (¬ hi < 0 → (hu : Int) = hi)) := Lib.hid (by rw [IntKind.wrap_u64] at hhu; omega)
  go_enter Tryd.func48, Tryd.ntmps48
  go_upto_block 2 with (fail)
  obtain ⟨g1, g2, g3, g4⟩ := alloc3 w (.cells #[.int .i64 hi, .int .u64 (lo : Int)] 48) (.cells zn13 82) (.cells zn13 82) _ rfl
  unfold zn13 at g1 g2 g3 g4
  generalize ((w.alloc (.cells #[.int .i64 hi, .int .u64 (lo : Int)] 48)).alloc (.cells #[.bool false, .int .i64 0, .int .i64 0, .int .i64 0, .int .i64 0, .int .i64 0, .int .i64 0, .int .i64 0, .int .i64 0, .int .i64 0, .int .i64 0, .int .i64 0, .int .i64 0] 82)).alloc (.cells #[.bool false, .int .i64 0, .int .i64 0, .int .i64 0, .int .i64 0, .int .i64 0, .int .i64 0, .int .i64 0, .int .i64 0, .int .i64 0, .int .i64 0, .int .i64 0, .int .i64 0] 82) = wq at *
  obtain ⟨k, hk⟩ : ∃ k, k = w.heap.size := ⟨_, rfl⟩
  rw [← hk] at g1 g2 g3 g4 ⊢
  have H2 := Lib.hid g2; have H1 := Lib.hid g1; have H3 := Lib.hid g3; have H4 := Lib.hid g4; have Hk := Lib.hid hk; have Hhhu := Lib.hid hhu
  clear g1 g2 g3 g4 hk
  go_loopw [4] (fun v4 wr => ∃ i : Nat, v4 = .int .i64 (i : Int) ∧ Hid (i ≤ 4 ∧ wr.heap[k]? = some (.cells #[.int .i64 hi, .int .u64 (lo : Int)] 48 (0, 0)) ∧ wr.heap[k + 1 + 1]? = some (.cells (nm false (readR lo hu i)) 82 (0, 0)) ∧ Below k w wr ∧ wr.heap[k + 1]? = some (.cells zn13 82 (0, 0)))) (fun v4 _ => 4 - (intOf v4).toNat)
  case atStart => exact ⟨0, rfl, Lib.hid ⟨by omega, H1.out, H3.out, H4.out, H2.out⟩⟩
  case round =>
    obtain ⟨i, rfl, hh⟩ := hrel
    have c0 : wr.cell? ⟨k, 0, none⟩ = some (.int .i64 hi) := by rw [cell_of_row wr k 0 _ _ _ hh.out.2.1]; rfl
    have c1 : wr.cell? ⟨k, 1, none⟩ = some (.int .u64 (lo : Int)) := by rw [cell_of_row wr k 1 _ _ _ hh.out.2.1]; rfl
    by_cases hlt : i < 4
    · have hi4 : i = 0 ∨ i = 1 ∨ i = 2 ∨ i = 3 := by omega
      clear hlt h0 h1 hl
      rcases hi4 with rfl | rfl | rfl | rfl
      · have r1 : wr.cell? ⟨k + 1 + 1, 1, none⟩ = some (.int .i64 0) := by rw [cell_of_row wr (k + 1 + 1) 1 _ _ _ hh.out.2.2.1]; rfl
        have r5 : wr.cell? ⟨k + 1 + 1, 5, none⟩ = some (.int .i64 0) := by rw [cell_of_row wr (k + 1 + 1) 5 _ _ _ hh.out.2.2.1]; rfl
        have f1 := frozen_of_row wr (k + 1 + 1) 1 _ _ hh.out.2.2.1
        have f5 := frozen_of_row wr (k + 1 + 1) 5 _ _ hh.out.2.2.1
        obtain ⟨x, hx⟩ : ∃ x : Nat, x = lo / 1 := ⟨_, rfl⟩
        obtain ⟨y, hy⟩ : ∃ y : Nat, y = hu / 1 := ⟨_, rfl⟩
        have sx : Op.shift .shr .u64 (lo : Int) .i64 0 = pure (.int .u64 (x : Int)) := by rw [hx]; exact shr_nat lo 0 (by decide)
        have sy : Op.shift .shr .u64 (hu : Int) .i64 0 = pure (.int .u64 (y : Int)) := by rw [hy]; exact shr_nat hu 0 (by decide)
        have Hx := Lib.hid hx; have Hy := Lib.hid hy
        clear hx hy
        go_wp2_with fail
        go_roundw
        case rel =>
          refine ⟨1, rfl, Lib.hid ⟨by omega, ?_, ?_, ?_, ?_⟩⟩
          · exact (Below.heap_setCell _ _ _ _ (by simp; omega)).trans ((Below.heap_setCell wr _ _ _ (by simp; omega)).trans hh.out.2.1)
          · refine (heap_setCell_same _ _ _ _ _ _ (heap_setCell_same wr _ _ _ _ _ hh.out.2.2.1)).trans ?_
            rw [Hx.out, Hy.out]
            simp only [Nat.div_one]
            rfl
          · exact (hh.out.2.2.2.1.setCell (by simp; omega) _).setCell (by simp; omega) _
          · exact (Below.heap_setCell _ _ _ _ (by simp)).trans ((Below.heap_setCell wr _ _ _ (by simp)).trans hh.out.2.2.2.2)
        case measure => simp [intOf]
      · have r1 : wr.cell? ⟨k + 1 + 1, 2, none⟩ = some (.int .i64 0) := by rw [cell_of_row wr (k + 1 + 1) 2 _ _ _ hh.out.2.2.1]; rfl
        have r5 : wr.cell? ⟨k + 1 + 1, 6, none⟩ = some (.int .i64 0) := by rw [cell_of_row wr (k + 1 + 1) 6 _ _ _ hh.out.2.2.1]; rfl
        have f1 := frozen_of_row wr (k + 1 + 1) 2 _ _ hh.out.2.2.1
        have f5 := frozen_of_row wr (k + 1 + 1) 6 _ _ hh.out.2.2.1
        obtain ⟨x, hx⟩ : ∃ x : Nat, x = lo / 65536 := ⟨_, rfl⟩
        obtain ⟨y, hy⟩ : ∃ y : Nat, y = hu / 65536 := ⟨_, rfl⟩
        have sx : Op.shift .shr .u64 (lo : Int) .i64 16 = pure (.int .u64 (x : Int)) := by rw [hx]; exact shr_nat lo 16 (by decide)
        have sy : Op.shift .shr .u64 (hu : Int) .i64 16 = pure (.int .u64 (y : Int)) := by rw [hy]; exact shr_nat hu 16 (by decide)
        have Hx := Lib.hid hx; have Hy := Lib.hid hy
        clear hx hy
        go_wp2_with fail
        go_roundw
        case rel =>
          refine ⟨2, rfl, Lib.hid ⟨by omega, ?_, ?_, ?_, ?_⟩⟩
          · exact (Below.heap_setCell _ _ _ _ (by simp; omega)).trans ((Below.heap_setCell wr _ _ _ (by simp; omega)).trans hh.out.2.1)
          · refine (heap_setCell_same _ _ _ _ _ _ (heap_setCell_same wr _ _ _ _ _ hh.out.2.2.1)).trans ?_
            rw [Hx.out, Hy.out]
            rfl
          · exact (hh.out.2.2.2.1.setCell (by simp; omega) _).setCell (by simp; omega) _
          · exact (Below.heap_setCell _ _ _ _ (by simp)).trans ((Below.heap_setCell wr _ _ _ (by simp)).trans hh.out.2.2.2.2)
        case measure => simp [intOf]
      · have r1 : wr.cell? ⟨k + 1 + 1, 3, none⟩ = some (.int .i64 0) := by rw [cell_of_row wr (k + 1 + 1) 3 _ _ _ hh.out.2.2.1]; rfl
        have r5 : wr.cell? ⟨k + 1 + 1, 7, none⟩ = some (.int .i64 0) := by rw [cell_of_row wr (k + 1 + 1) 7 _ _ _ hh.out.2.2.1]; rfl
        have f1 := frozen_of_row wr (k + 1 + 1) 3 _ _ hh.out.2.2.1
        have f5 := frozen_of_row wr (k + 1 + 1) 7 _ _ hh.out.2.2.1
        obtain ⟨x, hx⟩ : ∃ x : Nat, x = lo / 4294967296 := ⟨_, rfl⟩
        obtain ⟨y, hy⟩ : ∃ y : Nat, y = hu / 4294967296 := ⟨_, rfl⟩
        have sx : Op.shift .shr .u64 (lo : Int) .i64 32 = pure (.int .u64 (x : Int)) := by rw [hx]; exact shr_nat lo 32 (by decide)
        have sy : Op.shift .shr .u64 (hu : Int) .i64 32 = pure (.int .u64 (y : Int)) := by rw [hy]; exact shr_nat hu 32 (by decide)
        have Hx := Lib.hid hx; have Hy := Lib.hid hy
        clear hx hy
        go_wp2_with fail
        go_roundw
        case rel =>
          refine ⟨3, rfl, Lib.hid ⟨by omega, ?_, ?_, ?_, ?_⟩⟩
          · exact (Below.heap_setCell _ _ _ _ (by simp; omega)).trans ((Below.heap_setCell wr _ _ _ (by simp; omega)).trans hh.out.2.1)
          · refine (heap_setCell_same _ _ _ _ _ _ (heap_setCell_same wr _ _ _ _ _ hh.out.2.2.1)).trans ?_
            rw [Hx.out, Hy.out]
            rfl
          · exact (hh.out.2.2.2.1.setCell (by simp; omega) _).setCell (by simp; omega) _
          · exact (Below.heap_setCell _ _ _ _ (by simp)).trans ((Below.heap_setCell wr _ _ _ (by simp)).trans hh.out.2.2.2.2)
        case measure => simp [intOf]
      · have r1 : wr.cell? ⟨k + 1 + 1, 4, none⟩ = some (.int .i64 0) := by rw [cell_of_row wr (k + 1 + 1) 4 _ _ _ hh.out.2.2.1]; rfl
        have r5 : wr.cell? ⟨k + 1 + 1, 8, none⟩ = some (.int .i64 0) := by rw [cell_of_row wr (k + 1 + 1) 8 _ _ _ hh.out.2.2.1]; rfl
        have f1 := frozen_of_row wr (k + 1 + 1) 4 _ _ hh.out.2.2.1
        have f5 := frozen_of_row wr (k + 1 + 1) 8 _ _ hh.out.2.2.1
        obtain ⟨x, hx⟩ : ∃ x : Nat, x = lo / 281474976710656 := ⟨_, rfl⟩
        obtain ⟨y, hy⟩ : ∃ y : Nat, y = hu / 281474976710656 := ⟨_, rfl⟩
        have sx : Op.shift .shr .u64 (lo : Int) .i64 48 = pure (.int .u64 (x : Int)) := by rw [hx]; exact shr_nat lo 48 (by decide)
        have sy : Op.shift .shr .u64 (hu : Int) .i64 48 = pure (.int .u64 (y : Int)) := by rw [hy]; exact shr_nat hu 48 (by decide)
        have Hx := Lib.hid hx; have Hy := Lib.hid hy
        clear hx hy
        go_wp2_with fail
        go_roundw
        case rel =>
          refine ⟨4, rfl, Lib.hid ⟨by omega, ?_, ?_, ?_, ?_⟩⟩
          · exact (Below.heap_setCell _ _ _ _ (by simp; omega)).trans ((Below.heap_setCell wr _ _ _ (by simp; omega)).trans hh.out.2.1)
          · refine (heap_setCell_same _ _ _ _ _ _ (heap_setCell_same wr _ _ _ _ _ hh.out.2.2.1)).trans ?_
            rw [Hx.out, Hy.out]
            rfl
          · exact (hh.out.2.2.2.1.setCell (by simp; omega) _).setCell (by simp; omega) _
          · exact (Below.heap_setCell _ _ _ _ (by simp)).trans ((Below.heap_setCell wr _ _ _ (by simp)).trans hh.out.2.2.2.2)
        case measure => simp [intOf]
    · obtain rfl : i = 4 := by have := hh.out.1; omega
      have hR : vD (digW lo hu) = lo + 18446744073709551616 * hu ∧ Dg12 (digW lo hu) := ⟨digW_v hl HU.out.1, digW_12 lo hu⟩
      have hRR : readR lo hu 4 = digW lo hu := rfl
      have h5 := hh.out.2.2.1
      rw [hRR] at h5
      have H5 := Lib.hid h5; have HR := Lib.hid hR; have Hl := Lib.hid hl
      have Hh0 := Lib.hid h0
      clear h5 hR hRR hl hlt
      generalize digW lo hu = D at *
      have H6 := Lib.hid hh.out.2.2.2.2
      by_cases hn : hi < 0
      · have hnd : decide (hi < 0) = true := by simp; omega
        have hlb : vD [0, 0, 0, 0, 0, 0, 0, 0, 1, 0, 0, 0] = 340282366920938463463374607431768211456 := by decide +kernel
        have hle : vD D ≤ vD [0, 0, 0, 0, 0, 0, 0, 0, 1, 0, 0, 0] := by rw [hlb, HR.out.1]; have := HU.out.1; have := Hl.out; omega
        have hb12 : Dg12 [0, 0, 0, 0, 0, 0, 0, 0, 1, 0, 0, 0] := ⟨rfl, by unfold Dgt; decide⟩
        have hcall := fun w => less_any [0, 0, 0, 0, 0, 0, 0, 0, 1, 0, 0, 0] D w hb12 HR.out.2 hle
        have hll := lessL_v [0, 0, 0, 0, 0, 0, 0, 0, 1, 0, 0, 0] D 0 (by rw [HR.out.2.len]; rfl) hb12.dgt HR.out.2.dgt (by omega) (by omega)
        have hln := lessL_len [0, 0, 0, 0, 0, 0, 0, 0, 1, 0, 0, 0] D 0 (by rw [HR.out.2.len]; rfl)
        rw [hlb] at hll
        rw [show dg [0, 0, 0, 0, 0, 0, 0, 0, 1, 0, 0, 0] = #[.int .i64 0, .int .i64 0, .int .i64 0, .int .i64 0, .int .i64 0, .int .i64 0, .int .i64 0, .int .i64 0, .int .i64 1, .int .i64 0, .int .i64 0, .int .i64 0] from rfl] at hcall
        generalize lessL [0, 0, 0, 0, 0, 0, 0, 0, 1, 0, 0, 0] D 0 = R at *
        have Hll := Lib.hid hll; have Hln := Lib.hid hln; have Hcall := Lib.hid hcall
        clear hlb hle hb12 hcall hll hln
        have f0 := frozen_of_row wr (k + 1 + 1) 0 _ _ H5.out
        have t0 := nm_head H5.out
        go_upto_region 9 with (fail)
        have e1 := nm_sign (m' := true) H5.out
        have e2 := (Below.heap_setCell wr ⟨k + 1 + 1, 0, none⟩ (.bool true) (k + 1) (by simp)).trans H6.out
        have e3 : Below k w (wr.setCell ⟨k + 1 + 1, 0, none⟩ (.bool true)) := hh.out.2.2.2.1.setCell (by simp; omega) _
        generalize wr.setCell ⟨k + 1 + 1, 0, none⟩ (.bool true) = ws at *
        have E1 := Lib.hid e1; have E2 := Lib.hid e2; have E3 := Lib.hid e3
        clear e1 e2 e3 f0 t0 c0 c1
        go_wp2_with (refine wpList_load_mid rfl 80 _ rfl (k + 1 + 1) 1 rfl _ _ (nm_range E1.out) Tryd.underlying80 rfl (dg_info HR.out.2.len) ?_)
        refine (Hcall.out ws).mono ?_
        rintro e w2 ⟨rfl, hb⟩
        have hz := (Array.getElem?_eq_some_iff.1 E1.out).1
        have e1 := (hb.block (k + 1 + 1) hz).trans E1.out
        have e2 := (hb.block (k + 1) (by omega)).trans E2.out
        have e3 := E3.out.trans (hb.mono (by omega))
        have hs := Nat.lt_of_lt_of_le hz hb.size
        have E1' := Lib.hid e1; have E2' := Lib.hid e2; have E3' := Lib.hid e3; have Hs := Lib.hid hs
        clear e1 e2 e3 hb hz hs
        have r12 : R.length = 12 := Hln.out
        have R12 := Lib.hid r12
        clear r12
        go_upto_region 10 with (refine wpList_store_mid rfl 80 _ _ rfl (k + 1 + 1) 1 (dg R) rfl rfl (by rw [dg_size, R12.out]; exact nm_there E1'.out HR.out.2.len) (by rw [dg_size, R12.out]; kernel_rfl) dg_one ?_)
        have e1 := nm_put E1'.out HR.out.2.len R12.out
        have e2 := (setCells_other (k + 1 + 1) (dg R).toList 1 w2 (k + 1) (by omega)).trans E2'.out
        have e3 := setCells_below E3'.out (g := k + 1 + 1) (by omega) (by have := Hs.out; omega) 1 (dg R).toList
        generalize w2.setCells (k + 1 + 1) 1 (dg R).toList = w3 at *
        have F1 := Lib.hid e1; have F2 := Lib.hid e2; have F3 := Lib.hid e3
        clear e1 e2 e3
        go_wp2_with (first | (refine wpList_load_row rfl 82 _ rfl (k + 1 + 1) rfl 82 (nm true R) (0, 0) _ F1.out Tryd.underlying82 rfl (nm_info R12.out) ?_) | (refine wpList_store_row rfl 82 _ _ rfl (k + 1) (nm true R) rfl rfl 82 zn13 F2.out (nm_info R12.out) (by rw [nm_size, R12.out]; rfl) nm_one ?_))
        refine bodyPost_ret (v := .agg (nm true R)) (results_cell_row rfl _ _ (k + 1) 82 (nm true R) (0, 0) _ rfl (setRow_heap _ _ _ _ _ _ F2.out) Tryd.underlying82 rfl (nm_info R12.out)) rfl ⟨R, by rw [hnd], ⟨R12.out, Hll.out.2⟩, ?_, ?_⟩
        · have h1 := Hll.out.1; have h2 := HR.out.1; have h3 := HU.out.2.1 hn; have h4 := Hh0.out; omega
        · rw [← Hk.out]
          exact below_setRow F3.out (by omega) _
      · have hnd : decide (hi < 0) = false := by simp; omega
        go_wp2_with (first | (refine wpList_load_row rfl 82 _ rfl (k + 1 + 1) rfl 82 (nm false D) (0, 0) _ H5.out Tryd.underlying82 rfl (nm_info HR.out.2.len) ?_) | (refine wpList_store_row rfl 82 _ _ rfl (k + 1) (nm false D) rfl rfl 82 zn13 H6.out (nm_info HR.out.2.len) (by rw [nm_size, HR.out.2.len]; rfl) nm_one ?_))
        refine bodyPost_ret (v := .agg (nm false D)) (results_cell_row rfl _ _ (k + 1) 82 (nm false D) (0, 0) _ rfl (setRow_heap _ _ _ _ _ _ H6.out) Tryd.underlying82 rfl (nm_info HR.out.2.len)) rfl ⟨D, rfl, HR.out.2, ?_, ?_⟩
        · rw [HR.out.1]; have := HU.out.2.2 hn; omega
        · rw [← Hk.out]
          exact below_setRow hh.out.2.2.2.1 (by omega) _
end
section
open Go.RowKit
set_option maxRecDepth 100000 in
set_option maxHeartbeats 1000000 in
theorem rSmall_any (a : Int) (w : World) (h0 : -9223372036854775808 ≤ a) (h1 : a ≤ 9223372036854775807) :
    Calls Tryd.prog 49 #[.int .i64 a] w fun e w' => ∃ D, e = .returned (.agg (nm (decide (a < 0)) D)) ∧ Dg12 D ∧ vD D = a.natAbs ∧ Below w.heap.size w w' := by
  have Hh0 := Lib.hid h0; have Hh1 := Lib.hid h1
  clear h0 h1
  go_enter Tryd.func49, Tryd.ntmps49
  go_upto_region 1 with (fail)
  have g1 := heapN (w := w) rfl (.cells zn13 82)
  have g2 := (Below.refl w.heap.size w).alloc (Nat.le_refl _) (.cells zn13 82)
  unfold zn13 at g1 g2
  generalize w.alloc (.cells #[.bool false, .int .i64 0, .int .i64 0, .int .i64 0, .int .i64 0, .int .i64 0, .int .i64 0, .int .i64 0, .int .i64 0, .int .i64 0, .int .i64 0, .int .i64 0, .int .i64 0] 82) = wq at *
  obtain ⟨k, hk⟩ : ∃ k, k = w.heap.size := ⟨_, rfl⟩
  rw [← hk] at g1 g2 ⊢
  have H1 := Lib.hid g1; have H2 := Lib.hid g2; have Hk := Lib.hid hk
  clear g1 g2 hk
  go_wp2_with fail
  refine (rOf_any a wq Hh0.out Hh1.out).mono ?_
  rintro e w2 ⟨lo, rfl, hl, hv, hb⟩
  have hr := rRead_any (if a < 0 then -1 else 0) lo w2 (by split <;> omega) (by split <;> omega) hl
  rw [hv] at hr
  have hd : decide ((if a < 0 then (-1 : Int) else 0) < 0) = decide (a < 0) := by split <;> simp_all
  rw [hd] at hr
  obtain ⟨m, hm⟩ : ∃ m, decide (a < 0) = m := ⟨_, rfl⟩
  rw [hm] at hr
  have Hm := Lib.hid hm
  have Hr := Lib.hid hr; have Hb := Lib.hid hb
  clear hr hd hl hv hb hm
  generalize (if a < 0 then (-1 : Int) else 0) = q at *
  go_wp2_with fail
  refine Hr.out.mono ?_
  rintro e w3 ⟨D, rfl, hD, hv, hb⟩
  have HB := Lib.hid (Hb.out.trans (hb.mono Hb.out.size))
  have hz := (Array.getElem?_eq_some_iff.1 H1.out).1
  have g1 := (HB.out.block k hz).trans H1.out
  have G1 := Lib.hid g1; have HD := Lib.hid hD; have HV := Lib.hid hv
  clear hD hv hb hz g1
  go_wp2_with (refine wpList_store_row rfl 82 _ _ rfl k (nm m D) rfl rfl 82 zn13 G1.out (nm_info HD.out.len) (by rw [nm_size, HD.out.len]; rfl) nm_one ?_)
  refine bodyPost_ret (v := .agg (nm m D)) (results_cell_row rfl _ _ k 82 (nm m D) (0, 0) _ rfl (setRow_heap _ _ _ _ _ _ G1.out) Tryd.underlying82 rfl (nm_info HD.out.len)) rfl ⟨D, by rw [Hm.out], HD.out, HV.out, ?_⟩
  rw [← Hk.out]
  exact below_setRow (H2.out.trans (HB.out.mono (by have := H2.out.size; have := Hk.out; omega))) (Nat.le_refl _) _
theorem step_of_wp {P : Program} {ops : Array Oper} {o : Oper} {a : Act} {w : World} {K : Act → World → Prop} {Q : Exit → Act → World → Prop} {E : Prop} (hgd : o.guard = none) (h : o.wp P a w K Q) : if Region.wanted o (yielded ops a.tmps) = true then o.wp P a w K Q else E := by
  rw [if_pos (by simp [Region.wanted, hgd])]; exact h
theorem wp_build_num {o : Oper} {a : Act} {w : World} {K : Act → World → Prop} {Q : Exit → Act → World → Prop} (x y : Operand) (ho : o.op = .build 82 #[(0, x), (1, y)]) {m : Bool} {l : List Nat} (hx : a.eval x = .bool m) (hy : a.eval y = .agg (dg l)) (hl : l.length = 12)
    (h : K (a.put o.dst (.agg (nm m l))) w) : o.wp Tryd.prog a w K Q := by
  have e : ((#[(0, x), (1, y)] : Array (Nat × Operand)).map fun (i, x) => (i, a.eval x)).toList = [(0, .bool m), (1, .agg (dg l))] := by simp [hx, hy]
  refine wp_build 82 _ ho (by rw [e, built_num hl]; rfl) ?_
  rw [e, built_num hl]
  exact h
/-- A number's value. -/
def sgV (m : Bool) (l : List Nat) : Int := if m then -(vD l : Int) else (vD l : Int)
def NumIs (w : World) (v : Int) (e : Ending) (w' : World) : Prop := ∃ m D, e = .returned (.agg (nm m D)) ∧ Dg12 D ∧ sgV m D = v ∧ Below w.heap.size w w'
/-- Two blocks, one behind the other. -/
def Two (k : Nat) (x y : Obj) (w : World) : Prop := w.heap[k]? = some x ∧ w.heap[k + 1]? = some y
theorem Two.below {k : Nat} {x y : Obj} {w w' : World} (h : Two k x y w) (hb : Below w.heap.size w w') : Two k x y w' :=
  ⟨(hb.block k (Array.getElem?_eq_some_iff.1 h.1).1).trans h.1, (hb.block (k + 1) (Array.getElem?_eq_some_iff.1 h.2).1).trans h.2⟩
theorem Two.row {k g : Nat} {x y : Obj} {w : World} (h : Two k x y w) (hg : k + 1 < g) (cs : Array Value) : Two k x y (w.setRow g cs) :=
  ⟨(setRow_other w g k cs (by omega)).trans h.1, (setRow_other w g (k + 1) cs (by omega)).trans h.2⟩
set_option maxRecDepth 100000 in
set_option maxHeartbeats 1000000 in
theorem rSum_any (m1 m2 : Bool) (a b : List Nat) (w : World) (ha : Dg12 a) (hb : Dg12 b) (hs : vD a + vD b < 65536 ^ 12) :
    Calls Tryd.prog 73 #[.agg (nm m1 a), .agg (nm m2 b)] w (NumIs w (sgV m1 a + sgV m2 b)) := by
  have HA := Lib.hid ha; have HB := Lib.hid hb; have HS := Lib.hid hs
  have Hab : Hid (a.length = b.length) := Lib.hid (by rw [ha.len, hb.len])
  have Hs12 : Hid (vD a + vD b < 65536 ^ a.length) := Lib.hid (by rw [ha.len]; exact hs)
  clear ha hb hs
  go_enter Tryd.func73, Tryd.ntmps73
  go_upto_region 1 with (fail)
  obtain ⟨g1, g2, g3, g4⟩ := alloc3 w (.cells (nm m1 a) 82) (.cells (nm m2 b) 82) (.cells zn13 82) _ rfl
  unfold zn13 at g1 g2 g3 g4
  generalize ((w.alloc (.cells (nm m1 a) 82)).alloc (.cells (nm m2 b) 82)).alloc (.cells #[.bool false, .int .i64 0, .int .i64 0, .int .i64 0, .int .i64 0, .int .i64 0, .int .i64 0, .int .i64 0, .int .i64 0, .int .i64 0, .int .i64 0, .int .i64 0, .int .i64 0] 82) = wq at *
  obtain ⟨k, hk⟩ : ∃ k, k = w.heap.size := ⟨_, rfl⟩
  rw [← hk] at g1 g2 g3 ⊢
  rw [← hk] at g4
  have c1 := nm_head g1; have c2 := nm_head g2
  have H1 := Lib.hid g1; have H2 := Lib.hid g2; have H3 := Lib.hid g3; have H4 := Lib.hid g4; have Hk := Lib.hid hk
  clear g1 g2 g3 g4 hk
  by_cases hm : m1 = m2
  · subst hm
    have hsum := plusL_sum Hab.out Hs12.out
    have hsl := plusL_len a b 0 Hab.out
    have hsd := plusL_dgt a b 0
    have hcall := fun w => plus_any a b w HA.out HB.out
    generalize plusL a b 0 = R at *
    rw [HA.out.len] at hsl
    have Hsum := Lib.hid hsum; have Hsl := Lib.hid hsl; have Hsd := Lib.hid hsd; have Hcall := Lib.hid hcall
    clear hsum hsl hsd hcall
    go_upto_region 2 with (fail)
    have kz := (Array.getElem?_eq_some_iff.1 H3.out).1
    refine wp_region_held_drew (S := Two k (.cells (nm m1 a) 82) (.cells (nm m1 b) 82)) (by kernel_rfl) ⟨H1.out, H2.out⟩ (fun hHeld => ?_)
    refine wpAnyH_take (i := 0) (oi := ⟨some 10, _, _, _, _, _⟩) (v := .pointer (some ⟨k, 0, none⟩)) rfl (by kernel_rfl) (by kernel_rfl) (by kernel_rfl) (fun _ _ _ h => h) (Or.inl ⟨by rfl, fun w _ => by go_simp⟩) hHeld ?_
    simp only [Act.put, List.setIfInBounds_toArray, List.set_cons_zero, List.set_cons_succ]
    refine wpAnyH_take (i := 1) (oi := ⟨some 11, _, _, _, _, _⟩) (v := .bool m1) rfl (by kernel_rfl) (by kernel_rfl) (by kernel_rfl) (fun _ _ _ h => h) (Or.inl ⟨by rfl, fun w h => by have h1 := nm_head h.1; go_simp⟩) hHeld ?_
    simp only [Act.put, List.setIfInBounds_toArray, List.set_cons_zero, List.set_cons_succ]
    refine wpAnyH_take (i := 2) (oi := ⟨some 12, _, _, _, _, _⟩) (v := .pointer (some ⟨k, 1, none⟩)) rfl (by kernel_rfl) (by kernel_rfl) (by kernel_rfl) (fun _ _ _ h => h) (Or.inl ⟨by rfl, fun w _ => by go_simp⟩) hHeld ?_
    simp only [Act.put, List.setIfInBounds_toArray, List.set_cons_zero, List.set_cons_succ]
    refine wpAnyH_take (i := 3) (oi := ⟨some 13, _, _, _, _, _⟩) (v := .agg (dg a)) rfl (by kernel_rfl) (by kernel_rfl) (by kernel_rfl) (fun _ _ _ h => h) (yieldsIf_load_mid (by rfl) _ _ rfl k 1 rfl _ _ (fun w h => nm_range h.1) Tryd.underlying80 rfl (dg_info HA.out.len)) hHeld ?_
    simp only [Act.put, List.setIfInBounds_toArray, List.set_cons_zero, List.set_cons_succ]
    refine wpAnyH_take (i := 4) (oi := ⟨some 14, _, _, _, _, _⟩) (v := .pointer (some ⟨k + 1, 1, none⟩)) rfl (by kernel_rfl) (by kernel_rfl) (by kernel_rfl) (fun _ _ _ h => h) (Or.inl ⟨by rfl, fun w _ => by go_simp⟩) hHeld ?_
    simp only [Act.put, List.setIfInBounds_toArray, List.set_cons_zero, List.set_cons_succ]
    refine wpAnyH_take (i := 5) (oi := ⟨some 15, _, _, _, _, _⟩) (v := .agg (dg b)) rfl (by kernel_rfl) (by kernel_rfl) (by kernel_rfl) (fun _ _ _ h => h) (yieldsIf_load_mid (by rfl) _ _ rfl (k + 1) 1 rfl _ _ (fun w h => nm_range h.2) Tryd.underlying80 rfl (dg_info HB.out.len)) hHeld ?_
    simp only [Act.put, List.setIfInBounds_toArray, List.set_cons_zero, List.set_cons_succ]
    refine wpAnyH_ready (rs := [6]) (by kernel_rfl) (by simp) (AllReadyH.cons (o := ⟨some 16, _, _, _, _, _⟩) rfl (fun K hK => ?_) AllReadyH.nil)
    go_simp
    refine (Hcall.out _).mono ?_
    rintro e w2 ⟨rfl, hb2⟩
    have H32 := (hb2.block (k + 1 + 1) (by simp; exact kz)).trans H3.out
    have hb3 := H4.out.trans ((Below.refl wq.heap.size wq).drew.trans hb2 |>.mono (by have := H4.out.size; have := Hk.out; omega))
    refine hK.out _ _ (hHeld.below hb2) (fun hHeld => ?_)
    clear hK K
    refine wpAnyH_ready (rs := [7]) (by kernel_rfl) (by simp) (AllReadyH.cons (o := ⟨some 17, _, _, _, _, _⟩) rfl (fun K hK => ?_) AllReadyH.nil)
    refine step_of_wp rfl (wp_build_num _ _ rfl rfl rfl Hsl.out ?_)
    refine hK.out _ _ hHeld (fun hHeld => ?_)
    clear hK K
    simp only [Act.put, List.setIfInBounds_toArray, List.set_cons_zero, List.set_cons_succ]
    refine wpAnyH_ready (rs := [8]) (by kernel_rfl) (by simp) (AllReadyH.cons (o := ⟨none, _, _, _, _, _⟩) rfl (fun K hK => ?_) AllReadyH.nil)
    refine step_of_wp rfl (wp_store_row 82 _ _ rfl (k + 1 + 1) (nm m1 R) rfl rfl 82 zn13 H32 (nm_info Hsl.out) (by rw [nm_size, Hsl.out]; rfl) nm_one ?_)
    refine hK.out _ _ (hHeld.row (by omega) _) (fun hHeld => ?_)
    clear hK K
    refine wpAnyH_done (by kernel_rfl) ?_ _
    simp only [Act.put]
    go_wp2_with fail
    refine bodyPost_ret (v := .agg (nm m1 R)) (results_cell_row rfl _ _ (k + 1 + 1) 82 (nm m1 R) (0, 0) _ rfl (setRow_heap _ _ _ _ _ _ H32) Tryd.underlying82 rfl (nm_info Hsl.out)) rfl ⟨m1, R, rfl, ⟨Hsl.out, Hsd.out⟩, ?_, ?_⟩
    · unfold sgV; rw [Hsum.out]; cases m1 <;> simp; omega
    · rw [← Hk.out]
      exact below_setRow hb3 (by omega) _
  · have hne : (m1 == m2) = false := by simpa using hm
    have Hm := Lib.hid hm
    clear hm
    have hcmp := fun w => compare_any a b w HA.out HB.out
    have Hcmp := Lib.hid hcmp
    clear hcmp
    have kz0 := (Array.getElem?_eq_some_iff.1 H3.out).1
    go_wp2_with (first | (refine wpList_load_mid rfl 80 _ rfl k 1 rfl _ _ (nm_range H1.out) Tryd.underlying80 rfl (dg_info HA.out.len) ?_) | (refine wpList_load_mid rfl 80 _ rfl (k + 1) 1 rfl _ _ (nm_range H2.out) Tryd.underlying80 rfl (dg_info HB.out.len) ?_))
    refine (Hcmp.out wq).mono ?_
    rintro e w2 ⟨rfl, hb⟩
    have h1 := (hb.block k (by omega)).trans H1.out
    have h2 := (hb.block (k + 1) (by omega)).trans H2.out
    have h3 := (hb.block (k + 1 + 1) (by omega)).trans H3.out
    have h4 := H4.out.trans (hb.mono (by have := H4.out.size; have := Hk.out; omega))
    have G1 := Lib.hid h1; have G2 := Lib.hid h2; have G3 := Lib.hid h3; have G4 := Lib.hid h4
    clear h1 h2 h3 h4 hb c1 c2
    by_cases hlt : vD a < vD b
    · have hc : cmpV (vD a) (vD b) = -1 := by simp [cmpV, hlt]
      have hv := lessL_v b a 0 Hab.out.symm HB.out.dgt HA.out.dgt (by omega) (by omega)
      have hsl := lessL_len b a 0 Hab.out.symm
      have hcall := fun w => less_any b a w HB.out HA.out (by omega)
      generalize lessL b a 0 = R at *
      rw [HB.out.len] at hsl
      have Hsum := Lib.hid hv.1; have Hsl := Lib.hid hsl; have Hsd := Lib.hid hv.2; have Hcall := Lib.hid hcall
      clear hv hsl hcall hlt
      rw [hc]
      clear hc
      go_upto_region 5 with (first | (refine wpList_load_row rfl 82 _ rfl (k + 1) rfl 82 (nm m2 b) (0, 0) _ G2.out Tryd.underlying82 rfl (nm_info HB.out.len) ?_) | (refine wpList_load_row rfl 82 _ rfl k rfl 82 (nm m1 a) (0, 0) _ G1.out Tryd.underlying82 rfl (nm_info HA.out.len) ?_) | (refine wpList_store_row rfl 82 _ _ rfl k (nm m2 b) rfl rfl 82 (nm m1 a) G1.out (nm_info HB.out.len) (by rw [nm_size, nm_size, HA.out.len, HB.out.len]) nm_one ?_) | (refine wpList_store_row rfl 82 _ _ rfl (k + 1) (nm m1 a) rfl rfl 82 (nm m2 b) ((setRow_other _ _ _ _ (by omega)).trans G2.out) (nm_info HA.out.len) (by rw [nm_size, nm_size, HA.out.len, HB.out.len]) nm_one ?_))
      have f1 := (setRow_other (w2.setRow k (nm m2 b)) (k + 1) k (nm m1 a) (by omega)).trans (setRow_heap w2 k _ (nm m2 b) _ _ G1.out)
      have f2 := setRow_heap (w2.setRow k (nm m2 b)) (k + 1) _ (nm m1 a) _ _ ((setRow_other _ _ _ _ (by omega)).trans G2.out)
      have f3 := (setRow_other (w2.setRow k (nm m2 b)) (k + 1) (k + 1 + 1) (nm m1 a) (by omega)).trans ((setRow_other w2 k (k + 1 + 1) (nm m2 b) (by omega)).trans G3.out)
      have f4 := below_setRow (below_setRow G4.out (Nat.le_refl _) (nm m2 b)) (g := k + 1) (by omega) (nm m1 a)
      generalize (w2.setRow k (nm m2 b)).setRow (k + 1) (nm m1 a) = w3 at *
      have F1 := Lib.hid f1; have F2 := Lib.hid f2; have F3 := Lib.hid f3; have F4 := Lib.hid f4
      have kz := (Array.getElem?_eq_some_iff.1 f3).1
      clear f1 f2 f3 f4
      refine wp_region_held_drew (S := Two k (.cells (nm m2 b) 82) (.cells (nm m1 a) 82)) (by kernel_rfl) ⟨F1.out, F2.out⟩ (fun hHeld => ?_)
      refine wpAnyH_take (i := 0) (oi := ⟨some 26, _, _, _, _, _⟩) (v := .pointer (some ⟨k, 0, none⟩)) rfl (by kernel_rfl) (by kernel_rfl) (by kernel_rfl) (fun _ _ _ h => h) (Or.inl ⟨by rfl, fun w _ => by go_simp⟩) hHeld ?_
      simp only [Act.put, List.setIfInBounds_toArray, List.set_cons_zero, List.set_cons_succ]
      refine wpAnyH_take (i := 1) (oi := ⟨some 27, _, _, _, _, _⟩) (v := .bool m2) rfl (by kernel_rfl) (by kernel_rfl) (by kernel_rfl) (fun _ _ _ h => h) (Or.inl ⟨by rfl, fun w h => by have h1 := nm_head h.1; go_simp⟩) hHeld ?_
      simp only [Act.put, List.setIfInBounds_toArray, List.set_cons_zero, List.set_cons_succ]
      refine wpAnyH_take (i := 2) (oi := ⟨some 28, _, _, _, _, _⟩) (v := .pointer (some ⟨k, 1, none⟩)) rfl (by kernel_rfl) (by kernel_rfl) (by kernel_rfl) (fun _ _ _ h => h) (Or.inl ⟨by rfl, fun w _ => by go_simp⟩) hHeld ?_
      simp only [Act.put, List.setIfInBounds_toArray, List.set_cons_zero, List.set_cons_succ]
      refine wpAnyH_take (i := 3) (oi := ⟨some 29, _, _, _, _, _⟩) (v := .agg (dg b)) rfl (by kernel_rfl) (by kernel_rfl) (by kernel_rfl) (fun _ _ _ h => h) (yieldsIf_load_mid (by rfl) _ _ rfl k 1 rfl _ _ (fun w h => nm_range h.1) Tryd.underlying80 rfl (dg_info HB.out.len)) hHeld ?_
      simp only [Act.put, List.setIfInBounds_toArray, List.set_cons_zero, List.set_cons_succ]
      refine wpAnyH_take (i := 4) (oi := ⟨some 30, _, _, _, _, _⟩) (v := .pointer (some ⟨k + 1, 1, none⟩)) rfl (by kernel_rfl) (by kernel_rfl) (by kernel_rfl) (fun _ _ _ h => h) (Or.inl ⟨by rfl, fun w _ => by go_simp⟩) hHeld ?_
      simp only [Act.put, List.setIfInBounds_toArray, List.set_cons_zero, List.set_cons_succ]
      refine wpAnyH_take (i := 5) (oi := ⟨some 31, _, _, _, _, _⟩) (v := .agg (dg a)) rfl (by kernel_rfl) (by kernel_rfl) (by kernel_rfl) (fun _ _ _ h => h) (yieldsIf_load_mid (by rfl) _ _ rfl (k + 1) 1 rfl _ _ (fun w h => nm_range h.2) Tryd.underlying80 rfl (dg_info HA.out.len)) hHeld ?_
      simp only [Act.put, List.setIfInBounds_toArray, List.set_cons_zero, List.set_cons_succ]
      refine wpAnyH_ready (rs := [6]) (by kernel_rfl) (by simp) (AllReadyH.cons (o := ⟨some 32, _, _, _, _, _⟩) rfl (fun K hK => ?_) AllReadyH.nil)
      go_simp
      refine (Hcall.out _).mono ?_
      rintro e w4 ⟨rfl, hb2⟩
      have H32 := (hb2.block (k + 1 + 1) (by simp; exact kz)).trans F3.out
      have hb3 := F4.out.trans ((Below.refl w3.heap.size w3).drew.trans hb2 |>.mono (by have := F4.out.size; have := Hk.out; omega))
      refine hK.out _ _ (hHeld.below hb2) (fun hHeld => ?_)
      clear hK K
      refine wpAnyH_ready (rs := [7]) (by kernel_rfl) (by simp) (AllReadyH.cons (o := ⟨some 33, _, _, _, _, _⟩) rfl (fun K hK => ?_) AllReadyH.nil)
      refine step_of_wp rfl (wp_build_num _ _ rfl rfl rfl Hsl.out ?_)
      refine hK.out _ _ hHeld (fun hHeld => ?_)
      clear hK K
      simp only [Act.put, List.setIfInBounds_toArray, List.set_cons_zero, List.set_cons_succ]
      refine wpAnyH_ready (rs := [8]) (by kernel_rfl) (by simp) (AllReadyH.cons (o := ⟨none, _, _, _, _, _⟩) rfl (fun K hK => ?_) AllReadyH.nil)
      refine step_of_wp rfl (wp_store_row 82 _ _ rfl (k + 1 + 1) (nm m2 R) rfl rfl 82 zn13 H32 (nm_info Hsl.out) (by rw [nm_size, Hsl.out]; rfl) nm_one ?_)
      refine hK.out _ _ (hHeld.row (by omega) _) (fun hHeld => ?_)
      clear hK K
      refine wpAnyH_done (by kernel_rfl) ?_ _
      simp only [Act.put]
      go_wp2_with fail
      refine bodyPost_ret (v := .agg (nm m2 R)) (results_cell_row rfl _ _ (k + 1 + 1) 82 (nm m2 R) (0, 0) _ rfl (setRow_heap _ _ _ _ _ _ H32) Tryd.underlying82 rfl (nm_info Hsl.out)) rfl ⟨m2, R, rfl, ⟨Hsl.out, Hsd.out⟩, ?_, ?_⟩
      · have h1 := Hsum.out
        have h2 : m1 = !m2 := by cases m1 <;> cases m2 <;> simp_all
        subst h2
        unfold sgV; cases m2 <;> simp <;> omega
      · rw [← Hk.out]
        exact below_setRow hb3 (by omega) _
    · have hc : decide (cmpV (vD a) (vD b) < 0) = false := by unfold cmpV; rw [if_neg hlt]; split <;> rfl
      have hv := lessL_v a b 0 Hab.out HA.out.dgt HB.out.dgt (by omega) (by omega)
      have hsl := lessL_len a b 0 Hab.out
      have hcall := fun w => less_any a b w HA.out HB.out (by omega)
      generalize lessL a b 0 = R at *
      rw [HA.out.len] at hsl
      have Hsum := Lib.hid hv.1; have Hsl := Lib.hid hsl; have Hsd := Lib.hid hv.2; have Hcall := Lib.hid hcall
      clear hv hsl hcall hlt
      generalize cmpV (vD a) (vD b) = cv at *
      have kz := (Array.getElem?_eq_some_iff.1 G3.out).1
      go_upto_region 5 with (fail)
      refine wp_region_held_drew (S := Two k (.cells (nm m1 a) 82) (.cells (nm m2 b) 82)) (by kernel_rfl) ⟨G1.out, G2.out⟩ (fun hHeld => ?_)
      refine wpAnyH_take (i := 0) (oi := ⟨some 26, _, _, _, _, _⟩) (v := .pointer (some ⟨k, 0, none⟩)) rfl (by kernel_rfl) (by kernel_rfl) (by kernel_rfl) (fun _ _ _ h => h) (Or.inl ⟨by rfl, fun w _ => by go_simp⟩) hHeld ?_
      simp only [Act.put, List.setIfInBounds_toArray, List.set_cons_zero, List.set_cons_succ]
      refine wpAnyH_take (i := 1) (oi := ⟨some 27, _, _, _, _, _⟩) (v := .bool m1) rfl (by kernel_rfl) (by kernel_rfl) (by kernel_rfl) (fun _ _ _ h => h) (Or.inl ⟨by rfl, fun w h => by have h1 := nm_head h.1; go_simp⟩) hHeld ?_
      simp only [Act.put, List.setIfInBounds_toArray, List.set_cons_zero, List.set_cons_succ]
      refine wpAnyH_take (i := 2) (oi := ⟨some 28, _, _, _, _, _⟩) (v := .pointer (some ⟨k, 1, none⟩)) rfl (by kernel_rfl) (by kernel_rfl) (by kernel_rfl) (fun _ _ _ h => h) (Or.inl ⟨by rfl, fun w _ => by go_simp⟩) hHeld ?_
      simp only [Act.put, List.setIfInBounds_toArray, List.set_cons_zero, List.set_cons_succ]
      refine wpAnyH_take (i := 3) (oi := ⟨some 29, _, _, _, _, _⟩) (v := .agg (dg a)) rfl (by kernel_rfl) (by kernel_rfl) (by kernel_rfl) (fun _ _ _ h => h) (yieldsIf_load_mid (by rfl) _ _ rfl k 1 rfl _ _ (fun w h => nm_range h.1) Tryd.underlying80 rfl (dg_info HA.out.len)) hHeld ?_
      simp only [Act.put, List.setIfInBounds_toArray, List.set_cons_zero, List.set_cons_succ]
      refine wpAnyH_take (i := 4) (oi := ⟨some 30, _, _, _, _, _⟩) (v := .pointer (some ⟨k + 1, 1, none⟩)) rfl (by kernel_rfl) (by kernel_rfl) (by kernel_rfl) (fun _ _ _ h => h) (Or.inl ⟨by rfl, fun w _ => by go_simp⟩) hHeld ?_
      simp only [Act.put, List.setIfInBounds_toArray, List.set_cons_zero, List.set_cons_succ]
      refine wpAnyH_take (i := 5) (oi := ⟨some 31, _, _, _, _, _⟩) (v := .agg (dg b)) rfl (by kernel_rfl) (by kernel_rfl) (by kernel_rfl) (fun _ _ _ h => h) (yieldsIf_load_mid (by rfl) _ _ rfl (k + 1) 1 rfl _ _ (fun w h => nm_range h.2) Tryd.underlying80 rfl (dg_info HB.out.len)) hHeld ?_
      simp only [Act.put, List.setIfInBounds_toArray, List.set_cons_zero, List.set_cons_succ]
      refine wpAnyH_ready (rs := [6]) (by kernel_rfl) (by simp) (AllReadyH.cons (o := ⟨some 32, _, _, _, _, _⟩) rfl (fun K hK => ?_) AllReadyH.nil)
      go_simp
      refine (Hcall.out _).mono ?_
      rintro e w4 ⟨rfl, hb2⟩
      have H32 := (hb2.block (k + 1 + 1) (by simp; exact kz)).trans G3.out
      have hb3 := G4.out.trans ((Below.refl w2.heap.size w2).drew.trans hb2 |>.mono (by have := G4.out.size; have := Hk.out; omega))
      refine hK.out _ _ (hHeld.below hb2) (fun hHeld => ?_)
      clear hK K
      refine wpAnyH_ready (rs := [7]) (by kernel_rfl) (by simp) (AllReadyH.cons (o := ⟨some 33, _, _, _, _, _⟩) rfl (fun K hK => ?_) AllReadyH.nil)
      refine step_of_wp rfl (wp_build_num _ _ rfl rfl rfl Hsl.out ?_)
      refine hK.out _ _ hHeld (fun hHeld => ?_)
      clear hK K
      simp only [Act.put, List.setIfInBounds_toArray, List.set_cons_zero, List.set_cons_succ]
      refine wpAnyH_ready (rs := [8]) (by kernel_rfl) (by simp) (AllReadyH.cons (o := ⟨none, _, _, _, _, _⟩) rfl (fun K hK => ?_) AllReadyH.nil)
      refine step_of_wp rfl (wp_store_row 82 _ _ rfl (k + 1 + 1) (nm m1 R) rfl rfl 82 zn13 H32 (nm_info Hsl.out) (by rw [nm_size, Hsl.out]; rfl) nm_one ?_)
      refine hK.out _ _ (hHeld.row (by omega) _) (fun hHeld => ?_)
      clear hK K
      refine wpAnyH_done (by kernel_rfl) ?_ _
      simp only [Act.put]
      go_wp2_with fail
      refine bodyPost_ret (v := .agg (nm m1 R)) (results_cell_row rfl _ _ (k + 1 + 1) 82 (nm m1 R) (0, 0) _ rfl (setRow_heap _ _ _ _ _ _ H32) Tryd.underlying82 rfl (nm_info Hsl.out)) rfl ⟨m1, R, rfl, ⟨Hsl.out, Hsd.out⟩, ?_, ?_⟩
      · have h1 := Hsum.out
        have h2 : m1 = !m2 := by cases m1 <;> cases m2 <;> simp_all
        subst h2
        unfold sgV; cases m2 <;> simp <;> omega
      · rw [← Hk.out]
        exact below_setRow hb3 (by omega) _
end
section
open Go.RowKit
theorem alloc4 (w : World) (o0 o1 o2 o3 : Obj) : ∀ W, W = (((w.alloc o0).alloc o1).alloc o2).alloc o3 → W.heap[w.heap.size]? = some o0 ∧ W.heap[w.heap.size + 1]? = some o1 ∧ W.heap[w.heap.size + 1 + 1]? = some o2 ∧ W.heap[w.heap.size + 1 + 1 + 1]? = some o3 ∧ Below w.heap.size w W := by
  rintro W rfl
  exact ⟨heapO (heapO (heapO (heapN rfl _) _) _) _, heapO (heapO (heapN (by simp) _) _) _, heapO (heapN (by simp) _) _, heapN (by simp) _, ((((Below.refl _ _).alloc (Nat.le_refl _) _).alloc (by simp) _).alloc (by simp; omega) _).alloc (by simp; omega) _⟩
/-- The blocks of a product. -/
structure PrS (w : World) (k : Nat) (m1 m2 : Bool) (a b O : List Nat) (wr : World) : Prop where
  x : wr.heap[k]? = some (.cells (nm m1 a) 82 (0, 0))
  y : wr.heap[k + 1]? = some (.cells (nm m2 b) 82 (0, 0))
  z : wr.heap[k + 1 + 1]? = some (.cells zn13 82 (0, 0))
  o : wr.heap[k + 1 + 1 + 1]? = some (.cells (dg O) 80 (0, 0))
  b : Below k w wr
theorem PrS.step {w wr : World} {k : Nat} {m1 m2 : Bool} {a b O : List Nat} (h : PrS w k m1 m2 a b O wr) (n s v : Nat) (hs : s < O.length) : PrS w k m1 m2 a b (O.set s v) ((wr.drewN n).setCell ⟨k + 1 + 1 + 1, s, none⟩ (.int .i64 (v : Int))) :=
  ⟨(Below.heap_setCell _ _ _ _ (by simp; omega)).trans h.x, (Below.heap_setCell _ _ _ _ (by simp)).trans h.y, (Below.heap_setCell _ _ _ _ (by simp)).trans h.z, dg_store (w := wr.drewN n) h.o hs, (below_drewN h.b n).setCell (by simp; omega) _⟩
theorem nm_at {w : World} {k : Nat} {m : Bool} {l : List Nat} {t : TypeId} {i x : Nat} (h : w.heap[k]? = some (.cells (nm m l) t (0, 0))) (hi : l[i]? = some x) : w.cell? ⟨k, 1 + i, none⟩ = some (.int .i64 (x : Int)) := by
  rw [cell_of_row w k (1 + i) _ _ _ h]; simp [nm, Nat.add_comm 1 i, hi]
set_option maxRecDepth 100000 in
set_option maxHeartbeats 2000000 in
theorem rProduct_any (m1 m2 : Bool) (a b : List Nat) (w : World) (ha : Dg12 a) (hb : Dg12 b) (hp : vD a * vD b < 65536 ^ 12) :
    Calls Tryd.prog 76 #[.agg (nm m1 a), .agg (nm m2 b)] w (NumIs w (sgV m1 a * sgV m2 b)) := by
  have HA := Lib.hid ha; have HB := Lib.hid hb; have HP := Lib.hid hp
  clear ha hb hp
  go_enter Tryd.func76, Tryd.ntmps76
  go_upto_region 2 with (fail)
  obtain ⟨g1, g2, g3, g4, g5⟩ := alloc4 w (.cells (nm m1 a) 82) (.cells (nm m2 b) 82) (.cells zn13 82) (.cells zs12 80) _ rfl
  unfold zn13 at g1 g2 g3 g4 g5
  unfold zs12 at g1 g2 g3 g4 g5
  generalize (((w.alloc (.cells (nm m1 a) 82)).alloc (.cells (nm m2 b) 82)).alloc (.cells #[.bool false, .int .i64 0, .int .i64 0, .int .i64 0, .int .i64 0, .int .i64 0, .int .i64 0, .int .i64 0, .int .i64 0, .int .i64 0, .int .i64 0, .int .i64 0, .int .i64 0] 82)).alloc (.cells #[.int .i64 0, .int .i64 0, .int .i64 0, .int .i64 0, .int .i64 0, .int .i64 0, .int .i64 0, .int .i64 0, .int .i64 0, .int .i64 0, .int .i64 0, .int .i64 0] 80) = wq at *
  obtain ⟨k, hk⟩ : ∃ k, k = w.heap.size := ⟨_, rfl⟩
  rw [← hk] at g1 g2 g3 g4 ⊢
  rw [← hk] at g5
  have H0 : Hid (PrS w k m1 m2 a b [0, 0, 0, 0, 0, 0, 0, 0, 0, 0, 0, 0] wq) := Lib.hid ⟨g1, g2, g3, g4, g5⟩
  have Hk := Lib.hid hk
  clear g1 g2 g3 g4 g5 hk
  go_wp2_with fail
  go_loopw [6, 7, 8] (fun v6 _ _ wr => ∃ (i : Nat) (O : List Nat), v6 = .int .i64 (i : Int) ∧ Hid (i ≤ 12 ∧ O.length = 12 ∧ Dgt O ∧ vD O = vD (a.take i) * vD b ∧ PrS w k m1 m2 a b O wr)) (fun v6 _ _ _ => 12 - (intOf v6).toNat)
  case atStart => exact ⟨0, _, rfl, Lib.hid ⟨by omega, rfl, by unfold Dgt; decide, by simp [vD], H0.out⟩⟩
  case round =>
    obtain ⟨i, O, rfl, hh⟩ := hrel
    by_cases hlt : i < 12
    · obtain ⟨wo, rfl⟩ : ∃ wo : World, wo = wr := ⟨_, rfl⟩
      have hia : i < a.length := by rw [HA.out.len]; exact hlt
      have hax := List.getElem?_eq_getElem hia
      have hx := HA.out.dgt.at_ hia
      have hdone := fun O' j K h1 h2 => @MadS.done O b O' a i j K HA.out.len hlt h1 h2 hh.out.2.2.1 hh.out.2.1 HB.out.len hh.out.2.2.2.1 HP.out
      generalize a[i] = x at *
      have Hax := Lib.hid hax; have Hx := Lib.hid hx; have Hdone := Lib.hid hdone; have Hlt := Lib.hid hlt
      have hii : (i : Int) < 12 := by omega
      have hi0 : (0 : Int) ≤ (i : Int) := by omega
      clear hax hx hdone hlt hia
      go_upto_block 4 with (fail)
      go_loopw [7, 8] (fun v7 v8 wr => ∃ (j K : Nat) (O' : List Nat), v8 = .int .i64 (j : Int) ∧ v7 = .int .i64 (K : Int) ∧ Hid (MadS O b O' x i j K ∧ PrS w k m1 m2 a b O' wr)) (fun _ v8 _ => 12 - (intOf v8).toNat)
      case atStart => exact ⟨0, 0, O, rfl, rfl, Lib.hid ⟨MadS.start hh.out.2.1 hh.out.1, hh.out.2.2.2.2⟩⟩
      case round =>
        obtain ⟨j, K, O', rfl, rfl, hr⟩ := hrel
        obtain ⟨s, hs⟩ : ∃ s : Nat, s = i + j := ⟨_, rfl⟩
        have hs2 : (i : Int) + (j : Int) = (s : Int) := by omega
        have ws : IntKind.i64.wrap ((i : Int) + (j : Int)) = (s : Int) := by have := hr.out.1.le; rw [IntKind.wrap_i64]; omega
        have ws2 : wrap64 ((i : Int) + (j : Int)) = (s : Int) := by have := hr.out.1.le; unfold wrap64; omega
        have hj0 : (0 : Int) ≤ (j : Int) := by omega
        have hj12 : (j : Int) ≤ 12 := by have := hr.out.1.le; omega
        by_cases hlt : s < 12
        · obtain ⟨o, y, p, v, e1, e2, ho, hy, hp, hp2, hv, hv2, hS⟩ := hr.out.1.step hh.out.2.2.1 hh.out.2.1 HB.out.dgt HB.out.len Hx.out (by omega)
          rw [← hs] at e1 hS
          obtain ⟨u, hu⟩ : ∃ u : Nat, u = K + o := ⟨_, rfl⟩
          have hk := hr.out.1.k
          have c1 := dg_cell? hr.out.2.o e1
          have c2 := nm_at hr.out.2.x Hax.out
          have c3 := nm_at hr.out.2.y e2
          have f1 := frozen_of_row wr (k + 1 + 1 + 1) s _ _ hr.out.2.o
          have q1 : IntKind.i64.wrap ((K : Int) + (o : Int)) = (u : Int) := by rw [IntKind.wrap_i64]; omega
          have q2 : IntKind.i64.wrap ((x : Int) * (y : Int)) = (p : Int) := by rw [← Int.natCast_mul, ← hp, IntKind.wrap_i64]; omega
          have q3 : IntKind.i64.wrap ((u : Int) + (p : Int)) = (v : Int) := by rw [IntKind.wrap_i64]; omega
          have v0 : (0 : Int) ≤ (v : Int) := by omega
          have v1 : (v : Int) ≤ 4294967295 := by omega
          have s0 : (0 : Int) ≤ (s : Int) := by omega
          have s1 : (s : Int) < 12 := by omega
          have HS := Lib.hid hS; have Hs := Lib.hid hs; have Hlt2 := Lib.hid hlt
          have m1' : (v : Int) % 65536 = ((v % 65536 : Nat) : Int) := by omega
          have m2' : (v : Int) / 65536 = ((v / 65536 : Nat) : Int) := by omega
          have Hm1 := Lib.hid m1'; have Hm2 := Lib.hid m2'
          clear e1 e2 ho hy hp hp2 hv hv2 hS hs hu hk hlt m1' m2'
          go_wp2_with fail
          go_quiet (fail)
          go_wp2_with fail
          go_roundw
          case rel =>
            refine ⟨j + 1, v / 65536, _, by go_num, by rw [Hm2.out], Lib.hid ⟨HS.out, ?_⟩⟩
            rw [Hm1.out]
            exact hr.out.2.step nq s (v % 65536) (by have := hr.out.1.len; have := Hlt2.out; omega)
          case measure => have := Hs.out; have := Hlt2.out; simp [intOf]; omega
        · have hij : i + j = 12 := by have := hr.out.1.le; omega
          have hd := Hdone.out O' j K hr.out.1 hij
          have Hd := Lib.hid hd
          have hs12 : s = 12 := by omega
          subst hs12
          clear hd hij hs hlt
          go_wp2_with fail
          go_roundw
          case rel => exact ⟨i + 1, O', by go_num, Lib.hid ⟨Hlt.out, Hd.out.1, Hd.out.2.1, Hd.out.2.2, hr.out.2⟩⟩
          case measure => have := Hlt.out; simp [intOf]; omega
    · obtain rfl : i = 12 := by have := hh.out.1; omega
      have h12 : O.length = 12 := hh.out.2.1
      have hv : vD O = vD a * vD b := by have := hh.out.2.2.2.1; rwa [List.take_of_length_le (by rw [HA.out.len]; omega)] at this
      have H12 := Lib.hid h12; have Hv := Lib.hid hv
      have hS := hh.out.2.2.2.2
      have c1 := nm_head hS.x; have c2 := nm_head hS.y
      have HS := Lib.hid hS
      clear h12 hv hlt hS
      have hio : (Tryd.prog.info? 80).map (·.size) = some (dg O).size := by rw [dg_size, H12.out]; kernel_rfl
      have Hio := Lib.hid hio
      clear hio
      go_wp2_with (first | (refine wpList_load_row rfl 80 _ rfl (k + 1 + 1 + 1) rfl 80 (dg O) (0, 0) _ HS.out.o Tryd.underlying80 rfl Hio.out ?_) | (refine wpList_build_num rfl _ _ rfl rfl rfl H12.out ?_) | (refine wpList_store_row rfl 82 _ _ rfl (k + 1 + 1) (nm (m1 != m2) O) rfl rfl 82 zn13 HS.out.z (nm_info H12.out) (by rw [nm_size, H12.out]; rfl) nm_one ?_))
      refine bodyPost_ret (v := .agg (nm (m1 != m2) O)) (results_cell_row rfl _ _ (k + 1 + 1) 82 (nm (m1 != m2) O) (0, 0) _ rfl (setRow_heap _ _ _ _ _ _ HS.out.z) Tryd.underlying82 rfl (nm_info H12.out)) rfl ⟨m1 != m2, O, rfl, ⟨H12.out, hh.out.2.2.1⟩, ?_, ?_⟩
      · unfold sgV
        rw [Hv.out]
        cases m1 <;> cases m2 <;> simp [Int.neg_mul, Int.mul_neg]
      · rw [← Hk.out]
        exact below_setRow HS.out.b (by omega) _
end
end Go.Proofs.YthhmahmclkmjpaaDoor
