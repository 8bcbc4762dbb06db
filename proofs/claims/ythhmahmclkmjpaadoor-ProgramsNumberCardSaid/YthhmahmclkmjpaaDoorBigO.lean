/- Proved: the functions Nearest and Near of gouacheref01; for divisors from 1 on. -/
import Derived.Test.YthhmahmclkmjpaaDoorBigN
namespace Go.Proofs.YthhmahmclkmjpaaDoor
section
open Go.RowKit
theorem nm_range0 {w : World} {k : Nat} {m : Bool} {l : List Nat} {t : TypeId} (h : w.heap[k]? = some (.cells (nm m l) t (0, 0))) : w.rangeAt k 0 (Value.bool m :: l.map fun d : Nat => Value.int .i64 (d : Int)) := by
  intro j v hv
  rw [cell_of_row w k (0 + j) _ _ _ h, Nat.zero_add]
  simpa [nm] using hv
theorem num_info0 {m : Bool} {l : List Nat} (h : l.length = 12) : (Tryd.prog.info? 82).map (·.size) = some (Value.bool m :: l.map fun d : Nat => Value.int .i64 (d : Int)).length := by rw [List.length_cons, List.length_map, h]; kernel_rfl
theorem near_val {x d : Int} {U Q R : Nat} (hd : 0 < d) (hU : U = (2 * x + d).natAbs) (hQ : Q = U / (2 * d).natAbs) (hR : R = U % (2 * d).natAbs) :
    (0 ≤ 2 * x + d → (Q : Int) = (2 * x + d) / (2 * d)) ∧ (2 * x + d < 0 → (R = 0 → -(Q : Int) = (2 * x + d) / (2 * d)) ∧ (R ≠ 0 → -((Q + 1 : Nat) : Int) = (2 * x + d) / (2 * d))) := by
  obtain ⟨D, hD⟩ : ∃ D : Nat, (D : Int) = 2 * d := ⟨(2 * d).toNat, by omega⟩
  have hDn : (2 * d).natAbs = D := by omega
  rw [← hD]
  rw [hDn] at hQ hR
  have hD0 : 0 < D := by omega
  have hdm : D * Q + R = U := by rw [hQ, hR]; exact Nat.div_add_mod U D
  have hRl : R < D := by rw [hR]; exact Nat.mod_lt _ hD0
  generalize 2 * x + d = y at *
  constructor
  · intro hy
    have : y = (U : Int) := by omega
    rw [this, hQ]; rfl
  · intro hy
    have hyU : y = -(U : Int) := by omega
    have hUz : (U : Int) = (D : Int) * (Q : Int) + (R : Int) := by rw [← hdm]; push_cast; rfl
    constructor
    · intro h0
      have : y = (D : Int) * (-(Q : Int)) := by rw [hyU, hUz, h0]; simp [Int.mul_neg]
      rw [this, Int.mul_ediv_cancel_left _ (by omega)]
    · intro h0
      have : y = ((D : Int) - R) + (D : Int) * (-((Q + 1 : Nat) : Int)) := by
        rw [hyU, hUz]; push_cast; rw [Int.mul_neg, Int.mul_add]; omega
      rw [this, Int.add_mul_ediv_left _ _ (by omega), Int.ediv_eq_zero_of_lt (by omega) (by omega)]; omega
/-- Three blocks, one behind the other. -/
def Tri (k : Nat) (x y z : Obj) (w : World) : Prop := w.heap[k]? = some x ∧ w.heap[k + 1]? = some y ∧ w.heap[k + 1 + 1]? = some z
section
variable {k : Nat} {x y z : Obj} {w : World}
theorem Tri.lt (h : Tri k x y z w) : k + 1 + 1 < w.heap.size := (Array.getElem?_eq_some_iff.1 h.2.2).1
theorem Tri.below {w' : World} (h : Tri k x y z w) (hb : Below w.heap.size w w') : Tri k x y z w' := by
  have hz := h.lt
  exact ⟨(hb.block k (by omega)).trans h.1, (hb.block (k + 1) (by omega)).trans h.2.1, (hb.block (k + 1 + 1) hz).trans h.2.2⟩
theorem Tri.row {g : Nat} (h : Tri k x y z w) (hg : k + 1 + 1 < g) (cs : Array Value) : Tri k x y z (w.setRow g cs) :=
  ⟨(setRow_other w g k cs (by omega)).trans h.1, (setRow_other w g (k + 1) cs (by omega)).trans h.2.1, (setRow_other w g (k + 1 + 1) cs (by omega)).trans h.2.2⟩
theorem Tri.more {w0 w' : World} (h : Tri k x y z w) (hb : Below k w0 w) (hb' : Below w.heap.size w w') : Below k w0 w' := hb.trans (hb'.mono (by have := h.lt; omega))
end
theorem Tri.fresh {k g : Nat} {o : Obj} {w w' : World} (h : k + 1 + 1 < g ∧ w.heap[g]? = some o) (hb : Below w.heap.size w w') : k + 1 + 1 < g ∧ w'.heap[g]? = some o := ⟨h.1, (hb.block g (Array.getElem?_eq_some_iff.1 h.2).1).trans h.2⟩
theorem sgV_abs {m m' : Bool} {D a : List Nat} (h : sgV m D = sgV m' a + sgV m' a) : vD D = vD a + vD a := by
  cases m <;> cases m' <;> simp [sgV] at h <;> omega
/-- Three blocks: one above, two below. -/
def Trg (k g : Nat) (x y z : Obj) (w : World) : Prop := k + 1 + 1 < g ∧ w.heap[g]? = some x ∧ w.heap[k + 1]? = some y ∧ w.heap[k + 1 + 1]? = some z
section
variable {k g : Nat} {x y z : Obj} {w : World}
theorem Trg.lt (h : Trg k g x y z w) : g < w.heap.size := (Array.getElem?_eq_some_iff.1 h.2.1).1
theorem Trg.below {w' : World} (h : Trg k g x y z w) (hb : Below w.heap.size w w') : Trg k g x y z w' := by
  have hz := h.lt
  have h1 := h.1
  exact ⟨h1, (hb.block g hz).trans h.2.1, (hb.block (k + 1) (by omega)).trans h.2.2.1, (hb.block (k + 1 + 1) (by omega)).trans h.2.2.2⟩
theorem Trg.row {p : Nat} (h : Trg k g x y z w) (hg : g < p) (cs : Array Value) : Trg k g x y z (w.setRow p cs) := by
  have h1 := h.1
  exact ⟨h1, (setRow_other w p g cs (by omega)).trans h.2.1, (setRow_other w p (k + 1) cs (by omega)).trans h.2.2.1, (setRow_other w p (k + 1 + 1) cs (by omega)).trans h.2.2.2⟩
theorem Trg.more {w0 w' : World} (h : Trg k g x y z w) (hb : Below k w0 w) (hb' : Below w.heap.size w w') : Below k w0 w' := hb.trans (hb'.mono (by have := h.lt; have := h.1; omega))
end
theorem Trg.fresh {g p : Nat} {o : Obj} {w w' : World} (h : g < p ∧ w.heap[p]? = some o) (hb : Below w.heap.size w w') : g < p ∧ w'.heap[p]? = some o := ⟨h.1, (hb.block p (Array.getElem?_eq_some_iff.1 h.2).1).trans h.2⟩
theorem oneL_12 : Dg12 [1, 0, 0, 0, 0, 0, 0, 0, 0, 0, 0, 0] := ⟨rfl, by unfold Dgt; decide⟩
theorem oneL_v : vD [1, 0, 0, 0, 0, 0, 0, 0, 0, 0, 0, 0] = 1 := by decide +kernel
set_option maxRecDepth 100000 in
set_option maxHeartbeats 4000000 in
theorem rNearest_any (ma : Bool) (a b : List Nat) (w : World) (ha : Dg12 a) (hb : Dg12 b) (hav : vD a ≤ 170141183460469231731687303715884105728) (hb0 : 0 < vD b) (hbv : vD b ≤ 9223372036854775808) :
    Calls Tryd.prog 47 #[.agg (nm ma a), .agg (nm false b)] w (NumIs w ((2 * sgV ma a + vD b) / (2 * vD b))) := by
  have HA := Lib.hid ha; have HB := Lib.hid hb; have HAv := Lib.hid hav; have HB0 := Lib.hid hb0; have HBv := Lib.hid hbv
  have Hs1 : Hid (vD a + vD a < 65536 ^ 12) := Lib.hid (Nat.lt_of_le_of_lt (Nat.add_le_add hav hav) (by decide +kernel))
  have hbb : vD b + vD b < 65536 ^ b.length := by rw [hb.len]; exact Nat.lt_of_le_of_lt (Nat.add_le_add hbv hbv) (by decide +kernel)
  have hs := plusL_sum rfl hbb
  have hl := plusL_len b b 0 rfl
  have hd := plusL_dgt b b 0
  have hc := fun w => plus_any b b w hb hb
  generalize plusL b b 0 = B2 at *
  rw [hb.len] at hl
  have HB2 := Lib.hid (⟨hl, hd⟩ : Dg12 B2); have HB2v := Lib.hid hs; have HcB := Lib.hid hc
  clear ha hb hav hb0 hbv hbb hs hl hd hc
  go_enter Tryd.func47, Tryd.ntmps47
  go_upto_region 1 with (fail)
  obtain ⟨g1, g2, g3, g4⟩ := alloc3 w (.cells (nm ma a) 82) (.cells (nm false b) 82) (.cells zn13 82) _ rfl
  unfold zn13 at g1 g2 g3 g4
  generalize ((w.alloc (.cells (nm ma a) 82)).alloc (.cells (nm false b) 82)).alloc (.cells #[.bool false, .int .i64 0, .int .i64 0, .int .i64 0, .int .i64 0, .int .i64 0, .int .i64 0, .int .i64 0, .int .i64 0, .int .i64 0, .int .i64 0, .int .i64 0, .int .i64 0] 82) = wq at *
  obtain ⟨k, hk⟩ : ∃ k, k = w.heap.size := ⟨_, rfl⟩
  rw [← hk] at g1 g2 g3 ⊢
  rw [← hk] at g4
  have c0 := nm_head g2
  have G1 := Lib.hid g1; have G2 := Lib.hid g2; have G3 := Lib.hid g3; have G4 := Lib.hid g4; have Hk := Lib.hid hk
  clear g1 g2 g3 g4 hk
  go_upto_region 4 with (fail)
  clear c0
  go_cut [5] from 14 to 18 (fun v5 wc => ∃ (g : Nat) (m : Bool) (D : List Nat), v5 = .pointer (some ⟨g, 0, none⟩) ∧ Hid (k + 1 + 1 < g ∧ wc.heap[g]? = some (.cells (nm m D) 82 (0, 0)) ∧ Dg12 D ∧ sgV m D = 2 * sgV ma a + vD b ∧ Below k w wc ∧ wc.heap[k + 1]? = some (.cells (nm false b) 82 (0, 0)) ∧ wc.heap[k + 1 + 1]? = some (.cells zn13 82 (0, 0))))
  case first =>
    refine wp_region_held_drew (S := Tri k (.cells (nm ma a) 82) (.cells (nm false b) 82) (.cells zn13 82)) (by kernel_rfl) ⟨G1.out, G2.out, G3.out⟩ (fun hHeld => ?_)
    refine wpAnyH_take (i := 0) (oi := ⟨some 14, _, _, _, _, _⟩) (v := .agg (nm ma a)) rfl (by kernel_rfl) (by kernel_rfl) (by kernel_rfl) (fun _ _ _ h => h) (yieldsIf_load_mid (by rfl) _ _ rfl k 0 rfl (Value.bool ma :: a.map fun d : Nat => Value.int .i64 (d : Int)) _ (fun w h => nm_range0 h.1) Tryd.underlying82 rfl (num_info0 HA.out.len)) hHeld ?_
    simp only [Act.put, List.setIfInBounds_toArray, List.set_cons_zero, List.set_cons_succ]
    refine wpAnyH_take (i := 1) (oi := ⟨some 15, _, _, _, _, _⟩) (v := .agg (nm ma a)) rfl (by kernel_rfl) (by kernel_rfl) (by kernel_rfl) (fun _ _ _ h => h) (yieldsIf_load_mid (by rfl) _ _ rfl k 0 rfl (Value.bool ma :: a.map fun d : Nat => Value.int .i64 (d : Int)) _ (fun w h => nm_range0 h.1) Tryd.underlying82 rfl (num_info0 HA.out.len)) hHeld ?_
    simp only [Act.put, List.setIfInBounds_toArray, List.set_cons_zero, List.set_cons_succ]
    refine wpAnyH_take (i := 3) (oi := ⟨some 17, _, _, _, _, _⟩) (v := .agg (nm false b)) rfl (by kernel_rfl) (by kernel_rfl) (by kernel_rfl) (fun _ _ _ h => h) (yieldsIf_load_mid (by rfl) _ _ rfl (k + 1) 0 rfl (Value.bool false :: b.map fun d : Nat => Value.int .i64 (d : Int)) _ (fun w h => nm_range0 h.2.1) Tryd.underlying82 rfl (num_info0 HB.out.len)) hHeld ?_
    simp only [Act.put, List.setIfInBounds_toArray, List.set_cons_zero, List.set_cons_succ]
    have hbw : Below k w wq.drew := G4.out.drew
    generalize wq.drew = u0 at *
    refine wpAnyH_ready (rs := [2, 5]) (by kernel_rfl) (by simp) (AllReadyH.cons (o := ⟨some 16, _, _, _, _, _⟩) rfl (fun K hK => ?_) (AllReadyH.cons (o := ⟨some 5, _, _, _, _, _⟩) rfl (fun K hK => ?_) AllReadyH.nil))
    · go_simp
      refine (rSum_any ma ma a a u0 HA.out HA.out Hs1.out).mono ?_
      rintro e u1 ⟨m1, D1, rfl, hD1, hv1, hb⟩
      have hn1 : vD D1 ≤ 340282366920938463463374607431768211456 := by have := HAv.out; have h := sgV_abs hv1; omega
      have hbw := Tri.more hHeld hbw hb
      have hHeld2 := hHeld.below hb
      clear hb hHeld
      refine hK.out _ _ hHeld2 (fun hHeld => ?_)
      clear hHeld2
      clear hK K
      try simp only [Act.put, List.setIfInBounds_toArray, List.set_cons_zero, List.set_cons_succ]
      refine wpAnyH_ready (rs := [4, 5]) (by kernel_rfl) (by simp) (AllReadyH.cons (o := ⟨some 18, _, _, _, _, _⟩) rfl (fun K hK => ?_) (AllReadyH.cons (o := ⟨some 5, _, _, _, _, _⟩) rfl (fun K hK => ?_) AllReadyH.nil))
      · go_simp
        refine (rSum_any m1 false D1 b u1 hD1 HB.out (Nat.lt_of_le_of_lt (Nat.add_le_add hn1 HBv.out) (by decide +kernel))).mono ?_
        rintro e u2 ⟨m, D, rfl, hD, hDv, hb⟩
        have hbw := Tri.more hHeld hbw hb
        have hHeld2 := hHeld.below hb
        clear hb hHeld
        refine hK.out _ _ hHeld2 (fun hHeld => ?_)
        clear hHeld2
        clear hK K
        try simp only [Act.put, List.setIfInBounds_toArray, List.set_cons_zero, List.set_cons_succ]
        refine wpAnyH_ready (rs := [5]) (by kernel_rfl) (by simp) (AllReadyH.cons (o := ⟨some 5, _, _, _, _, _⟩) rfl (fun K hK => ?_) AllReadyH.nil)
        go_simp
        have hb := (Below.refl u2.heap.size u2).alloc (Nat.le_refl _) (.cells #[.bool false, .int .i64 0, .int .i64 0, .int .i64 0, .int .i64 0, .int .i64 0, .int .i64 0, .int .i64 0, .int .i64 0, .int .i64 0, .int .i64 0, .int .i64 0, .int .i64 0] 82)
        obtain ⟨g3, hg⟩ : ∃ g, g = u2.heap.size := ⟨_, rfl⟩
        have hg3 : k + 1 + 1 < g3 ∧ (u2.alloc (.cells #[.bool false, .int .i64 0, .int .i64 0, .int .i64 0, .int .i64 0, .int .i64 0, .int .i64 0, .int .i64 0, .int .i64 0, .int .i64 0, .int .i64 0, .int .i64 0, .int .i64 0] 82)).heap[g3]? = some (.cells #[.bool false, .int .i64 0, .int .i64 0, .int .i64 0, .int .i64 0, .int .i64 0, .int .i64 0, .int .i64 0, .int .i64 0, .int .i64 0, .int .i64 0, .int .i64 0, .int .i64 0] 82) := ⟨by rw [hg]; exact hHeld.lt, heapN hg _⟩
        rw [← hg]
        have hbw := Tri.more hHeld hbw hb
        have hHeld2 := hHeld.below hb
        clear hb hHeld hg
        refine hK.out _ _ hHeld2 (fun hHeld => ?_)
        clear hHeld2
        generalize u2.alloc (.cells #[.bool false, .int .i64 0, .int .i64 0, .int .i64 0, .int .i64 0, .int .i64 0, .int .i64 0, .int .i64 0, .int .i64 0, .int .i64 0, .int .i64 0, .int .i64 0, .int .i64 0] 82) = u3 at *
        clear hK K
        try simp only [Act.put, List.setIfInBounds_toArray, List.set_cons_zero, List.set_cons_succ]
        refine wpAnyH_ready (rs := [6]) (by kernel_rfl) (by simp) (AllReadyH.cons (o := ⟨none, _, _, _, _, _⟩) rfl (fun K hK => ?_) AllReadyH.nil)
        refine step_of_wp rfl (wp_store_row 82 _ _ rfl g3 (nm m D) rfl rfl 82 zn13 hg3.2 (nm_info hD.len) (by rw [nm_size, hD.len]; rfl) nm_one ?_)
        have hq := setRow_heap _ _ _ (nm m D) _ _ hg3.2
        have hbz := below_setRow hbw (g := g3) (by omega) (nm m D)
        have hT := hHeld.row hg3.1 (nm m D)
        refine hK.out _ _ hT (fun hHeld => ?_)
        clear hK K
        refine wpAnyH_done (by kernel_rfl) ?_ _
        simp only [Act.put]
        go_wp2_with fail
        go_meet
        case rel => exact ⟨g3, m, D, rfl, Lib.hid ⟨hg3.1, hq, hD, by rw [hDv, hv1]; simp [sgV]; omega, hbz, hT.2.1, hT.2.2⟩⟩
      · go_simp
        have hb := (Below.refl u1.heap.size u1).alloc (Nat.le_refl _) (.cells #[.bool false, .int .i64 0, .int .i64 0, .int .i64 0, .int .i64 0, .int .i64 0, .int .i64 0, .int .i64 0, .int .i64 0, .int .i64 0, .int .i64 0, .int .i64 0, .int .i64 0] 82)
        obtain ⟨g4, hg⟩ : ∃ g, g = u1.heap.size := ⟨_, rfl⟩
        have hg4 : k + 1 + 1 < g4 ∧ (u1.alloc (.cells #[.bool false, .int .i64 0, .int .i64 0, .int .i64 0, .int .i64 0, .int .i64 0, .int .i64 0, .int .i64 0, .int .i64 0, .int .i64 0, .int .i64 0, .int .i64 0, .int .i64 0] 82)).heap[g4]? = some (.cells #[.bool false, .int .i64 0, .int .i64 0, .int .i64 0, .int .i64 0, .int .i64 0, .int .i64 0, .int .i64 0, .int .i64 0, .int .i64 0, .int .i64 0, .int .i64 0, .int .i64 0] 82) := ⟨by rw [hg]; exact hHeld.lt, heapN hg _⟩
        rw [← hg]
        have hbw := Tri.more hHeld hbw hb
        have hHeld2 := hHeld.below hb
        clear hb hHeld hg
        refine hK.out _ _ hHeld2 (fun hHeld => ?_)
        clear hHeld2
        generalize u1.alloc (.cells #[.bool false, .int .i64 0, .int .i64 0, .int .i64 0, .int .i64 0, .int .i64 0, .int .i64 0, .int .i64 0, .int .i64 0, .int .i64 0, .int .i64 0, .int .i64 0, .int .i64 0] 82) = u4 at *
        clear hK K
        try simp only [Act.put, List.setIfInBounds_toArray, List.set_cons_zero, List.set_cons_succ]
        refine wpAnyH_ready (rs := [4]) (by kernel_rfl) (by simp) (AllReadyH.cons (o := ⟨some 18, _, _, _, _, _⟩) rfl (fun K hK => ?_) AllReadyH.nil)
        go_simp
        refine (rSum_any m1 false D1 b u4 hD1 HB.out (Nat.lt_of_le_of_lt (Nat.add_le_add hn1 HBv.out) (by decide +kernel))).mono ?_
        rintro e u5 ⟨m, D, rfl, hD, hDv, hb⟩
        have hbw := Tri.more hHeld hbw hb
        have hg4 := Tri.fresh hg4 hb
        have hHeld2 := hHeld.below hb
        clear hb hHeld
        refine hK.out _ _ hHeld2 (fun hHeld => ?_)
        clear hHeld2
        clear hK K
        try simp only [Act.put, List.setIfInBounds_toArray, List.set_cons_zero, List.set_cons_succ]
        refine wpAnyH_ready (rs := [6]) (by kernel_rfl) (by simp) (AllReadyH.cons (o := ⟨none, _, _, _, _, _⟩) rfl (fun K hK => ?_) AllReadyH.nil)
        refine step_of_wp rfl (wp_store_row 82 _ _ rfl g4 (nm m D) rfl rfl 82 zn13 hg4.2 (nm_info hD.len) (by rw [nm_size, hD.len]; rfl) nm_one ?_)
        have hq := setRow_heap _ _ _ (nm m D) _ _ hg4.2
        have hbz := below_setRow hbw (g := g4) (by omega) (nm m D)
        have hT := hHeld.row hg4.1 (nm m D)
        refine hK.out _ _ hT (fun hHeld => ?_)
        clear hK K
        refine wpAnyH_done (by kernel_rfl) ?_ _
        simp only [Act.put]
        go_wp2_with fail
        go_meet
        case rel => exact ⟨g4, m, D, rfl, Lib.hid ⟨hg4.1, hq, hD, by rw [hDv, hv1]; simp [sgV]; omega, hbz, hT.2.1, hT.2.2⟩⟩
    · go_simp
      have hb := (Below.refl u0.heap.size u0).alloc (Nat.le_refl _) (.cells #[.bool false, .int .i64 0, .int .i64 0, .int .i64 0, .int .i64 0, .int .i64 0, .int .i64 0, .int .i64 0, .int .i64 0, .int .i64 0, .int .i64 0, .int .i64 0, .int .i64 0] 82)
      obtain ⟨g6, hg⟩ : ∃ g, g = u0.heap.size := ⟨_, rfl⟩
      have hg6 : k + 1 + 1 < g6 ∧ (u0.alloc (.cells #[.bool false, .int .i64 0, .int .i64 0, .int .i64 0, .int .i64 0, .int .i64 0, .int .i64 0, .int .i64 0, .int .i64 0, .int .i64 0, .int .i64 0, .int .i64 0, .int .i64 0] 82)).heap[g6]? = some (.cells #[.bool false, .int .i64 0, .int .i64 0, .int .i64 0, .int .i64 0, .int .i64 0, .int .i64 0, .int .i64 0, .int .i64 0, .int .i64 0, .int .i64 0, .int .i64 0, .int .i64 0] 82) := ⟨by rw [hg]; exact hHeld.lt, heapN hg _⟩
      rw [← hg]
      have hbw := Tri.more hHeld hbw hb
      have hHeld2 := hHeld.below hb
      clear hb hHeld hg
      refine hK.out _ _ hHeld2 (fun hHeld => ?_)
      clear hHeld2
      generalize u0.alloc (.cells #[.bool false, .int .i64 0, .int .i64 0, .int .i64 0, .int .i64 0, .int .i64 0, .int .i64 0, .int .i64 0, .int .i64 0, .int .i64 0, .int .i64 0, .int .i64 0, .int .i64 0] 82) = u6 at *
      clear hK K
      try simp only [Act.put, List.setIfInBounds_toArray, List.set_cons_zero, List.set_cons_succ]
      refine wpAnyH_ready (rs := [2]) (by kernel_rfl) (by simp) (AllReadyH.cons (o := ⟨some 16, _, _, _, _, _⟩) rfl (fun K hK => ?_) AllReadyH.nil)
      go_simp
      refine (rSum_any ma ma a a u6 HA.out HA.out Hs1.out).mono ?_
      rintro e u7 ⟨m1, D1, rfl, hD1, hv1, hb⟩
      have hn1 : vD D1 ≤ 340282366920938463463374607431768211456 := by have := HAv.out; have h := sgV_abs hv1; omega
      have hbw := Tri.more hHeld hbw hb
      have hg6 := Tri.fresh hg6 hb
      have hHeld2 := hHeld.below hb
      clear hb hHeld
      refine hK.out _ _ hHeld2 (fun hHeld => ?_)
      clear hHeld2
      clear hK K
      try simp only [Act.put, List.setIfInBounds_toArray, List.set_cons_zero, List.set_cons_succ]
      refine wpAnyH_ready (rs := [4]) (by kernel_rfl) (by simp) (AllReadyH.cons (o := ⟨some 18, _, _, _, _, _⟩) rfl (fun K hK => ?_) AllReadyH.nil)
      go_simp
      refine (rSum_any m1 false D1 b u7 hD1 HB.out (Nat.lt_of_le_of_lt (Nat.add_le_add hn1 HBv.out) (by decide +kernel))).mono ?_
      rintro e u8 ⟨m, D, rfl, hD, hDv, hb⟩
      have hbw := Tri.more hHeld hbw hb
      have hg6 := Tri.fresh hg6 hb
      have hHeld2 := hHeld.below hb
      clear hb hHeld
      refine hK.out _ _ hHeld2 (fun hHeld => ?_)
      clear hHeld2
      clear hK K
      try simp only [Act.put, List.setIfInBounds_toArray, List.set_cons_zero, List.set_cons_succ]
      refine wpAnyH_ready (rs := [6]) (by kernel_rfl) (by simp) (AllReadyH.cons (o := ⟨none, _, _, _, _, _⟩) rfl (fun K hK => ?_) AllReadyH.nil)
      refine step_of_wp rfl (wp_store_row 82 _ _ rfl g6 (nm m D) rfl rfl 82 zn13 hg6.2 (nm_info hD.len) (by rw [nm_size, hD.len]; rfl) nm_one ?_)
      have hq := setRow_heap _ _ _ (nm m D) _ _ hg6.2
      have hbz := below_setRow hbw (g := g6) (by omega) (nm m D)
      have hT := hHeld.row hg6.1 (nm m D)
      refine hK.out _ _ hT (fun hHeld => ?_)
      clear hK K
      refine wpAnyH_done (by kernel_rfl) ?_ _
      simp only [Act.put]
      go_wp2_with fail
      go_meet
      case rel => exact ⟨g6, m, D, rfl, Lib.hid ⟨hg6.1, hq, hD, by rw [hDv, hv1]; simp [sgV]; omega, hbz, hT.2.1, hT.2.2⟩⟩
  case rest =>
    obtain ⟨g, m, D, rfl, hg⟩ := hcut
    have HD := Lib.hid hg.out.2.2.1
    have HDv := Lib.hid hg.out.2.2.2.1
    have hb2pos : 0 < vD B2 := by rw [HB2v.out]; have := HB0.out; omega
    have hDab : vD D = (2 * sgV ma a + vD b).natAbs := by rw [← HDv.out]; cases m <;> simp [sgV]
    have hDlt : vD D < 2 ^ 190 := by
      have h1 := HAv.out; have h2 := HBv.out
      refine Nat.lt_of_le_of_lt (m := 680564733841876926926749214863536422912) ?_ (by decide +kernel)
      rw [hDab]
      cases ma <;> simp [sgV] <;> omega
    have Hdv := Lib.hid (fun w => rDivided_any D B2 w HD.out HB2.out hb2pos (Nat.lt_of_le_of_lt (m := 18446744073709551616) (by rw [HB2v.out]; have := HBv.out; omega) (by decide +kernel)) hDlt)
    have HDab := Lib.hid hDab
    clear hb2pos hDab hDlt
    go_upto_region 5 with (fail)
    go_cut [6, 7] from 19 to 29 (fun v6 v7 wd => ∃ (p q : Nat) (Q R : List Nat), v6 = .pointer (some ⟨p, 0, none⟩) ∧ v7 = .pointer (some ⟨q, 0, none⟩) ∧ Hid (p ≠ q ∧ g < p ∧ g < q ∧ wd.heap[p]? = some (.cells (dg Q) 80 (0, 0)) ∧ wd.heap[q]? = some (.cells (dg R) 80 (0, 0)) ∧ Dg12 Q ∧ Dg12 R ∧ vD Q = vD D / vD B2 ∧ vD R = vD D % vD B2 ∧ Below k w wd ∧ Trg k g (.cells (nm m D) 82) (.cells (nm false b) 82) (.cells zn13 82) wd))
    case first =>
      refine wp_region_held_drew (S := Trg k g (.cells (nm m D) 82) (.cells (nm false b) 82) (.cells zn13 82)) (by kernel_rfl) ⟨hg.out.1, hg.out.2.1, hg.out.2.2.2.2.2.1, hg.out.2.2.2.2.2.2⟩ (fun hHeld => ?_)
      refine wpAnyH_take (i := 0) (oi := ⟨some 20, _, _, _, _, _⟩) (v := .pointer (some ⟨g, 1, none⟩)) rfl (by kernel_rfl) (by kernel_rfl) (by kernel_rfl) (fun _ _ _ h => h) (Or.inl ⟨by rfl, fun w _ => by go_simp⟩) hHeld ?_
      simp only [Act.put, List.setIfInBounds_toArray, List.set_cons_zero, List.set_cons_succ]
      refine wpAnyH_take (i := 1) (oi := ⟨some 21, _, _, _, _, _⟩) (v := .agg (dg D)) rfl (by kernel_rfl) (by kernel_rfl) (by kernel_rfl) (fun _ _ _ h => h) (yieldsIf_load_mid (by rfl) _ _ rfl g 1 rfl (D.map fun d : Nat => Value.int .i64 (d : Int)) _ (fun w h => nm_range h.2.1) Tryd.underlying80 rfl (dg_info HD.out.len)) hHeld ?_
      simp only [Act.put, List.setIfInBounds_toArray, List.set_cons_zero, List.set_cons_succ]
      refine wpAnyH_take (i := 2) (oi := ⟨some 22, _, _, _, _, _⟩) (v := .pointer (some ⟨k + 1, 1, none⟩)) rfl (by kernel_rfl) (by kernel_rfl) (by kernel_rfl) (fun _ _ _ h => h) (Or.inl ⟨by rfl, fun w _ => by go_simp⟩) hHeld ?_
      simp only [Act.put, List.setIfInBounds_toArray, List.set_cons_zero, List.set_cons_succ]
      refine wpAnyH_take (i := 3) (oi := ⟨some 23, _, _, _, _, _⟩) (v := .agg (dg b)) rfl (by kernel_rfl) (by kernel_rfl) (by kernel_rfl) (fun _ _ _ h => h) (yieldsIf_load_mid (by rfl) _ _ rfl (k + 1) 1 rfl (b.map fun d : Nat => Value.int .i64 (d : Int)) _ (fun w h => nm_range h.2.2.1) Tryd.underlying80 rfl (dg_info HB.out.len)) hHeld ?_
      simp only [Act.put, List.setIfInBounds_toArray, List.set_cons_zero, List.set_cons_succ]
      refine wpAnyH_take (i := 4) (oi := ⟨some 24, _, _, _, _, _⟩) (v := .pointer (some ⟨k + 1, 1, none⟩)) rfl (by kernel_rfl) (by kernel_rfl) (by kernel_rfl) (fun _ _ _ h => h) (Or.inl ⟨by rfl, fun w _ => by go_simp⟩) hHeld ?_
      simp only [Act.put, List.setIfInBounds_toArray, List.set_cons_zero, List.set_cons_succ]
      refine wpAnyH_take (i := 5) (oi := ⟨some 25, _, _, _, _, _⟩) (v := .agg (dg b)) rfl (by kernel_rfl) (by kernel_rfl) (by kernel_rfl) (fun _ _ _ h => h) (yieldsIf_load_mid (by rfl) _ _ rfl (k + 1) 1 rfl (b.map fun d : Nat => Value.int .i64 (d : Int)) _ (fun w h => nm_range h.2.2.1) Tryd.underlying80 rfl (dg_info HB.out.len)) hHeld ?_
      simp only [Act.put, List.setIfInBounds_toArray, List.set_cons_zero, List.set_cons_succ]
      have hbw : Below k w wc.drew := hg.out.2.2.2.2.1.drew
      generalize wc.drew = u0 at *
      refine wpAnyH_ready (rs := [6, 11, 12]) (by kernel_rfl) (by simp) (AllReadyH.cons (o := ⟨some 26, _, _, _, _, _⟩) rfl (fun K hK => ?_) (AllReadyH.cons (o := ⟨some 6, _, _, _, _, _⟩) rfl (fun K hK => ?_) (AllReadyH.cons (o := ⟨some 7, _, _, _, _, _⟩) rfl (fun K hK => ?_) AllReadyH.nil)))
      · go_simp
        refine (HcB.out u0).mono ?_
        rintro e u1 ⟨rfl, hb⟩
        have hbw := Trg.more hHeld hbw hb
        have hHeld2 := hHeld.below hb
        clear hb hHeld
        refine hK.out _ _ hHeld2 (fun hHeld => ?_)
        clear hHeld2
        clear hK K
        try simp only [Act.put, List.setIfInBounds_toArray, List.set_cons_zero, List.set_cons_succ]
        refine wpAnyH_ready (rs := [7, 11, 12]) (by kernel_rfl) (by simp) (AllReadyH.cons (o := ⟨some 27, _, _, _, _, _⟩) rfl (fun K hK => ?_) (AllReadyH.cons (o := ⟨some 6, _, _, _, _, _⟩) rfl (fun K hK => ?_) (AllReadyH.cons (o := ⟨some 7, _, _, _, _, _⟩) rfl (fun K hK => ?_) AllReadyH.nil)))
        · go_simp
          refine (Hdv.out u1).mono ?_
          rintro e u2 ⟨Q, R, rfl, hQ, hR, hQv, hRv, hb⟩
          have hbw := Trg.more hHeld hbw hb
          have hHeld2 := hHeld.below hb
          clear hb hHeld
          refine hK.out _ _ hHeld2 (fun hHeld => ?_)
          clear hHeld2
          clear hK K
          try simp only [Act.put, List.setIfInBounds_toArray, List.set_cons_zero, List.set_cons_succ]
          refine wpAnyH_take (i := 8) (oi := ⟨some 19, _, _, _, _, _⟩) (v := .tuple #[.agg (dg Q), .agg (dg R)]) rfl (by kernel_rfl) (by kernel_rfl) (by kernel_rfl) (fun _ _ _ h => h) (Or.inl ⟨by rfl, fun w _ => by go_simp⟩) hHeld ?_
          simp only [Act.put, List.setIfInBounds_toArray, List.set_cons_zero, List.set_cons_succ]
          refine wpAnyH_take (i := 9) (oi := ⟨some 28, _, _, _, _, _⟩) (v := .agg (dg Q)) rfl (by kernel_rfl) (by kernel_rfl) (by kernel_rfl) (fun _ _ _ h => h) (Or.inl ⟨by rfl, fun w _ => by go_simp⟩) hHeld ?_
          simp only [Act.put, List.setIfInBounds_toArray, List.set_cons_zero, List.set_cons_succ]
          refine wpAnyH_take (i := 10) (oi := ⟨some 29, _, _, _, _, _⟩) (v := .agg (dg R)) rfl (by kernel_rfl) (by kernel_rfl) (by kernel_rfl) (fun _ _ _ h => h) (Or.inl ⟨by rfl, fun w _ => by go_simp⟩) hHeld ?_
          simp only [Act.put, List.setIfInBounds_toArray, List.set_cons_zero, List.set_cons_succ]
          refine wpAnyH_ready (rs := [11, 12]) (by kernel_rfl) (by simp) (AllReadyH.cons (o := ⟨some 6, _, _, _, _, _⟩) rfl (fun K hK => ?_) (AllReadyH.cons (o := ⟨some 7, _, _, _, _, _⟩) rfl (fun K hK => ?_) AllReadyH.nil))
          · go_simp
            have hb := (Below.refl u2.heap.size u2).alloc (Nat.le_refl _) (.cells #[.int .i64 0, .int .i64 0, .int .i64 0, .int .i64 0, .int .i64 0, .int .i64 0, .int .i64 0, .int .i64 0, .int .i64 0, .int .i64 0, .int .i64 0, .int .i64 0] 80)
            obtain ⟨g3, hg⟩ : ∃ g, g = u2.heap.size := ⟨_, rfl⟩
            have hg3 : g < g3 ∧ (u2.alloc (.cells #[.int .i64 0, .int .i64 0, .int .i64 0, .int .i64 0, .int .i64 0, .int .i64 0, .int .i64 0, .int .i64 0, .int .i64 0, .int .i64 0, .int .i64 0, .int .i64 0] 80)).heap[g3]? = some (.cells #[.int .i64 0, .int .i64 0, .int .i64 0, .int .i64 0, .int .i64 0, .int .i64 0, .int .i64 0, .int .i64 0, .int .i64 0, .int .i64 0, .int .i64 0, .int .i64 0] 80) := ⟨by rw [hg]; exact hHeld.lt, heapN hg _⟩
            rw [← hg]
            have hbw := Trg.more hHeld hbw hb
            have hHeld2 := hHeld.below hb
            clear hb hHeld hg
            refine hK.out _ _ hHeld2 (fun hHeld => ?_)
            clear hHeld2
            generalize u2.alloc (.cells #[.int .i64 0, .int .i64 0, .int .i64 0, .int .i64 0, .int .i64 0, .int .i64 0, .int .i64 0, .int .i64 0, .int .i64 0, .int .i64 0, .int .i64 0, .int .i64 0] 80) = u3 at *
            clear hK K
            try simp only [Act.put, List.setIfInBounds_toArray, List.set_cons_zero, List.set_cons_succ]
            refine wpAnyH_ready (rs := [12]) (by kernel_rfl) (by simp) (AllReadyH.cons (o := ⟨some 7, _, _, _, _, _⟩) rfl (fun K hK => ?_) AllReadyH.nil)
            go_simp
            have hb := (Below.refl u3.heap.size u3).alloc (Nat.le_refl _) (.cells #[.int .i64 0, .int .i64 0, .int .i64 0, .int .i64 0, .int .i64 0, .int .i64 0, .int .i64 0, .int .i64 0, .int .i64 0, .int .i64 0, .int .i64 0, .int .i64 0] 80)
            obtain ⟨g4, hg⟩ : ∃ g, g = u3.heap.size := ⟨_, rfl⟩
            have hg4 : g < g4 ∧ (u3.alloc (.cells #[.int .i64 0, .int .i64 0, .int .i64 0, .int .i64 0, .int .i64 0, .int .i64 0, .int .i64 0, .int .i64 0, .int .i64 0, .int .i64 0, .int .i64 0, .int .i64 0] 80)).heap[g4]? = some (.cells #[.int .i64 0, .int .i64 0, .int .i64 0, .int .i64 0, .int .i64 0, .int .i64 0, .int .i64 0, .int .i64 0, .int .i64 0, .int .i64 0, .int .i64 0, .int .i64 0] 80) := ⟨by rw [hg]; exact hHeld.lt, heapN hg _⟩
            have hg30 := hg3
            have hg3 := Trg.fresh hg3 hb
            have ng3g4 : g3 < g4 := by rw [hg]; exact (Array.getElem?_eq_some_iff.1 hg30.2).1
            rw [← hg]
            have hbw := Trg.more hHeld hbw hb
            have hHeld2 := hHeld.below hb
            clear hb hHeld hg
            refine hK.out _ _ hHeld2 (fun hHeld => ?_)
            clear hHeld2
            generalize u3.alloc (.cells #[.int .i64 0, .int .i64 0, .int .i64 0, .int .i64 0, .int .i64 0, .int .i64 0, .int .i64 0, .int .i64 0, .int .i64 0, .int .i64 0, .int .i64 0, .int .i64 0] 80) = u4 at *
            clear hK K
            try simp only [Act.put, List.setIfInBounds_toArray, List.set_cons_zero, List.set_cons_succ]
            refine wpAnyH_ready (rs := [13]) (by kernel_rfl) (by simp) (AllReadyH.cons (o := ⟨none, _, _, _, _, _⟩) rfl (fun K hK => ?_) AllReadyH.nil)
            refine step_of_wp rfl (wp_store_row 80 _ _ rfl g3 (dg Q) rfl rfl 80 zs12 hg3.2 (dg_infoS hQ.len) (by rw [dg_size, hQ.len]; rfl) dg_one ?_)
            have hne : g3 ≠ g4 := by omega
            have hp1 := setRow_heap _ _ _ (dg Q) _ _ hg3.2
            have hq1 := (setRow_other u4 g3 g4 (dg Q) (by omega)).trans hg4.2
            have hbz := below_setRow hbw (g := g3) (by have := hHeld.1; omega) (dg Q)
            refine hK.out _ _ (hHeld.row hg3.1 (dg Q)) (fun hHeld => ?_)
            clear hK K
            generalize u4.setRow g3 (dg Q) = wy at *
            refine wpAnyH_ready (rs := [14]) (by kernel_rfl) (by simp) (AllReadyH.cons (o := ⟨none, _, _, _, _, _⟩) rfl (fun K hK => ?_) AllReadyH.nil)
            refine step_of_wp rfl (wp_store_row 80 _ _ rfl g4 (dg R) rfl rfl 80 zs12 hq1 (dg_infoS hR.len) (by rw [dg_size, hR.len]; rfl) dg_one ?_)
            have hp2 := (setRow_other wy g4 g3 (dg R) (by omega)).trans hp1
            have hq2 := setRow_heap _ _ _ (dg R) _ _ hq1
            have hbz2 := below_setRow hbz (g := g4) (by have := hHeld.1; omega) (dg R)
            have hT := hHeld.row hg4.1 (dg R)
            refine hK.out _ _ hT (fun hHeld => ?_)
            clear hK K
            refine wpAnyH_done (by kernel_rfl) ?_ _
            simp only [Act.put]
            go_wp2_with fail
            go_meet
            case rel => exact ⟨g3, g4, Q, R, rfl, rfl, Lib.hid ⟨hne, hg3.1, hg4.1, hp2, hq2, hQ, hR, hQv, hRv, hbz2, hT⟩⟩
          · go_simp
            have hb := (Below.refl u2.heap.size u2).alloc (Nat.le_refl _) (.cells #[.int .i64 0, .int .i64 0, .int .i64 0, .int .i64 0, .int .i64 0, .int .i64 0, .int .i64 0, .int .i64 0, .int .i64 0, .int .i64 0, .int .i64 0, .int .i64 0] 80)
            obtain ⟨g5, hg⟩ : ∃ g, g = u2.heap.size := ⟨_, rfl⟩
            have hg5 : g < g5 ∧ (u2.alloc (.cells #[.int .i64 0, .int .i64 0, .int .i64 0, .int .i64 0, .int .i64 0, .int .i64 0, .int .i64 0, .int .i64 0, .int .i64 0, .int .i64 0, .int .i64 0, .int .i64 0] 80)).heap[g5]? = some (.cells #[.int .i64 0, .int .i64 0, .int .i64 0, .int .i64 0, .int .i64 0, .int .i64 0, .int .i64 0, .int .i64 0, .int .i64 0, .int .i64 0, .int .i64 0, .int .i64 0] 80) := ⟨by rw [hg]; exact hHeld.lt, heapN hg _⟩
            rw [← hg]
            have hbw := Trg.more hHeld hbw hb
            have hHeld2 := hHeld.below hb
            clear hb hHeld hg
            refine hK.out _ _ hHeld2 (fun hHeld => ?_)
            clear hHeld2
            generalize u2.alloc (.cells #[.int .i64 0, .int .i64 0, .int .i64 0, .int .i64 0, .int .i64 0, .int .i64 0, .int .i64 0, .int .i64 0, .int .i64 0, .int .i64 0, .int .i64 0, .int .i64 0] 80) = u5 at *
            clear hK K
            try simp only [Act.put, List.setIfInBounds_toArray, List.set_cons_zero, List.set_cons_succ]
            refine wpAnyH_ready (rs := [11]) (by kernel_rfl) (by simp) (AllReadyH.cons (o := ⟨some 6, _, _, _, _, _⟩) rfl (fun K hK => ?_) AllReadyH.nil)
            go_simp
            have hb := (Below.refl u5.heap.size u5).alloc (Nat.le_refl _) (.cells #[.int .i64 0, .int .i64 0, .int .i64 0, .int .i64 0, .int .i64 0, .int .i64 0, .int .i64 0, .int .i64 0, .int .i64 0, .int .i64 0, .int .i64 0, .int .i64 0] 80)
            obtain ⟨g6, hg⟩ : ∃ g, g = u5.heap.size := ⟨_, rfl⟩
            have hg6 : g < g6 ∧ (u5.alloc (.cells #[.int .i64 0, .int .i64 0, .int .i64 0, .int .i64 0, .int .i64 0, .int .i64 0, .int .i64 0, .int .i64 0, .int .i64 0, .int .i64 0, .int .i64 0, .int .i64 0] 80)).heap[g6]? = some (.cells #[.int .i64 0, .int .i64 0, .int .i64 0, .int .i64 0, .int .i64 0, .int .i64 0, .int .i64 0, .int .i64 0, .int .i64 0, .int .i64 0, .int .i64 0, .int .i64 0] 80) := ⟨by rw [hg]; exact hHeld.lt, heapN hg _⟩
            have hg50 := hg5
            have hg5 := Trg.fresh hg5 hb
            have ng5g6 : g5 < g6 := by rw [hg]; exact (Array.getElem?_eq_some_iff.1 hg50.2).1
            rw [← hg]
            have hbw := Trg.more hHeld hbw hb
            have hHeld2 := hHeld.below hb
            clear hb hHeld hg
            refine hK.out _ _ hHeld2 (fun hHeld => ?_)
            clear hHeld2
            generalize u5.alloc (.cells #[.int .i64 0, .int .i64 0, .int .i64 0, .int .i64 0, .int .i64 0, .int .i64 0, .int .i64 0, .int .i64 0, .int .i64 0, .int .i64 0, .int .i64 0, .int .i64 0] 80) = u6 at *
            clear hK K
            try simp only [Act.put, List.setIfInBounds_toArray, List.set_cons_zero, List.set_cons_succ]
            refine wpAnyH_ready (rs := [13]) (by kernel_rfl) (by simp) (AllReadyH.cons (o := ⟨none, _, _, _, _, _⟩) rfl (fun K hK => ?_) AllReadyH.nil)
            refine step_of_wp rfl (wp_store_row 80 _ _ rfl g6 (dg Q) rfl rfl 80 zs12 hg6.2 (dg_infoS hQ.len) (by rw [dg_size, hQ.len]; rfl) dg_one ?_)
            have hne : g6 ≠ g5 := by omega
            have hp1 := setRow_heap _ _ _ (dg Q) _ _ hg6.2
            have hq1 := (setRow_other u6 g6 g5 (dg Q) (by omega)).trans hg5.2
            have hbz := below_setRow hbw (g := g6) (by have := hHeld.1; omega) (dg Q)
            refine hK.out _ _ (hHeld.row hg6.1 (dg Q)) (fun hHeld => ?_)
            clear hK K
            generalize u6.setRow g6 (dg Q) = wy at *
            refine wpAnyH_ready (rs := [14]) (by kernel_rfl) (by simp) (AllReadyH.cons (o := ⟨none, _, _, _, _, _⟩) rfl (fun K hK => ?_) AllReadyH.nil)
            refine step_of_wp rfl (wp_store_row 80 _ _ rfl g5 (dg R) rfl rfl 80 zs12 hq1 (dg_infoS hR.len) (by rw [dg_size, hR.len]; rfl) dg_one ?_)
            have hp2 := (setRow_other wy g5 g6 (dg R) (by omega)).trans hp1
            have hq2 := setRow_heap _ _ _ (dg R) _ _ hq1
            have hbz2 := below_setRow hbz (g := g5) (by have := hHeld.1; omega) (dg R)
            have hT := hHeld.row hg5.1 (dg R)
            refine hK.out _ _ hT (fun hHeld => ?_)
            clear hK K
            refine wpAnyH_done (by kernel_rfl) ?_ _
            simp only [Act.put]
            go_wp2_with fail
            go_meet
            case rel => exact ⟨g6, g5, Q, R, rfl, rfl, Lib.hid ⟨hne, hg6.1, hg5.1, hp2, hq2, hQ, hR, hQv, hRv, hbz2, hT⟩⟩
        · go_simp
          have hb := (Below.refl u1.heap.size u1).alloc (Nat.le_refl _) (.cells #[.int .i64 0, .int .i64 0, .int .i64 0, .int .i64 0, .int .i64 0, .int .i64 0, .int .i64 0, .int .i64 0, .int .i64 0, .int .i64 0, .int .i64 0, .int .i64 0] 80)
          obtain ⟨g7, hg⟩ : ∃ g, g = u1.heap.size := ⟨_, rfl⟩
          have hg7 : g < g7 ∧ (u1.alloc (.cells #[.int .i64 0, .int .i64 0, .int .i64 0, .int .i64 0, .int .i64 0, .int .i64 0, .int .i64 0, .int .i64 0, .int .i64 0, .int .i64 0, .int .i64 0, .int .i64 0] 80)).heap[g7]? = some (.cells #[.int .i64 0, .int .i64 0, .int .i64 0, .int .i64 0, .int .i64 0, .int .i64 0, .int .i64 0, .int .i64 0, .int .i64 0, .int .i64 0, .int .i64 0, .int .i64 0] 80) := ⟨by rw [hg]; exact hHeld.lt, heapN hg _⟩
          rw [← hg]
          have hbw := Trg.more hHeld hbw hb
          have hHeld2 := hHeld.below hb
          clear hb hHeld hg
          refine hK.out _ _ hHeld2 (fun hHeld => ?_)
          clear hHeld2
          generalize u1.alloc (.cells #[.int .i64 0, .int .i64 0, .int .i64 0, .int .i64 0, .int .i64 0, .int .i64 0, .int .i64 0, .int .i64 0, .int .i64 0, .int .i64 0, .int .i64 0, .int .i64 0] 80) = u7 at *
          clear hK K
          try simp only [Act.put, List.setIfInBounds_toArray, List.set_cons_zero, List.set_cons_succ]
          refine wpAnyH_ready (rs := [7, 12]) (by kernel_rfl) (by simp) (AllReadyH.cons (o := ⟨some 27, _, _, _, _, _⟩) rfl (fun K hK => ?_) (AllReadyH.cons (o := ⟨some 7, _, _, _, _, _⟩) rfl (fun K hK => ?_) AllReadyH.nil))
          · go_simp
            refine (Hdv.out u7).mono ?_
            rintro e u8 ⟨Q, R, rfl, hQ, hR, hQv, hRv, hb⟩
            have hbw := Trg.more hHeld hbw hb
            have hg7 := Trg.fresh hg7 hb
            have hHeld2 := hHeld.below hb
            clear hb hHeld
            refine hK.out _ _ hHeld2 (fun hHeld => ?_)
            clear hHeld2
            clear hK K
            try simp only [Act.put, List.setIfInBounds_toArray, List.set_cons_zero, List.set_cons_succ]
            refine wpAnyH_take (i := 8) (oi := ⟨some 19, _, _, _, _, _⟩) (v := .tuple #[.agg (dg Q), .agg (dg R)]) rfl (by kernel_rfl) (by kernel_rfl) (by kernel_rfl) (fun _ _ _ h => h) (Or.inl ⟨by rfl, fun w _ => by go_simp⟩) hHeld ?_
            simp only [Act.put, List.setIfInBounds_toArray, List.set_cons_zero, List.set_cons_succ]
            refine wpAnyH_take (i := 9) (oi := ⟨some 28, _, _, _, _, _⟩) (v := .agg (dg Q)) rfl (by kernel_rfl) (by kernel_rfl) (by kernel_rfl) (fun _ _ _ h => h) (Or.inl ⟨by rfl, fun w _ => by go_simp⟩) hHeld ?_
            simp only [Act.put, List.setIfInBounds_toArray, List.set_cons_zero, List.set_cons_succ]
            refine wpAnyH_take (i := 10) (oi := ⟨some 29, _, _, _, _, _⟩) (v := .agg (dg R)) rfl (by kernel_rfl) (by kernel_rfl) (by kernel_rfl) (fun _ _ _ h => h) (Or.inl ⟨by rfl, fun w _ => by go_simp⟩) hHeld ?_
            simp only [Act.put, List.setIfInBounds_toArray, List.set_cons_zero, List.set_cons_succ]
            refine wpAnyH_ready (rs := [12]) (by kernel_rfl) (by simp) (AllReadyH.cons (o := ⟨some 7, _, _, _, _, _⟩) rfl (fun K hK => ?_) AllReadyH.nil)
            go_simp
            have hb := (Below.refl u8.heap.size u8).alloc (Nat.le_refl _) (.cells #[.int .i64 0, .int .i64 0, .int .i64 0, .int .i64 0, .int .i64 0, .int .i64 0, .int .i64 0, .int .i64 0, .int .i64 0, .int .i64 0, .int .i64 0, .int .i64 0] 80)
            obtain ⟨g9, hg⟩ : ∃ g, g = u8.heap.size := ⟨_, rfl⟩
            have hg9 : g < g9 ∧ (u8.alloc (.cells #[.int .i64 0, .int .i64 0, .int .i64 0, .int .i64 0, .int .i64 0, .int .i64 0, .int .i64 0, .int .i64 0, .int .i64 0, .int .i64 0, .int .i64 0, .int .i64 0] 80)).heap[g9]? = some (.cells #[.int .i64 0, .int .i64 0, .int .i64 0, .int .i64 0, .int .i64 0, .int .i64 0, .int .i64 0, .int .i64 0, .int .i64 0, .int .i64 0, .int .i64 0, .int .i64 0] 80) := ⟨by rw [hg]; exact hHeld.lt, heapN hg _⟩
            have hg70 := hg7
            have hg7 := Trg.fresh hg7 hb
            have ng7g9 : g7 < g9 := by rw [hg]; exact (Array.getElem?_eq_some_iff.1 hg70.2).1
            rw [← hg]
            have hbw := Trg.more hHeld hbw hb
            have hHeld2 := hHeld.below hb
            clear hb hHeld hg
            refine hK.out _ _ hHeld2 (fun hHeld => ?_)
            clear hHeld2
            generalize u8.alloc (.cells #[.int .i64 0, .int .i64 0, .int .i64 0, .int .i64 0, .int .i64 0, .int .i64 0, .int .i64 0, .int .i64 0, .int .i64 0, .int .i64 0, .int .i64 0, .int .i64 0] 80) = u9 at *
            clear hK K
            try simp only [Act.put, List.setIfInBounds_toArray, List.set_cons_zero, List.set_cons_succ]
            refine wpAnyH_ready (rs := [13]) (by kernel_rfl) (by simp) (AllReadyH.cons (o := ⟨none, _, _, _, _, _⟩) rfl (fun K hK => ?_) AllReadyH.nil)
            refine step_of_wp rfl (wp_store_row 80 _ _ rfl g7 (dg Q) rfl rfl 80 zs12 hg7.2 (dg_infoS hQ.len) (by rw [dg_size, hQ.len]; rfl) dg_one ?_)
            have hne : g7 ≠ g9 := by omega
            have hp1 := setRow_heap _ _ _ (dg Q) _ _ hg7.2
            have hq1 := (setRow_other u9 g7 g9 (dg Q) (by omega)).trans hg9.2
            have hbz := below_setRow hbw (g := g7) (by have := hHeld.1; omega) (dg Q)
            refine hK.out _ _ (hHeld.row hg7.1 (dg Q)) (fun hHeld => ?_)
            clear hK K
            generalize u9.setRow g7 (dg Q) = wy at *
            refine wpAnyH_ready (rs := [14]) (by kernel_rfl) (by simp) (AllReadyH.cons (o := ⟨none, _, _, _, _, _⟩) rfl (fun K hK => ?_) AllReadyH.nil)
            refine step_of_wp rfl (wp_store_row 80 _ _ rfl g9 (dg R) rfl rfl 80 zs12 hq1 (dg_infoS hR.len) (by rw [dg_size, hR.len]; rfl) dg_one ?_)
            have hp2 := (setRow_other wy g9 g7 (dg R) (by omega)).trans hp1
            have hq2 := setRow_heap _ _ _ (dg R) _ _ hq1
            have hbz2 := below_setRow hbz (g := g9) (by have := hHeld.1; omega) (dg R)
            have hT := hHeld.row hg9.1 (dg R)
            refine hK.out _ _ hT (fun hHeld => ?_)
            clear hK K
            refine wpAnyH_done (by kernel_rfl) ?_ _
            simp only [Act.put]
            go_wp2_with fail
            go_meet
            case rel => exact ⟨g7, g9, Q, R, rfl, rfl, Lib.hid ⟨hne, hg7.1, hg9.1, hp2, hq2, hQ, hR, hQv, hRv, hbz2, hT⟩⟩
          · go_simp
            have hb := (Below.refl u7.heap.size u7).alloc (Nat.le_refl _) (.cells #[.int .i64 0, .int .i64 0, .int .i64 0, .int .i64 0, .int .i64 0, .int .i64 0, .int .i64 0, .int .i64 0, .int .i64 0, .int .i64 0, .int .i64 0, .int .i64 0] 80)
            obtain ⟨g10, hg⟩ : ∃ g, g = u7.heap.size := ⟨_, rfl⟩
            have hg10 : g < g10 ∧ (u7.alloc (.cells #[.int .i64 0, .int .i64 0, .int .i64 0, .int .i64 0, .int .i64 0, .int .i64 0, .int .i64 0, .int .i64 0, .int .i64 0, .int .i64 0, .int .i64 0, .int .i64 0] 80)).heap[g10]? = some (.cells #[.int .i64 0, .int .i64 0, .int .i64 0, .int .i64 0, .int .i64 0, .int .i64 0, .int .i64 0, .int .i64 0, .int .i64 0, .int .i64 0, .int .i64 0, .int .i64 0] 80) := ⟨by rw [hg]; exact hHeld.lt, heapN hg _⟩
            have hg70 := hg7
            have hg7 := Trg.fresh hg7 hb
            have ng7g10 : g7 < g10 := by rw [hg]; exact (Array.getElem?_eq_some_iff.1 hg70.2).1
            rw [← hg]
            have hbw := Trg.more hHeld hbw hb
            have hHeld2 := hHeld.below hb
            clear hb hHeld hg
            refine hK.out _ _ hHeld2 (fun hHeld => ?_)
            clear hHeld2
            generalize u7.alloc (.cells #[.int .i64 0, .int .i64 0, .int .i64 0, .int .i64 0, .int .i64 0, .int .i64 0, .int .i64 0, .int .i64 0, .int .i64 0, .int .i64 0, .int .i64 0, .int .i64 0] 80) = u10 at *
            clear hK K
            try simp only [Act.put, List.setIfInBounds_toArray, List.set_cons_zero, List.set_cons_succ]
            refine wpAnyH_ready (rs := [7]) (by kernel_rfl) (by simp) (AllReadyH.cons (o := ⟨some 27, _, _, _, _, _⟩) rfl (fun K hK => ?_) AllReadyH.nil)
            go_simp
            refine (Hdv.out u10).mono ?_
            rintro e u11 ⟨Q, R, rfl, hQ, hR, hQv, hRv, hb⟩
            have hbw := Trg.more hHeld hbw hb
            have hg7 := Trg.fresh hg7 hb
            have hg10 := Trg.fresh hg10 hb
            have hHeld2 := hHeld.below hb
            clear hb hHeld
            refine hK.out _ _ hHeld2 (fun hHeld => ?_)
            clear hHeld2
            clear hK K
            try simp only [Act.put, List.setIfInBounds_toArray, List.set_cons_zero, List.set_cons_succ]
            refine wpAnyH_take (i := 8) (oi := ⟨some 19, _, _, _, _, _⟩) (v := .tuple #[.agg (dg Q), .agg (dg R)]) rfl (by kernel_rfl) (by kernel_rfl) (by kernel_rfl) (fun _ _ _ h => h) (Or.inl ⟨by rfl, fun w _ => by go_simp⟩) hHeld ?_
            simp only [Act.put, List.setIfInBounds_toArray, List.set_cons_zero, List.set_cons_succ]
            refine wpAnyH_take (i := 9) (oi := ⟨some 28, _, _, _, _, _⟩) (v := .agg (dg Q)) rfl (by kernel_rfl) (by kernel_rfl) (by kernel_rfl) (fun _ _ _ h => h) (Or.inl ⟨by rfl, fun w _ => by go_simp⟩) hHeld ?_
            simp only [Act.put, List.setIfInBounds_toArray, List.set_cons_zero, List.set_cons_succ]
            refine wpAnyH_take (i := 10) (oi := ⟨some 29, _, _, _, _, _⟩) (v := .agg (dg R)) rfl (by kernel_rfl) (by kernel_rfl) (by kernel_rfl) (fun _ _ _ h => h) (Or.inl ⟨by rfl, fun w _ => by go_simp⟩) hHeld ?_
            simp only [Act.put, List.setIfInBounds_toArray, List.set_cons_zero, List.set_cons_succ]
            refine wpAnyH_ready (rs := [13]) (by kernel_rfl) (by simp) (AllReadyH.cons (o := ⟨none, _, _, _, _, _⟩) rfl (fun K hK => ?_) AllReadyH.nil)
            refine step_of_wp rfl (wp_store_row 80 _ _ rfl g7 (dg Q) rfl rfl 80 zs12 hg7.2 (dg_infoS hQ.len) (by rw [dg_size, hQ.len]; rfl) dg_one ?_)
            have hne : g7 ≠ g10 := by omega
            have hp1 := setRow_heap _ _ _ (dg Q) _ _ hg7.2
            have hq1 := (setRow_other u11 g7 g10 (dg Q) (by omega)).trans hg10.2
            have hbz := below_setRow hbw (g := g7) (by have := hHeld.1; omega) (dg Q)
            refine hK.out _ _ (hHeld.row hg7.1 (dg Q)) (fun hHeld => ?_)
            clear hK K
            generalize u11.setRow g7 (dg Q) = wy at *
            refine wpAnyH_ready (rs := [14]) (by kernel_rfl) (by simp) (AllReadyH.cons (o := ⟨none, _, _, _, _, _⟩) rfl (fun K hK => ?_) AllReadyH.nil)
            refine step_of_wp rfl (wp_store_row 80 _ _ rfl g10 (dg R) rfl rfl 80 zs12 hq1 (dg_infoS hR.len) (by rw [dg_size, hR.len]; rfl) dg_one ?_)
            have hp2 := (setRow_other wy g10 g7 (dg R) (by omega)).trans hp1
            have hq2 := setRow_heap _ _ _ (dg R) _ _ hq1
            have hbz2 := below_setRow hbz (g := g10) (by have := hHeld.1; omega) (dg R)
            have hT := hHeld.row hg10.1 (dg R)
            refine hK.out _ _ hT (fun hHeld => ?_)
            clear hK K
            refine wpAnyH_done (by kernel_rfl) ?_ _
            simp only [Act.put]
            go_wp2_with fail
            go_meet
            case rel => exact ⟨g7, g10, Q, R, rfl, rfl, Lib.hid ⟨hne, hg7.1, hg10.1, hp2, hq2, hQ, hR, hQv, hRv, hbz2, hT⟩⟩
        · go_simp
          have hb := (Below.refl u1.heap.size u1).alloc (Nat.le_refl _) (.cells #[.int .i64 0, .int .i64 0, .int .i64 0, .int .i64 0, .int .i64 0, .int .i64 0, .int .i64 0, .int .i64 0, .int .i64 0, .int .i64 0, .int .i64 0, .int .i64 0] 80)
          obtain ⟨g12, hg⟩ : ∃ g, g = u1.heap.size := ⟨_, rfl⟩
          have hg12 : g < g12 ∧ (u1.alloc (.cells #[.int .i64 0, .int .i64 0, .int .i64 0, .int .i64 0, .int .i64 0, .int .i64 0, .int .i64 0, .int .i64 0, .int .i64 0, .int .i64 0, .int .i64 0, .int .i64 0] 80)).heap[g12]? = some (.cells #[.int .i64 0, .int .i64 0, .int .i64 0, .int .i64 0, .int .i64 0, .int .i64 0, .int .i64 0, .int .i64 0, .int .i64 0, .int .i64 0, .int .i64 0, .int .i64 0] 80) := ⟨by rw [hg]; exact hHeld.lt, heapN hg _⟩
          rw [← hg]
          have hbw := Trg.more hHeld hbw hb
          have hHeld2 := hHeld.below hb
          clear hb hHeld hg
          refine hK.out _ _ hHeld2 (fun hHeld => ?_)
          clear hHeld2
          generalize u1.alloc (.cells #[.int .i64 0, .int .i64 0, .int .i64 0, .int .i64 0, .int .i64 0, .int .i64 0, .int .i64 0, .int .i64 0, .int .i64 0, .int .i64 0, .int .i64 0, .int .i64 0] 80) = u12 at *
          clear hK K
          try simp only [Act.put, List.setIfInBounds_toArray, List.set_cons_zero, List.set_cons_succ]
          refine wpAnyH_ready (rs := [7, 11]) (by kernel_rfl) (by simp) (AllReadyH.cons (o := ⟨some 27, _, _, _, _, _⟩) rfl (fun K hK => ?_) (AllReadyH.cons (o := ⟨some 6, _, _, _, _, _⟩) rfl (fun K hK => ?_) AllReadyH.nil))
          · go_simp
            refine (Hdv.out u12).mono ?_
            rintro e u13 ⟨Q, R, rfl, hQ, hR, hQv, hRv, hb⟩
            have hbw := Trg.more hHeld hbw hb
            have hg12 := Trg.fresh hg12 hb
            have hHeld2 := hHeld.below hb
            clear hb hHeld
            refine hK.out _ _ hHeld2 (fun hHeld => ?_)
            clear hHeld2
            clear hK K
            try simp only [Act.put, List.setIfInBounds_toArray, List.set_cons_zero, List.set_cons_succ]
            refine wpAnyH_take (i := 8) (oi := ⟨some 19, _, _, _, _, _⟩) (v := .tuple #[.agg (dg Q), .agg (dg R)]) rfl (by kernel_rfl) (by kernel_rfl) (by kernel_rfl) (fun _ _ _ h => h) (Or.inl ⟨by rfl, fun w _ => by go_simp⟩) hHeld ?_
            simp only [Act.put, List.setIfInBounds_toArray, List.set_cons_zero, List.set_cons_succ]
            refine wpAnyH_take (i := 9) (oi := ⟨some 28, _, _, _, _, _⟩) (v := .agg (dg Q)) rfl (by kernel_rfl) (by kernel_rfl) (by kernel_rfl) (fun _ _ _ h => h) (Or.inl ⟨by rfl, fun w _ => by go_simp⟩) hHeld ?_
            simp only [Act.put, List.setIfInBounds_toArray, List.set_cons_zero, List.set_cons_succ]
            refine wpAnyH_take (i := 10) (oi := ⟨some 29, _, _, _, _, _⟩) (v := .agg (dg R)) rfl (by kernel_rfl) (by kernel_rfl) (by kernel_rfl) (fun _ _ _ h => h) (Or.inl ⟨by rfl, fun w _ => by go_simp⟩) hHeld ?_
            simp only [Act.put, List.setIfInBounds_toArray, List.set_cons_zero, List.set_cons_succ]
            refine wpAnyH_ready (rs := [11]) (by kernel_rfl) (by simp) (AllReadyH.cons (o := ⟨some 6, _, _, _, _, _⟩) rfl (fun K hK => ?_) AllReadyH.nil)
            go_simp
            have hb := (Below.refl u13.heap.size u13).alloc (Nat.le_refl _) (.cells #[.int .i64 0, .int .i64 0, .int .i64 0, .int .i64 0, .int .i64 0, .int .i64 0, .int .i64 0, .int .i64 0, .int .i64 0, .int .i64 0, .int .i64 0, .int .i64 0] 80)
            obtain ⟨g14, hg⟩ : ∃ g, g = u13.heap.size := ⟨_, rfl⟩
            have hg14 : g < g14 ∧ (u13.alloc (.cells #[.int .i64 0, .int .i64 0, .int .i64 0, .int .i64 0, .int .i64 0, .int .i64 0, .int .i64 0, .int .i64 0, .int .i64 0, .int .i64 0, .int .i64 0, .int .i64 0] 80)).heap[g14]? = some (.cells #[.int .i64 0, .int .i64 0, .int .i64 0, .int .i64 0, .int .i64 0, .int .i64 0, .int .i64 0, .int .i64 0, .int .i64 0, .int .i64 0, .int .i64 0, .int .i64 0] 80) := ⟨by rw [hg]; exact hHeld.lt, heapN hg _⟩
            have hg120 := hg12
            have hg12 := Trg.fresh hg12 hb
            have ng12g14 : g12 < g14 := by rw [hg]; exact (Array.getElem?_eq_some_iff.1 hg120.2).1
            rw [← hg]
            have hbw := Trg.more hHeld hbw hb
            have hHeld2 := hHeld.below hb
            clear hb hHeld hg
            refine hK.out _ _ hHeld2 (fun hHeld => ?_)
            clear hHeld2
            generalize u13.alloc (.cells #[.int .i64 0, .int .i64 0, .int .i64 0, .int .i64 0, .int .i64 0, .int .i64 0, .int .i64 0, .int .i64 0, .int .i64 0, .int .i64 0, .int .i64 0, .int .i64 0] 80) = u14 at *
            clear hK K
            try simp only [Act.put, List.setIfInBounds_toArray, List.set_cons_zero, List.set_cons_succ]
            refine wpAnyH_ready (rs := [13]) (by kernel_rfl) (by simp) (AllReadyH.cons (o := ⟨none, _, _, _, _, _⟩) rfl (fun K hK => ?_) AllReadyH.nil)
            refine step_of_wp rfl (wp_store_row 80 _ _ rfl g14 (dg Q) rfl rfl 80 zs12 hg14.2 (dg_infoS hQ.len) (by rw [dg_size, hQ.len]; rfl) dg_one ?_)
            have hne : g14 ≠ g12 := by omega
            have hp1 := setRow_heap _ _ _ (dg Q) _ _ hg14.2
            have hq1 := (setRow_other u14 g14 g12 (dg Q) (by omega)).trans hg12.2
            have hbz := below_setRow hbw (g := g14) (by have := hHeld.1; omega) (dg Q)
            refine hK.out _ _ (hHeld.row hg14.1 (dg Q)) (fun hHeld => ?_)
            clear hK K
            generalize u14.setRow g14 (dg Q) = wy at *
            refine wpAnyH_ready (rs := [14]) (by kernel_rfl) (by simp) (AllReadyH.cons (o := ⟨none, _, _, _, _, _⟩) rfl (fun K hK => ?_) AllReadyH.nil)
            refine step_of_wp rfl (wp_store_row 80 _ _ rfl g12 (dg R) rfl rfl 80 zs12 hq1 (dg_infoS hR.len) (by rw [dg_size, hR.len]; rfl) dg_one ?_)
            have hp2 := (setRow_other wy g12 g14 (dg R) (by omega)).trans hp1
            have hq2 := setRow_heap _ _ _ (dg R) _ _ hq1
            have hbz2 := below_setRow hbz (g := g12) (by have := hHeld.1; omega) (dg R)
            have hT := hHeld.row hg12.1 (dg R)
            refine hK.out _ _ hT (fun hHeld => ?_)
            clear hK K
            refine wpAnyH_done (by kernel_rfl) ?_ _
            simp only [Act.put]
            go_wp2_with fail
            go_meet
            case rel => exact ⟨g14, g12, Q, R, rfl, rfl, Lib.hid ⟨hne, hg14.1, hg12.1, hp2, hq2, hQ, hR, hQv, hRv, hbz2, hT⟩⟩
          · go_simp
            have hb := (Below.refl u12.heap.size u12).alloc (Nat.le_refl _) (.cells #[.int .i64 0, .int .i64 0, .int .i64 0, .int .i64 0, .int .i64 0, .int .i64 0, .int .i64 0, .int .i64 0, .int .i64 0, .int .i64 0, .int .i64 0, .int .i64 0] 80)
            obtain ⟨g15, hg⟩ : ∃ g, g = u12.heap.size := ⟨_, rfl⟩
            have hg15 : g < g15 ∧ (u12.alloc (.cells #[.int .i64 0, .int .i64 0, .int .i64 0, .int .i64 0, .int .i64 0, .int .i64 0, .int .i64 0, .int .i64 0, .int .i64 0, .int .i64 0, .int .i64 0, .int .i64 0] 80)).heap[g15]? = some (.cells #[.int .i64 0, .int .i64 0, .int .i64 0, .int .i64 0, .int .i64 0, .int .i64 0, .int .i64 0, .int .i64 0, .int .i64 0, .int .i64 0, .int .i64 0, .int .i64 0] 80) := ⟨by rw [hg]; exact hHeld.lt, heapN hg _⟩
            have hg120 := hg12
            have hg12 := Trg.fresh hg12 hb
            have ng12g15 : g12 < g15 := by rw [hg]; exact (Array.getElem?_eq_some_iff.1 hg120.2).1
            rw [← hg]
            have hbw := Trg.more hHeld hbw hb
            have hHeld2 := hHeld.below hb
            clear hb hHeld hg
            refine hK.out _ _ hHeld2 (fun hHeld => ?_)
            clear hHeld2
            generalize u12.alloc (.cells #[.int .i64 0, .int .i64 0, .int .i64 0, .int .i64 0, .int .i64 0, .int .i64 0, .int .i64 0, .int .i64 0, .int .i64 0, .int .i64 0, .int .i64 0, .int .i64 0] 80) = u15 at *
            clear hK K
            try simp only [Act.put, List.setIfInBounds_toArray, List.set_cons_zero, List.set_cons_succ]
            refine wpAnyH_ready (rs := [7]) (by kernel_rfl) (by simp) (AllReadyH.cons (o := ⟨some 27, _, _, _, _, _⟩) rfl (fun K hK => ?_) AllReadyH.nil)
            go_simp
            refine (Hdv.out u15).mono ?_
            rintro e u16 ⟨Q, R, rfl, hQ, hR, hQv, hRv, hb⟩
            have hbw := Trg.more hHeld hbw hb
            have hg12 := Trg.fresh hg12 hb
            have hg15 := Trg.fresh hg15 hb
            have hHeld2 := hHeld.below hb
            clear hb hHeld
            refine hK.out _ _ hHeld2 (fun hHeld => ?_)
            clear hHeld2
            clear hK K
            try simp only [Act.put, List.setIfInBounds_toArray, List.set_cons_zero, List.set_cons_succ]
            refine wpAnyH_take (i := 8) (oi := ⟨some 19, _, _, _, _, _⟩) (v := .tuple #[.agg (dg Q), .agg (dg R)]) rfl (by kernel_rfl) (by kernel_rfl) (by kernel_rfl) (fun _ _ _ h => h) (Or.inl ⟨by rfl, fun w _ => by go_simp⟩) hHeld ?_
            simp only [Act.put, List.setIfInBounds_toArray, List.set_cons_zero, List.set_cons_succ]
            refine wpAnyH_take (i := 9) (oi := ⟨some 28, _, _, _, _, _⟩) (v := .agg (dg Q)) rfl (by kernel_rfl) (by kernel_rfl) (by kernel_rfl) (fun _ _ _ h => h) (Or.inl ⟨by rfl, fun w _ => by go_simp⟩) hHeld ?_
            simp only [Act.put, List.setIfInBounds_toArray, List.set_cons_zero, List.set_cons_succ]
            refine wpAnyH_take (i := 10) (oi := ⟨some 29, _, _, _, _, _⟩) (v := .agg (dg R)) rfl (by kernel_rfl) (by kernel_rfl) (by kernel_rfl) (fun _ _ _ h => h) (Or.inl ⟨by rfl, fun w _ => by go_simp⟩) hHeld ?_
            simp only [Act.put, List.setIfInBounds_toArray, List.set_cons_zero, List.set_cons_succ]
            refine wpAnyH_ready (rs := [13]) (by kernel_rfl) (by simp) (AllReadyH.cons (o := ⟨none, _, _, _, _, _⟩) rfl (fun K hK => ?_) AllReadyH.nil)
            refine step_of_wp rfl (wp_store_row 80 _ _ rfl g15 (dg Q) rfl rfl 80 zs12 hg15.2 (dg_infoS hQ.len) (by rw [dg_size, hQ.len]; rfl) dg_one ?_)
            have hne : g15 ≠ g12 := by omega
            have hp1 := setRow_heap _ _ _ (dg Q) _ _ hg15.2
            have hq1 := (setRow_other u16 g15 g12 (dg Q) (by omega)).trans hg12.2
            have hbz := below_setRow hbw (g := g15) (by have := hHeld.1; omega) (dg Q)
            refine hK.out _ _ (hHeld.row hg15.1 (dg Q)) (fun hHeld => ?_)
            clear hK K
            generalize u16.setRow g15 (dg Q) = wy at *
            refine wpAnyH_ready (rs := [14]) (by kernel_rfl) (by simp) (AllReadyH.cons (o := ⟨none, _, _, _, _, _⟩) rfl (fun K hK => ?_) AllReadyH.nil)
            refine step_of_wp rfl (wp_store_row 80 _ _ rfl g12 (dg R) rfl rfl 80 zs12 hq1 (dg_infoS hR.len) (by rw [dg_size, hR.len]; rfl) dg_one ?_)
            have hp2 := (setRow_other wy g12 g15 (dg R) (by omega)).trans hp1
            have hq2 := setRow_heap _ _ _ (dg R) _ _ hq1
            have hbz2 := below_setRow hbz (g := g12) (by have := hHeld.1; omega) (dg R)
            have hT := hHeld.row hg12.1 (dg R)
            refine hK.out _ _ hT (fun hHeld => ?_)
            clear hK K
            refine wpAnyH_done (by kernel_rfl) ?_ _
            simp only [Act.put]
            go_wp2_with fail
            go_meet
            case rel => exact ⟨g15, g12, Q, R, rfl, rfl, Lib.hid ⟨hne, hg15.1, hg12.1, hp2, hq2, hQ, hR, hQv, hRv, hbz2, hT⟩⟩
      · go_simp
        have hb := (Below.refl u0.heap.size u0).alloc (Nat.le_refl _) (.cells #[.int .i64 0, .int .i64 0, .int .i64 0, .int .i64 0, .int .i64 0, .int .i64 0, .int .i64 0, .int .i64 0, .int .i64 0, .int .i64 0, .int .i64 0, .int .i64 0] 80)
        obtain ⟨g17, hg⟩ : ∃ g, g = u0.heap.size := ⟨_, rfl⟩
        have hg17 : g < g17 ∧ (u0.alloc (.cells #[.int .i64 0, .int .i64 0, .int .i64 0, .int .i64 0, .int .i64 0, .int .i64 0, .int .i64 0, .int .i64 0, .int .i64 0, .int .i64 0, .int .i64 0, .int .i64 0] 80)).heap[g17]? = some (.cells #[.int .i64 0, .int .i64 0, .int .i64 0, .int .i64 0, .int .i64 0, .int .i64 0, .int .i64 0, .int .i64 0, .int .i64 0, .int .i64 0, .int .i64 0, .int .i64 0] 80) := ⟨by rw [hg]; exact hHeld.lt, heapN hg _⟩
        rw [← hg]
        have hbw := Trg.more hHeld hbw hb
        have hHeld2 := hHeld.below hb
        clear hb hHeld hg
        refine hK.out _ _ hHeld2 (fun hHeld => ?_)
        clear hHeld2
        generalize u0.alloc (.cells #[.int .i64 0, .int .i64 0, .int .i64 0, .int .i64 0, .int .i64 0, .int .i64 0, .int .i64 0, .int .i64 0, .int .i64 0, .int .i64 0, .int .i64 0, .int .i64 0] 80) = u17 at *
        clear hK K
        try simp only [Act.put, List.setIfInBounds_toArray, List.set_cons_zero, List.set_cons_succ]
        refine wpAnyH_ready (rs := [6, 12]) (by kernel_rfl) (by simp) (AllReadyH.cons (o := ⟨some 26, _, _, _, _, _⟩) rfl (fun K hK => ?_) (AllReadyH.cons (o := ⟨some 7, _, _, _, _, _⟩) rfl (fun K hK => ?_) AllReadyH.nil))
        · go_simp
          refine (HcB.out u17).mono ?_
          rintro e u18 ⟨rfl, hb⟩
          have hbw := Trg.more hHeld hbw hb
          have hg17 := Trg.fresh hg17 hb
          have hHeld2 := hHeld.below hb
          clear hb hHeld
          refine hK.out _ _ hHeld2 (fun hHeld => ?_)
          clear hHeld2
          clear hK K
          try simp only [Act.put, List.setIfInBounds_toArray, List.set_cons_zero, List.set_cons_succ]
          refine wpAnyH_ready (rs := [7, 12]) (by kernel_rfl) (by simp) (AllReadyH.cons (o := ⟨some 27, _, _, _, _, _⟩) rfl (fun K hK => ?_) (AllReadyH.cons (o := ⟨some 7, _, _, _, _, _⟩) rfl (fun K hK => ?_) AllReadyH.nil))
          · go_simp
            refine (Hdv.out u18).mono ?_
            rintro e u19 ⟨Q, R, rfl, hQ, hR, hQv, hRv, hb⟩
            have hbw := Trg.more hHeld hbw hb
            have hg17 := Trg.fresh hg17 hb
            have hHeld2 := hHeld.below hb
            clear hb hHeld
            refine hK.out _ _ hHeld2 (fun hHeld => ?_)
            clear hHeld2
            clear hK K
            try simp only [Act.put, List.setIfInBounds_toArray, List.set_cons_zero, List.set_cons_succ]
            refine wpAnyH_take (i := 8) (oi := ⟨some 19, _, _, _, _, _⟩) (v := .tuple #[.agg (dg Q), .agg (dg R)]) rfl (by kernel_rfl) (by kernel_rfl) (by kernel_rfl) (fun _ _ _ h => h) (Or.inl ⟨by rfl, fun w _ => by go_simp⟩) hHeld ?_
            simp only [Act.put, List.setIfInBounds_toArray, List.set_cons_zero, List.set_cons_succ]
            refine wpAnyH_take (i := 9) (oi := ⟨some 28, _, _, _, _, _⟩) (v := .agg (dg Q)) rfl (by kernel_rfl) (by kernel_rfl) (by kernel_rfl) (fun _ _ _ h => h) (Or.inl ⟨by rfl, fun w _ => by go_simp⟩) hHeld ?_
            simp only [Act.put, List.setIfInBounds_toArray, List.set_cons_zero, List.set_cons_succ]
            refine wpAnyH_take (i := 10) (oi := ⟨some 29, _, _, _, _, _⟩) (v := .agg (dg R)) rfl (by kernel_rfl) (by kernel_rfl) (by kernel_rfl) (fun _ _ _ h => h) (Or.inl ⟨by rfl, fun w _ => by go_simp⟩) hHeld ?_
            simp only [Act.put, List.setIfInBounds_toArray, List.set_cons_zero, List.set_cons_succ]
            refine wpAnyH_ready (rs := [12]) (by kernel_rfl) (by simp) (AllReadyH.cons (o := ⟨some 7, _, _, _, _, _⟩) rfl (fun K hK => ?_) AllReadyH.nil)
            go_simp
            have hb := (Below.refl u19.heap.size u19).alloc (Nat.le_refl _) (.cells #[.int .i64 0, .int .i64 0, .int .i64 0, .int .i64 0, .int .i64 0, .int .i64 0, .int .i64 0, .int .i64 0, .int .i64 0, .int .i64 0, .int .i64 0, .int .i64 0] 80)
            obtain ⟨g20, hg⟩ : ∃ g, g = u19.heap.size := ⟨_, rfl⟩
            have hg20 : g < g20 ∧ (u19.alloc (.cells #[.int .i64 0, .int .i64 0, .int .i64 0, .int .i64 0, .int .i64 0, .int .i64 0, .int .i64 0, .int .i64 0, .int .i64 0, .int .i64 0, .int .i64 0, .int .i64 0] 80)).heap[g20]? = some (.cells #[.int .i64 0, .int .i64 0, .int .i64 0, .int .i64 0, .int .i64 0, .int .i64 0, .int .i64 0, .int .i64 0, .int .i64 0, .int .i64 0, .int .i64 0, .int .i64 0] 80) := ⟨by rw [hg]; exact hHeld.lt, heapN hg _⟩
            have hg170 := hg17
            have hg17 := Trg.fresh hg17 hb
            have ng17g20 : g17 < g20 := by rw [hg]; exact (Array.getElem?_eq_some_iff.1 hg170.2).1
            rw [← hg]
            have hbw := Trg.more hHeld hbw hb
            have hHeld2 := hHeld.below hb
            clear hb hHeld hg
            refine hK.out _ _ hHeld2 (fun hHeld => ?_)
            clear hHeld2
            generalize u19.alloc (.cells #[.int .i64 0, .int .i64 0, .int .i64 0, .int .i64 0, .int .i64 0, .int .i64 0, .int .i64 0, .int .i64 0, .int .i64 0, .int .i64 0, .int .i64 0, .int .i64 0] 80) = u20 at *
            clear hK K
            try simp only [Act.put, List.setIfInBounds_toArray, List.set_cons_zero, List.set_cons_succ]
            refine wpAnyH_ready (rs := [13]) (by kernel_rfl) (by simp) (AllReadyH.cons (o := ⟨none, _, _, _, _, _⟩) rfl (fun K hK => ?_) AllReadyH.nil)
            refine step_of_wp rfl (wp_store_row 80 _ _ rfl g17 (dg Q) rfl rfl 80 zs12 hg17.2 (dg_infoS hQ.len) (by rw [dg_size, hQ.len]; rfl) dg_one ?_)
            have hne : g17 ≠ g20 := by omega
            have hp1 := setRow_heap _ _ _ (dg Q) _ _ hg17.2
            have hq1 := (setRow_other u20 g17 g20 (dg Q) (by omega)).trans hg20.2
            have hbz := below_setRow hbw (g := g17) (by have := hHeld.1; omega) (dg Q)
            refine hK.out _ _ (hHeld.row hg17.1 (dg Q)) (fun hHeld => ?_)
            clear hK K
            generalize u20.setRow g17 (dg Q) = wy at *
            refine wpAnyH_ready (rs := [14]) (by kernel_rfl) (by simp) (AllReadyH.cons (o := ⟨none, _, _, _, _, _⟩) rfl (fun K hK => ?_) AllReadyH.nil)
            refine step_of_wp rfl (wp_store_row 80 _ _ rfl g20 (dg R) rfl rfl 80 zs12 hq1 (dg_infoS hR.len) (by rw [dg_size, hR.len]; rfl) dg_one ?_)
            have hp2 := (setRow_other wy g20 g17 (dg R) (by omega)).trans hp1
            have hq2 := setRow_heap _ _ _ (dg R) _ _ hq1
            have hbz2 := below_setRow hbz (g := g20) (by have := hHeld.1; omega) (dg R)
            have hT := hHeld.row hg20.1 (dg R)
            refine hK.out _ _ hT (fun hHeld => ?_)
            clear hK K
            refine wpAnyH_done (by kernel_rfl) ?_ _
            simp only [Act.put]
            go_wp2_with fail
            go_meet
            case rel => exact ⟨g17, g20, Q, R, rfl, rfl, Lib.hid ⟨hne, hg17.1, hg20.1, hp2, hq2, hQ, hR, hQv, hRv, hbz2, hT⟩⟩
          · go_simp
            have hb := (Below.refl u18.heap.size u18).alloc (Nat.le_refl _) (.cells #[.int .i64 0, .int .i64 0, .int .i64 0, .int .i64 0, .int .i64 0, .int .i64 0, .int .i64 0, .int .i64 0, .int .i64 0, .int .i64 0, .int .i64 0, .int .i64 0] 80)
            obtain ⟨g21, hg⟩ : ∃ g, g = u18.heap.size := ⟨_, rfl⟩
            have hg21 : g < g21 ∧ (u18.alloc (.cells #[.int .i64 0, .int .i64 0, .int .i64 0, .int .i64 0, .int .i64 0, .int .i64 0, .int .i64 0, .int .i64 0, .int .i64 0, .int .i64 0, .int .i64 0, .int .i64 0] 80)).heap[g21]? = some (.cells #[.int .i64 0, .int .i64 0, .int .i64 0, .int .i64 0, .int .i64 0, .int .i64 0, .int .i64 0, .int .i64 0, .int .i64 0, .int .i64 0, .int .i64 0, .int .i64 0] 80) := ⟨by rw [hg]; exact hHeld.lt, heapN hg _⟩
            have hg170 := hg17
            have hg17 := Trg.fresh hg17 hb
            have ng17g21 : g17 < g21 := by rw [hg]; exact (Array.getElem?_eq_some_iff.1 hg170.2).1
            rw [← hg]
            have hbw := Trg.more hHeld hbw hb
            have hHeld2 := hHeld.below hb
            clear hb hHeld hg
            refine hK.out _ _ hHeld2 (fun hHeld => ?_)
            clear hHeld2
            generalize u18.alloc (.cells #[.int .i64 0, .int .i64 0, .int .i64 0, .int .i64 0, .int .i64 0, .int .i64 0, .int .i64 0, .int .i64 0, .int .i64 0, .int .i64 0, .int .i64 0, .int .i64 0] 80) = u21 at *
            clear hK K
            try simp only [Act.put, List.setIfInBounds_toArray, List.set_cons_zero, List.set_cons_succ]
            refine wpAnyH_ready (rs := [7]) (by kernel_rfl) (by simp) (AllReadyH.cons (o := ⟨some 27, _, _, _, _, _⟩) rfl (fun K hK => ?_) AllReadyH.nil)
            go_simp
            refine (Hdv.out u21).mono ?_
            rintro e u22 ⟨Q, R, rfl, hQ, hR, hQv, hRv, hb⟩
            have hbw := Trg.more hHeld hbw hb
            have hg17 := Trg.fresh hg17 hb
            have hg21 := Trg.fresh hg21 hb
            have hHeld2 := hHeld.below hb
            clear hb hHeld
            refine hK.out _ _ hHeld2 (fun hHeld => ?_)
            clear hHeld2
            clear hK K
            try simp only [Act.put, List.setIfInBounds_toArray, List.set_cons_zero, List.set_cons_succ]
            refine wpAnyH_take (i := 8) (oi := ⟨some 19, _, _, _, _, _⟩) (v := .tuple #[.agg (dg Q), .agg (dg R)]) rfl (by kernel_rfl) (by kernel_rfl) (by kernel_rfl) (fun _ _ _ h => h) (Or.inl ⟨by rfl, fun w _ => by go_simp⟩) hHeld ?_
            simp only [Act.put, List.setIfInBounds_toArray, List.set_cons_zero, List.set_cons_succ]
            refine wpAnyH_take (i := 9) (oi := ⟨some 28, _, _, _, _, _⟩) (v := .agg (dg Q)) rfl (by kernel_rfl) (by kernel_rfl) (by kernel_rfl) (fun _ _ _ h => h) (Or.inl ⟨by rfl, fun w _ => by go_simp⟩) hHeld ?_
            simp only [Act.put, List.setIfInBounds_toArray, List.set_cons_zero, List.set_cons_succ]
            refine wpAnyH_take (i := 10) (oi := ⟨some 29, _, _, _, _, _⟩) (v := .agg (dg R)) rfl (by kernel_rfl) (by kernel_rfl) (by kernel_rfl) (fun _ _ _ h => h) (Or.inl ⟨by rfl, fun w _ => by go_simp⟩) hHeld ?_
            simp only [Act.put, List.setIfInBounds_toArray, List.set_cons_zero, List.set_cons_succ]
            refine wpAnyH_ready (rs := [13]) (by kernel_rfl) (by simp) (AllReadyH.cons (o := ⟨none, _, _, _, _, _⟩) rfl (fun K hK => ?_) AllReadyH.nil)
            refine step_of_wp rfl (wp_store_row 80 _ _ rfl g17 (dg Q) rfl rfl 80 zs12 hg17.2 (dg_infoS hQ.len) (by rw [dg_size, hQ.len]; rfl) dg_one ?_)
            have hne : g17 ≠ g21 := by omega
            have hp1 := setRow_heap _ _ _ (dg Q) _ _ hg17.2
            have hq1 := (setRow_other u22 g17 g21 (dg Q) (by omega)).trans hg21.2
            have hbz := below_setRow hbw (g := g17) (by have := hHeld.1; omega) (dg Q)
            refine hK.out _ _ (hHeld.row hg17.1 (dg Q)) (fun hHeld => ?_)
            clear hK K
            generalize u22.setRow g17 (dg Q) = wy at *
            refine wpAnyH_ready (rs := [14]) (by kernel_rfl) (by simp) (AllReadyH.cons (o := ⟨none, _, _, _, _, _⟩) rfl (fun K hK => ?_) AllReadyH.nil)
            refine step_of_wp rfl (wp_store_row 80 _ _ rfl g21 (dg R) rfl rfl 80 zs12 hq1 (dg_infoS hR.len) (by rw [dg_size, hR.len]; rfl) dg_one ?_)
            have hp2 := (setRow_other wy g21 g17 (dg R) (by omega)).trans hp1
            have hq2 := setRow_heap _ _ _ (dg R) _ _ hq1
            have hbz2 := below_setRow hbz (g := g21) (by have := hHeld.1; omega) (dg R)
            have hT := hHeld.row hg21.1 (dg R)
            refine hK.out _ _ hT (fun hHeld => ?_)
            clear hK K
            refine wpAnyH_done (by kernel_rfl) ?_ _
            simp only [Act.put]
            go_wp2_with fail
            go_meet
            case rel => exact ⟨g17, g21, Q, R, rfl, rfl, Lib.hid ⟨hne, hg17.1, hg21.1, hp2, hq2, hQ, hR, hQv, hRv, hbz2, hT⟩⟩
        · go_simp
          have hb := (Below.refl u17.heap.size u17).alloc (Nat.le_refl _) (.cells #[.int .i64 0, .int .i64 0, .int .i64 0, .int .i64 0, .int .i64 0, .int .i64 0, .int .i64 0, .int .i64 0, .int .i64 0, .int .i64 0, .int .i64 0, .int .i64 0] 80)
          obtain ⟨g23, hg⟩ : ∃ g, g = u17.heap.size := ⟨_, rfl⟩
          have hg23 : g < g23 ∧ (u17.alloc (.cells #[.int .i64 0, .int .i64 0, .int .i64 0, .int .i64 0, .int .i64 0, .int .i64 0, .int .i64 0, .int .i64 0, .int .i64 0, .int .i64 0, .int .i64 0, .int .i64 0] 80)).heap[g23]? = some (.cells #[.int .i64 0, .int .i64 0, .int .i64 0, .int .i64 0, .int .i64 0, .int .i64 0, .int .i64 0, .int .i64 0, .int .i64 0, .int .i64 0, .int .i64 0, .int .i64 0] 80) := ⟨by rw [hg]; exact hHeld.lt, heapN hg _⟩
          have hg170 := hg17
          have hg17 := Trg.fresh hg17 hb
          have ng17g23 : g17 < g23 := by rw [hg]; exact (Array.getElem?_eq_some_iff.1 hg170.2).1
          rw [← hg]
          have hbw := Trg.more hHeld hbw hb
          have hHeld2 := hHeld.below hb
          clear hb hHeld hg
          refine hK.out _ _ hHeld2 (fun hHeld => ?_)
          clear hHeld2
          generalize u17.alloc (.cells #[.int .i64 0, .int .i64 0, .int .i64 0, .int .i64 0, .int .i64 0, .int .i64 0, .int .i64 0, .int .i64 0, .int .i64 0, .int .i64 0, .int .i64 0, .int .i64 0] 80) = u23 at *
          clear hK K
          try simp only [Act.put, List.setIfInBounds_toArray, List.set_cons_zero, List.set_cons_succ]
          refine wpAnyH_ready (rs := [6]) (by kernel_rfl) (by simp) (AllReadyH.cons (o := ⟨some 26, _, _, _, _, _⟩) rfl (fun K hK => ?_) AllReadyH.nil)
          go_simp
          refine (HcB.out u23).mono ?_
          rintro e u24 ⟨rfl, hb⟩
          have hbw := Trg.more hHeld hbw hb
          have hg17 := Trg.fresh hg17 hb
          have hg23 := Trg.fresh hg23 hb
          have hHeld2 := hHeld.below hb
          clear hb hHeld
          refine hK.out _ _ hHeld2 (fun hHeld => ?_)
          clear hHeld2
          clear hK K
          try simp only [Act.put, List.setIfInBounds_toArray, List.set_cons_zero, List.set_cons_succ]
          refine wpAnyH_ready (rs := [7]) (by kernel_rfl) (by simp) (AllReadyH.cons (o := ⟨some 27, _, _, _, _, _⟩) rfl (fun K hK => ?_) AllReadyH.nil)
          go_simp
          refine (Hdv.out u24).mono ?_
          rintro e u25 ⟨Q, R, rfl, hQ, hR, hQv, hRv, hb⟩
          have hbw := Trg.more hHeld hbw hb
          have hg17 := Trg.fresh hg17 hb
          have hg23 := Trg.fresh hg23 hb
          have hHeld2 := hHeld.below hb
          clear hb hHeld
          refine hK.out _ _ hHeld2 (fun hHeld => ?_)
          clear hHeld2
          clear hK K
          try simp only [Act.put, List.setIfInBounds_toArray, List.set_cons_zero, List.set_cons_succ]
          refine wpAnyH_take (i := 8) (oi := ⟨some 19, _, _, _, _, _⟩) (v := .tuple #[.agg (dg Q), .agg (dg R)]) rfl (by kernel_rfl) (by kernel_rfl) (by kernel_rfl) (fun _ _ _ h => h) (Or.inl ⟨by rfl, fun w _ => by go_simp⟩) hHeld ?_
          simp only [Act.put, List.setIfInBounds_toArray, List.set_cons_zero, List.set_cons_succ]
          refine wpAnyH_take (i := 9) (oi := ⟨some 28, _, _, _, _, _⟩) (v := .agg (dg Q)) rfl (by kernel_rfl) (by kernel_rfl) (by kernel_rfl) (fun _ _ _ h => h) (Or.inl ⟨by rfl, fun w _ => by go_simp⟩) hHeld ?_
          simp only [Act.put, List.setIfInBounds_toArray, List.set_cons_zero, List.set_cons_succ]
          refine wpAnyH_take (i := 10) (oi := ⟨some 29, _, _, _, _, _⟩) (v := .agg (dg R)) rfl (by kernel_rfl) (by kernel_rfl) (by kernel_rfl) (fun _ _ _ h => h) (Or.inl ⟨by rfl, fun w _ => by go_simp⟩) hHeld ?_
          simp only [Act.put, List.setIfInBounds_toArray, List.set_cons_zero, List.set_cons_succ]
          refine wpAnyH_ready (rs := [13]) (by kernel_rfl) (by simp) (AllReadyH.cons (o := ⟨none, _, _, _, _, _⟩) rfl (fun K hK => ?_) AllReadyH.nil)
          refine step_of_wp rfl (wp_store_row 80 _ _ rfl g17 (dg Q) rfl rfl 80 zs12 hg17.2 (dg_infoS hQ.len) (by rw [dg_size, hQ.len]; rfl) dg_one ?_)
          have hne : g17 ≠ g23 := by omega
          have hp1 := setRow_heap _ _ _ (dg Q) _ _ hg17.2
          have hq1 := (setRow_other u25 g17 g23 (dg Q) (by omega)).trans hg23.2
          have hbz := below_setRow hbw (g := g17) (by have := hHeld.1; omega) (dg Q)
          refine hK.out _ _ (hHeld.row hg17.1 (dg Q)) (fun hHeld => ?_)
          clear hK K
          generalize u25.setRow g17 (dg Q) = wy at *
          refine wpAnyH_ready (rs := [14]) (by kernel_rfl) (by simp) (AllReadyH.cons (o := ⟨none, _, _, _, _, _⟩) rfl (fun K hK => ?_) AllReadyH.nil)
          refine step_of_wp rfl (wp_store_row 80 _ _ rfl g23 (dg R) rfl rfl 80 zs12 hq1 (dg_infoS hR.len) (by rw [dg_size, hR.len]; rfl) dg_one ?_)
          have hp2 := (setRow_other wy g23 g17 (dg R) (by omega)).trans hp1
          have hq2 := setRow_heap _ _ _ (dg R) _ _ hq1
          have hbz2 := below_setRow hbz (g := g23) (by have := hHeld.1; omega) (dg R)
          have hT := hHeld.row hg23.1 (dg R)
          refine hK.out _ _ hT (fun hHeld => ?_)
          clear hK K
          refine wpAnyH_done (by kernel_rfl) ?_ _
          simp only [Act.put]
          go_wp2_with fail
          go_meet
          case rel => exact ⟨g17, g23, Q, R, rfl, rfl, Lib.hid ⟨hne, hg17.1, hg23.1, hp2, hq2, hQ, hR, hQv, hRv, hbz2, hT⟩⟩
      · go_simp
        have hb := (Below.refl u0.heap.size u0).alloc (Nat.le_refl _) (.cells #[.int .i64 0, .int .i64 0, .int .i64 0, .int .i64 0, .int .i64 0, .int .i64 0, .int .i64 0, .int .i64 0, .int .i64 0, .int .i64 0, .int .i64 0, .int .i64 0] 80)
        obtain ⟨g26, hg⟩ : ∃ g, g = u0.heap.size := ⟨_, rfl⟩
        have hg26 : g < g26 ∧ (u0.alloc (.cells #[.int .i64 0, .int .i64 0, .int .i64 0, .int .i64 0, .int .i64 0, .int .i64 0, .int .i64 0, .int .i64 0, .int .i64 0, .int .i64 0, .int .i64 0, .int .i64 0] 80)).heap[g26]? = some (.cells #[.int .i64 0, .int .i64 0, .int .i64 0, .int .i64 0, .int .i64 0, .int .i64 0, .int .i64 0, .int .i64 0, .int .i64 0, .int .i64 0, .int .i64 0, .int .i64 0] 80) := ⟨by rw [hg]; exact hHeld.lt, heapN hg _⟩
        rw [← hg]
        have hbw := Trg.more hHeld hbw hb
        have hHeld2 := hHeld.below hb
        clear hb hHeld hg
        refine hK.out _ _ hHeld2 (fun hHeld => ?_)
        clear hHeld2
        generalize u0.alloc (.cells #[.int .i64 0, .int .i64 0, .int .i64 0, .int .i64 0, .int .i64 0, .int .i64 0, .int .i64 0, .int .i64 0, .int .i64 0, .int .i64 0, .int .i64 0, .int .i64 0] 80) = u26 at *
        clear hK K
        try simp only [Act.put, List.setIfInBounds_toArray, List.set_cons_zero, List.set_cons_succ]
        refine wpAnyH_ready (rs := [6, 11]) (by kernel_rfl) (by simp) (AllReadyH.cons (o := ⟨some 26, _, _, _, _, _⟩) rfl (fun K hK => ?_) (AllReadyH.cons (o := ⟨some 6, _, _, _, _, _⟩) rfl (fun K hK => ?_) AllReadyH.nil))
        · go_simp
          refine (HcB.out u26).mono ?_
          rintro e u27 ⟨rfl, hb⟩
          have hbw := Trg.more hHeld hbw hb
          have hg26 := Trg.fresh hg26 hb
          have hHeld2 := hHeld.below hb
          clear hb hHeld
          refine hK.out _ _ hHeld2 (fun hHeld => ?_)
          clear hHeld2
          clear hK K
          try simp only [Act.put, List.setIfInBounds_toArray, List.set_cons_zero, List.set_cons_succ]
          refine wpAnyH_ready (rs := [7, 11]) (by kernel_rfl) (by simp) (AllReadyH.cons (o := ⟨some 27, _, _, _, _, _⟩) rfl (fun K hK => ?_) (AllReadyH.cons (o := ⟨some 6, _, _, _, _, _⟩) rfl (fun K hK => ?_) AllReadyH.nil))
          · go_simp
            refine (Hdv.out u27).mono ?_
            rintro e u28 ⟨Q, R, rfl, hQ, hR, hQv, hRv, hb⟩
            have hbw := Trg.more hHeld hbw hb
            have hg26 := Trg.fresh hg26 hb
            have hHeld2 := hHeld.below hb
            clear hb hHeld
            refine hK.out _ _ hHeld2 (fun hHeld => ?_)
            clear hHeld2
            clear hK K
            try simp only [Act.put, List.setIfInBounds_toArray, List.set_cons_zero, List.set_cons_succ]
            refine wpAnyH_take (i := 8) (oi := ⟨some 19, _, _, _, _, _⟩) (v := .tuple #[.agg (dg Q), .agg (dg R)]) rfl (by kernel_rfl) (by kernel_rfl) (by kernel_rfl) (fun _ _ _ h => h) (Or.inl ⟨by rfl, fun w _ => by go_simp⟩) hHeld ?_
            simp only [Act.put, List.setIfInBounds_toArray, List.set_cons_zero, List.set_cons_succ]
            refine wpAnyH_take (i := 9) (oi := ⟨some 28, _, _, _, _, _⟩) (v := .agg (dg Q)) rfl (by kernel_rfl) (by kernel_rfl) (by kernel_rfl) (fun _ _ _ h => h) (Or.inl ⟨by rfl, fun w _ => by go_simp⟩) hHeld ?_
            simp only [Act.put, List.setIfInBounds_toArray, List.set_cons_zero, List.set_cons_succ]
            refine wpAnyH_take (i := 10) (oi := ⟨some 29, _, _, _, _, _⟩) (v := .agg (dg R)) rfl (by kernel_rfl) (by kernel_rfl) (by kernel_rfl) (fun _ _ _ h => h) (Or.inl ⟨by rfl, fun w _ => by go_simp⟩) hHeld ?_
            simp only [Act.put, List.setIfInBounds_toArray, List.set_cons_zero, List.set_cons_succ]
            refine wpAnyH_ready (rs := [11]) (by kernel_rfl) (by simp) (AllReadyH.cons (o := ⟨some 6, _, _, _, _, _⟩) rfl (fun K hK => ?_) AllReadyH.nil)
            go_simp
            have hb := (Below.refl u28.heap.size u28).alloc (Nat.le_refl _) (.cells #[.int .i64 0, .int .i64 0, .int .i64 0, .int .i64 0, .int .i64 0, .int .i64 0, .int .i64 0, .int .i64 0, .int .i64 0, .int .i64 0, .int .i64 0, .int .i64 0] 80)
            obtain ⟨g29, hg⟩ : ∃ g, g = u28.heap.size := ⟨_, rfl⟩
            have hg29 : g < g29 ∧ (u28.alloc (.cells #[.int .i64 0, .int .i64 0, .int .i64 0, .int .i64 0, .int .i64 0, .int .i64 0, .int .i64 0, .int .i64 0, .int .i64 0, .int .i64 0, .int .i64 0, .int .i64 0] 80)).heap[g29]? = some (.cells #[.int .i64 0, .int .i64 0, .int .i64 0, .int .i64 0, .int .i64 0, .int .i64 0, .int .i64 0, .int .i64 0, .int .i64 0, .int .i64 0, .int .i64 0, .int .i64 0] 80) := ⟨by rw [hg]; exact hHeld.lt, heapN hg _⟩
            have hg260 := hg26
            have hg26 := Trg.fresh hg26 hb
            have ng26g29 : g26 < g29 := by rw [hg]; exact (Array.getElem?_eq_some_iff.1 hg260.2).1
            rw [← hg]
            have hbw := Trg.more hHeld hbw hb
            have hHeld2 := hHeld.below hb
            clear hb hHeld hg
            refine hK.out _ _ hHeld2 (fun hHeld => ?_)
            clear hHeld2
            generalize u28.alloc (.cells #[.int .i64 0, .int .i64 0, .int .i64 0, .int .i64 0, .int .i64 0, .int .i64 0, .int .i64 0, .int .i64 0, .int .i64 0, .int .i64 0, .int .i64 0, .int .i64 0] 80) = u29 at *
            clear hK K
            try simp only [Act.put, List.setIfInBounds_toArray, List.set_cons_zero, List.set_cons_succ]
            refine wpAnyH_ready (rs := [13]) (by kernel_rfl) (by simp) (AllReadyH.cons (o := ⟨none, _, _, _, _, _⟩) rfl (fun K hK => ?_) AllReadyH.nil)
            refine step_of_wp rfl (wp_store_row 80 _ _ rfl g29 (dg Q) rfl rfl 80 zs12 hg29.2 (dg_infoS hQ.len) (by rw [dg_size, hQ.len]; rfl) dg_one ?_)
            have hne : g29 ≠ g26 := by omega
            have hp1 := setRow_heap _ _ _ (dg Q) _ _ hg29.2
            have hq1 := (setRow_other u29 g29 g26 (dg Q) (by omega)).trans hg26.2
            have hbz := below_setRow hbw (g := g29) (by have := hHeld.1; omega) (dg Q)
            refine hK.out _ _ (hHeld.row hg29.1 (dg Q)) (fun hHeld => ?_)
            clear hK K
            generalize u29.setRow g29 (dg Q) = wy at *
            refine wpAnyH_ready (rs := [14]) (by kernel_rfl) (by simp) (AllReadyH.cons (o := ⟨none, _, _, _, _, _⟩) rfl (fun K hK => ?_) AllReadyH.nil)
            refine step_of_wp rfl (wp_store_row 80 _ _ rfl g26 (dg R) rfl rfl 80 zs12 hq1 (dg_infoS hR.len) (by rw [dg_size, hR.len]; rfl) dg_one ?_)
            have hp2 := (setRow_other wy g26 g29 (dg R) (by omega)).trans hp1
            have hq2 := setRow_heap _ _ _ (dg R) _ _ hq1
            have hbz2 := below_setRow hbz (g := g26) (by have := hHeld.1; omega) (dg R)
            have hT := hHeld.row hg26.1 (dg R)
            refine hK.out _ _ hT (fun hHeld => ?_)
            clear hK K
            refine wpAnyH_done (by kernel_rfl) ?_ _
            simp only [Act.put]
            go_wp2_with fail
            go_meet
            case rel => exact ⟨g29, g26, Q, R, rfl, rfl, Lib.hid ⟨hne, hg29.1, hg26.1, hp2, hq2, hQ, hR, hQv, hRv, hbz2, hT⟩⟩
          · go_simp
            have hb := (Below.refl u27.heap.size u27).alloc (Nat.le_refl _) (.cells #[.int .i64 0, .int .i64 0, .int .i64 0, .int .i64 0, .int .i64 0, .int .i64 0, .int .i64 0, .int .i64 0, .int .i64 0, .int .i64 0, .int .i64 0, .int .i64 0] 80)
            obtain ⟨g30, hg⟩ : ∃ g, g = u27.heap.size := ⟨_, rfl⟩
            have hg30 : g < g30 ∧ (u27.alloc (.cells #[.int .i64 0, .int .i64 0, .int .i64 0, .int .i64 0, .int .i64 0, .int .i64 0, .int .i64 0, .int .i64 0, .int .i64 0, .int .i64 0, .int .i64 0, .int .i64 0] 80)).heap[g30]? = some (.cells #[.int .i64 0, .int .i64 0, .int .i64 0, .int .i64 0, .int .i64 0, .int .i64 0, .int .i64 0, .int .i64 0, .int .i64 0, .int .i64 0, .int .i64 0, .int .i64 0] 80) := ⟨by rw [hg]; exact hHeld.lt, heapN hg _⟩
            have hg260 := hg26
            have hg26 := Trg.fresh hg26 hb
            have ng26g30 : g26 < g30 := by rw [hg]; exact (Array.getElem?_eq_some_iff.1 hg260.2).1
            rw [← hg]
            have hbw := Trg.more hHeld hbw hb
            have hHeld2 := hHeld.below hb
            clear hb hHeld hg
            refine hK.out _ _ hHeld2 (fun hHeld => ?_)
            clear hHeld2
            generalize u27.alloc (.cells #[.int .i64 0, .int .i64 0, .int .i64 0, .int .i64 0, .int .i64 0, .int .i64 0, .int .i64 0, .int .i64 0, .int .i64 0, .int .i64 0, .int .i64 0, .int .i64 0] 80) = u30 at *
            clear hK K
            try simp only [Act.put, List.setIfInBounds_toArray, List.set_cons_zero, List.set_cons_succ]
            refine wpAnyH_ready (rs := [7]) (by kernel_rfl) (by simp) (AllReadyH.cons (o := ⟨some 27, _, _, _, _, _⟩) rfl (fun K hK => ?_) AllReadyH.nil)
            go_simp
            refine (Hdv.out u30).mono ?_
            rintro e u31 ⟨Q, R, rfl, hQ, hR, hQv, hRv, hb⟩
            have hbw := Trg.more hHeld hbw hb
            have hg26 := Trg.fresh hg26 hb
            have hg30 := Trg.fresh hg30 hb
            have hHeld2 := hHeld.below hb
            clear hb hHeld
            refine hK.out _ _ hHeld2 (fun hHeld => ?_)
            clear hHeld2
            clear hK K
            try simp only [Act.put, List.setIfInBounds_toArray, List.set_cons_zero, List.set_cons_succ]
            refine wpAnyH_take (i := 8) (oi := ⟨some 19, _, _, _, _, _⟩) (v := .tuple #[.agg (dg Q), .agg (dg R)]) rfl (by kernel_rfl) (by kernel_rfl) (by kernel_rfl) (fun _ _ _ h => h) (Or.inl ⟨by rfl, fun w _ => by go_simp⟩) hHeld ?_
            simp only [Act.put, List.setIfInBounds_toArray, List.set_cons_zero, List.set_cons_succ]
            refine wpAnyH_take (i := 9) (oi := ⟨some 28, _, _, _, _, _⟩) (v := .agg (dg Q)) rfl (by kernel_rfl) (by kernel_rfl) (by kernel_rfl) (fun _ _ _ h => h) (Or.inl ⟨by rfl, fun w _ => by go_simp⟩) hHeld ?_
            simp only [Act.put, List.setIfInBounds_toArray, List.set_cons_zero, List.set_cons_succ]
            refine wpAnyH_take (i := 10) (oi := ⟨some 29, _, _, _, _, _⟩) (v := .agg (dg R)) rfl (by kernel_rfl) (by kernel_rfl) (by kernel_rfl) (fun _ _ _ h => h) (Or.inl ⟨by rfl, fun w _ => by go_simp⟩) hHeld ?_
            simp only [Act.put, List.setIfInBounds_toArray, List.set_cons_zero, List.set_cons_succ]
            refine wpAnyH_ready (rs := [13]) (by kernel_rfl) (by simp) (AllReadyH.cons (o := ⟨none, _, _, _, _, _⟩) rfl (fun K hK => ?_) AllReadyH.nil)
            refine step_of_wp rfl (wp_store_row 80 _ _ rfl g30 (dg Q) rfl rfl 80 zs12 hg30.2 (dg_infoS hQ.len) (by rw [dg_size, hQ.len]; rfl) dg_one ?_)
            have hne : g30 ≠ g26 := by omega
            have hp1 := setRow_heap _ _ _ (dg Q) _ _ hg30.2
            have hq1 := (setRow_other u31 g30 g26 (dg Q) (by omega)).trans hg26.2
            have hbz := below_setRow hbw (g := g30) (by have := hHeld.1; omega) (dg Q)
            refine hK.out _ _ (hHeld.row hg30.1 (dg Q)) (fun hHeld => ?_)
            clear hK K
            generalize u31.setRow g30 (dg Q) = wy at *
            refine wpAnyH_ready (rs := [14]) (by kernel_rfl) (by simp) (AllReadyH.cons (o := ⟨none, _, _, _, _, _⟩) rfl (fun K hK => ?_) AllReadyH.nil)
            refine step_of_wp rfl (wp_store_row 80 _ _ rfl g26 (dg R) rfl rfl 80 zs12 hq1 (dg_infoS hR.len) (by rw [dg_size, hR.len]; rfl) dg_one ?_)
            have hp2 := (setRow_other wy g26 g30 (dg R) (by omega)).trans hp1
            have hq2 := setRow_heap _ _ _ (dg R) _ _ hq1
            have hbz2 := below_setRow hbz (g := g26) (by have := hHeld.1; omega) (dg R)
            have hT := hHeld.row hg26.1 (dg R)
            refine hK.out _ _ hT (fun hHeld => ?_)
            clear hK K
            refine wpAnyH_done (by kernel_rfl) ?_ _
            simp only [Act.put]
            go_wp2_with fail
            go_meet
            case rel => exact ⟨g30, g26, Q, R, rfl, rfl, Lib.hid ⟨hne, hg30.1, hg26.1, hp2, hq2, hQ, hR, hQv, hRv, hbz2, hT⟩⟩
        · go_simp
          have hb := (Below.refl u26.heap.size u26).alloc (Nat.le_refl _) (.cells #[.int .i64 0, .int .i64 0, .int .i64 0, .int .i64 0, .int .i64 0, .int .i64 0, .int .i64 0, .int .i64 0, .int .i64 0, .int .i64 0, .int .i64 0, .int .i64 0] 80)
          obtain ⟨g32, hg⟩ : ∃ g, g = u26.heap.size := ⟨_, rfl⟩
          have hg32 : g < g32 ∧ (u26.alloc (.cells #[.int .i64 0, .int .i64 0, .int .i64 0, .int .i64 0, .int .i64 0, .int .i64 0, .int .i64 0, .int .i64 0, .int .i64 0, .int .i64 0, .int .i64 0, .int .i64 0] 80)).heap[g32]? = some (.cells #[.int .i64 0, .int .i64 0, .int .i64 0, .int .i64 0, .int .i64 0, .int .i64 0, .int .i64 0, .int .i64 0, .int .i64 0, .int .i64 0, .int .i64 0, .int .i64 0] 80) := ⟨by rw [hg]; exact hHeld.lt, heapN hg _⟩
          have hg260 := hg26
          have hg26 := Trg.fresh hg26 hb
          have ng26g32 : g26 < g32 := by rw [hg]; exact (Array.getElem?_eq_some_iff.1 hg260.2).1
          rw [← hg]
          have hbw := Trg.more hHeld hbw hb
          have hHeld2 := hHeld.below hb
          clear hb hHeld hg
          refine hK.out _ _ hHeld2 (fun hHeld => ?_)
          clear hHeld2
          generalize u26.alloc (.cells #[.int .i64 0, .int .i64 0, .int .i64 0, .int .i64 0, .int .i64 0, .int .i64 0, .int .i64 0, .int .i64 0, .int .i64 0, .int .i64 0, .int .i64 0, .int .i64 0] 80) = u32 at *
          clear hK K
          try simp only [Act.put, List.setIfInBounds_toArray, List.set_cons_zero, List.set_cons_succ]
          refine wpAnyH_ready (rs := [6]) (by kernel_rfl) (by simp) (AllReadyH.cons (o := ⟨some 26, _, _, _, _, _⟩) rfl (fun K hK => ?_) AllReadyH.nil)
          go_simp
          refine (HcB.out u32).mono ?_
          rintro e u33 ⟨rfl, hb⟩
          have hbw := Trg.more hHeld hbw hb
          have hg26 := Trg.fresh hg26 hb
          have hg32 := Trg.fresh hg32 hb
          have hHeld2 := hHeld.below hb
          clear hb hHeld
          refine hK.out _ _ hHeld2 (fun hHeld => ?_)
          clear hHeld2
          clear hK K
          try simp only [Act.put, List.setIfInBounds_toArray, List.set_cons_zero, List.set_cons_succ]
          refine wpAnyH_ready (rs := [7]) (by kernel_rfl) (by simp) (AllReadyH.cons (o := ⟨some 27, _, _, _, _, _⟩) rfl (fun K hK => ?_) AllReadyH.nil)
          go_simp
          refine (Hdv.out u33).mono ?_
          rintro e u34 ⟨Q, R, rfl, hQ, hR, hQv, hRv, hb⟩
          have hbw := Trg.more hHeld hbw hb
          have hg26 := Trg.fresh hg26 hb
          have hg32 := Trg.fresh hg32 hb
          have hHeld2 := hHeld.below hb
          clear hb hHeld
          refine hK.out _ _ hHeld2 (fun hHeld => ?_)
          clear hHeld2
          clear hK K
          try simp only [Act.put, List.setIfInBounds_toArray, List.set_cons_zero, List.set_cons_succ]
          refine wpAnyH_take (i := 8) (oi := ⟨some 19, _, _, _, _, _⟩) (v := .tuple #[.agg (dg Q), .agg (dg R)]) rfl (by kernel_rfl) (by kernel_rfl) (by kernel_rfl) (fun _ _ _ h => h) (Or.inl ⟨by rfl, fun w _ => by go_simp⟩) hHeld ?_
          simp only [Act.put, List.setIfInBounds_toArray, List.set_cons_zero, List.set_cons_succ]
          refine wpAnyH_take (i := 9) (oi := ⟨some 28, _, _, _, _, _⟩) (v := .agg (dg Q)) rfl (by kernel_rfl) (by kernel_rfl) (by kernel_rfl) (fun _ _ _ h => h) (Or.inl ⟨by rfl, fun w _ => by go_simp⟩) hHeld ?_
          simp only [Act.put, List.setIfInBounds_toArray, List.set_cons_zero, List.set_cons_succ]
          refine wpAnyH_take (i := 10) (oi := ⟨some 29, _, _, _, _, _⟩) (v := .agg (dg R)) rfl (by kernel_rfl) (by kernel_rfl) (by kernel_rfl) (fun _ _ _ h => h) (Or.inl ⟨by rfl, fun w _ => by go_simp⟩) hHeld ?_
          simp only [Act.put, List.setIfInBounds_toArray, List.set_cons_zero, List.set_cons_succ]
          refine wpAnyH_ready (rs := [13]) (by kernel_rfl) (by simp) (AllReadyH.cons (o := ⟨none, _, _, _, _, _⟩) rfl (fun K hK => ?_) AllReadyH.nil)
          refine step_of_wp rfl (wp_store_row 80 _ _ rfl g32 (dg Q) rfl rfl 80 zs12 hg32.2 (dg_infoS hQ.len) (by rw [dg_size, hQ.len]; rfl) dg_one ?_)
          have hne : g32 ≠ g26 := by omega
          have hp1 := setRow_heap _ _ _ (dg Q) _ _ hg32.2
          have hq1 := (setRow_other u34 g32 g26 (dg Q) (by omega)).trans hg26.2
          have hbz := below_setRow hbw (g := g32) (by have := hHeld.1; omega) (dg Q)
          refine hK.out _ _ (hHeld.row hg32.1 (dg Q)) (fun hHeld => ?_)
          clear hK K
          generalize u34.setRow g32 (dg Q) = wy at *
          refine wpAnyH_ready (rs := [14]) (by kernel_rfl) (by simp) (AllReadyH.cons (o := ⟨none, _, _, _, _, _⟩) rfl (fun K hK => ?_) AllReadyH.nil)
          refine step_of_wp rfl (wp_store_row 80 _ _ rfl g26 (dg R) rfl rfl 80 zs12 hq1 (dg_infoS hR.len) (by rw [dg_size, hR.len]; rfl) dg_one ?_)
          have hp2 := (setRow_other wy g26 g32 (dg R) (by omega)).trans hp1
          have hq2 := setRow_heap _ _ _ (dg R) _ _ hq1
          have hbz2 := below_setRow hbz (g := g26) (by have := hHeld.1; omega) (dg R)
          have hT := hHeld.row hg26.1 (dg R)
          refine hK.out _ _ hT (fun hHeld => ?_)
          clear hK K
          refine wpAnyH_done (by kernel_rfl) ?_ _
          simp only [Act.put]
          go_wp2_with fail
          go_meet
          case rel => exact ⟨g32, g26, Q, R, rfl, rfl, Lib.hid ⟨hne, hg32.1, hg26.1, hp2, hq2, hQ, hR, hQv, hRv, hbz2, hT⟩⟩
    case rest =>
      obtain ⟨p, q, Q, R, rfl, rfl, hh⟩ := hcut
      have HV := Lib.hid (near_val (x := sgV ma a) (d := (vD b : Int)) (U := vD D) (Q := vD Q) (R := vD R) (by have := HB0.out; omega) HDab.out (by rw [hh.out.2.2.2.2.2.2.2.1, HB2v.out]; congr 1; omega) (by rw [hh.out.2.2.2.2.2.2.2.2.1, HB2v.out]; congr 1; omega))
      have HT := Lib.hid hh.out.2.2.2.2.2.2.2.2.2.2
      have HBl := Lib.hid hh.out.2.2.2.2.2.2.2.2.2.1
      have HQ := Lib.hid hh.out.2.2.2.2.2.1; have HR := Lib.hid hh.out.2.2.2.2.2.2.1
      have Hp := Lib.hid hh.out.2.2.2.1; have Hq := Lib.hid hh.out.2.2.2.2.1
      have HpL := Lib.hid hh.out.2.1
      have c0 := nm_head HT.out.2.1
      have hgk := HT.out.1
      have hfin : ∀ (mm : Bool) (QQ : List Nat) (wd : World), Dg12 QQ → sgV mm QQ = (2 * sgV ma a + vD b) / (2 * vD b) → Below k w wd → NumIs w ((2 * sgV ma a + vD b) / (2 * vD b)) (.returned (.agg (nm mm QQ))) wd := fun mm QQ wd h1 h2 h3 => ⟨mm, QQ, rfl, h1, h2, by rw [← Hk.out]; exact h3⟩
      have Hfin := Lib.hid hfin
      clear hfin
      cases m
      · have hval : sgV false Q = (2 * sgV ma a + vD b) / (2 * vD b) := by
          have h1 := HV.out.1 (by rw [← HDv.out]; simp [sgV])
          simpa [sgV] using h1
        have Hval := Lib.hid hval
        clear hval
        go_wp2_with (first | (refine wpList_load_row rfl 80 _ rfl p rfl 80 (dg Q) (0, 0) _ Hp.out Tryd.underlying80 rfl (dg_infoS HQ.out.len) ?_) | (refine wpList_build_num rfl _ _ rfl rfl rfl HQ.out.len ?_) | (refine wpList_store_row rfl 82 _ _ rfl (k + 1 + 1) (nm false Q) rfl rfl 82 zn13 HT.out.2.2.2 (nm_info HQ.out.len) (by rw [nm_size, HQ.out.len]; rfl) nm_one ?_))
        exact bodyPost_ret (v := .agg (nm false Q)) (results_cell_row rfl _ _ (k + 1 + 1) 82 (nm false Q) (0, 0) _ rfl (setRow_heap _ _ _ _ _ _ HT.out.2.2.2) Tryd.underlying82 rfl (nm_info HQ.out.len)) rfl (Hfin.out false Q _ HQ.out Hval.out (below_setRow HBl.out (by omega) _))
      · have hyn : 2 * sgV ma a + vD b ≤ 0 := by rw [← HDv.out]; simp [sgV]
        have hzz : 2 * sgV ma a + vD b = 0 → vD Q = 0 ∧ vD R = 0 := fun h => by
          have h1 := HDab.out
          rw [h] at h1
          rw [hh.out.2.2.2.2.2.2.2.1, hh.out.2.2.2.2.2.2.2.2.1, h1]; simp
        have heq := eq_dig0 R HR.out.len
        unfold zs12 at heq
        by_cases hr : vD R = 0
        · have hrd : decide (vD R = 0) = true := by simp [hr]
          have hval : sgV true Q = (2 * sgV ma a + vD b) / (2 * vD b) := by
            rcases Int.lt_or_eq_of_le hyn with h | h
            · have h1 := (HV.out.2 h).1 hr
              simpa [sgV] using h1
            · rw [h]; simp [sgV, (hzz h).1]
          have Hval := Lib.hid hval
          rw [hrd] at heq
          clear hval hyn hzz hr hrd
          go_wp2_with (first | (refine wpList_want (by rfl) fun K hK => wp_load_row 80 _ rfl q rfl 80 (dg R) (0, 0) _ Hq.out Tryd.underlying80 rfl (dg_infoS HR.out.len) (hK _ _ ?_)) | (refine wpList_load_row rfl 80 _ rfl p rfl 80 (dg Q) (0, 0) _ Hp.out Tryd.underlying80 rfl (dg_infoS HQ.out.len) ?_) | (refine wpList_build_num rfl _ _ rfl rfl rfl HQ.out.len ?_) | (refine wpList_store_row rfl 82 _ _ rfl (k + 1 + 1) (nm true Q) rfl rfl 82 zn13 HT.out.2.2.2 (nm_info HQ.out.len) (by rw [nm_size, HQ.out.len]; rfl) nm_one ?_))
          exact bodyPost_ret (v := .agg (nm true Q)) (results_cell_row rfl _ _ (k + 1 + 1) 82 (nm true Q) (0, 0) _ rfl (setRow_heap _ _ _ _ _ _ HT.out.2.2.2) Tryd.underlying82 rfl (nm_info HQ.out.len)) rfl (Hfin.out true Q _ HQ.out Hval.out (below_setRow HBl.out (by omega) _))
        · have hrd : decide (vD R = 0) = false := by simp [hr]
          have hQb : vD Q + vD [1, 0, 0, 0, 0, 0, 0, 0, 0, 0, 0, 0] < 65536 ^ Q.length := by
            rw [HQ.out.len, oneL_v, hh.out.2.2.2.2.2.2.2.1]
            have h1 : vD D / vD B2 ≤ vD D := Nat.div_le_self _ _
            have h2 := HDab.out
            have h3 := HAv.out; have h4 := HBv.out
            have h5 : vD D ≤ 680564733841876926926749214863536422912 := by rw [h2]; cases ma <;> simp [sgV] <;> omega
            exact Nat.lt_of_le_of_lt (Nat.add_le_add_right (Nat.le_trans h1 h5) 1) (by decide +kernel)
          have hs := plusL_sum (by rw [HQ.out.len]; rfl) hQb
          have hl := plusL_len Q [1, 0, 0, 0, 0, 0, 0, 0, 0, 0, 0, 0] 0 (by rw [HQ.out.len]; rfl)
          have hd := plusL_dgt Q [1, 0, 0, 0, 0, 0, 0, 0, 0, 0, 0, 0] 0
          have hc := fun w => plus_any Q [1, 0, 0, 0, 0, 0, 0, 0, 0, 0, 0, 0] w HQ.out oneL_12
          rw [show dg [1, 0, 0, 0, 0, 0, 0, 0, 0, 0, 0, 0] = #[.int .i64 1, .int .i64 0, .int .i64 0, .int .i64 0, .int .i64 0, .int .i64 0, .int .i64 0, .int .i64 0, .int .i64 0, .int .i64 0, .int .i64 0, .int .i64 0] from rfl] at hc
          rw [oneL_v] at hs
          generalize plusL Q [1, 0, 0, 0, 0, 0, 0, 0, 0, 0, 0, 0] 0 = Q1 at *
          rw [HQ.out.len] at hl
          have HQ1 := Lib.hid (⟨hl, hd⟩ : Dg12 Q1); have Hc := Lib.hid hc
          have hval : sgV true Q1 = (2 * sgV ma a + vD b) / (2 * vD b) := by
            rcases Int.lt_or_eq_of_le hyn with h | h
            · have h1 := (HV.out.2 h).2 hr
              rw [← hs] at h1
              simpa [sgV] using h1
            · exact absurd (hzz h).2 hr
          have Hval := Lib.hid hval
          rw [hrd] at heq
          clear hval hyn hzz hr hrd hQb hs hl hd hc
          go_wp2_with (first | (refine wpList_want (by rfl) fun K hK => wp_load_row 80 _ rfl q rfl 80 (dg R) (0, 0) _ Hq.out Tryd.underlying80 rfl (dg_infoS HR.out.len) (hK _ _ ?_)) | (refine wpList_load_row rfl 80 _ rfl p rfl 80 (dg Q) (0, 0) _ Hp.out Tryd.underlying80 rfl (dg_infoS HQ.out.len) ?_))
          refine (Hc.out wc).mono ?_
          rintro e wd ⟨rfl, hb⟩
          have hT2 := HT.out.below hb
          have hp2 := (hb.block p (Array.getElem?_eq_some_iff.1 Hp.out).1).trans Hp.out
          have hB2 := HT.out.more HBl.out hb
          have T2 := Lib.hid hT2; have P2 := Lib.hid hp2; have BB2 := Lib.hid hB2
          clear hT2 hp2 hB2 hb c0
          go_upto_region 8 with (refine wpList_store_row rfl 80 _ _ rfl p (dg Q1) rfl rfl 80 (dg Q) P2.out (dg_infoS HQ1.out.len) (by rw [dg_size, dg_size, HQ.out.len, HQ1.out.len]) dg_one ?_)
          have hT3 := T2.out.row HpL.out (dg Q1)
          have hp3 := setRow_heap _ _ _ (dg Q1) _ _ P2.out
          have hB3 := below_setRow BB2.out (g := p) (by have := HpL.out; omega) (dg Q1)
          generalize wd.setRow p (dg Q1) = we at *
          have c0 := nm_head hT3.2.1
          have T3 := Lib.hid hT3; have P3 := Lib.hid hp3; have BB3 := Lib.hid hB3
          clear hT3 hp3 hB3
          go_wp2_with (first | (refine wpList_load_row rfl 80 _ rfl p rfl 80 (dg Q1) (0, 0) _ P3.out Tryd.underlying80 rfl (dg_infoS HQ1.out.len) ?_) | (refine wpList_build_num rfl _ _ rfl rfl rfl HQ1.out.len ?_) | (refine wpList_store_row rfl 82 _ _ rfl (k + 1 + 1) (nm true Q1) rfl rfl 82 zn13 T3.out.2.2.2 (nm_info HQ1.out.len) (by rw [nm_size, HQ1.out.len]; rfl) nm_one ?_))
          exact bodyPost_ret (v := .agg (nm true Q1)) (results_cell_row rfl _ _ (k + 1 + 1) 82 (nm true Q1) (0, 0) _ rfl (setRow_heap _ _ _ _ _ _ T3.out.2.2.2) Tryd.underlying82 rfl (nm_info HQ1.out.len)) rfl (Hfin.out true Q1 _ HQ1.out Hval.out (below_setRow BB3.out (by omega) _))
end
section
open Go.RowKit
set_option maxRecDepth 100000 in
set_option maxHeartbeats 4000000 in
theorem rNear_any (hi d : Int) (lo : Nat) (w : World) (h0 : -9223372036854775808 ≤ hi) (h1 : hi ≤ 9223372036854775807) (hl : lo < 18446744073709551616) (hd0 : 1 ≤ d) (hd1 : d ≤ 9223372036854775807)
    (hv0 : -170141183460469231731687303715884105728 ≤ (2 * (hi * 18446744073709551616 + lo) + d) / (2 * d)) (hv1 : (2 * (hi * 18446744073709551616 + lo) + d) / (2 * d) < 170141183460469231731687303715884105728) :
    Calls Tryd.prog 21 #[.agg #[.int .i64 hi, .int .u64 (lo : Int)], .int .i64 d] w (WideOk w ((2 * (hi * 18446744073709551616 + lo) + d) / (2 * d))) := by
  obtain ⟨x, hx⟩ : ∃ x : Int, x = hi * 18446744073709551616 + lo := ⟨_, rfl⟩
  have hx0 : -170141183460469231731687303715884105728 ≤ x := by omega
  have hx1 : x < 170141183460469231731687303715884105728 := by omega
  rw [← hx] at hv0 hv1 ⊢
  have Hv := Lib.hid (And.intro hv0 hv1); have Hx := Lib.hid (And.intro hx0 hx1); have Hxe := Lib.hid hx; have Hl := Lib.hid hl; have Hd := Lib.hid (And.intro hd0 hd1)
  have Hread := Lib.hid (fun w => rRead_any hi lo w h0 h1 hl)
  have Hsm := Lib.hid (fun w => rSmall_any d w (by omega) hd1)
  have hdn : decide (d < 1) = false := by simp; omega
  have hdd : decide (d < 0) = false := by simp; omega
  have Hdd := Lib.hid hdd
  clear hx hv0 hv1 hx0 hx1 h0 h1 hl hd0 hd1 hdd
  go_enter Tryd.func21, Tryd.ntmps21
  go_upto_region 1 with (fail)
  obtain ⟨g1, g2, g3⟩ := alloc2 w (.cells #[.int .i64 hi, .int .u64 (lo : Int)] 48) (.cells #[.int .i64 0, .int .u64 0] 48) _ rfl
  generalize (w.alloc (.cells #[.int .i64 hi, .int .u64 (lo : Int)] 48)).alloc (.cells #[.int .i64 0, .int .u64 0] 48) = wq at *
  obtain ⟨k, hk⟩ : ∃ k, k = w.heap.size := ⟨_, rfl⟩
  rw [← hk] at g1 g2 g3 ⊢
  obtain ⟨-, c0, c1, -, -⟩ := row2 g1
  have G2 := Lib.hid g2; have G3 := Lib.hid g3; have Hk := Lib.hid hk
  clear g1 g2 g3 hk
  go_wp2_with fail
  refine (Hread.out wq).mono ?_
  rintro e w2 ⟨A, rfl, hA, hAv, hb⟩
  have HA := Lib.hid hA; have HAv := Lib.hid hAv; have HB := Lib.hid hb
  have HAs := Lib.hid (sgV_read Hl.out hAv)
  clear hA hAv hb c0 c1
  generalize decide (hi < 0) = m1 at *
  go_wp2_with fail
  refine (Hsm.out w2).mono ?_
  rw [Hdd.out]
  rintro e w3 ⟨B, rfl, hB, hBv, hb⟩
  have hBd : (vD B : Int) = d := by rw [hBv]; have := Hd.out; omega
  have hAb : vD A ≤ 170141183460469231731687303715884105728 := by rw [HAv.out, ← Hxe.out]; have := Hx.out; omega
  have HB2 := Lib.hid (HB.out.trans (hb.mono HB.out.size))
  have Hpr := Lib.hid (rNearest_any m1 A B w3 HA.out hB hAb (by have := Hd.out; omega) (by have := Hd.out; omega))
  have HBd := Lib.hid hBd
  clear hB hBv hb hBd hAb
  go_wp2_with fail
  refine Hpr.out.mono ?_
  rintro e w4 ⟨m, D, rfl, hD, hDv, hb⟩
  rw [HAs.out, HBd.out, ← Hxe.out] at hDv
  have HB3 := Lib.hid (HB2.out.trans (hb.mono HB2.out.size))
  have Hte := Lib.hid (rTell_any m D w4 hD (by rw [hDv]; exact Hv.out.1) (by rw [hDv]; exact Hv.out.2))
  have HDv := Lib.hid hDv
  clear hD hDv hb
  go_wp2_with fail
  refine Hte.out.mono ?_
  rintro e w5 ⟨rh, rl, rfl, hrl, hrv, hr0, hr1, hb⟩
  rw [HDv.out] at hrv
  have HR := Lib.hid (And.intro hrl (And.intro hrv (And.intro hr0 hr1)))
  have HB4 := Lib.hid (HB3.out.trans (hb.mono HB3.out.size))
  have hz := (Array.getElem?_eq_some_iff.1 G2.out).1
  have g2 := (HB4.out.block (k + 1) hz).trans G2.out
  have HF := Lib.hid (G3.out.trans (HB4.out.mono (by omega)))
  obtain ⟨kz, d0, d1, f0, f1⟩ := row2 g2
  have G2' := Lib.hid g2
  clear hrl hrv hr0 hr1 hb hz g2
  go_wp2_with fail
  obtain ⟨q1, q2, q3, q4, -⟩ := set2 w5 (k + 1) _ _ _ (.int .i64 rh) (.int .u64 (rl : Int)) G2'.out _ rfl
  have q5 := q4 k (by omega)
  generalize (w5.setCell ⟨k + 1, 0, none⟩ (.int .i64 rh)).setCell ⟨k + 1, 1, none⟩ (.int .u64 (rl : Int)) = w9 at *
  simp [bodyPost, results, Tryd.results21, go_sem, q2, q3]
  exact ⟨rh, rl, rfl, HR.out.1, HR.out.2.1, HR.out.2.2.1, HR.out.2.2.2, by rw [← Hk.out]; exact HF.out.trans q5⟩
end
end Go.Proofs.YthhmahmclkmjpaaDoor
