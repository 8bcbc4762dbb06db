/- Proved: gouacheref28.Winding answers the plain winding; for every line of a million dots at most. -/
import Derived.Test.YtkdgibabecpdlaaWindLaw
namespace Go.Proofs.Ytkdgibabecpdlaa
open Go.RowKit
/-- The first k steps' turns. -/
def sumTw (p : Dot) (l : List Dot) (k : Nat) : Int := ((List.range k).map fun i => tw p (l.getD i (0, 0)) (l.getD ((i + 1) % l.length) (0, 0))).sum
theorem sumTw_all (p : Dot) (l : List Dot) : sumTw p l l.length = windE (edgesF l) p := by
  unfold edgesF edgesTo sumTw
  rw [List.flatMap_def, windE_flat, List.map_map]
  rfl
theorem sumTw_succ (p : Dot) (l : List Dot) (k : Nat) : sumTw p l (k + 1) = sumTw p l k + tw p (l.getD k (0, 0)) (l.getD ((k + 1) % l.length) (0, 0)) := by
  simp [sumTw, List.range_succ]
theorem tw_abs (p a b : Dot) : -1 ≤ tw p a b ∧ tw p a b ≤ 1 := by
  unfold tw edgeF
  by_cases h1 : a.2 < b.2
  · rw [if_pos h1]; simp only [windE, List.map_cons, List.map_nil, List.sum_cons, List.sum_nil, turnOf]; split <;> omega
  · by_cases h2 : b.2 < a.2
    · rw [if_neg h1, if_pos h2]; simp only [windE, List.map_cons, List.map_nil, List.sum_cons, List.sum_nil, turnOf]; split <;> omega
    · rw [if_neg h1, if_neg h2]; simp [windE]
theorem sumTw_abs (p : Dot) (l : List Dot) : ∀ k : Nat, -(k : Int) ≤ sumTw p l k ∧ sumTw p l k ≤ k
  | 0 => by simp [sumTw]
  | k + 1 => by
    have h1 := sumTw_abs p l k
    have h2 := tw_abs p (l.getD k (0, 0)) (l.getD ((k + 1) % l.length) (0, 0))
    rw [sumTw_succ]; omega
theorem over_bound' {a b p : Dot} (ha : isFarB a = false) (hb : isFarB b = false) (hp : isFarB p = false) (hm : meetsB a.2 b.2 p.2 = true) :
    -9223372036854775808 < overN a.1 a.2 b.1 b.2 p.1 p.2 ∧ overN a.1 a.2 b.1 b.2 p.1 p.2 < 9223372036854775807 := by
  rw [near_iff] at ha hb hp
  simp [meetsB] at hm
  unfold overN
  have h1 := mul_bound (a := b.1 - a.1) (b := p.2 - a.2) (A := 2147483648) (B := 2147483647) (by omega) (by omega)
  have h2 := mul_bound (a := p.1 - a.1) (b := b.2 - a.2) (A := 2147483648) (B := 2147483648) (by omega) (by omega)
  omega
theorem wrap_small {n : Int} (h1 : -9223372036854775808 ≤ n) (h2 : n ≤ 9223372036854775807) : wrap64 n = n := by
  simp only [wrap64]; omega
/-- The step's turn, as the document asks it. -/
theorem tw_doc {p a b : Dot} (ha : isFarB a = false) (hb : isFarB b = false) (hp : isFarB p = false) :
    tw p a b = if meetsB a.2 b.2 p.2 then (if 0 < wrap64 (overN a.1 a.2 b.1 b.2 p.1 p.2) then 1 else 0) else if meetsB b.2 a.2 p.2 then (if wrap64 (overN a.1 a.2 b.1 b.2 p.1 p.2) < 0 then -1 else 0) else 0 := by
  unfold tw edgeF
  have hn : overN b.1 b.2 a.1 a.2 p.1 p.2 = -overN a.1 a.2 b.1 b.2 p.1 p.2 := by unfold overN; grind
  by_cases h1 : a.2 < b.2
  · rw [if_pos h1]
    have h0 : meetsB b.2 a.2 p.2 = false := by simp [meetsB]; omega
    simp only [windE, List.map_cons, List.map_nil, List.sum_cons, List.sum_nil, turnOf, h0]
    by_cases hm : meetsB a.2 b.2 p.2 = true
    · have hb2 := over_bound' ha hb hp hm
      rw [wrap_small (by omega) (by omega)]
      simp [hm]
    · simp [hm]
  · by_cases h2 : b.2 < a.2
    · rw [if_neg h1, if_pos h2]
      have h0 : meetsB a.2 b.2 p.2 = false := by simp [meetsB]; omega
      simp only [windE, List.map_cons, List.map_nil, List.sum_cons, List.sum_nil, turnOf, h0]
      by_cases hm : meetsB b.2 a.2 p.2 = true
      · have hb2 := over_bound' hb ha hp hm
        rw [hn] at hb2
        rw [wrap_small (by omega) (by omega)]
        simp [hm, hn]
      · simp [hm]
    · have h0 : meetsB a.2 b.2 p.2 = false := by simp [meetsB]; omega
      have h3 : meetsB b.2 a.2 p.2 = false := by simp [meetsB]; omega
      rw [if_neg h1, if_neg h2, h0, h3]; simp [windE]
set_option maxRecDepth 100000 in
set_option maxHeartbeats 4000000 in
theorem refWinding_any (A : Option Addr) (cap : Nat) (l : List Dot) (px py : Int) (w : World) (h : Rd w A (dotCells l)) (hl : l.length ≤ 1000000) :
    Calls Try.prog 23 #[.slice A l.length cap, .agg #[.int .i64 px, .int .i64 py]] w fun e w' => e = .returned (.int .i64 (windF l (px, py))) ∧ Below w.heap.size w w' := by
  have H := Lib.hid h; clear h
  go_enter Try.func23, Try.ntmps23
  go_wp2_with fail
  refine (refFar_any px py _).mono ?_
  rintro e w1 ⟨rfl, hb1⟩
  by_cases hp : isFarB (px, py) = true
  · rw [hp]
    go_wp2_with fail
    go_ret
    refine ⟨by simp [windF, hp], ((Below.refl _ _).alloc (Nat.le_refl _) _).trans (hb1.mono (by simp))⟩
  have hp' : isFarB (px, py) = false := by simpa using hp
  rw [hp']
  have hB : Below w.heap.size w w1 := ((Below.refl _ _).alloc (Nat.le_refl _) _).trans (hb1.mono (by simp))
  have H1 := Lib.hid (H.out.below hB)
  have g0 : w1.cell? ⟨w.heap.size, 0, none⟩ = some (.int .i64 px) := by rw [hb1.cell (by simp)]; simp [go_sem]
  have g1 : w1.cell? ⟨w.heap.size, 1, none⟩ = some (.int .i64 py) := by rw [hb1.cell (by simp)]; simp [go_sem]
  have gz : w.heap.size < w1.heap.size := by have := hb1.size; simp at this; omega
  have HB := Lib.hid hB
  clear hb1 hB H hp
  go_wp2_with fail
  go_loopw [5] (fun v5 wr => ∃ k : Nat, k ≤ l.length ∧ v5 = .int .i64 k ∧ (l.take k).any isFarB = false ∧ Below w1.heap.size w1 wr) (fun v5 _ => l.length - (intOf v5).toNat)
  case atStart => exact ⟨0, by omega, rfl, by simp, Below.refl _ _⟩
  case round =>
    obtain ⟨k, hk, rfl, hf, hb⟩ := hrel
    by_cases hlt : k < l.length
    · obtain ⟨b, off, rfl, hbl, c0, c1⟩ := (H1.out.below hb).dot (List.getElem?_eq_getElem hlt)
      have htk : l.take (k + 1) = l.take k ++ [l[k]] := List.take_succ_eq_append_getElem hlt
      have hmem : l[k] ∈ l := List.getElem_mem hlt
      generalize l[k] = d at *
      obtain ⟨x, y⟩ := d
      have Hf := Lib.hid hf; have Hb := Lib.hid hb; have Htk := Lib.hid htk; have Hm := Lib.hid hmem
      clear hf hb htk hmem
      go_wp2_with fail
      refine (refFar_any x y _).mono ?_
      rintro e w2 ⟨rfl, hb2⟩
      by_cases hd : isFarB (x, y) = true
      · rw [hd]
        go_wp2_with fail
        go_ret
        have ha : l.any isFarB = true := List.any_eq_true.2 ⟨_, Hm.out, hd⟩
        exact ⟨by simp [windF, ha], HB.out.trans ((Hb.out.trans (hb2.mono Hb.out.size)).mono HB.out.size)⟩
      · have hd' : isFarB (x, y) = false := by simpa using hd
        rw [hd']
        go_wp2_with fail
        go_roundw
        case rel => exact ⟨k + 1, by omega, by go_num, by rw [Htk.out, List.any_append, Hf.out]; simp [hd'], Hb.out.trans (hb2.mono Hb.out.size)⟩
        case measure => simp [intOf]; omega
    · have hkl : k = l.length := by omega
      subst hkl
      rw [List.take_length] at hf
      have hw : windF l (px, py) = sumTw (px, py) l l.length := by rw [sumTw_all]; simp [windF, hp', hf]
      have Hw := Lib.hid hw
      have hall : ∀ d ∈ l, isFarB d = false := fun d hd => by have := List.any_eq_false.1 hf d hd; simpa using this
      have k0 := (hb.cell (p := ⟨w.heap.size, 0, none⟩) gz).trans g0
      have k1 := (hb.cell (p := ⟨w.heap.size, 1, none⟩) gz).trans g1
      have kz := Nat.lt_of_lt_of_le gz hb.size
      have HB2 := Lib.hid (HB.out.trans (hb.mono HB.out.size))
      have H2 := Lib.hid (H1.out.below hb)
      have Hall := Lib.hid hall
      clear hb g0 g1 gz H1 HB hall hf hw
      go_wp2_with fail
      go_loopw [6, 7] (fun v6 v7 wr2 => ∃ k : Nat, k ≤ l.length ∧ v7 = .int .i64 k ∧ v6 = .int .i64 (sumTw (px, py) l k) ∧ Below wr.heap.size wr wr2) (fun _ v7 _ => l.length - (intOf v7).toNat)
      case atStart => exact ⟨0, by omega, rfl, by simp [sumTw], Below.refl _ _⟩
      case round =>
        obtain ⟨k, hk, rfl, rfl, hb⟩ := hrel
        by_cases hlt : k < l.length
        · have hlm : (k + 1) % l.length < l.length := Nat.mod_lt _ (by omega)
          obtain ⟨b, off, rfl, hbl, c0, c1⟩ := (H2.out.below hb).dot (List.getElem?_eq_getElem hlt)
          obtain ⟨b', off', e', _, d0, d1⟩ := (H2.out.below hb).dot (List.getElem?_eq_getElem hlm)
          injection e' with e'; injection e' with e1 e2; subst e1 e2
          obtain ⟨b', off', e', _, z0, z1⟩ := (H2.out.below hb).dot (k := 0) (List.getElem?_eq_getElem (by omega))
          injection e' with e'; injection e' with e1 e2; subst e1 e2
          have hsucc := sumTw_succ (px, py) l k
          have habs := sumTw_abs (px, py) l k
          have hg0 : l.getD k (0, 0) = l[k] := by simp [List.getD, hlt]
          have hg1 : l.getD ((k + 1) % l.length) (0, 0) = l[(k + 1) % l.length] := by simp [List.getD, List.getElem?_eq_getElem hlm]
          rw [hg0, hg1, tw_doc (Hall.out _ (List.getElem_mem _)) (Hall.out _ (List.getElem_mem _)) hp'] at hsucc
          have hn0 := (near_iff _).1 (Hall.out _ (List.getElem_mem hlt))
          have hn1 := (near_iff _).1 (Hall.out _ (List.getElem_mem hlm))
          have hn2 := (near_iff _).1 hp'
          have hwrap : (k + 1 < l.length ∧ (k + 1) % l.length = k + 1) ∨ (k + 1 = l.length ∧ (k + 1) % l.length = 0) := by
            by_cases hh : k + 1 < l.length
            · exact .inl ⟨hh, Nat.mod_eq_of_lt hh⟩
            · have : k + 1 = l.length := by omega
              exact .inr ⟨this, by rw [this, Nat.mod_self]⟩
          have hzc : (k + 1) % l.length = 0 → l[0] = l[(k + 1) % l.length] := by intro e; simp only [e]
          clear hg0 hg1
          generalize l[k] = a at *
          generalize l[(k + 1) % l.length] = c at *
          generalize l[0] = z at *
          generalize (k + 1) % l.length = m at *
          obtain ⟨ax, ay⟩ := a
          obtain ⟨bx, by'⟩ := c
          obtain ⟨zx, zy⟩ := z
          simp only [Nat.zero_mul, Nat.add_zero] at z0 z1
          simp only at c0 c1 d0 d1 z0 z1 hn0 hn1 hn2 hsucc
          obtain ⟨m1, hm1⟩ : ∃ x, (bx - ax) * (py - ay) = x := ⟨_, rfl⟩
          obtain ⟨m2, hm2⟩ : ∃ x, (by' - ay) * (px - ax) = x := ⟨_, rfl⟩
          have hb1 := mul_bound (a := bx - ax) (b := py - ay) (A := 2147483648) (B := 2147483648) (by omega) (by omega)
          have hb2 := mul_bound (a := by' - ay) (b := px - ax) (A := 2147483648) (B := 2147483648) (by omega) (by omega)
          rw [hm1] at hb1
          rw [hm2] at hb2
          have hov : overN ax ay bx by' px py = m1 - m2 := by rw [← hm1, ← hm2]; unfold overN; grind
          rw [hov] at hsucc
          obtain ⟨s, hs⟩ : ∃ x, wrap64 (m1 - m2) = x := ⟨_, rfl⟩
          rw [hs] at hsucc
          have k0' := (hb.cell (p := ⟨w.heap.size, 0, none⟩) kz).trans k0
          have k1' := (hb.cell (p := ⟨w.heap.size, 1, none⟩) kz).trans k1
          have kz' := Nat.lt_of_lt_of_le kz hb.size
          obtain ⟨N, hN⟩ : ∃ x, sumTw (px, py) l k = x := ⟨_, rfl⟩
          rw [hN] at hsucc habs ⊢
          have Hsu := Lib.hid hsucc; have Hb := Lib.hid hb; have Hov := Lib.hid hov; have Hzc := Lib.hid hzc
          clear hsucc hb hov hzc hN
          rcases hwrap with ⟨hw1, rfl⟩ | ⟨hw1, rfl⟩
          · have hw2 : (k : Int) + 1 < (l.length : Int) := by omega
            go_wp2_with fail
            all_goals
              refine ⟨⟨k + 1, by omega, by go_num, ?_, ((Hb.out.alloc Hb.out.size _).alloc (by have := Hb.out.size; simp; omega) _)⟩, by simp [intOf]; omega⟩
              rw [Hsu.out]
              refine congrArg (Value.int .i64) ?_
              simp only [meetsB, Bool.and_eq_true, decide_eq_true_eq]
              split <;> (try split) <;> (try split) <;> omega
          · have hw2 : (k : Int) + 1 = (l.length : Int) := by omega
            have hz := Hzc.out rfl
            injection hz with hz1 hz2
            subst hz1 hz2
            have hnl : ¬ (k : Int) + 1 < (l.length : Int) := by omega
            have Hkl := Lib.hid hw1
            clear hw1 hw2 Hzc
            go_wp2_with fail
            all_goals
              refine ⟨⟨k + 1, by omega, by go_num, ?_, ((Hb.out.alloc Hb.out.size _).alloc (by have := Hb.out.size; simp; omega) _)⟩, by simp [intOf]; omega⟩
              rw [Hsu.out]
              refine congrArg (Value.int .i64) ?_
              simp only [meetsB, Bool.and_eq_true, decide_eq_true_eq]
              split <;> (try split) <;> (try split) <;> omega
        · have hkl : k = l.length := by omega
          subst hkl
          go_wp2_with fail
          go_ret
          exact ⟨by rw [Hw.out]; rfl, HB2.out.trans (hb.mono HB2.out.size)⟩
end Go.Proofs.Ytkdgibabecpdlaa
