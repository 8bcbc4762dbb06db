/- Proved: covers.Winding answers the plain winding of a line about a point and changes no old memory; for every line of a million dots at most. -/
import Derived.Test.YtkdgibabecpdlaaWind
namespace Go.Proofs.Ytkdgibabecpdlaa
open Go.RowKit

theorem windE_append (a b : List Edge) (p : Dot) : windE (a ++ b) p = windE a p + windE b p := by simp [windE]

theorem bcell {W w1 : World} (hb : Below W.heap.size W w1) : (∀ b o, b < W.heap.size → w1.cell? ⟨b, o, none⟩ = W.cell? ⟨b, o, none⟩) ∧ (∀ b o, b < W.heap.size → w1.frozen? ⟨b, o, none⟩ = W.frozen? ⟨b, o, none⟩) :=
  ⟨fun b o h => hb.cell (p := ⟨b, o, none⟩) h, fun b o h => hb.frozen (p := ⟨b, o, none⟩) h⟩

set_option maxRecDepth 100000 in
set_option maxHeartbeats 1000000 in
theorem winding_any (A : Option Addr) (cap : Nat) (l : List Dot) (px py : Int) (w : World) (h : Rd w A (dotCells l)) (hl : l.length ≤ 1000000) :
    Calls Try.prog 22 #[.slice A l.length cap, .agg #[.int .i64 px, .int .i64 py]] w fun e w' => e = .returned (.int .i64 (windF l (px, py))) ∧ Below w.heap.size w w' := by
  by_cases hp : isFarB (px, py) = true
  · go_enter Try.func22, Try.ntmps22
    go_wp2_with (go_at_call 36; refine (isFar_any _ _ _).mono ?_; rintro e w1 ⟨rfl, hb1⟩)
    go_ret
    refine ⟨ret_int (by simp [windF, hp]), ?_⟩
    exact ((Below.refl _ _).alloc (Nat.le_refl _) _).trans (hb1.mono (by simp))
  have hp' : isFarB (px, py) = false := by simpa using hp
  have hml : l.length ≤ maxLen := by simp only [maxLen]; omega
  by_cases ha : l.any isFarB = true
  · go_enter Try.func22, Try.ntmps22
    go_wp2_with (first
      | (go_at_call 36; refine (isFar_any _ _ _).mono ?_; rintro e w1 ⟨rfl, hb1⟩)
      | (go_at_call 35; refine (containsFar_any _ _ _ _ (((h.below ((Below.refl _ _).alloc (Nat.le_refl _) _))).below hb1) hml).mono ?_; rintro e w2 ⟨rfl, hb2⟩))
    go_ret
    refine ⟨ret_int (by simp [windF, hp', ha]), ?_⟩
    exact (((Below.refl _ _).alloc (Nat.le_refl _) _).trans (hb1.mono (by simp))).trans (hb2.mono (by have := hb1.size; simp at this; omega))
  have ha' : l.any isFarB = false := by simpa using ha
  have hw : windF l (px, py) = windE (edgesF l) (px, py) := by simp [windF, hp', ha']
  have hfar : ∀ d ∈ l, isFarB d = false := fun d hd => by
    have := List.any_eq_false.1 ha' d hd; simpa using this
  have hel := edgesF_len l
  rw [hw]; clear hw
  have HP := Lib.hid hp'
  have HA := Lib.hid ha; have HP0 := Lib.hid hp; clear hp ha
  have HF := Lib.hid hfar; clear hfar
  have Hml := Lib.hid hml; clear hml
  have Hh := Lib.hid h; clear h
  go_enter Try.func22, Try.ntmps22
  go_wp2_with (first
      | (go_at_call 36; refine (isFar_any _ _ _).mono ?_; rintro e w1 ⟨rfl, hb1⟩)
      | (go_at_call 35; refine (containsFar_any _ _ _ _ (((Hh.out.below ((Below.refl _ _).alloc (Nat.le_refl _) _))).below hb1) Hml.out).mono ?_; rintro e w2 ⟨rfl, hb2⟩)
      | (go_at_call 37; refine (edges_any _ _ _ _ ((((Hh.out.below ((Below.refl _ _).alloc (Nat.le_refl _) _))).below hb1).below hb2) hl).mono ?_; rintro e w3 ⟨v3, rfl, hown3, hb3⟩; obtain ⟨A3, c3, rfl, hc3, hr3, _⟩ := ownsRow_form hown3; clear hown3))
  have hB : Below w.heap.size w w3 := by
    refine (((((Below.refl _ _).alloc (Nat.le_refl _) _).trans (hb1.mono (by simp))).trans (hb2.mono ?_))).trans (hb3.mono ?_)
    · have := hb1.size; simp at this; omega
    · have := hb1.size; have := hb2.size; simp at *; omega
  have hz : w.heap.size < w3.heap.size := by have := hb1.size; have := hb2.size; have := hb3.size; simp at *; omega
  have hp0 : w3.cell? ⟨w.heap.size, 0, none⟩ = some (.int .i64 px) := by
    rw [hb3.cell (by have := hb1.size; have := hb2.size; simp at *; omega), hb2.cell (by have := hb1.size; simp at *; omega), hb1.cell (by simp)]; simp [go_sem]
  have hp1 : w3.cell? ⟨w.heap.size, 1, none⟩ = some (.int .i64 py) := by
    rw [hb3.cell (by have := hb1.size; have := hb2.size; simp at *; omega), hb2.cell (by have := hb1.size; simp at *; omega), hb1.cell (by simp)]; simp [go_sem]
  clear hb1 hb2 hb3
  go_loopw [4, 18] (fun v4 v18 wr => ∃ k : Nat, k ≤ (edgesF l).length ∧ v18 = .int .i64 k ∧ v4 = .int .i64 (windE ((edgesF l).take k) (px, py)) ∧ Below w3.heap.size w3 wr) (fun _ v18 _ => (edgesF l).length - (intOf v18).toNat)
  case atStart => exact ⟨0, by omega, rfl, by simp [windE], Below.refl _ _⟩
  case round =>
    obtain ⟨k, hk, rfl, rfl, hb⟩ := hrel
    by_cases hlt : k < (edgesF l).length
    · obtain ⟨b, off, rfl, hbl, c0, c1, c2, c3, c4⟩ := hr3.edge (List.getElem?_eq_getElem hlt)
      have hmem := mem_edgesF (List.getElem_mem hlt)
      have hab := turnOf_abs (p := (px, py)) (List.getElem_mem hlt)
      have htk : (edgesF l).take (k + 1) = (edgesF l).take k ++ [(edgesF l)[k]] := List.take_succ_eq_append_getElem hlt
      have hbd := sum_abs (((edgesF l).take k).map (turnOf (px, py))) (fun x hx => by
        obtain ⟨e, he, rfl⟩ := List.mem_map.1 hx; exact turnOf_abs (List.mem_of_mem_take he))
      have hov := over_bound (HF.out _ hmem.1) (HF.out _ hmem.2.1) HP.out
      have hn0 := (near_iff _).1 (HF.out _ hmem.1)
      have hn1 := (near_iff _).1 (HF.out _ hmem.2.1)
      simp only [List.length_map, List.length_take] at hbd
      change _ ≤ windE ((edgesF l).take k) (px, py) ∧ windE ((edgesF l).take k) (px, py) ≤ _ at hbd
      generalize hd : (edgesF l)[k] = d at *
      obtain ⟨⟨ax, ay⟩, ⟨bx, by'⟩, t⟩ := d
      simp only at c0 c1 c2 c3 c4 hmem hn0 hn1 hov hab
      have hdec : windE ((edgesF l).take (k + 1)) (px, py) = windE ((edgesF l).take k) (px, py) + turnOf (px, py) ((ax, ay), (bx, by'), t) := by
        rw [htk, windE_append]; simp [windE]
      generalize windE ((edgesF l).take k) (px, py) = n at *
      rw [← hb.cell (p := ⟨b, off + k * 5, none⟩) hbl] at c0
      rw [← hb.cell (p := ⟨b, off + k * 5 + 1, none⟩) hbl] at c1
      rw [← hb.cell (p := ⟨b, off + k * 5 + 2, none⟩) hbl] at c2
      rw [← hb.cell (p := ⟨b, off + k * 5 + 3, none⟩) hbl] at c3
      rw [← hb.cell (p := ⟨b, off + k * 5 + 4, none⟩) hbl] at c4
      rw [← hb.cell (p := ⟨w.heap.size, 0, none⟩) hz] at hp0
      rw [← hb.cell (p := ⟨w.heap.size, 1, none⟩) hz] at hp1
      have hbl' : b < wr.heap.size := Nat.lt_of_lt_of_le hbl hb.size
      have hz' : w.heap.size < wr.heap.size := Nat.lt_of_lt_of_le hz hb.size
      have Htk := Lib.hid htk; clear htk
      have Hd := Lib.hid hd; clear hd
      have Hdec := Lib.hid hdec; clear hdec
      have Hov := Lib.hid hov; clear hov
      have Hab := Lib.hid hab; clear hab
      have Hmem := Lib.hid hmem.2.2.2
      have Hr3 := Lib.hid hr3; clear hr3
      have hbd0 : -1000000 ≤ n ∧ n ≤ 1000000 := by omega
      obtain ⟨hbd1, hbd2⟩ := hbd0
      have hlt2 := hmem.2.2.1
      clear hbd hmem
      obtain ⟨ht1, ht2⟩ : -1 ≤ t ∧ t ≤ 1 := by rcases Hmem.out with h | h <;> omega
      have Hb := Lib.hid hb; clear hb
      by_cases hm : meetsB ay by' py = true
      · have ho := wrap64_id _ (Hov.out hm)
        by_cases hr : 0 < overN ax ay bx by' px py
        · have HT : turnOf (px, py) ((ax, ay), (bx, by'), t) = t := by simp [turnOf, hm, hr]
          have Ht := Lib.hid HT; clear HT
          go_wp2_with fail
          refine (meets_any _ _ _ _ _ _ _).mono ?_
          rintro e w4 ⟨rfl, hb4⟩
          obtain ⟨hc4, hf4⟩ := bcell hb4; have hz4 := hb4.size; rw [World.size_alloc] at hz4; have hz4' : wr.heap.size < w4.heap.size := hz4; have Hb4 := Lib.hid hb4; clear hb4
          go_wp2_with fail
          refine (over_any _ _ _ _ _ _ _ _).mono ?_
          rintro e w5 ⟨rfl, hb5⟩
          obtain ⟨hc5, hf5⟩ := bcell hb5; have hz5 := hb5.size; have Hb5 := Lib.hid hb5; clear hb5
          go_wp2
          go_roundw
          case rel =>
            refine ⟨k + 1, by omega, by go_num, by rw [Hdec.out, Ht.out]; try go_num, ?_⟩
            exact ((Hb.out.alloc Hb.out.size _).trans (Hb4.out.mono (by have := Hb.out.size; simp; omega))).trans (Hb5.out.mono (by have := Hb.out.size; omega))
          case measure => simp [intOf]; omega
        · have HT : turnOf (px, py) ((ax, ay), (bx, by'), t) = 0 := by simp [turnOf, hr]
          have Ht := Lib.hid HT; clear HT
          go_wp2_with fail
          refine (meets_any _ _ _ _ _ _ _).mono ?_
          rintro e w4 ⟨rfl, hb4⟩
          obtain ⟨hc4, hf4⟩ := bcell hb4; have hz4 := hb4.size; rw [World.size_alloc] at hz4; have hz4' : wr.heap.size < w4.heap.size := hz4; have Hb4 := Lib.hid hb4; clear hb4
          go_wp2_with fail
          refine (over_any _ _ _ _ _ _ _ _).mono ?_
          rintro e w5 ⟨rfl, hb5⟩
          obtain ⟨hc5, hf5⟩ := bcell hb5; have hz5 := hb5.size; have Hb5 := Lib.hid hb5; clear hb5
          go_wp2
          go_roundw
          case rel =>
            refine ⟨k + 1, by omega, by go_num, by rw [Hdec.out, Ht.out]; try go_num, ?_⟩
            exact ((Hb.out.alloc Hb.out.size _).trans (Hb4.out.mono (by have := Hb.out.size; simp; omega))).trans (Hb5.out.mono (by have := Hb.out.size; omega))
          case measure => simp [intOf]; omega
      · have HT : turnOf (px, py) ((ax, ay), (bx, by'), t) = 0 := by simp [turnOf, hm]
        have Ht := Lib.hid HT; clear HT
        have hm' : meetsB ay by' py = false := by simpa using hm
        clear hm
        go_wp2_with fail
        refine (meets_any _ _ _ _ _ _ _).mono ?_
        rintro e w4 ⟨rfl, hb4⟩
        obtain ⟨hc4, hf4⟩ := bcell hb4; have hz4 := hb4.size; rw [World.size_alloc] at hz4; have hz4' : wr.heap.size < w4.heap.size := hz4; have Hb4 := Lib.hid hb4; clear hb4
        go_wp2
        go_roundw
        case rel =>
          refine ⟨k + 1, by omega, by go_num, by rw [Hdec.out, Ht.out]; try go_num, ?_⟩
          exact (Hb.out.alloc Hb.out.size _).trans (Hb4.out.mono (by have := Hb.out.size; simp; omega))
        case measure => simp [intOf]; omega
    · have hkl : k = (edgesF l).length := by omega
      subst hkl
      have Hb := Lib.hid hb; clear hb
      go_wp2
      go_ret
      exact ⟨ret_int (by simp), hB.trans (Hb.out.mono (by have := hB.size; omega))⟩
end Go.Proofs.Ytkdgibabecpdlaa
