/- Proved: what far, anyFar and size of gouachelaw28 answer; for lines whose lengths are within the reach. -/
import Derived.Test.YtkdgibabecpdlaaLives
namespace Go.Proofs.Ytkdgibabecpdlaa
open Go.RowKit
theorem far28_any (x y : Int) (w : World) :
    Calls Try.prog 27 #[.agg #[.int .i64 x, .int .i64 y]] w fun e w' => e = .returned (.bool (isFarB (x, y))) ∧ Below w.heap.size w w' := by
  go_enter Try.func27, Try.ntmps27
  go_wp2
  all_goals (go_ret; exact ⟨ret_bool (by simp [isFarB]; omega), by go_grown⟩)
set_option maxRecDepth 100000 in
set_option maxHeartbeats 1000000 in
theorem anyFar_any (A : Option Addr) (cap n : Nat) (l : List Dot) (w : World) (h : Rd w A (dotCells l)) (hn : l.length = n) (hl : n ≤ maxLen) :
    Calls Try.prog 26 #[.slice A n cap] w fun e w' => e = .returned (.bool (l.any isFarB)) ∧ Below w.heap.size w w' := by
  subst hn
  simp only [maxLen] at hl
  have H1 := Lib.hid h; clear h
  go_enter Try.func26, Try.ntmps26
  go_wp2_with fail
  go_loopw [3] (fun v5 wr => ∃ k : Nat, k ≤ l.length ∧ v5 = .int .i64 k ∧ (l.take k).any isFarB = false ∧ Below w.heap.size w wr) (fun v5 _ => l.length - (intOf v5).toNat)
  case atStart => exact ⟨0, by omega, rfl, by simp, Below.refl _ _⟩
  case round =>
    obtain ⟨k, hk, rfl, hf, hb⟩ := hrel
    by_cases hlt : k < l.length
    · obtain ⟨b, off, rfl, hbl, c0, c1⟩ := (H1.out.below hb).dot (List.getElem?_eq_getElem hlt)
      have htk : l.take (k + 1) = l.take k ++ [l[k]] := List.take_succ_eq_append_getElem hlt
      have hmem : l[k] ∈ l := List.getElem_mem hlt
      generalize l[k] = d at *
      obtain ⟨x, y⟩ := d
      have Hf := Lib.hid hf; have Hb := Lib.hid hb; have Htk := Lib.hid htk; have Hm := Lib.hid hmem
      clear hf hb htk hmem
      go_wp2_with fail
      refine (far28_any x y _).mono ?_
      rintro e w2 ⟨rfl, hb2⟩
      by_cases hd : isFarB (x, y) = true
      · rw [hd]
        go_wp2_with fail
        go_ret
        have ha : l.any isFarB = true := List.any_eq_true.2 ⟨_, Hm.out, hd⟩
        exact ⟨by rw [ha]; rfl, Hb.out.trans (hb2.mono Hb.out.size)⟩
      · have hd' : isFarB (x, y) = false := by simpa using hd
        rw [hd']
        go_wp2_with fail
        go_roundw
        case rel => exact ⟨k + 1, by omega, by go_num, by rw [Htk.out, List.any_append, Hf.out]; simp [hd'], Hb.out.trans (hb2.mono Hb.out.size)⟩
        case measure => simp [intOf]; omega
    · have hkl : k = l.length := by omega
      subst hkl
      rw [List.take_length] at hf
      go_wp2_with fail
      go_ret
      exact ⟨by rw [hf]; rfl, hb⟩
theorem Lns.line {w : World} {A : Option Addr} {P : List LineV} (h : Lns w A P) {k : Nat} (hk : k < P.length) :
    ∃ b off, A = some ⟨b, off, none⟩ ∧ b < w.heap.size ∧ w.cell? ⟨b, off + k, none⟩ = some (lineHead P[k]) := by
  obtain ⟨b, off, hA, hb, hc⟩ := h.rd.at_ (by intro e; have := congrArg List.length e; simp only [List.length_map, List.length_nil] at this; omega)
  exact ⟨b, off, hA, hb, hc k _ (by simp [hk])⟩
set_option maxRecDepth 100000 in
set_option maxHeartbeats 1000000 in
theorem size28_any (A : Option Addr) (cap : Nat) (P : List LineV) (w : World) (hL : Lns w A P) (hn : P.length ≤ 140737488355328) (hs : ∀ p ∈ P, p.2.2.length ≤ 140737488355328) :
    Calls Try.prog 12 #[.slice A P.length cap] w fun e w' => (∃ n : Nat, e = .returned (.int .i64 n) ∧ (n < 1048576 → n = P.length + sizeL P) ∧ (1048576 ≤ n → 1048576 ≤ P.length + sizeL P)) ∧ Below w.heap.size w w' := by
  have HL := Lib.hid hL; have HS := Lib.hid hs; clear hL hs
  go_enter Try.func12, Try.ntmps12
  go_wp2_with fail
  go_loopw [3, 4] (fun v3 v4 wr => ∃ k n : Nat, k ≤ P.length ∧ v4 = .int .i64 k ∧ v3 = .int .i64 n ∧ n = P.length + sizeL (P.take k) ∧ n ≤ 300000000000000 ∧ wr = w) (fun _ v4 _ => P.length - (intOf v4).toNat)
  case atStart => exact ⟨0, P.length, by omega, rfl, rfl, by simp [sizeL], by omega, rfl⟩
  case round =>
    obtain ⟨k, n, hk, rfl, rfl, hn1, hn2, rfl⟩ := hrel
    have Hn1 := Lib.hid hn1; clear hn1
    by_cases hlt : k < P.length
    · by_cases hbig : n < 1048576
      · obtain ⟨b, off, rfl, hbl, c0⟩ := HL.out.line hlt
        have hpl := HS.out _ (List.getElem_mem hlt)
        have htk : P.take (k + 1) = P.take k ++ [P[k]] := List.take_succ_eq_append_getElem hlt
        have hsz : sizeL (P.take (k + 1)) = sizeL (P.take k) + P[k].2.2.length := by rw [htk]; simp only [sizeL, List.map_append, List.map_cons, List.map_nil, List.sum_append, List.sum_cons, List.sum_nil, Nat.add_zero]
        generalize P[k] = p at *
        obtain ⟨Ap, cp, l⟩ := p
        simp only [lineHead] at c0 hpl hsz
        have Hsz := Lib.hid hsz; clear hsz htk
        have hbi : (n : Int) < 1048576 := by omega
        go_wp2_with fail
        go_roundw
        case rel => exact ⟨k + 1, n + l.length, by omega, by go_num, by go_num, by rw [Hsz.out, Hn1.out]; omega, by omega, trivial⟩
        case measure => simp [intOf]; omega
      · have hbi : ¬ (n : Int) < 1048576 := by omega
        go_wp2_with fail
        go_ret
        refine ⟨⟨n, rfl, fun h => absurd h hbig, fun _ => ?_⟩, Below.refl _ _⟩
        have := Hn1.out
        have := sizeL_take P k
        omega
    · have hkl : k = P.length := by omega
      subst hkl
      go_wp2_with fail
      go_ret
      have := Hn1.out
      rw [List.take_length] at this
      exact ⟨⟨n, rfl, fun _ => this, fun h => by omega⟩, Below.refl _ _⟩
end Go.Proofs.Ytkdgibabecpdlaa
