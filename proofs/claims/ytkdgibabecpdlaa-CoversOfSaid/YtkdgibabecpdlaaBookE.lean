/- Contracts and plain laws that the claims of this seat use (BookE), for all arguments that their hypotheses name. -/
import Derived.Test.YtkdgibabecpdlaaBookD
namespace Go.Proofs.Ytkdgibabecpdlaa
open Go.RowKit
theorem rep_at {w : World} {A : Option Addr} {n m k : Nat} (h : Rd w A (bitVs (List.replicate n m))) (hk : k < n) :
    ∃ b off, A = some ⟨b, off, none⟩ ∧ b < w.heap.size ∧ w.cell? ⟨b, off + k, none⟩ = some (.int .u16 (m : Int)) := by
  obtain ⟨b, off, hA, hb, hc⟩ := h.bit (l := List.replicate n m) (k := k) (by simpa using hk)
  exact ⟨b, off, hA, hb, by simpa using hc⟩
set_option maxRecDepth 100000 in
set_option maxHeartbeats 4000000 in
theorem markedU16_any (w0 : World) (base S cap : Nat) (L : List St) (lv : Nat → Value) (w : World) (h : Gs w0 w base S cap L L.length lv) (hL : L.length ≤ 1000) (hn : ∀ s ∈ L, s.n ≤ 1000000) :
    Calls Try.prog 70 #[.slice (some ⟨S, 0, none⟩) L.length cap] w fun e w' => e = .returned (.bool true) ∧ Below w.heap.size w w' := by
  have H := Lib.hid h; have HN := Lib.hid hn; clear h hn
  go_enter Try.func70, Try.ntmps70
  go_wp2_with fail
  go_loopw [3] (fun v3 wr => ∃ i : Nat, i ≤ L.length ∧ v3 = .int .i64 i ∧ Below w.heap.size w wr) (fun v3 _ => L.length - (intOf v3).toNat)
  case atStart => exact ⟨0, by omega, rfl, Below.refl _ _⟩
  case round =>
    obtain ⟨i, hi, rfl, hb⟩ := hrel
    by_cases hlt : i < L.length
    · have hgat : (gL L.length lv L)[i]? = some { L[i] with long := lv i } := by
        rw [List.getElem?_eq_getElem (by rw [gL_len]; exact hlt), gL_at]; simp [gAt, hlt]
      obtain ⟨hS, c0, c1, c2, -⟩ := row_cells H.out.row hgat
      simp only at c0 c1 c2
      obtain ⟨⟨Av, cv, hv, hr⟩, g, c, hl, hr2, -⟩ := H.out.done i hlt hlt
      have hnb := HN.out L[i] (List.getElem_mem hlt)
      rw [hv] at c0
      rw [hl] at c1
      obtain ⟨n0, hn0⟩ : ∃ n0, L[i].n = n0 := ⟨_, rfl⟩
      obtain ⟨m0, hm0⟩ : ∃ m0, L[i].m = m0 := ⟨_, rfl⟩
      rw [hn0] at c0 c1 hnb hr hr2
      rw [hm0] at c2 hr hr2
      obtain ⟨N, hN⟩ : ∃ N, n0 + 24 = N := ⟨_, rfl⟩
      rw [hN] at c1 hr2
      have hnN : n0 ≤ N := by omega
      have hNb : N ≤ 1000024 := by omega
      have HR := Lib.hid hr; have HR2 := Lib.hid hr2; have Hb := Lib.hid hb
      have hii : (i : Int) < (L.length : Int) := by omega
      clear hgat hv hl hr hr2 hn0 hm0 hN hb
      have C0 := Lib.hid c0; have C1 := Lib.hid c1; have C2 := Lib.hid c2
      clear c0 c1 c2
      go_wp2_with fail
      go_loopw [4] (fun v4 wq => ∃ k : Nat, k ≤ N ∧ v4 = .int .i64 k ∧ Below w.heap.size w wq) (fun v4 _ => N - (intOf v4).toNat)
      case atStart => exact ⟨0, by omega, rfl, Hb.out⟩
      case round =>
        obtain ⟨k, hk, rfl, hb⟩ := hrel
        have c0 := (hb.cell (p := ⟨S, i * 3, none⟩) hS).trans C0.out
        have c1 := (hb.cell (p := ⟨S, i * 3 + 1, none⟩) hS).trans C1.out
        have c2 := (hb.cell (p := ⟨S, i * 3 + 2, none⟩) hS).trans C2.out
        have hSz := Nat.lt_of_lt_of_le hS hb.size
        by_cases hlt2 : k < N
        · obtain ⟨g', o', e', hg', k1⟩ := rep_at (HR2.out.below hb) hlt2
          injection e' with e'
          injection e' with e1 e2
          subst e1 e2
          rw [Nat.zero_add] at k1
          have hki : (k : Int) < (N : Int) := by omega
          have hk0 : (0 : Int) ≤ (k : Int) := by omega
          by_cases hlt3 : k < n0
          · obtain ⟨gv, ov, rfl, hgv, k2⟩ := rep_at (HR.out.below hb) hlt3
            have hkn : (k : Int) < (n0 : Int) := by omega
            have Hb2 := Lib.hid hb; clear hb
            go_wp2_with (go_quiet (fail))
            go_roundw
            case rel => exact ⟨k + 1, by omega, by go_num, below_drewN Hb2.out _⟩
            case measure => simp [intOf]; omega
          · have hkn : ¬ (k : Int) < (n0 : Int) := by omega
            have hkd : decide ((k : Int) < (n0 : Int)) = false := by simp; omega
            have Hb2 := Lib.hid hb; clear hb
            go_wp2_with (go_quiet (fail))
            go_roundw
            case rel => exact ⟨k + 1, by omega, by go_num, below_drewN Hb2.out _⟩
            case measure => simp [intOf]; omega
        · have hkN : k = N := by omega
          subst hkN
          have Hb2 := Lib.hid hb; clear hb
          go_wp2_with fail
          go_roundw
          case rel => exact ⟨i + 1, by omega, by go_num, Hb2.out⟩
          case measure => simp [intOf]; omega
    · have hil : i = L.length := by omega
      subst hil
      go_wp2_with fail
      go_ret
      exact ⟨rfl, hb⟩
end Go.Proofs.Ytkdgibabecpdlaa
