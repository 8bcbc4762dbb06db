/- Proved: heap.down sifts as its plain law says; for rows of edges in memory of their own. -/
import Derived.Test.YtkdgibabecpdlaaHeap
namespace Go.Proofs.Ytkdgibabecpdlaa
open Go.RowKit

def downF : Nat → List Edge → Nat → Nat → List Edge
  | 0, l, _, _ => l
  | f + 1, l, i, n =>
    if n ≤ 2 * i + 1 then l else
    let j := if 2 * i + 2 < n ∧ keyAt l (2 * i + 2) < keyAt l (2 * i + 1) then 2 * i + 2 else 2 * i + 1
    if keyAt l j < keyAt l i then downF f (swapL l i j) j n else l

def RetBool (e : Ending) : Prop := ∃ b, e = .returned (.bool b)

theorem grown_cell {w wr : World} {g b o : Nat} (hg : w.grownBy wr (some g)) {v : Value} (hc : w.cell? ⟨b, o, none⟩ = some v) (hne : b ≠ g) : wr.cell? ⟨b, o, none⟩ = some v :=
  hg.cell hc (by simpa using hne)
theorem grown_drewN {a w : World} {row : Option Nat} (h : a.grownBy w row) (n : Nat) : a.grownBy (w.drewN n) row := ⟨h.os, h.tape, h.output, h.size, h.block⟩
theorem RowE.drewN {w : World} {base g cap : Nat} {l : List Edge} (h : RowE w base g cap l) (n : Nat) : RowE (w.drewN n) base g cap l := h

theorem method_len (n : Nat) (w : World) (a : Addr) {v : Value} (hc : w.cell? a = some v) : (method (n + 1) 83 (.pointer (some a)) "Len").run Try.prog w = .ok (113, v) w := by
  have e : (method (n + 1) 83 (.pointer (some a)) "Len").run Try.prog w = (match w.cell? a with | some v => .ok (113, v) w | none => (match w.farLoad Try.prog a false with | .ok (v, _) => .ok (113, v) w | .error h => .halt h w)) := by kernel_rfl
  rw [e, hc]
theorem method_less (n : Nat) (w : World) (a : Addr) {v : Value} (hc : w.cell? a = some v) : (method (n + 1) 83 (.pointer (some a)) "Less").run Try.prog w = .ok (114, v) w := by
  have e : (method (n + 1) 83 (.pointer (some a)) "Less").run Try.prog w = (match w.cell? a with | some v => .ok (114, v) w | none => (match w.farLoad Try.prog a false with | .ok (v, _) => .ok (114, v) w | .error h => .halt h w)) := by kernel_rfl
  rw [e, hc]
theorem method_swap (n : Nat) (w : World) (a : Addr) {v : Value} (hc : w.cell? a = some v) : (method (n + 1) 83 (.pointer (some a)) "Swap").run Try.prog w = .ok (115, v) w := by
  have e : (method (n + 1) 83 (.pointer (some a)) "Swap").run Try.prog w = (match w.cell? a with | some v => .ok (115, v) w | none => (match w.farLoad Try.prog a false with | .ok (v, _) => .ok (115, v) w | .error h => .halt h w)) := by kernel_rfl
  rw [e, hc]
theorem method_pop (n : Nat) (w : World) (a : Addr) : (method (n + 1) 83 (.pointer (some a)) "Pop").run Try.prog w = .ok (116, .pointer (some a)) w := by kernel_rfl

set_option maxRecDepth 100000 in
set_option maxHeartbeats 1000000 in
theorem heapDown_any (S base g cap : Nat) (l : List Edge) (i n : Nat) (w : World) (hc : w.cell? ⟨S, 0, none⟩ = some (.slice (some ⟨g, 0, none⟩) l.length cap)) (h : RowE w base g cap l) (hne : S ≠ g) (hn : n ≤ l.length) (hi : i < n) (hl : l.length ≤ 1000000) :
    Calls Try.prog 90 #[.iface 83 (.pointer (some ⟨S, 0, none⟩)), .int .i64 i, .int .i64 n] w fun e w' => RetBool e ∧ RowE w' base g cap (downF n l i n) ∧ w.grownBy w' (some g) := by
  go_enter Try.func90, Try.ntmps90
  go_wp2_with fail
  go_loopw [7] (fun v7 wr => ∃ (f k : Nat) (m : List Edge), v7 = .int .i64 k ∧ k < n ∧ n ≤ f + k ∧ m.length = l.length ∧ RowE wr base g cap m ∧ w.grownBy wr (some g) ∧ downF n l i n = downF f m k n) (fun v7 _ => n - (intOf v7).toNat)
  case atStart => exact ⟨n, i, l, rfl, hi, by omega, rfl, h, World.grownBy.refl _ _, rfl⟩
  case round =>
    obtain ⟨f, k, m, rfl, hk, hf, hm, hr, hg, hd⟩ := hrel
    have hcr := grown_cell hg hc hne
    rw [← hm] at hcr
    obtain ⟨f, rfl⟩ : ∃ f', f = f' + 1 := ⟨f - 1, by omega⟩
    have Hr := Lib.hid hr; clear hr
    have Hg := Lib.hid hg; clear hg
    have H := Lib.hid h; clear h
    have Hc := Lib.hid hc; clear hc
    have Hm := Lib.hid hm; clear hm
    by_cases h1 : n ≤ 2 * k + 1
    · have hd' : downF n l i n = m := by rw [hd, downF, if_pos h1]
      have Hd := Lib.hid hd'; clear hd hd'
      go_wp2_with fail
      go_ret
      exact ⟨⟨_, rfl⟩, by rw [Hd.out]; exact Hr.out, Hg.out⟩
    · have hd1 : downF n l i n = (if keyAt m (if 2 * k + 2 < n ∧ keyAt m (2 * k + 2) < keyAt m (2 * k + 1) then 2 * k + 2 else 2 * k + 1) < keyAt m k then downF f (swapL m k (if 2 * k + 2 < n ∧ keyAt m (2 * k + 2) < keyAt m (2 * k + 1) then 2 * k + 2 else 2 * k + 1)) (if 2 * k + 2 < n ∧ keyAt m (2 * k + 2) < keyAt m (2 * k + 1) then 2 * k + 2 else 2 * k + 1) n else m) := by
        rw [hd, downF, if_neg h1]
      have Hd := Lib.hid hd1; clear hd hd1
      have me := fun n => method_less n wr ⟨S, 0, none⟩ hcr
      have mq := fun q n => method_less n (wr.drewN q) ⟨S, 0, none⟩ hcr
      have ms := fun q n => method_swap n (wr.drewN q) ⟨S, 0, none⟩ hcr
      by_cases h2 : 2 * k + 2 < n
      · go_wp2_with fail
        refine (waitLess_any _ _ m (2 * k + 2) (2 * k + 1) _ _ _ Hr.out.rd (by omega) (by omega) (by have := Hm.out; omega) (by have := Hm.out; omega)).mono ?_
        rintro e w1 ⟨rfl, q1, rfl⟩
        by_cases h3 : keyAt m (2 * k + 2) < keyAt m (2 * k + 1)
        · skip
          have Hj := Lib.hid (if_pos ⟨h2, h3⟩ : (if 2 * k + 2 < n ∧ keyAt m (2 * k + 2) < keyAt m (2 * k + 1) then 2 * k + 2 else 2 * k + 1) = 2 * k + 2)
          go_wp2_with fail
          refine (waitLess_any _ _ m (2 * k + 2) k _ _ _ (RowE.rd (Hr.out.drewN _)) (by omega) (by omega) (by have := Hm.out; omega) (by have := Hm.out; omega)).mono ?_
          rintro e w2 ⟨rfl, q2, rfl⟩
          by_cases h4 : keyAt m (2 * k + 2) < keyAt m k
          · go_wp2_with fail
            refine (waitSwap_any base g cap m k (2 * k + 2) _ _ _ (Hr.out.drewN _) (by omega) (by omega) (by have := Hm.out; omega) (by have := Hm.out; omega)).mono ?_
            rintro e w3 ⟨rfl, hr3, hg3⟩
            have Hr3 := Lib.hid hr3; clear hr3
            have Hg3 := Lib.hid hg3; clear hg3
            go_wp2_with fail
            go_roundw
            case rel => exact ⟨f, 2 * k + 2, swapL m k (2 * k + 2), by go_num, by omega, by omega, by rw [swapL_len, Hm.out], Hr3.out, grown_trans (grown_drewN Hg.out _) Hg3.out, by rw [Hd.out, Hj.out, if_pos h4]⟩
            case measure => simp [intOf]; omega
          · have h5 : decide (keyAt m (2 * k + 2) < keyAt m k) = false := by simp; omega
            go_wp2_with fail
            go_ret
            exact ⟨⟨_, rfl⟩, by rw [Hd.out, Hj.out, if_neg (by omega)]; exact Hr.out.drewN _, grown_drewN Hg.out _⟩
        · skip
          have Hj := Lib.hid (if_neg (fun h => by have := h.2; omega) : (if 2 * k + 2 < n ∧ keyAt m (2 * k + 2) < keyAt m (2 * k + 1) then 2 * k + 2 else 2 * k + 1) = 2 * k + 1)
          go_wp2_with fail
          refine (waitLess_any _ _ m (2 * k + 1) k _ _ _ (RowE.rd (Hr.out.drewN _)) (by omega) (by omega) (by have := Hm.out; omega) (by have := Hm.out; omega)).mono ?_
          rintro e w2 ⟨rfl, q2, rfl⟩
          by_cases h4 : keyAt m (2 * k + 1) < keyAt m k
          · go_wp2_with fail
            refine (waitSwap_any base g cap m k (2 * k + 1) _ _ _ (Hr.out.drewN _) (by omega) (by omega) (by have := Hm.out; omega) (by have := Hm.out; omega)).mono ?_
            rintro e w3 ⟨rfl, hr3, hg3⟩
            have Hr3 := Lib.hid hr3; clear hr3
            have Hg3 := Lib.hid hg3; clear hg3
            go_wp2_with fail
            go_roundw
            case rel => exact ⟨f, 2 * k + 1, swapL m k (2 * k + 1), by go_num, by omega, by omega, by rw [swapL_len, Hm.out], Hr3.out, grown_trans (grown_drewN Hg.out _) Hg3.out, by rw [Hd.out, Hj.out, if_pos h4]⟩
            case measure => simp [intOf]; omega
          · have h5 : decide (keyAt m (2 * k + 1) < keyAt m k) = false := by simp; omega
            go_wp2_with fail
            go_ret
            exact ⟨⟨_, rfl⟩, by rw [Hd.out, Hj.out, if_neg (by omega)]; exact Hr.out.drewN _, grown_drewN Hg.out _⟩
      · skip
        have Hj := Lib.hid (if_neg (fun h => h2 h.1) : (if 2 * k + 2 < n ∧ keyAt m (2 * k + 2) < keyAt m (2 * k + 1) then 2 * k + 2 else 2 * k + 1) = 2 * k + 1)
        go_wp2_with fail
        refine (waitLess_any _ _ m (2 * k + 1) k _ _ _ Hr.out.rd (by omega) (by omega) (by have := Hm.out; omega) (by have := Hm.out; omega)).mono ?_
        rintro e w2 ⟨rfl, q2, rfl⟩
        by_cases h4 : keyAt m (2 * k + 1) < keyAt m k
        · go_wp2_with fail
          refine (waitSwap_any base g cap m k (2 * k + 1) _ _ _ (Hr.out.drewN _) (by omega) (by omega) (by have := Hm.out; omega) (by have := Hm.out; omega)).mono ?_
          rintro e w3 ⟨rfl, hr3, hg3⟩
          have Hr3 := Lib.hid hr3; clear hr3
          have Hg3 := Lib.hid hg3; clear hg3
          go_wp2_with fail
          go_roundw
          case rel => exact ⟨f, 2 * k + 1, swapL m k (2 * k + 1), by go_num, by omega, by omega, by rw [swapL_len, Hm.out], Hr3.out, grown_trans (grown_drewN Hg.out _) Hg3.out, by rw [Hd.out, Hj.out, if_pos h4]⟩
          case measure => simp [intOf]; omega
        · have h5 : decide (keyAt m (2 * k + 1) < keyAt m k) = false := by simp; omega
          go_wp2_with fail
          go_ret
          exact ⟨⟨_, rfl⟩, by rw [Hd.out, Hj.out, if_neg (by omega)]; exact Hr.out.drewN _, grown_drewN Hg.out _⟩
end Go.Proofs.Ytkdgibabecpdlaa
