/- Proved: SameCodes answers true of equal lists; for lists of 100000 steps at most. -/
import Derived.Test.YthhmahmclkmjpaaDoorStG
namespace Go.Proofs.YthhmahmclkmjpaaDoor
open Go.RowKit
theorem Rd.cd {w : World} {A : Option Addr} {l : List Cd} (h : Rd w A (cdCells l)) {k : Nat} {d : Cd} (hk : l[k]? = some d) :
    ∃ b off, A = some ⟨b, off, none⟩ ∧ b < w.heap.size ∧ w.cell? ⟨b, off + k * 2, none⟩ = some (.int .u8 (d.1 : Int)) ∧ w.cell? ⟨b, off + k * 2 + 1, none⟩ = some (.int .i32 d.2) := by
  have e := fun j hj => flatMap_at cdCell 2 (fun _ => rfl) l k d hk j hj
  obtain ⟨b, off, hA, hb, hc⟩ := h.at_ (by intro e0; have := e 0 (by omega); unfold cdCells at e0; rw [e0] at this; simp [cdCell] at this)
  have h0 := hc _ _ ((e 0 (by omega)).trans rfl)
  have h1 := hc _ _ ((e 1 (by omega)).trans rfl)
  exact ⟨b, off, hA, hb, by simpa using h0, by simpa [Nat.add_assoc] using h1⟩
set_option maxRecDepth 100000 in
set_option maxHeartbeats 4000000 in
theorem sameCode_eq (A B : Option Addr) (ca cb n : Nat) (T : List Cd) (w : World) (ha : Rd w A (cdCells T)) (hb : Rd w B (cdCells T)) (hn : T.length = n) (hl : n ≤ 100000) :
    Calls Tryd.prog 35 #[.slice A n ca, .slice B n cb] w fun e w' => e = .returned (.bool true) ∧ Below w.heap.size w w' := by
  have HA := Lib.hid ha; have HB := Lib.hid hb; have Hn := Lib.hid hn
  clear ha hb hn
  go_enter Tryd.func35, Tryd.ntmps35
  go_wp2_with fail
  go_loopw [5] (fun v5 wr => ∃ k : Nat, k ≤ n ∧ v5 = .int .i64 k ∧ Below w.heap.size w wr) (fun v5 _ => n - (intOf v5).toNat)
  case atStart => exact ⟨0, by omega, rfl, Below.refl _ _⟩
  case round =>
    obtain ⟨k, hk, rfl, hb⟩ := hrel
    by_cases hlt : k < n
    · have hkt : k < T.length := by rw [Hn.out]; exact hlt
      obtain ⟨b1, o1, rfl, hz1, c0, c1⟩ := (HA.out.below hb).cd (List.getElem?_eq_getElem hkt)
      obtain ⟨b2, o2, rfl, hz2, d0, d1⟩ := (HB.out.below hb).cd (List.getElem?_eq_getElem hkt)
      generalize T[k] = t at *
      obtain ⟨kk, pp⟩ := t
      simp only at c0 c1 d0 d1
      have HBe := Lib.hid hb; clear hb
      have hii : (k : Int) < (n : Int) := by omega
      have hi0 : (0 : Int) ≤ (k : Int) := by omega
      go_wp2_with (go_quiet (fail))
      go_roundw
      case rel => exact ⟨k + 1, by omega, by go_num, below_drewN HBe.out _⟩
      case measure => simp [intOf]; omega
    · obtain rfl : k = n := by omega
      go_wp2_with fail
      go_ret
      exact ⟨rfl, hb⟩
theorem sameCodes_eq (A B : Option Addr) (ca cb n : Nat) (T : List Cd) (w : World) (ha : Rd w A (cdCells T)) (hb : Rd w B (cdCells T)) (hn : T.length = n) (hl : n ≤ 100000) :
    Calls Tryd.prog 12 #[.slice A n ca, .slice B n cb] w fun e w' => e = .returned (.bool true) ∧ Below w.heap.size w w' := by
  have HA := Lib.hid ha; have HB := Lib.hid hb; have Hn := Lib.hid hn
  clear ha hb hn
  go_enter Tryd.func12, Tryd.ntmps12
  go_wp2_with fail
  refine (sameCode_eq A B ca cb n T w HA.out HB.out Hn.out hl).mono ?_
  rintro e w1 ⟨rfl, hb⟩
  go_wp2_with fail
  go_ret
  exact ⟨rfl, hb⟩
end Go.Proofs.YthhmahmclkmjpaaDoor
