/- Proved: SameTokens and alike answer true of equal lists; for lists of 100000 tokens at most. -/
import Derived.Test.YtjbfcleflokmoaaDoorRefT
namespace Go.Proofs.YtjbfcleflokmoaaDoor
open Go.RowKit
theorem Rd.tok {w : World} {A : Option Addr} {l : List Tok} (h : Rd w A (tokCells l)) {k : Nat} {d : Tok} (hk : l[k]? = some d) :
    ∃ b off, A = some ⟨b, off, none⟩ ∧ b < w.heap.size ∧ w.cell? ⟨b, off + k * 3, none⟩ = some (.int .u8 (d.k : Int)) ∧ w.cell? ⟨b, off + k * 3 + 1, none⟩ = some (.string ⟨d.t.toArray⟩) ∧ w.cell? ⟨b, off + k * 3 + 2, none⟩ = some (.int .i64 (d.pos : Int)) := by
  have e := fun j hj => flatMap_at tokCell 3 (fun _ => rfl) l k d hk j hj
  obtain ⟨b, off, hA, hb, hc⟩ := h.at_ (by intro e0; have := e 0 (by omega); unfold tokCells at e0; rw [e0] at this; simp [tokCell] at this)
  have h0 := hc _ _ ((e 0 (by omega)).trans rfl)
  have h1 := hc _ _ ((e 1 (by omega)).trans rfl)
  have h2 := hc _ _ ((e 2 (by omega)).trans rfl)
  exact ⟨b, off, hA, hb, by simpa using h0, by simpa [Nat.add_assoc] using h1, by simpa [Nat.add_assoc] using h2⟩
set_option maxRecDepth 100000 in
set_option maxHeartbeats 4000000 in
theorem sameTok_eq (A B : Option Addr) (ca cb n : Nat) (T : List Tok) (w : World) (ha : Rd w A (tokCells T)) (hb : Rd w B (tokCells T)) (hn : T.length = n) (hl : n ≤ 100000) :
    Calls Tryd.prog 20 #[.slice A n ca, .slice B n cb] w fun e w' => e = .returned (.bool true) ∧ Below w.heap.size w w' := by
  have HA := Lib.hid ha; have HB := Lib.hid hb; have Hn := Lib.hid hn
  clear ha hb hn
  go_enter Tryd.func20, Tryd.ntmps20
  go_wp2_with fail
  go_loopw [5] (fun v5 wr => ∃ k : Nat, k ≤ n ∧ v5 = .int .i64 k ∧ Below w.heap.size w wr) (fun v5 _ => n - (intOf v5).toNat)
  case atStart => exact ⟨0, by omega, rfl, Below.refl _ _⟩
  case round =>
    obtain ⟨k, hk, rfl, hb⟩ := hrel
    by_cases hlt : k < n
    · have hkt : k < T.length := by rw [Hn.out]; exact hlt
      obtain ⟨b1, o1, rfl, hz1, c0, c1, c2⟩ := (HA.out.below hb).tok (List.getElem?_eq_getElem hkt)
      obtain ⟨b2, o2, rfl, hz2, d0, d1, d2⟩ := (HB.out.below hb).tok (List.getElem?_eq_getElem hkt)
      generalize T[k] = t at *
      obtain ⟨kk, tt, pp⟩ := t
      simp only at c0 c1 c2 d0 d1 d2
      have HBe := Lib.hid hb; clear hb
      have hii : (k : Int) < (n : Int) := by omega
      have hi0 : (0 : Int) ≤ (k : Int) := by omega
      go_wp2_with (go_quiet (fail))
      go_roundw
      case rel => exact ⟨k + 1, by omega, by go_num, below_drewN HBe.out _⟩
      case measure => simp [intOf]; omega
    · obtain rfl : k = n := by omega
      go_wp2_with fail
      go_ret
      exact ⟨rfl, hb⟩
theorem sameTokens_eq (A B : Option Addr) (ca cb n : Nat) (T : List Tok) (w : World) (ha : Rd w A (tokCells T)) (hb : Rd w B (tokCells T)) (hn : T.length = n) (hl : n ≤ 100000) :
    Calls Tryd.prog 10 #[.slice A n ca, .slice B n cb] w fun e w' => e = .returned (.bool true) ∧ Below w.heap.size w w' := by
  have HA := Lib.hid ha; have HB := Lib.hid hb; have Hn := Lib.hid hn
  clear ha hb hn
  go_enter Tryd.func10, Tryd.ntmps10
  go_wp2_with fail
  refine (sameTok_eq A B ca cb n T w HA.out HB.out Hn.out hl).mono ?_
  rintro e w1 ⟨rfl, hb⟩
  go_wp2_with fail
  go_ret
  exact ⟨rfl, hb⟩
/-- A token without its place. -/
def kt (t : Tok) : Nat × Bytes := (t.k, t.t)
set_option maxRecDepth 100000 in
set_option maxHeartbeats 4000000 in
theorem alike_eq (A B : Option Addr) (ca cb n : Nat) (T U : List Tok) (w : World) (ha : Rd w A (tokCells T)) (hb : Rd w B (tokCells U)) (hn : T.length = n) (hu : U.map kt = T.map kt) (hl : n ≤ 100000) :
    Calls Tryd.prog 13 #[.slice A n ca, .slice B n cb] w fun e w' => e = .returned (.bool true) ∧ Below w.heap.size w w' := by
  have hul : U.length = n := by have := congrArg List.length hu; simpa [hn] using this
  have hat : ∀ k (h1 : k < T.length) (h2 : k < U.length), kt U[k] = kt T[k] := fun k h1 h2 => by
    have := congrArg (fun l => l[k]?) hu
    simp only [List.getElem?_map, List.getElem?_eq_getElem h1, List.getElem?_eq_getElem h2, Option.map_some, Option.some.injEq] at this
    exact this
  have HA := Lib.hid ha; have HB := Lib.hid hb; have Hn := Lib.hid hn; have Hul := Lib.hid hul; have Hat := Lib.hid hat
  clear ha hb hn hul hat hu
  go_enter Tryd.func13, Tryd.ntmps13
  go_wp2_with fail
  go_loopw [5] (fun v5 wr => ∃ k : Nat, k ≤ n ∧ v5 = .int .i64 k ∧ Below w.heap.size w wr) (fun v5 _ => n - (intOf v5).toNat)
  case atStart => exact ⟨0, by omega, rfl, Below.refl _ _⟩
  case round =>
    obtain ⟨k, hk, rfl, hb⟩ := hrel
    by_cases hlt : k < n
    · have hkt : k < T.length := by rw [Hn.out]; exact hlt
      have hku : k < U.length := by rw [Hul.out]; exact hlt
      obtain ⟨b1, o1, rfl, hz1, c0, c1, c2⟩ := (HA.out.below hb).tok (List.getElem?_eq_getElem hkt)
      obtain ⟨b2, o2, rfl, hz2, d0, d1, d2⟩ := (HB.out.below hb).tok (List.getElem?_eq_getElem hku)
      have he := Hat.out k hkt hku
      simp only [kt, Prod.mk.injEq] at he
      rw [he.1] at d0
      rw [he.2] at d1
      clear he
      generalize T[k] = t at *
      generalize U[k].pos = up at *
      obtain ⟨kk, tt, pp⟩ := t
      simp only at c0 c1 c2 d0 d1 d2
      have HBe := Lib.hid hb; clear hb
      have hii : (k : Int) < (n : Int) := by omega
      have hi0 : (0 : Int) ≤ (k : Int) := by omega
      go_wp2_with (go_quiet (fail))
      go_roundw
      case rel => exact ⟨k + 1, by omega, by go_num, below_drewN HBe.out _⟩
      case measure => simp [intOf]; omega
    · obtain rfl : k = n := by omega
      go_wp2_with fail
      go_ret
      exact ⟨rfl, hb⟩
end Go.Proofs.YtjbfcleflokmoaaDoor
