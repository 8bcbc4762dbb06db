/- Proved: wides.Add and Sub answer sum and difference; where they fit. -/
import Derived.Test.YthhmahmclkmjpaaDoorWideC
namespace Go.Proofs.YthhmahmclkmjpaaDoor
open Go.RowKit
theorem sub64n (x y : Nat) (hx : x < 18446744073709551616) (hy : y < 18446744073709551616) : ∃ s q : Nat, s < 18446744073709551616 ∧ q ≤ 1 ∧ s + y = x + q * 18446744073709551616 ∧
    ∀ w : World, (callFunc 90 #[.int .u64 (x : Int), .int .u64 (y : Int), .int .u64 0]).run Tryd.prog w = .ok (.value (.tuple #[.int .u64 (s : Int), .int .u64 (q : Int)])) w := by
  have h : ∀ w : World, (callFunc 90 #[.int .u64 (x : Int), .int .u64 (y : Int), .int .u64 0]).run Tryd.prog w = _ := fun w => sub64_0 (x : Int) (y : Int) (by omega) (by omega) (by omega) w
  by_cases hlt : x < y
  · have e1 : ((x : Int) - y) % 18446744073709551616 = ((x + 18446744073709551616 - y : Nat) : Int) := by omega
    have e2 : bor (x : Int) y = ((1 : Nat) : Int) := by unfold bor; rw [if_pos (by omega)]; rfl
    refine ⟨x + 18446744073709551616 - y, 1, by omega, by omega, by omega, fun w => ?_⟩
    rw [h, e1, e2]
  · have e1 : ((x : Int) - y) % 18446744073709551616 = ((x - y : Nat) : Int) := by omega
    have e2 : bor (x : Int) y = ((0 : Nat) : Int) := by unfold bor; rw [if_neg (by omega)]; rfl
    refine ⟨x - y, 0, by omega, by omega, by omega, fun w => ?_⟩
    rw [h, e1, e2]
/-- The high word of a sum, and that it did not turn over. -/
theorem add_hi {ah bh q : Int} (ha : -9223372036854775808 ≤ ah ∧ ah ≤ 9223372036854775807) (hb : -9223372036854775808 ≤ bh ∧ bh ≤ 9223372036854775807) (hq : 0 ≤ q ∧ q ≤ 1) (hs : -9223372036854775808 ≤ ah + bh + q ∧ ah + bh + q ≤ 9223372036854775807) :
    wrap64 (wrap64 (ah + bh) + q) = ah + bh + q ∧ IntKind.i64.wrap q = q ∧ ((decide (ah < 0) == decide (bh < 0)) = true → (decide (ah + bh + q < 0) == decide (ah < 0)) = true) := by
  refine ⟨by unfold wrap64; omega, by rw [IntKind.wrap_i64]; omega, ?_⟩
  by_cases h1 : ah < 0 <;> by_cases h2 : bh < 0 <;> simp [h1, h2] <;> omega
set_option maxRecDepth 100000 in
set_option maxHeartbeats 4000000 in
theorem wAdd_any (ah bh : Int) (al bl : Nat) (ha : -9223372036854775808 ≤ ah ∧ ah ≤ 9223372036854775807) (hb : -9223372036854775808 ≤ bh ∧ bh ≤ 9223372036854775807) (hal : al < 18446744073709551616) (hbl : bl < 18446744073709551616)
    (hs0 : -170141183460469231731687303715884105728 ≤ (ah * 18446744073709551616 + al) + (bh * 18446744073709551616 + bl)) (hs1 : (ah * 18446744073709551616 + al) + (bh * 18446744073709551616 + bl) < 170141183460469231731687303715884105728) (w : World) :
    Calls Tryd.prog 43 #[.agg #[.int .i64 ah, .int .u64 (al : Int)], .agg #[.int .i64 bh, .int .u64 (bl : Int)]] w fun e w' => ∃ (hi : Int) (lo : Nat), e = .returned (.tuple #[.agg #[.int .i64 hi, .int .u64 (lo : Int)], .int .i64 0]) ∧ lo < 18446744073709551616 ∧
      hi * 18446744073709551616 + lo = (ah * 18446744073709551616 + al) + (bh * 18446744073709551616 + bl) ∧ -9223372036854775808 ≤ hi ∧ hi ≤ 9223372036854775807 ∧ Below w.heap.size w w' := by
  obtain ⟨s, q, hs, hq, ad⟩ := add64n (al : Int) (bl : Int) 0 al bl 0 rfl rfl rfl (by omega)
  obtain ⟨w1, w2, w3⟩ := add_hi (q := (q : Int)) ha hb (by omega) (by omega)
  have HR : Hid (s < 18446744073709551616 ∧ (ah + bh + q) * 18446744073709551616 + s = (ah * 18446744073709551616 + al) + (bh * 18446744073709551616 + bl) ∧ -9223372036854775808 ≤ ah + bh + q ∧ ah + bh + q ≤ 9223372036854775807) := Lib.hid (by omega)
  obtain ⟨dh, hdh⟩ : ∃ b, decide (ah < 0) = b := ⟨_, rfl⟩
  obtain ⟨db, hdb⟩ : ∃ b, decide (bh < 0) = b := ⟨_, rfl⟩
  generalize ah + bh + (q : Int) = hi at *
  obtain ⟨ds, hds⟩ : ∃ b, decide (hi < 0) = b := ⟨_, rfl⟩
  rw [hdh, hdb, hds] at w3
  have hcase : ((dh == db) = false) ∨ ((dh == db) = true ∧ (ds == dh) = true) := by
    cases hh : (dh == db)
    · exact .inl rfl
    · exact .inr ⟨rfl, w3 hh⟩
  clear w3 hs hq ha hb hal hbl hs0 hs1
  have hfin := (((Below.refl w.heap.size w).alloc (Nat.le_refl _) (.cells #[.int .i64 ah, .int .u64 (al : Int)] 48)).alloc (by simp) (.cells #[.int .i64 bh, .int .u64 (bl : Int)] 48)).alloc (by simp; omega) (.cells #[.int .i64 hi, .int .u64 (s : Int)] 48)
  have HF := Lib.hid hfin
  clear hfin
  rcases hcase with c1 | ⟨c1, c2⟩
  all_goals
    go_enter Tryd.func43, Tryd.ntmps43
    go_wp2_with fail
    simp [bodyPost, results, Tryd.results43, go_sem]
    exact ⟨hi, s, ⟨rfl, rfl⟩, HR.out.1, HR.out.2.1, HR.out.2.2.1, HR.out.2.2.2, HF.out⟩
theorem sub_hi {ah bh q : Int} (ha : -9223372036854775808 ≤ ah ∧ ah ≤ 9223372036854775807) (hb : -9223372036854775808 ≤ bh ∧ bh ≤ 9223372036854775807) (hq : 0 ≤ q ∧ q ≤ 1) (hs : -9223372036854775808 ≤ ah - bh - q ∧ ah - bh - q ≤ 9223372036854775807) :
    wrap64 (wrap64 (ah - bh) - q) = ah - bh - q ∧ IntKind.i64.wrap q = q ∧ ((decide (ah < 0) == decide (bh < 0)) = false → (decide (ah - bh - q < 0) == decide (ah < 0)) = true) := by
  refine ⟨by unfold wrap64; omega, by rw [IntKind.wrap_i64]; omega, ?_⟩
  by_cases h1 : ah < 0 <;> by_cases h2 : bh < 0 <;> simp [h1, h2] <;> omega
set_option maxRecDepth 100000 in
set_option maxHeartbeats 4000000 in
theorem wSub_any (ah bh : Int) (al bl : Nat) (ha : -9223372036854775808 ≤ ah ∧ ah ≤ 9223372036854775807) (hb : -9223372036854775808 ≤ bh ∧ bh ≤ 9223372036854775807) (hal : al < 18446744073709551616) (hbl : bl < 18446744073709551616)
    (hs0 : -170141183460469231731687303715884105728 ≤ (ah * 18446744073709551616 + al) - (bh * 18446744073709551616 + bl)) (hs1 : (ah * 18446744073709551616 + al) - (bh * 18446744073709551616 + bl) < 170141183460469231731687303715884105728) (w : World) :
    Calls Tryd.prog 65 #[.agg #[.int .i64 ah, .int .u64 (al : Int)], .agg #[.int .i64 bh, .int .u64 (bl : Int)]] w fun e w' => ∃ (hi : Int) (lo : Nat), e = .returned (.tuple #[.agg #[.int .i64 hi, .int .u64 (lo : Int)], .int .i64 0]) ∧ lo < 18446744073709551616 ∧
      hi * 18446744073709551616 + lo = (ah * 18446744073709551616 + al) - (bh * 18446744073709551616 + bl) ∧ -9223372036854775808 ≤ hi ∧ hi ≤ 9223372036854775807 ∧ Below w.heap.size w w' := by
  obtain ⟨s, q, hs, hq1, hq, ad⟩ := sub64n al bl hal hbl
  obtain ⟨w1, w2, w3⟩ := sub_hi (q := (q : Int)) ha hb (by omega) (by omega)
  have HR : Hid (s < 18446744073709551616 ∧ (ah - bh - q) * 18446744073709551616 + s = (ah * 18446744073709551616 + al) - (bh * 18446744073709551616 + bl) ∧ -9223372036854775808 ≤ ah - bh - q ∧ ah - bh - q ≤ 9223372036854775807) := Lib.hid (by omega)
  obtain ⟨dh, hdh⟩ : ∃ b, decide (ah < 0) = b := ⟨_, rfl⟩
  obtain ⟨db, hdb⟩ : ∃ b, decide (bh < 0) = b := ⟨_, rfl⟩
  generalize ah - bh - (q : Int) = hi at *
  obtain ⟨ds, hds⟩ : ∃ b, decide (hi < 0) = b := ⟨_, rfl⟩
  rw [hdh, hdb, hds] at w3
  have hcase : ((dh == db) = true) ∨ ((dh == db) = false ∧ (ds == dh) = true) := by
    cases hh : (dh == db)
    · exact .inr ⟨rfl, w3 hh⟩
    · exact .inl rfl
  clear w3 hs hq hq1 ha hb hal hbl hs0 hs1
  have hfin := (((Below.refl w.heap.size w).alloc (Nat.le_refl _) (.cells #[.int .i64 ah, .int .u64 (al : Int)] 48)).alloc (by simp) (.cells #[.int .i64 bh, .int .u64 (bl : Int)] 48)).alloc (by simp; omega) (.cells #[.int .i64 hi, .int .u64 (s : Int)] 48)
  have HF := Lib.hid hfin
  clear hfin
  rcases hcase with c1 | ⟨c1, c2⟩
  all_goals
    go_enter Tryd.func65, Tryd.ntmps65
    go_wp2_with fail
    simp [bodyPost, results, Tryd.results65, go_sem]
    exact ⟨hi, s, ⟨rfl, rfl⟩, HR.out.1, HR.out.2.1, HR.out.2.2.1, HR.out.2.2.2, HF.out⟩
end Go.Proofs.YthhmahmclkmjpaaDoor
