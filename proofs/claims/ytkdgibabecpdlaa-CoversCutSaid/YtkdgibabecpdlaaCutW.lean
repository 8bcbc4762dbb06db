/- Proved: the function CoversCut answers true and changes no old memory; for every line, point and two places. -/
import Derived.Test.YtkdgibabecpdlaaArea
import Derived.Test.YtkdgibabecpdlaaPointsW
import Derived.Test.YtkdgibabecpdlaaPointsW0
import Derived.Test.YtkdgibabecpdlaaCutLaw
import Derived.Deep.RegionHeld3
namespace Go.Proofs.Ytkdgibabecpdlaa
open Go.RowKit
/-- Two blocks behind one another: a boxed dot, and two boxed bytes. -/
theorem cut_cells {w w' : World} {x y a b : Int} (hb : Below ((w.alloc (.cells #[.int .i64 x, .int .i64 y] 53)).alloc (.cells #[.int .u8 a, .int .u8 b] 59)).heap.size ((w.alloc (.cells #[.int .i64 x, .int .i64 y] 53)).alloc (.cells #[.int .u8 a, .int .u8 b] 59)) w') :
    w'.cell? ⟨w.heap.size, 0, none⟩ = some (.int .i64 x) ∧ w'.cell? ⟨w.heap.size, 1, none⟩ = some (.int .i64 y) ∧ w'.cell? ⟨w.heap.size + 1, 0, none⟩ = some (.int .u8 a) ∧ w'.cell? ⟨w.heap.size + 1, 1, none⟩ = some (.int .u8 b) ∧ w.heap.size + 1 < w'.heap.size := by
  refine ⟨?_, ?_, ?_, ?_, ?_⟩
  · rw [hb.cell (by simp; omega)]; simp [go_sem]
  · rw [hb.cell (by simp; omega)]; simp [go_sem]
  · rw [hb.cell (by simp)]; simp [go_sem]
  · rw [hb.cell (by simp)]; simp [go_sem]
  · have := hb.size; simp at this; omega
set_option maxRecDepth 100000 in
set_option maxHeartbeats 4000000 in
theorem cut_walk (A : Option Addr) (cap : Nat) (l : List Dot) (px py n0 n1 : Int) (w : World) (h : Rd w A (dotCells l)) (hl : l.length ≤ maxLen) (hlc : l.length ≤ cap) (hn0 : 0 ≤ n0) (hn1 : n0 ≤ 255) (hm0 : 0 ≤ n1) (hm1 : n1 ≤ 255) :
    Calls Try.prog 6 #[.slice A l.length cap, .agg #[.int .i64 px, .int .i64 py], .agg #[.int .u8 n0, .int .u8 n1]] w fun e w' => e = .returned (.bool true) ∧ Below w.heap.size w w' := by
  have hl2 := hl
  simp only [maxLen] at hl
  have H := Lib.hid h; clear h
  have hB0 : Below w.heap.size w ((w.alloc (.cells #[.int .i64 px, .int .i64 py] 53)).alloc (.cells #[.int .u8 n0, .int .u8 n1] 59)) := ((Below.refl _ _).alloc (Nat.le_refl _) _).alloc (by simp) _
  go_enter Try.func6, Try.ntmps6
  by_cases hlen : 200 < (l.length : Int)
  · go_wp2_with fail
    refine (lives_any _).mono ?_
    rintro e w1 ⟨rfl, hb1⟩
    go_wp2_with fail
    go_ret
    exact ⟨rfl, below_more hB0 hb1⟩
  by_cases hl0 : l.length = 0
  · have hl0i : (l.length : Int) = 0 := by omega
    go_wp2_with fail
    refine (lives_any _).mono ?_
    rintro e w1 ⟨rfl, hb1⟩
    go_wp2_with fail
    go_ret
    exact ⟨rfl, below_more hB0 hb1⟩
  have hbe : ((l.length : Int) == 0) = false := by rw [beq_eq_false_iff_ne]; omega
  go_wp2_with fail
  refine (anyFar_any A cap _ l _ (H.out.below hB0) rfl hl2).mono ?_
  rintro e w1 ⟨rfl, hb1⟩
  have HB1 := Lib.hid (below_more hB0 hb1)
  by_cases hfl : l.any isFarB = true
  · rw [hfl]
    go_wp2_with fail
    refine (lives_any _).mono ?_
    rintro e w2 ⟨rfl, hb2⟩
    go_wp2_with fail
    go_ret
    exact ⟨rfl, below_more HB1.out hb2⟩
  have hfl' : l.any isFarB = false := by simpa using hfl
  rw [hfl']
  obtain ⟨c0, c1, c2, c3, hz⟩ := cut_cells hb1
  clear hb1 hB0 hfl
  go_wp2_with fail
  refine (far28_any px py _).mono ?_
  rintro e w2 ⟨rfl, hb2⟩
  by_cases hp : isFarB (px, py) = true
  · rw [hp]
    go_wp2_with fail
    refine (lives_any _).mono ?_
    rintro e w3 ⟨rfl, hb3⟩
    go_wp2_with fail
    go_ret
    exact ⟨rfl, below_more (below_more HB1.out hb2) hb3⟩
  have hp' : isFarB (px, py) = false := by simpa using hp
  rw [hp']
  have d0 := (hb2.cell (p := ⟨w.heap.size, 0, none⟩) (by show w.heap.size < _; omega)).trans c0
  have d1 := (hb2.cell (p := ⟨w.heap.size, 1, none⟩) (by show w.heap.size < _; omega)).trans c1
  have d2 := (hb2.cell (p := ⟨w.heap.size + 1, 0, none⟩) hz).trans c2
  have d3 := (hb2.cell (p := ⟨w.heap.size + 1, 1, none⟩) hz).trans c3
  have dz := Nat.lt_of_lt_of_le hz hb2.size
  have dz0 : w.heap.size < w2.heap.size := by omega
  have HB2 := Lib.hid (below_more HB1.out hb2)
  clear hb2 c0 c1 c2 c3 hz HB1 hp
  have hx : ∀ n : Int, 0 ≤ n → ∃ k : Nat, n % (l.length : Int) = (k : Int) ∧ k < l.length := fun n hn => by
    have h1 := Int.emod_nonneg n (b := (l.length : Int)) (by omega)
    have h2 := Int.emod_lt_of_pos n (b := (l.length : Int)) (by omega)
    exact ⟨(n % (l.length : Int)).toNat, by omega, by omega⟩
  obtain ⟨i0, hi0, hil⟩ := hx n0 hn0
  obtain ⟨k0, hk0, hkl⟩ := hx n1 hm0
  clear hx
  have hord : Hid (((k0 : Int) < (i0 : Int) → ∃ i k : Nat, i = k0 ∧ k = i0) ∧ True) := Lib.hid ⟨fun _ => ⟨_, _, rfl, rfl⟩, trivial⟩
  clear hord
  by_cases hgt : (k0 : Int) < (i0 : Int)
  all_goals
    first
    | (have hik : k0 ≤ i0 := by omega
       have hkl2 := hil
       go_upto_region 7 with (fail)
       obtain ⟨i, hi⟩ : ∃ i, k0 = i := ⟨_, rfl⟩
       obtain ⟨k, hk⟩ : ∃ k, i0 = k := ⟨_, rfl⟩
       simp only [hi0, hk0, hbe, hi, hk]
       rw [hi, hk] at hik
       rw [hk] at hkl2
       clear hgt hi hk)
    | (have hik : i0 ≤ k0 := by omega
       have hkl2 := hkl
       go_upto_region 7 with (fail)
       obtain ⟨i, hi⟩ : ∃ i, i0 = i := ⟨_, rfl⟩
       obtain ⟨k, hk⟩ : ∃ k, k0 = k := ⟨_, rfl⟩
       simp only [hi0, hk0, hbe, hi, hk]
       rw [hi, hk] at hik
       rw [hk] at hkl2
       clear hgt hi hk)
  all_goals
    have H2 := Lib.hid (H.out.below HB2.out)
    have hcutlaw := windF_cut l (px, py) i k hik hkl2 hp' hfl'
    have Hcl := Lib.hid hcutlaw
    have hab0 := windF_abs l (px, py)
    have hab1 := windF_abs (l.take (i + 1) ++ l.drop k) (px, py)
    have hab2 := windF_abs ((l.drop i).take (k + 1 - i)) (px, py)
    obtain ⟨b, off, hA, hbl, cx, cy⟩ := H2.out.dot (List.getElem?_eq_getElem hkl2)
    subst hA
    clear hcutlaw hi0 hk0 hil hkl hn0 hn1 hm0 hm1 hp' hfl' H cx cy
    have Hd := Lib.hid ((H2.out.drop k).drew)
    have Ht := Lib.hid ((H2.out.take (i + 1)).drew)
    have hkle : k ≤ l.length := by omega
    have hck : cap ≠ k := by omega
    have hic : (i : Int) + 1 ≤ (cap : Int) := by omega
    have hi0 : (0 : Int) ≤ (i : Int) + 1 := by omega
    have hiw : IntKind.i64.wrap ((i : Int) + 1) = ((i + 1 : Nat) : Int) := by rw [IntKind.wrap_i64]; omega
    have e2 : (l.length : Int) - (k : Int) = ((l.length - k : Nat) : Int) := by omega
    go_cut [9] from 45 to 53 (fun v9 wd => ∃ A9 c9, v9 = .slice A9 (i + 1 + (l.length - k)) c9 ∧ Rd wd A9 (dotCells (l.take (i + 1) ++ l.drop k)) ∧ Below w2.heap.size w2 wd)
    case first =>
      rename_i kk bigA jj kk2 aj am
      have Haj := Lib.hid aj; have Ham := Lib.hid am
      clear bigA aj am
      go_region_held3 (fun w' => w'.cell? ⟨w.heap.size, 0, none⟩ = some (.int .i64 px) ∧ w'.cell? ⟨w.heap.size, 1, none⟩ = some (.int .i64 py)) (first | exact ⟨m0, m1⟩ | exact ⟨d0, d1⟩ | go_keep)
        (first
        | (refine step_app2 (m := i + 1) rfl rfl Try.etDots Try.underlying51 (World.ownsRow_nil _ w2.heap.size _ _) rfl rfl Ht.out (by rw [dotCells_len]; simp; omega) dotCells_one (by omega) (Nat.le_refl _) ?_; intro v5 w5 hown5 hgrow5 hat5 hbel5; rw [Nat.zero_add] at hown5; have m0 := (hbel5.cell (p := ⟨w.heap.size, 0, none⟩) dz0).trans d0; have m1 := (hbel5.cell (p := ⟨w.heap.size, 1, none⟩) dz0).trans d1; clear hgrow5 hat5 Ht)
        | (refine step_app2 (m := l.length - k) rfl rfl Try.etDots Try.underlying51 hown5 rfl rfl (Hd.out.below hbel5) (by rw [dotCells_len]; simp) dotCells_one (by omega) hbel5.size ?_; intro v6 w6 hown6 hgrow6 hat6 hbel6; have hbx := hbel5.trans hbel6; have m0 := (hbx.cell (p := ⟨w.heap.size, 0, none⟩) dz0).trans d0; have m1 := (hbx.cell (p := ⟨w.heap.size, 1, none⟩) dz0).trans d1; clear hgrow6 hat6))
      have aj := Haj.out
      have am := Ham.out
      have HBx := Lib.hid ((Below.refl w2.heap.size w2).drew.trans hbx)
      obtain ⟨A9, c9, rfl, -, hr9, -⟩ := ownsRow_form hown6
      have HR := Lib.hid hr9
      clear hbel5 hbel6 hown5 hown6 hr9 hbx m0 m1
      go_wp2_with fail
      go_meet
      case rel => exact ⟨A9, c9, by first | rfl | simp only [Nat.zero_add], by rw [dotCells, List.flatMap_append]; simpa [dotCells] using HR.out, HBx.out⟩
    case rest =>
      obtain ⟨A9, c9, rfl, hr9, hb9⟩ := hcut
      have f0 := (hb9.cell (p := ⟨w.heap.size, 0, none⟩) dz0).trans d0
      have f1 := (hb9.cell (p := ⟨w.heap.size, 1, none⟩) dz0).trans d1
      have fz := Nat.lt_of_lt_of_le dz0 hb9.size
      have Hr9 := Lib.hid hr9
      have H9 := Lib.hid (H2.out.below hb9)
      have HB9 := Lib.hid (belowMore HB2.out hb9)
      clear hr9 hb9 Hd H2 d0 d1 d2 d3 dz dz0 HB2
      have hlo : (0 : Int) ≤ (i : Int) := by omega
      have hlk : (i : Int) ≤ (k : Int) + 1 := by omega
      have hkc : (k : Int) + 1 ≤ (cap : Int) := by omega
      have hkw : IntKind.i64.wrap ((k : Int) + 1) = ((k + 1 : Nat) : Int) := by rw [IntKind.wrap_i64]; omega
      have hci : cap ≠ i := by omega
      have Hr8 := Lib.hid ((H9.out.drop i).take (k + 1 - i))
      go_upto_region 9 with (at_builtin; refine wpList_app rfl rfl Try.etDots (World.ownsRow_nil _ wc.heap.size _ _) rfl rfl Hr8.out (m := k + 1 - i) (by rw [dotCells_len]; simp; omega) dotCells_one (by omega) (Nat.le_refl _) ?_; intro v8 w8 hown8 hg8 _ hb8; rw [Nat.zero_add] at hown8)
      obtain ⟨A8, c8, rfl, -, hr8, -⟩ := ownsRow_form hown8
      have m0 := (hb8.cell (p := ⟨w.heap.size, 0, none⟩) fz).trans f0
      have m1 := (hb8.cell (p := ⟨w.heap.size, 1, none⟩) fz).trans f1
      have mz := Nat.lt_of_lt_of_le fz hb8.size
      have HX8 := Lib.hid (show Rd w8.drew A8 (dotCells ((l.drop i).take (k + 1 - i))) from Rd.drew (by simpa using hr8))
      have HX9 := Lib.hid ((Hr9.out.below hb8).drew)
      have HX := Lib.hid ((H9.out.below hb8).drew)
      have HB8 := Lib.hid (belowMore HB9.out hb8)
      have hl1 : (l.take (i + 1) ++ l.drop k).length = i + 1 + (l.length - k) := by simp; omega
      have hl22 : ((l.drop i).take (k + 1 - i)).length = k + 1 - i := by simp; omega
      obtain ⟨N1, hN1⟩ : ∃ n, windF (l.take (i + 1) ++ l.drop k) (px, py) = n := ⟨_, rfl⟩
      obtain ⟨N2, hN2⟩ : ∃ n, windF ((l.drop i).take (k + 1 - i)) (px, py) = n := ⟨_, rfl⟩
      have hcl := Hcl.out
      rw [hN1, hN2] at hcl
      rw [hN1, hl1] at hab1
      rw [hN2, hl22] at hab2
      have hNb : (-500 ≤ N1 ∧ N1 ≤ 500) ∧ (-500 ≤ N2 ∧ N2 ≤ 500) := by omega
      have HN1 := Lib.hid hN1; have HN2 := Lib.hid hN2; have HCL := Lib.hid hcl; have HL1 := Lib.hid hl1; have HL2 := Lib.hid hl22; clear hl22
      have HQ0 : Hid (l.length ≤ 1000000) := Lib.hid (by omega)
      have HQ1 : Hid (i + 1 + (l.length - k) ≤ 1000000) := Lib.hid (by omega)
      have HQ2 : Hid (k + 1 - i ≤ 1000000) := Lib.hid (by omega)
      have hw12 : IntKind.i64.wrap (N1 + N2) = N1 + N2 := by rw [IntKind.wrap_i64]; omega
      clear hlo hlk hkc hkw hci hic hi0 hiw e2 hkle hck hik hkl2 hbe hl0 hlen hlc hl hl2
      clear hN1 hN2 hcl hab0 hab1 hab2 hl1 hr8 hown8 hb8 hg8 f0 f1 fz Hr9 H9 Hr8 Hcl HB9
      go_region_held3 (fun w' => w'.cell? ⟨w.heap.size, 0, none⟩ = some (.int .i64 px) ∧ w'.cell? ⟨w.heap.size, 1, none⟩ = some (.int .i64 py)) (first | exact ⟨k0, k1⟩ | exact ⟨m0, m1⟩ | go_keep)
        (first
        | (go_at_call 22; refine (winding_any (some ⟨b, off, none⟩) cap l px py _ HX.out HQ0.out).mono ?_; rintro e w3 ⟨rfl, hb3⟩; rw [HCL.out]; clear HX; have k0 := (hb3.cell (p := ⟨w.heap.size, 0, none⟩) mz).trans m0; have k1 := (hb3.cell (p := ⟨w.heap.size, 1, none⟩) mz).trans m1)
        | (go_at_call 22; refine (winding_n A9 c9 _ (l.take (i + 1) ++ l.drop k) px py _ (HX9.out.below hb3) HL1.out HQ1.out).mono ?_; rintro e w4 ⟨rfl, hb4⟩; rw [HN1.out]; clear HX9; have hb34 := belowMore hb3 hb4; have k0 := (hb34.cell (p := ⟨w.heap.size, 0, none⟩) mz).trans m0; have k1 := (hb34.cell (p := ⟨w.heap.size, 1, none⟩) mz).trans m1)
        | (go_at_call 22; refine (winding_n A8 c8 _ ((l.drop i).take (k + 1 - i)) px py _ (HX8.out.below hb34) HL2.out HQ2.out).mono ?_; rintro e w5 ⟨rfl, hb5⟩; rw [HN2.out]; clear HX8; have hb35 := belowMore hb34 hb5; have k0 := (hb35.cell (p := ⟨w.heap.size, 0, none⟩) mz).trans m0; have k1 := (hb35.cell (p := ⟨w.heap.size, 1, none⟩) mz).trans m1)
        | (go_at_call 13; refine (lives_any _).mono ?_; rintro e w6 ⟨rfl, hb6⟩; have hb36 := belowMore hb35 hb6; have k0 := (hb36.cell (p := ⟨w.heap.size, 0, none⟩) mz).trans m0; have k1 := (hb36.cell (p := ⟨w.heap.size, 1, none⟩) mz).trans m1))
      have HF := Lib.hid (belowMore HB8.out.drew hb36)
      clear hb3 hb4 hb5 hb6 hb34 hb35 hb36 k0 k1 m0 m1
      go_wp2_with fail
      go_ret
      exact ⟨rfl, HF.out⟩
end Go.Proofs.Ytkdgibabecpdlaa
