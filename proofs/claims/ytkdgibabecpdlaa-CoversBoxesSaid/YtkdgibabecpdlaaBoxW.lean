/- Proved: the function CoversBoxes answers true and changes no old memory; for all numbers and every point. -/
import Derived.Test.YtkdgibabecpdlaaBoxLaw
import Derived.Test.YtkdgibabecpdlaaArea
import Derived.Test.YtkdgibabecpdlaaPointsW
import Derived.Test.YtkdgibabecpdlaaPointsW0
import Derived.Deep.RegionHeld3
namespace Go.Proofs.Ytkdgibabecpdlaa
open Go.RowKit
theorem wraps_small (x : Int) (h : -1073741824 ≤ x ∧ x ≤ 1073741824) : wrap64 x = x ∧ wrap32 x = x := by
  simp only [wrap64, wrap32]; omega
/-- The boxed point's cells, behind two other blocks. -/
theorem boxed_point {w w' : World} {o1 o2 : Obj} {x y : Int} (hb : Below (((w.alloc o1).alloc o2).alloc (.cells #[.int .i64 x, .int .i64 y] 53)).heap.size (((w.alloc o1).alloc o2).alloc (.cells #[.int .i64 x, .int .i64 y] 53)) w') :
    w'.cell? ⟨w.heap.size + 1 + 1, 0, none⟩ = some (.int .i64 x) ∧ w'.cell? ⟨w.heap.size + 1 + 1, 1, none⟩ = some (.int .i64 y) ∧ w.heap.size + 1 + 1 < w'.heap.size := by
  refine ⟨?_, ?_, ?_⟩
  · rw [hb.cell (by simp)]; simp [go_sem]
  · rw [hb.cell (by simp)]; simp [go_sem]
  · have := hb.size; simp at this; omega
set_option maxRecDepth 100000 in
set_option maxHeartbeats 4000000 in
theorem box_walk (x0 x1 y0 y1 px py : Int) (w : World) (hx0 : -2147483648 ≤ x0 ∧ x0 ≤ 2147483647) (hx1 : -2147483648 ≤ x1 ∧ x1 ≤ 2147483647) (hy0 : -2147483648 ≤ y0 ∧ y0 ≤ 2147483647) (hy1 : -2147483648 ≤ y1 ∧ y1 ≤ 2147483647) :
    Calls Try.prog 7 #[.agg #[.int .i32 x0, .int .i32 x1], .agg #[.int .i32 y0, .int .i32 y1], .agg #[.int .i64 px, .int .i64 py]] w fun e w' => e = .returned (.bool true) ∧ Below w.heap.size w w' := by
  go_enter Try.func7, Try.ntmps7
  go_upto_region 5 with (fail)
  obtain ⟨ha1, ha2, ha3⟩ := halves x0 x1 hx0 hx1
  obtain ⟨hc1, hc2, hc3⟩ := halves y0 y1 hy0 hy1
  have ea := wraps_small ((min x0 x1).tdiv 2) (by omega)
  have eb := wraps_small ((max x0 x1).tdiv 2) (by omega)
  have ec := wraps_small ((min y0 y1).tdiv 2) (by omega)
  have ed := wraps_small ((max y0 y1).tdiv 2) (by omega)
  simp only [ea.1, eb.1, ec.1, ed.1, ea.2, eb.2, ec.2, ed.2]
  clear ea eb ec ed
  generalize (min x0 x1).tdiv 2 = a at *
  generalize (max x0 x1).tdiv 2 = b at *
  generalize (min y0 y1).tdiv 2 = c at *
  generalize (max y0 y1).tdiv 2 = d at *
  have hB0 : Below w.heap.size w (((w.alloc (.cells #[.int .i32 x0, .int .i32 x1] 63)).alloc (.cells #[.int .i32 y0, .int .i32 y1] 63)).alloc (.cells #[.int .i64 px, .int .i64 py] 53)) :=
    (((Below.refl _ _).alloc (Nat.le_refl _) _).alloc (by simp) _).alloc (by simp; omega) _
  obtain ⟨c0, c1, cz⟩ := boxed_point (w := w) (o1 := .cells #[.int .i32 x0, .int .i32 x1] 63) (o2 := .cells #[.int .i32 y0, .int .i32 y1] 63) (Below.refl _ (((w.alloc (.cells #[.int .i32 x0, .int .i32 x1] 63)).alloc (.cells #[.int .i32 y0, .int .i32 y1] 63)).alloc (.cells #[.int .i64 px, .int .i64 py] 53)))
  have HB0 := Lib.hid hB0
  generalize hW : ((w.alloc (.cells #[.int .i32 x0, .int .i32 x1] 63)).alloc (.cells #[.int .i32 y0, .int .i32 y1] 63)).alloc (.cells #[.int .i64 px, .int .i64 py] 53) = W at *
  clear hB0 hW hx0 hx1 hy0 hy1
  have hwin := windF_box (px, py) a b c d ha2 hc2 ha1 ha3 hc1 hc3
  have Hwin := Lib.hid hwin; clear hwin
  go_cut [11] from 47 to 68 (fun v11 wc => v11 = .bool (inB a b c d (px, py)) ∧ wc = W)
  case first =>
    by_cases h1 : a ≤ px
    · by_cases h2 : px < b
      · by_cases h3 : c ≤ py
        · by_cases h4 : py < d
          · go_wp2_with fail
            go_meet
            case rel => exact ⟨congrArg Value.bool (by rw [Bool.eq_iff_iff]; simp [inB] <;> omega), rfl⟩
          · go_wp2_with fail
            go_meet
            case rel => exact ⟨congrArg Value.bool (by rw [Bool.eq_iff_iff]; simp [inB] <;> omega), rfl⟩
        · go_wp2_with fail
          go_meet
          case rel => exact ⟨congrArg Value.bool (by rw [Bool.eq_iff_iff]; simp [inB] <;> omega), rfl⟩
      · go_wp2_with fail
        go_meet
        case rel => exact ⟨congrArg Value.bool (by rw [Bool.eq_iff_iff]; simp [inB] <;> omega), rfl⟩
    · go_wp2_with fail
      go_meet
      case rel => exact ⟨congrArg Value.bool (by rw [Bool.eq_iff_iff]; simp [inB] <;> omega), rfl⟩
  case rest =>
    obtain ⟨rfl, rfl⟩ := hcut
    have hin : inB a b c d (px, py) = true ∨ inB a b c d (px, py) = false := by cases inB a b c d (px, py) <;> simp
    generalize inB a b c d (px, py) = ins at *
    obtain ⟨nv, hnv⟩ : ∃ n : Int, (if ins = true then 1 else 0) = n := ⟨_, rfl⟩
    have hwin := Hwin.out
    rw [hnv] at hwin
    have HwinN := Lib.hid hwin; clear hwin
    have Hnv := Lib.hid hnv; clear hnv
    go_upto_region 6 with (fail)
    go_cut [12] from 69 to 75 (fun v12 wd => v12 = .int .i64 nv ∧ Below wc.heap.size wc wd)
    case first =>
      go_region_held3 (fun w' => w'.cell? ⟨w.heap.size + 1 + 1, 0, none⟩ = some (.int .i64 px) ∧ w'.cell? ⟨w.heap.size + 1 + 1, 1, none⟩ = some (.int .i64 py)) (first | exact ⟨m0, m1⟩ | exact ⟨c0, c1⟩ | go_keep)
        (first
          | (go_at_call 28; refine (box_any a c b d _).mono ?_; rintro e w1 ⟨A1, rfl, hr1, hb1⟩; have m0 := (hb1.cell (p := ⟨w.heap.size + 1 + 1, 0, none⟩) cz).trans c0; have m1 := (hb1.cell (p := ⟨w.heap.size + 1 + 1, 1, none⟩) cz).trans c1)
          | (go_at_call 22; refine (winding_n A1 4 4 _ px py _ hr1 rfl (by decide)).mono ?_; rintro e w2 ⟨rfl, hb2⟩; rw [HwinN.out]; have hb12 := belowMore hb1 hb2; have m0 := (hb12.cell (p := ⟨w.heap.size + 1 + 1, 0, none⟩) cz).trans c0; have m1 := (hb12.cell (p := ⟨w.heap.size + 1 + 1, 1, none⟩) cz).trans c1))
      have HB12 := Lib.hid ((Below.refl wc.heap.size wc).drew.trans hb12)
      clear hb1 hb2 hb12 hr1 m0 m1
      go_wp2_with fail
      go_meet
      case rel => exact ⟨rfl, HB12.out⟩
    case rest =>
      obtain ⟨rfl, hb1⟩ := hcut
      have HB1 := Lib.hid (belowMore HB0.out hb1)
      clear hb1 c0 c1 cz HB0 Hwin
      go_upto_region 7 with (fail)
      go_cut [88] from 76 to 88 (fun v88 we => v88 = .bool false ∧ we = wc)
      case first =>
        rcases hin with rfl | rfl
        · obtain rfl : nv = 1 := by rw [← Hnv.out]; rfl
          go_wp2_with fail
          go_meet
          case rel => exact ⟨rfl, rfl⟩
        · obtain rfl : nv = 0 := by rw [← Hnv.out]; rfl
          go_wp2_with fail
          go_meet
          case rel => exact ⟨rfl, rfl⟩
      case rest =>
        obtain ⟨rfl, rfl⟩ := hcut
        clear hin
        go_wp2_with fail
        refine (box_any a c b d _).mono ?_
        rintro e w2 ⟨A2, rfl, hr2, hb2⟩
        go_wp2_with fail
        have hL : Lns (w2.alloc (.cells #[.slice A2 4 4] 51)) (some ⟨w2.heap.size, 0, none⟩) [(A2, 4, [(a, c), (b, c), (b, d), (a, d)])] :=
          ⟨Rd.new _ _ _ rfl, fun p hp => by
            have := List.mem_singleton.1 hp
            subst this
            exact hr2.below ((Below.refl _ _).alloc (Nat.le_refl _) _)⟩
        refine (coversOf_any _ 1 _ false 3 2 _ hL (by simp) (by simp [sizeL])).mono ?_
        rintro e w3 ⟨v3, rfl, hown3, hb3⟩
        have hfar : farL [(A2, 4, [(a, c), (b, c), (b, d), (a, d)])] = false := by
          have h1 : isFarB (a, c) = false := by rw [near_iff]; simp only; omega
          have h2 : isFarB (b, c) = false := by rw [near_iff]; simp only; omega
          have h3 : isFarB (b, d) = false := by rw [near_iff]; simp only; omega
          have h4 : isFarB (a, d) = false := by rw [near_iff]; simp only; omega
          simp [farL, h1, h2, h3, h4]
        have hor : ofRes [(A2, 4, [(a, c), (b, c), (b, d), (a, d)])] false 3 2 = (coverE (edgesL [(A2, 4, [(a, c), (b, c), (b, d), (a, d)])]) false 3 2, 0) := by
          unfold ofRes; rw [if_neg (by omega), hfar]; rfl
        have hwl : ∀ p : Dot, isFarB p = false → windE (edgesL [(A2, 4, [(a, c), (b, c), (b, d), (a, d)])]) p = if inB a b c d p then 1 else 0 := fun p hp => by
          rw [← sumL_wind _ p hp hfar, ← windF_box p a b c d ha2 hc2 ha1 ha3 hc1 hc3]; simp
        rw [hor] at hown3 ⊢
        generalize edgesL [(A2, 4, [(a, c), (b, c), (b, d), (a, d)])] = es at *
        have hlen6 : (coverE es false 3 2).length = 6 := by simp [coverE]
        have hcell : ∀ q, q < 6 → (coverE es false 3 2)[q]? = some (bitsN (cBit es false 3 q) 16) := fun q hq => by simp [coverE, hq]
        obtain ⟨A3, c3, rfl, -, hr3, -⟩ := ownsRow_form hown3
        have HB3 := Lib.hid (belowMore (belowMore HB1.out hb2) (((Below.refl _ _).alloc (Nat.le_refl _) _).trans (hb3.mono (by simp))))
        have Hr3 := Lib.hid hr3; have Hwl := Lib.hid hwl; have Hc := Lib.hid hcell
        clear hown3 hb2 hb3 hL hr2 hr3 hfar hor hwl hcell HB1 HwinN
        simp only [hlen6]
        generalize coverE es false 3 2 = L at *
        go_wp2_with fail
        go_loopw [15] (fun v15 wr => ∃ k : Nat, k ≤ 96 ∧ v15 = .int .i64 k ∧ Below w3.heap.size w3 wr) (fun v15 _ => 96 - (intOf v15).toNat)
        case atStart => exact ⟨0, by omega, rfl, Below.refl _ _⟩
        case round =>
          obtain ⟨k, hk, rfl, hb⟩ := hrel
          by_cases hlt : k < 96
          · obtain ⟨q, hq⟩ : ∃ q, k / 16 = q := ⟨_, rfl⟩
            obtain ⟨r, hr⟩ : ∃ r, q % 3 = r := ⟨_, rfl⟩
            obtain ⟨t, ht⟩ : ∃ t, k % 4 = t := ⟨_, rfl⟩
            obtain ⟨z, hz⟩ : ∃ z, k / 48 = z := ⟨_, rfl⟩
            obtain ⟨f, hf⟩ : ∃ f, k / 4 = f := ⟨_, rfl⟩
            obtain ⟨g, hg⟩ : ∃ g, f % 4 = g := ⟨_, rfl⟩
            obtain ⟨s, hs⟩ : ∃ s, k % 16 = s := ⟨_, rfl⟩
            have q1 : (k : Int) / 16 = (q : Int) := by omega
            have q2 : (q : Int) % 3 = (r : Int) := by omega
            have q3 : (k : Int) % 4 = (t : Int) := by omega
            have q4 : (k : Int) / 48 = (z : Int) := by omega
            have q5 : (k : Int) / 4 = (f : Int) := by omega
            have q6 : (f : Int) % 4 = (g : Int) := by omega
            have q7 : (k : Int) % 16 = (s : Int) := by omega
            have hq6 : q < 6 := by omega
            have hq6i : (q : Int) < 6 := by omega
            have hr3 : r ≤ 2 := by omega
            have ht3 : t ≤ 3 := by omega
            have hz1 : z ≤ 1 := by omega
            have hg3 : g ≤ 3 := by omega
            have hs15 : s ≤ 15 := by omega
            have hqL : q < L.length := by omega
            obtain ⟨b3, o3, rfl, hb3, hcl⟩ := (Hr3.out.below hb).bit hqL
            have hv := Hc.out q hq6
            rw [List.getElem?_eq_getElem hqL] at hv
            injection hv with hv
            rw [hv] at hcl
            have hbit : (bitsN (cBit es false 3 q) 16).testBit s = inB a b c d (256 * (r : Int) + 64 * (t : Int) + 32, 256 * (z : Int) + 64 * (g : Int) + 32) := by
              have hd : cDot 3 q s = (256 * (r : Int) + 64 * (t : Int) + 32, 256 * (z : Int) + 64 * (g : Int) + 32) := by
                unfold cDot; congr 1 <;> omega
              have hn : isFarB (256 * (r : Int) + 64 * (t : Int) + 32, 256 * (z : Int) + 64 * (g : Int) + 32) = false := by rw [near_iff]; simp only; omega
              have h16 : s < 16 := by omega
              rw [bitsN_bit, cBit, hd, Hwl.out _ hn]
              cases inB a b c d (256 * (r : Int) + 64 * (t : Int) + 32, 256 * (z : Int) + 64 * (g : Int) + 32) <;> simp [ruledB, h16]
            have hY := bitsN_lt (cBit es false 3 q) 16
            generalize bitsN (cBit es false 3 q) 16 = Y at *
            have hbv := bit_u16 Y s hY
            rw [hbit] at hbv
            have Hb := Lib.hid hb
            clear hq hr ht hz hf hg hs hv hbit hb hY
            by_cases h1 : a ≤ 256 * (r : Int) + 64 * (t : Int) + 32
            · by_cases h2 : 256 * (r : Int) + 64 * (t : Int) + 32 < b
              · by_cases h3 : c ≤ 256 * (z : Int) + 64 * (g : Int) + 32
                · by_cases h4 : 256 * (z : Int) + 64 * (g : Int) + 32 < d
                  · have hb4 : bits .and .u16 ((Y : Int) / 2 ^ s) 1 = 1 := by rw [hbv]; simp [inB, h1, h2, h3, h4]
                    clear hbv
                    go_wp2_with fail
                    go_roundw
                    case rel => exact ⟨k + 1, by omega, by go_num, Hb.out⟩
                    case measure => simp [intOf]; omega
                  · have hb4 : bits .and .u16 ((Y : Int) / 2 ^ s) 1 = 0 := by rw [hbv]; simp [inB, h4]
                    clear hbv
                    go_wp2_with fail
                    go_roundw
                    case rel => exact ⟨k + 1, by omega, by go_num, Hb.out⟩
                    case measure => simp [intOf]; omega
                · have hb4 : bits .and .u16 ((Y : Int) / 2 ^ s) 1 = 0 := by rw [hbv]; simp [inB, h3]
                  clear hbv
                  go_wp2_with fail
                  go_roundw
                  case rel => exact ⟨k + 1, by omega, by go_num, Hb.out⟩
                  case measure => simp [intOf]; omega
              · have hb4 : bits .and .u16 ((Y : Int) / 2 ^ s) 1 = 0 := by rw [hbv]; simp [inB, h2]
                clear hbv
                go_wp2_with fail
                go_roundw
                case rel => exact ⟨k + 1, by omega, by go_num, Hb.out⟩
                case measure => simp [intOf]; omega
            · have hb4 : bits .and .u16 ((Y : Int) / 2 ^ s) 1 = 0 := by rw [hbv]; simp [inB, h1]
              clear hbv
              go_wp2_with fail
              go_roundw
              case rel => exact ⟨k + 1, by omega, by go_num, Hb.out⟩
              case measure => simp [intOf]; omega
          · have hkl : k = 96 := by omega
            subst hkl
            go_wp2_with fail
            refine (lives_any _).mono ?_
            rintro e w5 ⟨rfl, hb5⟩
            go_wp2_with fail
            go_ret
            exact ⟨rfl, belowMore (belowMore HB3.out hb) hb5⟩
end Go.Proofs.Ytkdgibabecpdlaa
