/- Proved: the function CoversMoved answers true and changes no old memory; for every area within the reach. -/
import Derived.Test.YtkdgibabecpdlaaMovedLaw
import Derived.Test.YtkdgibabecpdlaaRulesW
import Derived.Test.YtkdgibabecpdlaaPointsW
namespace Go.Proofs.Ytkdgibabecpdlaa
open Go.RowKit
/-- The moved lines, k of them done. -/
structure MoS (w1 wr : World) (P : List LineV) (x y k : Nat) (v9 : Value) (Pm : List LineV) : Prop where
  own : wr.ownsRow w1.heap.size 51 1 v9 Pm.length (heads Pm)
  lines : ∀ p ∈ Pm, wr.ownsRow w1.heap.size 53 2 (lineHead p) p.2.2.length (dotCells p.2.2)
  dm : dotsL Pm = (dotsL (P.take k)).map (List.map (mv x y))
  far : farL (P.take k) = false
  farm : farL Pm = false
  below : Below w1.heap.size w1 wr
theorem MoS.stay {w1 wr w' : World} {P : List LineV} {x y k : Nat} {v9 : Value} {Pm : List LineV} (h : MoS w1 wr P x y k v9 Pm) (hb : Below wr.heap.size wr w') : MoS w1 w' P x y k v9 Pm :=
  ⟨ownsRow_below h.own hb, fun p hp => ownsRow_below (h.lines p hp) hb, h.dm, h.far, h.farm, h.below.trans (hb.mono h.below.size)⟩
theorem sum_mapmv (x y : Nat) (L : List (List Dot)) : ((L.map (List.map (mv x y))).map List.length).sum = (L.map List.length).sum := by
  induction L with
  | nil => rfl
  | cons l L ih => simp only [List.map_cons, List.sum_cons, ih, List.length_map]
/-- covers.Of of lines that are not far, a raster of sides that may be. -/
theorem covWH (A : Option Addr) (cap n : Nat) (Q : List LineV) (even : Bool) (W0 H0 : Nat) (WI HI : Int) (w : World) (C : List Nat) (hWI : WI = W0) (hHI : HI = H0) (hw1 : 1 ≤ W0) (hw2 : W0 ≤ 256) (hh1 : 1 ≤ H0) (hh2 : H0 ≤ 256) (hL : Lns w A Q) (hn : Q.length = n) (hq : Q.length ≤ 100000) (hs : sizeL Q ≤ 100000) (hf : farL Q = false) (hC : coverE ((dotsL Q).flatMap edgesF) even W0 H0 = C) (m : Nat) (hm : C.length = m) :
    Calls Try.prog 15 #[.slice A n cap, .bool even, .int .i64 WI, .int .i64 HI] w fun e w' => ∃ A' c', e = .returned (.tuple #[.slice A' m c', .int .i64 0]) ∧ Rd w' A' (bitVs C) ∧ Below w.heap.size w w' := by
  subst hn hWI hHI hm
  refine (coversOf_any A cap Q even W0 H0 w hL hq hs).mono ?_
  rintro e w' ⟨v, rfl, hown, hb⟩
  have hor : ofRes Q even W0 H0 = (C, 0) := by
    unfold ofRes; rw [if_neg (by omega), hf, ← hC, ← edgesL_dots]; rfl
  rw [hor] at hown ⊢
  obtain ⟨A', c', rfl, -, hr, -⟩ := ownsRow_form hown
  exact ⟨A', c', rfl, hr, hb⟩
theorem box_gen {w w' : World} {x y : Value} {t : TypeId} (hb : Below (w.alloc (.cells #[x, y] t)).heap.size (w.alloc (.cells #[x, y] t)) w') :
    w'.cell? ⟨w.heap.size, 0, none⟩ = some x ∧ w'.cell? ⟨w.heap.size, 1, none⟩ = some y ∧ w.heap.size < w'.heap.size ∧ Below w.heap.size w w' := by
  refine ⟨?_, ?_, ?_, ((Below.refl _ _).alloc (Nat.le_refl _) _).trans (hb.mono (by simp))⟩
  · rw [hb.cell (by simp)]; simp [go_sem]
  · rw [hb.cell (by simp)]; simp [go_sem]
  · have := hb.size; simp at this; omega
theorem moved_cells {wq w3 w4 : World} {ux uy vx vy : Value} {t : TypeId} (h3 : Below (wq.alloc (.cells #[ux, uy] t)).heap.size (wq.alloc (.cells #[ux, uy] t)) w3)
    (h4 : Below ((w3.setCell ⟨wq.heap.size, 0, none⟩ vx).setCell ⟨wq.heap.size, 1, none⟩ vy).heap.size ((w3.setCell ⟨wq.heap.size, 0, none⟩ vx).setCell ⟨wq.heap.size, 1, none⟩ vy) w4) :
    w4.cell? ⟨wq.heap.size, 0, none⟩ = some vx ∧ w4.cell? ⟨wq.heap.size, 1, none⟩ = some vy ∧ wq.heap.size < w4.heap.size ∧ Below wq.heap.size wq w4 := by
  obtain ⟨a0, a1, az, ab⟩ := box_gen h3
  have b1 : (w3.setCell ⟨wq.heap.size, 0, none⟩ vx).cell? ⟨wq.heap.size, 1, none⟩ = some uy := by rw [World.cell?_setCell_other _ _ _ _ (by simp)]; exact a1
  have s0 : ((w3.setCell ⟨wq.heap.size, 0, none⟩ vx).setCell ⟨wq.heap.size, 1, none⟩ vy).cell? ⟨wq.heap.size, 0, none⟩ = some vx := by
    rw [World.cell?_setCell_other _ _ _ _ (by simp)]; exact World.cell?_setCell_same _ _ _ a0
  have s1 : ((w3.setCell ⟨wq.heap.size, 0, none⟩ vx).setCell ⟨wq.heap.size, 1, none⟩ vy).cell? ⟨wq.heap.size, 1, none⟩ = some vy := World.cell?_setCell_same _ _ _ b1
  have hbs : Below wq.heap.size wq ((w3.setCell ⟨wq.heap.size, 0, none⟩ vx).setCell ⟨wq.heap.size, 1, none⟩ vy) := (ab.setCell (Nat.le_refl _) _).setCell (Nat.le_refl _) _
  have hlt := World.block_lt_of_cell? _ _ s0
  refine ⟨(h4.cell (p := ⟨wq.heap.size, 0, none⟩) hlt).trans s0, (h4.cell (p := ⟨wq.heap.size, 1, none⟩) hlt).trans s1, Nat.lt_of_lt_of_le hlt h4.size, hbs.trans (h4.mono hbs.size)⟩
set_option maxRecDepth 100000 in
set_option maxHeartbeats 4000000 in
theorem moved_walk (A : Option Addr) (cap : Nat) (P : List LineV) (even : Bool) (Wd Ht : Int) (n0 n1 : Int) (w : World) (hL : Lns w A P) (hn : P.length ≤ 140737488355328) (hs : ∀ p ∈ P, p.2.2.length ≤ 140737488355328)
    (hx0 : 0 ≤ n0) (hx1 : n0 ≤ 255) (hy0 : 0 ≤ n1) (hy1 : n1 ≤ 255) :
    Calls Try.prog 8 #[.agg #[.slice A P.length cap, .bool even, .int .i64 Wd, .int .i64 Ht], .int .u8 n0, .int .u8 n1] w fun e w' => e = .returned (.bool true) ∧ Below w.heap.size w w' := by
  have HL := Lib.hid hL; have HS := Lib.hid hs; clear hL hs
  have hB0 : Below w.heap.size w (w.alloc (.cells #[.slice A P.length cap, .bool even, .int .i64 Wd, .int .i64 Ht] 24)) := (Below.refl _ _).alloc (Nat.le_refl _) _
  go_enter Try.func8, Try.ntmps8
  go_wp2_with fail
  refine (size28_any A cap P _ (HL.out.below hB0) hn HS.out).mono ?_
  rintro e w1 ⟨⟨n, rfl, hn1, hn2⟩, hb1⟩
  obtain ⟨c0, c1, c2, c3, hz⟩ := area_cells hb1
  have HB1 := Lib.hid (belowMore hB0 hb1)
  have HL1 := Lib.hid ((HL.out.below hB0).below hb1)
  clear hb1 hB0 HL
  by_cases hbig : 150 < n
  · have hbi : (150 : Int) < (n : Int) := by omega
    clear hn1 hn2
    go_wp2_with fail
    refine (lives_any _).mono ?_
    rintro e w2 ⟨rfl, hb2⟩
    go_wp2_with fail
    go_ret
    exact ⟨rfl, belowMore HB1.out hb2⟩
  have hbi : ¬ (150 : Int) < (n : Int) := by omega
  have hsz := hn1 (by omega)
  have hPl : P.length ≤ 150 := by omega
  have hsl : sizeL P ≤ 150 := by omega
  clear hn1 hn2 hsz hn
  obtain ⟨x, hx, hx4⟩ : ∃ x : Nat, n0 % 5 = (x : Int) ∧ x ≤ 4 := ⟨(n0 % 5).toNat, by omega, by omega⟩
  obtain ⟨y, hy, hy4⟩ : ∃ y : Nat, n1 % 5 = (y : Int) ∧ y ≤ 4 := ⟨(n1 % 5).toNat, by omega, by omega⟩
  go_wp2_with fail
  simp only [hx, hy]
  clear hx hy hx0 hx1 hy0 hy1
  go_loopw [9, 10] (fun v9 v10 wr => ∃ (k : Nat) (Pm : List LineV), k ≤ P.length ∧ v10 = .int .i64 k ∧ MoS w1 wr P x y k v9 Pm) (fun _ v10 _ => P.length - (intOf v10).toNat)
  case atStart => exact ⟨0, [], by omega, rfl, ⟨World.ownsRow_nil _ _ _ _, by simp, by simp [dotsL], by simp [farL], by simp [farL], Below.refl _ _⟩⟩
  case round =>
    obtain ⟨k, Pm, hk, rfl, hmo⟩ := hrel
    have HM := Lib.hid hmo; clear hmo
    have hlb : Pm.length = k := by
      have h1 := congrArg List.length HM.out.dm
      simp [dotsL] at h1
      omega
    have HLB := Lib.hid hlb; clear hlb
    have d0 := (HM.out.below.cell (p := ⟨w.heap.size, 0, none⟩) hz).trans c0
    have d1 := (HM.out.below.cell (p := ⟨w.heap.size, 1, none⟩) hz).trans c1
    have dz := Nat.lt_of_lt_of_le hz HM.out.below.size
    by_cases hlt : k < P.length
    · obtain ⟨b, off, rfl, hb1, c00⟩ := HL1.out.line hlt
      have e0 := (HM.out.below.cell (p := ⟨b, off + k, none⟩) hb1).trans c00
      have ebl : b < wr.heap.size := Nat.lt_of_lt_of_le hb1 HM.out.below.size
      have hpl := sizeL_mem (List.getElem_mem hlt)
      have hrl := ((HL1.out.below HM.out.below).each P[k] (List.getElem_mem hlt))
      have htk : P.take (k + 1) = P.take k ++ [P[k]] := List.take_succ_eq_append_getElem hlt
      generalize P[k] = p at *
      obtain ⟨Ap, cp, l⟩ := p
      simp only [lineHead] at e0 hpl hrl c00
      have Hrl := Lib.hid hrl; have Htk := Lib.hid htk
      clear hrl htk c00
      have hl150 : l.length ≤ 150 := by omega
      go_wp2_with fail
      go_loopw [11, 12] (fun v11 v12 wq => ∃ j : Nat, j ≤ l.length ∧ v12 = .int .i64 j ∧ wq.ownsRow wr.heap.size 53 2 v11 j (dotCells ((l.take j).map (mv x y))) ∧ (l.take j).any isFarB = false ∧ ((l.take j).map (mv x y)).any isFarB = false ∧ Below wr.heap.size wr wq) (fun _ v12 _ => l.length - (intOf v12).toNat)
      case atStart => exact ⟨0, by omega, rfl, World.ownsRow_nil _ _ _ _, by simp, by simp, Below.refl _ _⟩
      case round =>
        obtain ⟨j, hj, rfl, hown, hf1, hf2, hbq⟩ := hrel
        have f0 := (hbq.cell (p := ⟨w.heap.size, 0, none⟩) dz).trans d0
        have fz := Nat.lt_of_lt_of_le dz hbq.size
        have g0 := (hbq.cell (p := ⟨b, off + k, none⟩) ebl).trans e0
        have gz := Nat.lt_of_lt_of_le ebl hbq.size
        by_cases hlt2 : j < l.length
        · obtain ⟨b2, off2, rfl, hbl2, k0, k1⟩ := (Hrl.out.below hbq).dot (List.getElem?_eq_getElem hlt2)
          have htk2 : l.take (j + 1) = l.take j ++ [l[j]] := List.take_succ_eq_append_getElem hlt2
          have hlen2 : ((l.take j).map (mv x y)).length = j := by simp; omega
          generalize l[j] = d at *
          obtain ⟨dx, dy⟩ := d
          simp only at k0 k1
          have Hown := Lib.hid hown; have Hf1 := Lib.hid hf1; have Hf2 := Lib.hid hf2; have Hbq := Lib.hid hbq; have Htk2 := Lib.hid htk2; have Hlen2 := Lib.hid hlen2
          clear hown hf1 hf2 hbq htk2 hlen2 d0 d1 dz e0
          go_wp2_with fail
          refine (far28_any dx dy _).mono ?_
          rintro e w3 ⟨rfl, hb3⟩
          obtain ⟨m0, m1, mz, mb⟩ := box_gen hb3
          by_cases hd : isFarB (dx, dy) = true
          · rw [hd]
            go_wp2_with fail
            refine (lives_any _).mono ?_
            rintro e w4 ⟨rfl, hb4⟩
            go_wp2_with fail
            go_ret
            exact ⟨rfl, belowMore (belowMore (belowMore (belowMore HB1.out HM.out.below) Hbq.out) mb) hb4⟩
          · have hd' : isFarB (dx, dy) = false := by simpa using hd
            rw [hd']
            have hnear := (near_iff _).1 hd'
            simp only at hnear
            have hfz : w3.frozen? ⟨wr.heap.size, 0, none⟩ = false := by rw [hb3.frozen (by simp)]; simp [go_sem]
            have hfz1 : w3.frozen? ⟨wr.heap.size, 1, none⟩ = false := by rw [hb3.frozen (by simp)]; simp [go_sem]
            go_wp2_with fail
            refine (far28_any (dx - 256 * (x : Int)) (dy - 256 * (y : Int)) _).mono ?_
            rintro e w4 ⟨rfl, hb4⟩
            obtain ⟨q0, q1, qz, qb⟩ := moved_cells hb3 hb4
            have Hqb := Lib.hid qb
            have hqs := qb.size
            have hqs2 := Hbq.out.size
            clear hb3 hb4 qb m0 m1 mz mb hfz hfz1 f0 fz g0 gz k0 k1
            by_cases hd2 : isFarB (dx - 256 * (x : Int), dy - 256 * (y : Int)) = true
            · rw [hd2]
              go_wp2_with fail
              refine (lives_any _).mono ?_
              rintro e w5 ⟨rfl, hb5⟩
              go_wp2_with fail
              go_ret
              exact ⟨rfl, belowMore (belowMore (belowMore (belowMore HB1.out HM.out.below) Hbq.out) Hqb.out) hb5⟩
            · have hd2' : isFarB (dx - 256 * (x : Int), dy - 256 * (y : Int)) = false := by simpa using hd2
              rw [hd2']
              go_wp2_with (at_builtin; refine wpList_app rfl rfl Try.etDots ((ownsRow_below Hown.out Hqb.out).alloc _) rfl rfl (Rd.new _ _ _ rfl) (m := 1) rfl (by simp [Value.oneCell']) (by omega) (by simp; omega) ?_; intro v5 w5 hown5 hg5 _ hb5)
              go_roundw
              case rel =>
                refine ⟨j + 1, by omega, by go_num, ?_, ?_, ?_, ?_⟩
                · rw [Htk2.out]
                  simpa [dotCells, dotCell, mv] using hown5
                · rw [Htk2.out, List.any_append, Hf1.out]; simp [hd']
                · rw [Htk2.out, List.map_append, List.any_append, Hf2.out]; simp [mv, hd2']
                · exact (belowMore Hbq.out Hqb.out).trans ((((Below.refl w4.heap.size w4).alloc (Nat.le_refl _) _).mono (by omega)).trans hb5)
              case measure => simp [intOf]; omega
        · have hjl : j = l.length := by omega
          subst hjl
          rw [List.take_length] at hown hf1 hf2
          have HM2 := Lib.hid (HM.out.stay hbq)
          have hq0 : wr.ownsRow w1.heap.size 53 2 _ _ _ := ownsRow_mono hown HM.out.below.size
          obtain ⟨A', c', rfl, -, -, -⟩ := ownsRow_form hown
          have Hq := Lib.hid hq0
          have hqs2 := hbq.size
          have hms := HM2.out.below.size
          clear hown hq0 hbq
          go_wp2_with (at_builtin; refine wpList_app rfl rfl Try.etLines (HM2.out.own.alloc _) rfl rfl (Rd.new _ _ _ rfl) (m := 1) rfl (by simp [Value.oneCell']) (by have := HLB.out; omega) (by simp; omega) ?_; intro v5 w5 hown5 hg5 hat5 hb5)
          have hA := (Below.refl wr.heap.size wr).alloc (Nat.le_refl _) (.cells #[.slice A' l.length c'] 51)
          have hu := grown_upd hg5
          have hms : MoS w1 w5 P x y (k + 1) v5 (Pm ++ [(A', c', l.map (mv x y))]) := by
            refine ⟨by simpa [heads, lineHead] using hown5, ?_, ?_, ?_, ?_, ?_⟩
            · intro q hq
              have hq2 : wr.ownsRow w1.heap.size 53 2 (lineHead q) q.2.2.length (dotCells q.2.2) := by
                rcases List.mem_append.1 hq with hq | hq
                · exact HM2.out.lines q hq
                · rw [List.mem_singleton.1 hq]
                  simpa [lineHead] using Hq.out
              have hq3 := ownsRow_below hq2 hA
              exact hu.own hq3 (own_apart hq3 (ownsRow_below HM2.out.own hA) (by decide))
            · rw [Htk.out]
              have := HM2.out.dm
              simp only [dotsL, List.map_append, List.map_cons, List.map_nil] at this ⊢
              rw [this]
            · rw [Htk.out]; simp only [farL, List.any_append, List.any_cons, List.any_nil, Bool.or_false, Bool.or_eq_false_iff]; exact ⟨HM2.out.far, hf1⟩
            · simp only [farL, List.any_append, List.any_cons, List.any_nil, Bool.or_false, Bool.or_eq_false_iff]; exact ⟨HM2.out.farm, hf2⟩
            · exact HM2.out.below.trans ((hA.mono HM2.out.below.size).trans hb5)
          have HMS := Lib.hid hms
          clear hA hu hms hown5 hg5 hat5 hb5
          go_roundw
          case rel => exact ⟨k + 1, _, by omega, by go_num, HMS.out⟩
          case measure => simp [intOf]; omega
    · have hkl : k = P.length := by omega
      subst hkl
      have hfar := HM.out.far
      have hdm := HM.out.dm
      rw [List.take_length] at hfar hdm
      have hsm : sizeL Pm ≤ 100000 := by rw [sizeL_dots, hdm, sum_mapmv, ← sizeL_dots]; omega
      have hLP := HL1.out.below HM.out.below
      have hown := HM.out.own
      obtain ⟨A4, c4, hv4, -, hr4, -⟩ := ownsRow_form hown
      have hLm : Lns wr A4 Pm := ⟨hr4, fun p hp => by
        obtain ⟨A', c', e', -, hr', -⟩ := ownsRow_form (HM.out.lines p hp)
        injection e' with e1 _ _
        rw [e1]; exact hr'⟩
      obtain ⟨C1, hC1⟩ : ∃ C, coverE ((dotsL P).flatMap edgesF) even 9 8 = C := ⟨_, rfl⟩
      obtain ⟨C2, hC2⟩ : ∃ C, coverE ((dotsL Pm).flatMap edgesF) even (9 - x) (8 - y) = C := ⟨_, rfl⟩
      obtain ⟨m, hm⟩ : ∃ m, (9 - x) * (8 - y) = m := ⟨_, rfl⟩
      have hl1 : C1.length = 72 := by rw [← hC1, coverE_len]
      have hl2 : C2.length = m := by rw [← hC2, coverE_len, hm]
      have hmi : (9 - (x : Int)) * (8 - (y : Int)) = (m : Int) := by
        have h1 : 9 - (x : Int) = ((9 - x : Nat) : Int) := by omega
        have h2 : 8 - (y : Int) = ((8 - y : Nat) : Int) := by omega
        rw [h1, h2, ← hm]; simp
      have hm72 : m ≤ 72 := by
        rw [← hm]
        calc (9 - x) * (8 - y) ≤ 9 * 8 := Nat.mul_le_mul (by omega) (by omega)
          _ = 72 := rfl
      have hrel2 : ∀ i, i < m → C2[i]? = C1[(i / (9 - x) + y) * 9 + i % (9 - x) + x]? ∧ (i / (9 - x) + y) * 9 + i % (9 - x) + x < 72 := fun i hi => by
        have := cover_mv (dotsL P) even x y i hx4 hy4 (by rw [hm]; exact hi)
        rw [← hdm, hC1, hC2] at this
        exact this
      have Q0 := HLB.out
      have Q1 := Lib.hid (show P.length ≤ 100000 by omega); have Q2 := Lib.hid (show Pm.length ≤ 100000 by omega); have Q4 := Lib.hid (show sizeL P ≤ 100000 by omega)
      have QA := Lib.hid hfar; have QB := Lib.hid HM.out.farm; have QD := Lib.hid hsm
      have HC1 := Lib.hid hC1; have HC2 := Lib.hid hC2; have Hl1 := Lib.hid hl1; have Hl2 := Lib.hid hl2; have Hrel2 := Lib.hid hrel2
      have HLP := Lib.hid hLP; have HLm := Lib.hid hLm
      have HBr := Lib.hid (belowMore HB1.out HM.out.below)
      clear hfar hdm hsm hLP hown hr4 hLm hC1 hC2 hl1 hl2 hrel2 HM HLB Q0 HL1 HB1 hm c0 c1 c2 c3
      subst hv4
      go_wp2_with fail
      refine (covWH A cap _ P even 9 8 9 8 _ C1 rfl rfl (by decide) (by decide) (by decide) (by decide) HLP.out rfl Q1.out Q4.out QA.out HC1.out 72 Hl1.out).mono ?_
      rintro e w2 ⟨a1, b1, rfl, r1, hb2⟩
      have e1 := (hb2.cell (p := ⟨w.heap.size, 1, none⟩) dz).trans d1
      have ez := Nat.lt_of_lt_of_le dz hb2.size
      go_wp2_with fail
      refine (covWH A4 c4 _ Pm even (9 - x) (8 - y) (9 - (x : Int)) (8 - (y : Int)) _ C2 (by omega) (by omega) (by omega) (by omega) (by omega) (by omega) (HLm.out.below hb2) rfl Q2.out QD.out QB.out HC2.out m Hl2.out).mono ?_
      rintro e w3 ⟨a2, b2, rfl, r2, hb3⟩
      have R1 := Lib.hid (r1.below hb3)
      have R2 := Lib.hid r2
      have HB3 := Lib.hid (belowMore HBr.out (belowMore hb2 hb3))
      clear r1 r2 hb2 hb3 e1 ez d0 d1 dz HLP HLm HBr hz
      go_wp2_with fail
      go_loopw [18] (fun v18 wr2 => ∃ i : Nat, i ≤ m ∧ v18 = .int .i64 i ∧ Below w3.heap.size w3 wr2) (fun v18 _ => m - (intOf v18).toNat)
      case atStart => exact ⟨0, by omega, rfl, Below.refl _ _⟩
      case round =>
        obtain ⟨i, hi, rfl, hb⟩ := hrel
        by_cases hlt2 : i < m
        · obtain ⟨hz1, hz2⟩ := Hrel2.out i hlt2
          obtain ⟨q, hq⟩ : ∃ q, i / (9 - x) = q := ⟨_, rfl⟩
          obtain ⟨r, hr⟩ : ∃ r, i % (9 - x) = r := ⟨_, rfl⟩
          rw [hq, hr] at hz1 hz2
          have h9 : 9 - (x : Int) = ((9 - x : Nat) : Int) := by omega
          have e1 : (i : Int) / (9 - (x : Int)) = (q : Int) := by rw [h9, ← hq]; simp
          have e2 : (i : Int) % (9 - (x : Int)) = (r : Int) := by rw [h9, ← hr]; simp
          obtain ⟨t, ht⟩ : ∃ t : Nat, (q + y) * 9 = t := ⟨_, rfl⟩
          have e3 : ((q : Int) + (y : Int)) * 9 = (t : Int) := by omega
          rw [ht] at hz1 hz2
          have hi2 : i < C2.length := by rw [Hl2.out]; exact hlt2
          have hj2 : t + r + x < C1.length := by rw [Hl1.out]; exact hz2
          obtain ⟨g2, o2, rfl, hg2, k2⟩ := (R2.out.below hb).bit hi2
          obtain ⟨g1, o1, rfl, hg1, k1⟩ := (R1.out.below hb).bit hj2
          rw [List.getElem?_eq_getElem hi2, List.getElem?_eq_getElem hj2] at hz1
          injection hz1 with hz1
          rw [hz1] at k2
          generalize C1[t + r + x] = Z at *
          have hti : (t : Int) + (r : Int) + (x : Int) < 72 := by omega
          have hq9 : q ≤ 72 := by have := Nat.div_le_self i (9 - x); omega
          have hr9 : r ≤ 72 := by have := Nat.mod_le i (9 - x); omega
          have Hb := Lib.hid hb
          have hx9 : ¬ (9 - (x : Int) = 0) := by omega
          have hqq : (q : Int) ≤ 72 := by omega
          have htt : (t : Int) ≤ 72 := by omega
          have hrr : (r : Int) ≤ 72 := by omega
          clear hb hz1 hq hr ht hi2 hj2 hz2 h9
          have hii : (i : Int) < (m : Int) := by omega
          go_wp2_with (go_quiet (fail))
          go_roundw
          case rel => exact ⟨i + 1, by omega, by go_num, below_drewN Hb.out _⟩
          case measure => simp [intOf]; omega
        · have hil : i = m := by omega
          subst hil
          go_wp2_with fail
          refine (lives_any _).mono ?_
          rintro e w5 ⟨rfl, hb5⟩
          go_wp2_with fail
          go_ret
          exact ⟨rfl, belowMore (belowMore HB3.out hb) hb5⟩
end Go.Proofs.Ytkdgibabecpdlaa
