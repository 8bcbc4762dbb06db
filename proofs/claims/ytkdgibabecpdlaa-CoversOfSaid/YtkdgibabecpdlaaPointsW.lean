/- Proved: the function CoversPoints answers true and changes no old memory; for every area within the reach and every point. -/
import Derived.Test.YtkdgibabecpdlaaArea
import Derived.Test.YtkdgibabecpdlaaTurnedW0
namespace Go.Proofs.Ytkdgibabecpdlaa
open Go.RowKit
theorem bit_u16 (Y s : Nat) (hY : Y < 2 ^ 16) : bits .and .u16 ((Y : Int) / 2 ^ s) 1 = if Y.testBit s then 1 else 0 := by
  have h1 : ((Y : Int) / 2 ^ s) = ((Y / 2 ^ s : Nat) : Int) := by simp
  have h2 : Y / 2 ^ s < 2 ^ 16 := Nat.lt_of_le_of_lt (Nat.div_le_self _ _) hY
  have h3 := (bits_nat .u16 16 (by decide) (fun n h0 h1 => by rw [IntKind.wrap_u16]; omega) (Y / 2 ^ s) 1 h2 (by decide)).1
  rw [h1]
  have h4 : bits .and .u16 ((Y / 2 ^ s : Nat) : Int) 1 = ((Y / 2 ^ s &&& 1 : Nat) : Int) := h3
  rw [h4, Nat.and_one_is_mod, Nat.testBit_eq_decide_div_mod_eq]
  have : Y / 2 ^ s % 2 < 2 := Nat.mod_lt _ (by decide)
  generalize Y / 2 ^ s % 2 = t at *
  by_cases h : t = 1
  · simp [h]
  · have : t = 0 := by omega
    simp [this]
theorem sumL_wind (P : List LineV) (p : Dot) (hp : isFarB p = false) (hf : farL P = false) : (P.map fun q => windF q.2.2 p).sum = windE (edgesL P) p := by
  induction P with
  | nil => simp [edgesL, windE]
  | cons q P ih =>
    have h1 : q.2.2.any isFarB = false ∧ farL P = false := by simpa [farL] using hf
    have h2 : edgesL (q :: P) = edgesF q.2.2 ++ edgesL P := by simp [edgesL]
    rw [h2, windE_append, List.map_cons, List.sum_cons, ih h1.2]
    simp [windF, hp, h1.1]
theorem sumL_abs (P : List LineV) (p : Dot) : ∀ k, -(sizeL (P.take k) : Int) ≤ ((P.take k).map fun q => windF q.2.2 p).sum ∧ ((P.take k).map fun q => windF q.2.2 p).sum ≤ sizeL (P.take k) := by
  intro k
  generalize P.take k = Q
  induction Q with
  | nil => simp [sizeL]
  | cons q Q ih =>
    have h1 := windF_abs q.2.2 p
    have h2 : sizeL (q :: Q) = q.2.2.length + sizeL Q := by simp [sizeL]
    rw [h2, List.map_cons, List.sum_cons]; omega
/-- A boxed Area's cells. -/
theorem area_cells {w w' : World} {v0 v1 v2 v3 : Value} (hb : Below (w.alloc (.cells #[v0, v1, v2, v3] 24)).heap.size (w.alloc (.cells #[v0, v1, v2, v3] 24)) w') :
    w'.cell? ⟨w.heap.size, 0, none⟩ = some v0 ∧ w'.cell? ⟨w.heap.size, 1, none⟩ = some v1 ∧ w'.cell? ⟨w.heap.size, 2, none⟩ = some v2 ∧ w'.cell? ⟨w.heap.size, 3, none⟩ = some v3 ∧ w.heap.size < w'.heap.size := by
  refine ⟨?_, ?_, ?_, ?_, ?_⟩
  · rw [hb.cell (by simp)]; simp [go_sem]
  · rw [hb.cell (by simp)]; simp [go_sem]
  · rw [hb.cell (by simp)]; simp [go_sem]
  · rw [hb.cell (by simp)]; simp [go_sem]
  · have := hb.size; simp at this; omega
/-- Below, in a row of calls. -/
theorem below_more {w w1 w2 : World} (h : Below w.heap.size w w1) (k : Below w1.heap.size w1 w2) : Below w.heap.size w w2 := h.trans (k.mono h.size)
set_option maxRecDepth 100000 in
set_option maxHeartbeats 4000000 in
theorem points_walk (A : Option Addr) (cap : Nat) (P : List LineV) (even : Bool) (Wd Ht : Int) (x y : Int) (w : World) (hL : Lns w A P) (hn : P.length ≤ 140737488355328) (hs : ∀ p ∈ P, p.2.2.length ≤ 140737488355328)
    (hx0 : 0 ≤ x) (hx1 : x ≤ 65535) (hy0 : 0 ≤ y) (hy1 : y ≤ 65535) :
    Calls Try.prog 9 #[.agg #[.slice A P.length cap, .bool even, .int .i64 Wd, .int .i64 Ht], .int .u16 x, .int .u16 y] w fun e w' => e = .returned (.bool true) ∧ Below w.heap.size w w' := by
  have HL := Lib.hid hL; have HS := Lib.hid hs; clear hL hs
  have hB0 : Below w.heap.size w (w.alloc (.cells #[.slice A P.length cap, .bool even, .int .i64 Wd, .int .i64 Ht] 24)) := (Below.refl _ _).alloc (Nat.le_refl _) _
  go_enter Try.func9, Try.ntmps9
  go_wp2_with fail
  refine (size28_any A cap P _ (HL.out.below hB0) hn HS.out).mono ?_
  rintro e w1 ⟨⟨n, rfl, hn1, hn2⟩, hb1⟩
  obtain ⟨c0, c1, c2, c3, hz⟩ := area_cells hb1
  have HB1 := Lib.hid (below_more hB0 hb1)
  have HL1 := Lib.hid ((HL.out.below hB0).below hb1)
  clear hb1 hB0 HL
  by_cases hbig : 150 < n
  · have hbi : (150 : Int) < (n : Int) := by omega
    clear hn1 hn2
    go_wp2_with fail
    refine (lives_any _).mono ?_
    rintro e w2 ⟨rfl, hb2⟩
    go_wp2_with fail
    go_ret
    exact ⟨rfl, below_more HB1.out hb2⟩
  have hbi : ¬ (150 : Int) < (n : Int) := by omega
  have hsz := hn1 (by omega)
  have hPl : P.length ≤ 150 := by omega
  have hsl : sizeL P ≤ 150 := by omega
  clear hn1 hn2 hsz hn
  go_wp2_with fail
  refine (coversOf_any A cap P even Wd Ht _ HL1.out (by omega) (by omega)).mono ?_
  rintro e w2 ⟨v, rfl, hown, hb2⟩
  obtain ⟨d0, d1, d2, d3, dz⟩ : w2.cell? ⟨w.heap.size, 0, none⟩ = _ ∧ w2.cell? ⟨w.heap.size, 1, none⟩ = _ ∧ w2.cell? ⟨w.heap.size, 2, none⟩ = _ ∧ w2.cell? ⟨w.heap.size, 3, none⟩ = _ ∧ w.heap.size < w2.heap.size :=
    ⟨(hb2.cell hz).trans c0, (hb2.cell hz).trans c1, (hb2.cell hz).trans c2, (hb2.cell hz).trans c3, Nat.lt_of_lt_of_le hz hb2.size⟩
  have HB2 := Lib.hid (below_more HB1.out hb2)
  have HL2 := Lib.hid (HL1.out.below hb2)
  clear hb2 c0 c1 c2 c3 hz HB1 HL1
  by_cases hbad : Wd < 1 ∨ 256 < Wd ∨ Ht < 1 ∨ 256 < Ht
  · have hor : ofRes P even Wd Ht = ([], 1) := by unfold ofRes; rw [if_pos hbad]
    rw [hor] at hown ⊢
    obtain ⟨A3, cc, rfl, -, hr3, -⟩ := ownsRow_form hown
    clear hown hr3 hor
    go_wp2_with fail
    all_goals (first
      | (exfalso; omega)
      | (refine (lives_any _).mono ?_
         rintro e w3 ⟨rfl, hb3⟩
         go_wp2_with fail
         go_ret
         exact ⟨rfl, below_more HB2.out hb3⟩))
  · have h1 : 1 ≤ Wd := by omega
    have h2 : Wd ≤ 256 := by omega
    have h3 : 1 ≤ Ht := by omega
    have h4 : Ht ≤ 256 := by omega
    obtain ⟨w0, rfl⟩ : ∃ n : Nat, Wd = n := ⟨Wd.toNat, by omega⟩
    obtain ⟨h0, rfl⟩ : ∃ n : Nat, Ht = n := ⟨Ht.toNat, by omega⟩
    obtain ⟨u, hu⟩ : ∃ u : Nat, x % (4 * (w0 : Int)) = (u : Int) := ⟨(x % (4 * (w0 : Int))).toNat, by have := Int.emod_nonneg x (b := 4 * (w0 : Int)) (by omega); omega⟩
    obtain ⟨v', hv'⟩ : ∃ u : Nat, y % (4 * (h0 : Int)) = (u : Int) := ⟨(y % (4 * (h0 : Int))).toNat, by have := Int.emod_nonneg y (b := 4 * (h0 : Int)) (by omega); omega⟩
    have hul : (u : Int) < 4 * (w0 : Int) := by have := Int.emod_lt_of_pos x (b := 4 * (w0 : Int)) (by omega); omega
    have hvl : (v' : Int) < 4 * (h0 : Int) := by have := Int.emod_lt_of_pos y (b := 4 * (h0 : Int)) (by omega); omega
    have hor : ofRes P even w0 h0 = if farL P then ([], 8) else (coverE (edgesL P) even w0 h0, 0) := by
      unfold ofRes; rw [if_neg hbad]; rfl
    have hpt : isFarB (64 * (u : Int) + 32, 64 * (v' : Int) + 32) = false := by rw [near_iff]; omega
    have Hor := Lib.hid hor; have Hown := Lib.hid hown
    obtain ⟨A3, cc, rfl, -, hr3, -⟩ := ownsRow_form hown
    have Hr3 := Lib.hid hr3
    have HE : Hid (∃ E : Int, E = (ofRes P even w0 h0).2 ∧ (E = 8 ∨ E = 0)) := Lib.hid ⟨_, rfl, by rw [hor]; split <;> simp⟩
    obtain ⟨E, hE, hE2⟩ := HE.out
    obtain ⟨LN, hLN⟩ : ∃ LN, LN = (ofRes P even w0 h0).1.length := ⟨_, rfl⟩
    rw [← hE, ← hLN]
    have HE3 := Lib.hid hE; have HLN := Lib.hid hLN
    clear hown hr3 hor hbad hE hLN HE Hown
    go_wp2_with fail
    simp only [hu, hv']
    go_loopw [9, 12] (fun v9 v12 wr => ∃ k : Nat, k ≤ P.length ∧ v12 = .int .i64 k ∧ v9 = .int .i64 (((P.take k).map fun q => windF q.2.2 (64 * (u : Int) + 32, 64 * (v' : Int) + 32)).sum) ∧ farL (P.take k) = false ∧ Below w2.heap.size w2 wr) (fun _ v12 _ => P.length - (intOf v12).toNat)
    case atStart => exact ⟨0, by omega, rfl, by simp, by simp [farL], Below.refl _ _⟩
    case round =>
      obtain ⟨k, hk, rfl, rfl, hf, hb⟩ := hrel
      have e0 := (hb.cell (p := ⟨w.heap.size, 0, none⟩) dz).trans d0
      have e1 := (hb.cell (p := ⟨w.heap.size, 1, none⟩) dz).trans d1
      have e2 := (hb.cell (p := ⟨w.heap.size, 2, none⟩) dz).trans d2
      have e3 := (hb.cell (p := ⟨w.heap.size, 3, none⟩) dz).trans d3
      have ez := Nat.lt_of_lt_of_le dz hb.size
      by_cases hlt : k < P.length
      · obtain ⟨b, off, rfl, hbl, c0⟩ := (HL2.out.below hb).line hlt
        have hpl := sizeL_mem (List.getElem_mem hlt)
        have hrl := ((HL2.out.below hb).each P[k] (List.getElem_mem hlt))
        have hmem : P[k] ∈ P := List.getElem_mem hlt
        have hab := sumL_abs P (64 * (u : Int) + 32, 64 * (v' : Int) + 32) k
        have hstk := sizeL_take P k
        have htk : P.take (k + 1) = P.take k ++ [P[k]] := List.take_succ_eq_append_getElem hlt
        generalize P[k] = p at *
        obtain ⟨Ap, cp, l⟩ := p
        simp only [lineHead] at c0 hpl hrl
        obtain ⟨N, hN⟩ : ∃ N, ((P.take k).map fun q => windF q.2.2 (64 * (u : Int) + 32, 64 * (v' : Int) + 32)).sum = N := ⟨_, rfl⟩
        rw [hN] at hab ⊢
        have hNb : -150 ≤ N ∧ N ≤ 150 := by omega
        have HN := Lib.hid hN; have Hf := Lib.hid hf; have Hb := Lib.hid hb; have Hrl := Lib.hid hrl; have Hmem := Lib.hid hmem; have Htk := Lib.hid htk
        clear hN hf hb hrl hmem htk hab hstk d0 d1 d2 d3 dz
        go_wp2_with fail
        refine (anyFar_any Ap cp _ l _ Hrl.out rfl (by simp only [maxLen]; omega)).mono ?_
        rintro e w3 ⟨rfl, hb3⟩
        by_cases hfl : l.any isFarB = true
        · rw [hfl]
          have hfP : farL P = true := List.any_eq_true.2 ⟨_, Hmem.out, hfl⟩
          have h8 : E = 8 := by rw [HE3.out, Hor.out, if_pos hfP]
          have hL0 : LN = 0 := by rw [HLN.out, Hor.out, if_pos hfP]; rfl
          subst h8 hL0
          go_wp2_with fail
          refine (lives_any _).mono ?_
          rintro e w4 ⟨rfl, hb4⟩
          go_wp2_with fail
          go_ret
          exact ⟨rfl, below_more (below_more (below_more HB2.out Hb.out) hb3) hb4⟩
        · have hfl' : l.any isFarB = false := by simpa using hfl
          rw [hfl']
          have f0 := (hb3.cell (p := ⟨w.heap.size, 0, none⟩) ez).trans e0
          have fc := (hb3.cell (p := ⟨b, off + k, none⟩) hbl).trans c0
          have fbl := Nat.lt_of_lt_of_le hbl hb3.size
          have fz := Nat.lt_of_lt_of_le ez hb3.size
          have Hr3' := Lib.hid (Hrl.out.below hb3)
          have Hb3 := Lib.hid (below_more Hb.out hb3)
          clear hb3 e0 e1 e2 e3 ez c0 hbl Hrl Hb
          have hwb := windF_abs l (64 * (u : Int) + 32, 64 * (v' : Int) + 32)
          go_wp2_with fail
          refine (winding_any Ap cp l _ _ _ Hr3'.out (by omega)).mono ?_
          rintro e w4 ⟨rfl, hb4⟩
          obtain ⟨M, hM⟩ : ∃ M, windF l (64 * (u : Int) + 32, 64 * (v' : Int) + 32) = M := ⟨_, rfl⟩
          rw [hM] at hwb ⊢
          have HM := Lib.hid hM; clear hM
          go_wp2_with fail
          go_roundw
          case rel =>
            refine ⟨k + 1, by omega, by go_num, ?_, ?_, below_more Hb3.out hb4⟩
            · rw [Htk.out, List.map_append, List.sum_append, HN.out]
              simp [HM.out]
            · rw [Htk.out]; simp only [farL, List.any_append, List.any_cons, List.any_nil, Bool.or_false, Bool.or_eq_false_iff]; exact ⟨Hf.out, hfl'⟩
          case measure => simp [intOf]; omega
      · have hkl : k = P.length := by omega
        subst hkl
        rw [List.take_length] at hf ⊢
        have hs1 := sumL_wind P _ hpt hf
        rw [hs1]
        have hor2 := Hor.out
        rw [if_neg (by rw [hf]; decide)] at hor2
        have h8 : E = 0 := by rw [HE3.out, hor2]
        obtain ⟨wh, hwh⟩ : ∃ n : Nat, w0 * h0 = n := ⟨_, rfl⟩
        have hL0 : LN = wh := by rw [HLN.out, hor2, ← hwh]; simp [coverE]
        subst h8 hL0
        have hr4 := Hr3.out.below hb
        rw [hor2] at hr4
        obtain ⟨N, hN⟩ : ∃ N, windE (edgesL P) (64 * (u : Int) + 32, 64 * (v' : Int) + 32) = N := ⟨_, rfl⟩
        rw [hN]
        have hp4 : (w0 : Int) * (h0 : Int) = (LN : Int) := by rw [← hwh]; simp
        obtain ⟨a, ha⟩ : ∃ a : Nat, v' / 4 = a := ⟨_, rfl⟩
        obtain ⟨c, hc⟩ : ∃ c : Nat, u / 4 = c := ⟨_, rfl⟩
        obtain ⟨rm, hrm⟩ : ∃ rm : Nat, v' % 4 = rm := ⟨_, rfl⟩
        obtain ⟨im, him⟩ : ∃ im : Nat, u % 4 = im := ⟨_, rfl⟩
        have q1 : (v' : Int) / 4 = (a : Int) := by omega
        have q2 : (u : Int) / 4 = (c : Int) := by omega
        have q3 : (v' : Int) % 4 = (rm : Int) := by omega
        have q4 : (u : Int) % 4 = (im : Int) := by omega
        have hrm3 : rm ≤ 3 := by omega
        have him3 : im ≤ 3 := by omega
        have ha3 : a ≤ 256 := by omega
        have hc3 : c ≤ 256 := by omega
        have hcw : c < w0 := by omega
        have hah : a + 1 ≤ h0 := by omega
        obtain ⟨p, hp⟩ : ∃ p : Nat, a * w0 = p := ⟨_, rfl⟩
        have q5 : (a : Int) * (w0 : Int) = (p : Int) := by rw [← hp]; simp
        have hq3 : p + c < LN := by
          have h1 : (a + 1) * w0 ≤ h0 * w0 := Nat.mul_le_mul_right _ hah
          rw [Nat.add_mul, hp, Nat.one_mul, Nat.mul_comm h0, hwh] at h1
          omega
        have hLb : LN ≤ 65536 := by
          have := (mul_bound (a := (w0 : Int)) (b := (h0 : Int)) (A := 256) (B := 256) (by omega) (by omega)).2
          rw [hp4] at this; omega
        have hq4 : p + c < (coverE (edgesL P) even w0 h0).length := by simp only [coverE, List.length_map, List.length_range]; omega
        have hval : (coverE (edgesL P) even w0 h0)[p + c] = bitsN (cBit (edgesL P) even w0 (p + c)) 16 := by simp [coverE]
        obtain ⟨b3, o3, rfl, hb3, hcell⟩ := hr4.bit hq4
        have hdm : (p + c) / w0 = a ∧ (p + c) % w0 = c := by
          have h0w : 0 < w0 := by omega
          constructor
          · rw [← hp, Nat.add_comm, Nat.add_mul_div_right _ _ h0w, Nat.div_eq_of_lt hcw]; omega
          · rw [← hp, Nat.add_comm, Nat.add_mul_mod_self_right, Nat.mod_eq_of_lt hcw]
        have hbit : (bitsN (cBit (edgesL P) even w0 (p + c)) 16).testBit (4 * rm + im) = ruledB even N := by
          rw [bitsN_bit, ← hN]
          have h16 : 4 * rm + im < 16 := by omega
          have hd : cDot w0 (p + c) (4 * rm + im) = (64 * (u : Int) + 32, 64 * (v' : Int) + 32) := by
            unfold cDot; rw [hdm.1, hdm.2]; congr 1 <;> omega
          simp only [h16, decide_true, Bool.true_and, cBit, hd]
        rw [hval] at hcell
        have hY := bitsN_lt (cBit (edgesL P) even w0 (p + c)) 16
        generalize bitsN (cBit (edgesL P) even w0 (p + c)) 16 = Y at *
        have Hbit := Lib.hid hbit
        have hNb : -150 ≤ N ∧ N ≤ 150 := by
          have := sumL_abs P (64 * (u : Int) + 32, 64 * (v' : Int) + 32) P.length
          rw [List.take_length, hs1, hN] at this; omega
        clear hr4 hor2 hf hs1 hN d0 d1 d2 d3 dz hbit hdm hval hp hcw hah ha hc hrm him hwh
        have Hb := Lib.hid hb; clear hb hq4
        have hbv := bit_u16 Y (4 * rm + im) hY
        rw [Hbit.out] at hbv
        have HF : Hid (∀ w3, Below wr.heap.size wr w3 → Below w.heap.size w w3) := Lib.hid (fun w3 h3 => below_more (below_more HB2.out Hb.out) h3)
        clear hE2
        cases even
        · by_cases hN0 : N = 0
          · have hb4 : bits .and .u16 ((Y : Int) / 2 ^ (4 * rm + im)) 1 = 0 := by rw [hbv]; simp [ruledB, hN0]
            subst hN0
            clear hbv
            go_wp2_with fail
            refine (lives_any _).mono ?_
            rintro e w3 ⟨rfl, hb3⟩
            go_wp2_with fail
            go_ret
            exact ⟨rfl, HF.out _ hb3⟩
          · have hb4 : bits .and .u16 ((Y : Int) / 2 ^ (4 * rm + im)) 1 = 1 := by rw [hbv]; simp [ruledB, hN0]
            clear hbv
            go_wp2_with fail
            refine (lives_any _).mono ?_
            rintro e w3 ⟨rfl, hb3⟩
            go_wp2_with fail
            go_ret
            refine ⟨?_, HF.out _ hb3⟩
            show Ending.returned (Value.bool (N != 0)) = _
            rw [show (N != 0) = true by simp [hN0]]
        · by_cases hN0 : N.tmod 2 = 0
          · have hb4 : bits .and .u16 ((Y : Int) / 2 ^ (4 * rm + im)) 1 = 0 := by
              have : N % 2 = 0 := by have hd : (2 : Int) ∣ N := Int.dvd_of_tmod_eq_zero hN0; omega
              rw [hbv]; simp [ruledB, this]
            clear hbv
            go_wp2_with fail
            refine (lives_any _).mono ?_
            rintro e w3 ⟨rfl, hb3⟩
            go_wp2_with fail
            go_ret
            exact ⟨rfl, HF.out _ hb3⟩
          · have hb4 : bits .and .u16 ((Y : Int) / 2 ^ (4 * rm + im)) 1 = 1 := by
              have : N % 2 = 1 := by
                by_cases h : N % 2 = 1
                · exact h
                · exact absurd (Int.tmod_eq_zero_of_dvd (by omega)) hN0
              rw [hbv]; simp [ruledB, this]
            clear hbv
            go_wp2_with fail
            refine (lives_any _).mono ?_
            rintro e w3 ⟨rfl, hb3⟩
            go_wp2_with fail
            go_ret
            exact ⟨rfl, HF.out _ hb3⟩
end Go.Proofs.Ytkdgibabecpdlaa
