/- Proved: gouacheref28.Of answers the plain covering; for lines of 100000 dots at most together. -/
import Derived.Test.YtkdgibabecpdlaaRefW
import Derived.Test.YtkdgibabecpdlaaRefBits
import Derived.Test.YtkdgibabecpdlaaPointsW
import Derived.Test.YtkdgibabecpdlaaRulesLaw
namespace Go.Proofs.Ytkdgibabecpdlaa
open Go.RowKit
/-- The first n pixels' bits. -/
def covT (E : List Edge) (even : Bool) (w0 n : Nat) : List Nat := (List.range n).map fun q => bitsN (cBit E even w0 q) 16
theorem covT_all (E : List Edge) (even : Bool) (w0 h0 : Nat) : covT E even w0 (h0 * w0) = coverE E even w0 h0 := by
  unfold covT coverE; rw [Nat.mul_comm]
theorem covT_succ (E : List Edge) (even : Bool) (w0 n : Nat) : bitVs (covT E even w0 (n + 1)) = bitVs (covT E even w0 n) ++ [.int .u16 ((bitsN (cBit E even w0 n) 16 : Nat) : Int)] := by
  simp [covT, bitVs, List.range_succ]
theorem covT_len (E : List Edge) (even : Bool) (w0 n : Nat) : (covT E even w0 n).length = n := by simp [covT]
theorem tmod2 {n : Int} : (n.tmod 2 = 0 ↔ n % 2 = 0) := by
  rw [← Int.dvd_iff_tmod_eq_zero, Int.dvd_iff_emod_eq_zero]
set_option maxRecDepth 100000 in
set_option maxHeartbeats 4000000 in
theorem refOf_any (A : Option Addr) (cap : Nat) (P : List LineV) (even : Bool) (W H : Int) (w : World) (hL : Lns w A P) (hn : P.length ≤ 100000) (hs0 : sizeL P ≤ 100000) :
    Calls Try.prog 16 #[.slice A P.length cap, .bool even, .int .i64 W, .int .i64 H] w fun e w' =>
      ∃ v, e = .returned (.tuple #[v, .int .i64 (ofRes P even W H).2]) ∧ w'.ownsRow w.heap.size 65 1 v (ofRes P even W H).1.length (bitVs (ofRes P even W H).1) ∧ Below w.heap.size w w' := by
  by_cases hb1 : W < 1 ∨ 256 < W ∨ H < 1 ∨ 256 < H
  · have hor : ofRes P even W H = ([], 1) := by
      unfold ofRes; rw [if_pos hb1]
    go_enter Try.func16, Try.ntmps16
    have Hor := Lib.hid hor; clear hor
    go_wp2_with fail
    all_goals (first | (exfalso; omega) | (go_ret2; rw [Hor.out]; exact ⟨_, rfl, ⟨rfl, .inl ⟨rfl, rfl⟩⟩, Below.refl _ _⟩))
  have h1 : 1 ≤ W := by omega
  have h2 : W ≤ 256 := by omega
  have h3 : 1 ≤ H := by omega
  have h4 : H ≤ 256 := by omega
  obtain ⟨w0, rfl⟩ : ∃ n : Nat, W = n := ⟨W.toNat, by omega⟩
  obtain ⟨h0, rfl⟩ : ∃ n : Nat, H = n := ⟨H.toNat, by omega⟩
  clear hb1
  have HL := Lib.hid hL; clear hL
  go_enter Try.func16, Try.ntmps16
  go_wp2_with fail
  go_loopw [10] (fun v10 wr => ∃ k : Nat, k ≤ P.length ∧ v10 = .int .i64 k ∧ farL (P.take k) = false ∧ Below w.heap.size w wr) (fun v10 _ => P.length - (intOf v10).toNat)
  case atStart => exact ⟨0, by omega, rfl, by simp [farL], Below.refl _ _⟩
  case round =>
    obtain ⟨k, hk, rfl, hf, hb⟩ := hrel
    by_cases hlt : k < P.length
    · obtain ⟨b, off, rfl, hbl, c0⟩ := (HL.out.below hb).line hlt
      have hpl := sizeL_mem (List.getElem_mem hlt)
      have hrl := ((HL.out.below hb).each P[k] (List.getElem_mem hlt))
      have hmem : P[k] ∈ P := List.getElem_mem hlt
      have htk : P.take (k + 1) = P.take k ++ [P[k]] := List.take_succ_eq_append_getElem hlt
      generalize P[k] = p at *
      obtain ⟨Ap, cp, l⟩ := p
      simp only [lineHead] at c0 hpl hrl
      have Hf := Lib.hid hf; have Hb := Lib.hid hb; have Hrl := Lib.hid hrl; have Hmem := Lib.hid hmem; have Htk := Lib.hid htk
      clear hf hb hrl hmem htk
      have hll : l.length ≤ 100000 := by omega
      go_wp2_with fail
      go_loopw [11] (fun v11 wq => ∃ j : Nat, j ≤ l.length ∧ v11 = .int .i64 j ∧ (l.take j).any isFarB = false ∧ Below wr.heap.size wr wq) (fun v11 _ => l.length - (intOf v11).toNat)
      case atStart => exact ⟨0, by omega, rfl, by simp, Below.refl _ _⟩
      case round =>
        obtain ⟨j, hj, rfl, hf, hb⟩ := hrel
        have d0 := (hb.cell (p := ⟨b, off + k, none⟩) hbl).trans c0
        by_cases hlt2 : j < l.length
        · obtain ⟨b2, off2, rfl, hbl2, k0, k1⟩ := (Hrl.out.below hb).dot (List.getElem?_eq_getElem hlt2)
          have htk2 : l.take (j + 1) = l.take j ++ [l[j]] := List.take_succ_eq_append_getElem hlt2
          have hmem2 : l[j] ∈ l := List.getElem_mem hlt2
          generalize l[j] = d at *
          obtain ⟨x, y⟩ := d
          have Hf2 := Lib.hid hf; have Hb2 := Lib.hid hb; have Htk2 := Lib.hid htk2; have Hm2 := Lib.hid hmem2
          clear hf hb htk2 hmem2
          go_wp2_with fail
          refine (refFar_any x y _).mono ?_
          rintro e w2 ⟨rfl, hb2⟩
          by_cases hd : isFarB (x, y) = true
          · rw [hd]
            have hfl : farL P = true := List.any_eq_true.2 ⟨_, Hmem.out, List.any_eq_true.2 ⟨_, Hm2.out, hd⟩⟩
            have hor : ofRes P even w0 h0 = ([], 8) := by
              unfold ofRes; rw [if_neg (by omega), if_pos hfl]
            have Hor := Lib.hid hor; clear hor hfl
            go_wp2_with fail
            go_ret2
            rw [Hor.out]
            exact ⟨_, rfl, ⟨rfl, .inl ⟨rfl, rfl⟩⟩, below_more (below_more Hb.out Hb2.out) hb2⟩
          · have hd' : isFarB (x, y) = false := by simpa using hd
            rw [hd']
            go_wp2_with fail
            go_roundw
            case rel => exact ⟨j + 1, by omega, by go_num, by rw [Htk2.out, List.any_append, Hf2.out]; simp [hd'], below_more Hb2.out hb2⟩
            case measure => simp [intOf]; omega
        · have hjl : j = l.length := by omega
          subst hjl
          rw [List.take_length] at hf
          have Hf2 := Lib.hid hf; have Hb2 := Lib.hid hb
          clear hf hb
          go_wp2_with fail
          go_roundw
          case rel => exact ⟨k + 1, by omega, by go_num, by rw [Htk.out]; simp only [farL, List.any_append, List.any_cons, List.any_nil, Bool.or_false, Bool.or_eq_false_iff]; exact ⟨Hf.out, Hf2.out⟩, below_more Hb.out Hb2.out⟩
          case measure => simp [intOf]; omega
    · have hkl : k = P.length := by omega
      subst hkl
      rw [List.take_length] at hf
      have hor : ofRes P even w0 h0 = (coverE (edgesL P) even w0 h0, 0) := by
        unfold ofRes; rw [if_neg (by omega), if_neg (by rw [hf]; decide)]; rfl
      have Hf := Lib.hid hf; have Hor := Lib.hid hor; have Hb := Lib.hid hb
      clear hf hor hb
      go_wp2_with fail
      go_loopw [12, 13] (fun v12 v13 w2 => ∃ y : Nat, y ≤ h0 ∧ v13 = .int .i64 y ∧ w2.ownsRow w.heap.size 65 1 v12 (y * w0) (bitVs (covT (edgesL P) even w0 (y * w0))) ∧ Below w.heap.size w w2) (fun _ v13 _ => h0 - (intOf v13).toNat)
      case atStart => exact ⟨0, by omega, rfl, by rw [Nat.zero_mul]; exact World.ownsRow_nil _ _ _ _, Hb.out⟩
      case round =>
        obtain ⟨y, hy, rfl, hown, hb⟩ := hrel
        have HB1 := Lib.hid hb
        by_cases hlt : y < h0
        · obtain ⟨q, hq⟩ : ∃ q, y * w0 = q := ⟨_, rfl⟩
          have hq6 : q + w0 ≤ 65536 := by
            have e1 : (y + 1) * w0 ≤ h0 * w0 := Nat.mul_le_mul_right _ hlt
            have e2 : h0 * w0 ≤ 256 * 256 := Nat.mul_le_mul (by omega) (by omega)
            rw [Nat.succ_mul, hq] at e1; omega
          rw [hq] at hown
          have Hown := Lib.hid hown; have Hq := Lib.hid hq
          clear hown hq hb Hb
          go_wp2_with fail
          go_loopw [12, 14] (fun v12 v14 w2 => ∃ x : Nat, x ≤ w0 ∧ v14 = .int .i64 x ∧ w2.ownsRow w.heap.size 65 1 v12 (q + x) (bitVs (covT (edgesL P) even w0 (q + x))) ∧ Below w.heap.size w w2) (fun _ v14 _ => w0 - (intOf v14).toNat)
          case atStart => exact ⟨0, by omega, rfl, Hown.out, HB1.out⟩
          case round =>
            obtain ⟨x, hx, rfl, hown, hb⟩ := hrel
            have HB2 := Lib.hid hb
            have HL3 := Lib.hid (HL.out.below hb)
            obtain ⟨Ao, co, rfl, -, -, -⟩ := ownsRow_form hown
            by_cases hlt2 : x < w0
            · have Hown2 := Lib.hid hown
              have hcd : ∀ k : Nat, cDot w0 (q + x) k = (64 * ((4 * x + k % 4 : Nat) : Int) + 32, 64 * ((4 * y + k / 4 : Nat) : Int) + 32) := by
                intro k
                have h0w : 0 < w0 := by omega
                have e1 : (q + x) % w0 = x := by rw [← Hq.out, Nat.add_comm, Nat.add_mul_mod_self_right, Nat.mod_eq_of_lt hlt2]
                have e2 : (q + x) / w0 = y := by rw [← Hq.out, Nat.add_comm, Nat.add_mul_div_right _ _ h0w, Nat.div_eq_of_lt hlt2]; omega
                unfold cDot; rw [e1, e2]
              have Hcd := Lib.hid hcd
              clear hown hb hcd
              go_wp2_with fail
              go_loopw [15, 16] (fun v15 v16 w2 => ∃ k : Nat, k ≤ 16 ∧ v16 = .int .i64 k ∧ v15 = .int .u16 ((bitsN (cBit (edgesL P) even w0 (q + x)) k : Nat) : Int) ∧ Below wr.heap.size wr w2) (fun _ v16 _ => 16 - (intOf v16).toNat)
              case atStart => exact ⟨0, by omega, rfl, rfl, Below.refl _ _⟩
              case round =>
                obtain ⟨k, hk, rfl, rfl, hb⟩ := hrel
                generalize wr = wk at *
                by_cases hlt3 : k < 16
                · have hbn := bitsN_lt (cBit (edgesL P) even w0 (q + x)) k
                  have hbs : bitsN (cBit (edgesL P) even w0 (q + x)) (k + 1) = bitsN (cBit (edgesL P) even w0 (q + x)) k ||| (if cBit (edgesL P) even w0 (q + x) k then 1 <<< k else 0) := rfl
                  have hcb : cBit (edgesL P) even w0 (q + x) k = ruledB even (windE (edgesL P) (64 * ((4 * x + k % 4 : Nat) : Int) + 32, 64 * ((4 * y + k / 4 : Nat) : Int) + 32)) := by unfold cBit; rw [Hcd.out]
                  have Hbs := Lib.hid hbs; have Hcb := Lib.hid hcb; have Hbn := Lib.hid hbn; have Hb4 := Lib.hid hb
                  clear hbs hcb hbn hb
                  generalize bitsN (cBit (edgesL P) even w0 (q + x)) k = Y at *
                  go_wp2_with fail
                  obtain ⟨px, hpx⟩ : ∃ px : Int, 256 * (x : Int) + 64 * ((k : Int) % 4) + 32 = px := ⟨_, rfl⟩
                  obtain ⟨py, hpy⟩ : ∃ py : Int, 256 * (y : Int) + 64 * ((k : Int) / 4) + 32 = py := ⟨_, rfl⟩
                  rw [hpx, hpy]
                  have hdot : ((64 * ((4 * x + k % 4 : Nat) : Int) + 32, 64 * ((4 * y + k / 4 : Nat) : Int) + 32) : Dot) = (px, py) := by
                    rw [← hpx, ← hpy]; congr 1 <;> omega
                  have hpt : isFarB (px, py) = false := by
                    rw [near_iff, ← hpx, ← hpy]; simp only; omega
                  have hcb := Hcb.out
                  rw [hdot] at hcb
                  have Hcb2 := Lib.hid hcb; have Hpt := Lib.hid hpt
                  clear hcb hdot hpt hpx hpy
                  have hA := (Below.refl wk.heap.size wk).alloc (Nat.le_refl _) (.cells #[.int .i64 px, .int .i64 py] 53)
                  have g0 : (wk.alloc (.cells #[.int .i64 px, .int .i64 py] 53)).cell? ⟨wk.heap.size, 0, none⟩ = some (.int .i64 px) := by simp [go_sem]
                  have g1 : (wk.alloc (.cells #[.int .i64 px, .int .i64 py] 53)).cell? ⟨wk.heap.size, 1, none⟩ = some (.int .i64 py) := by simp [go_sem]
                  have gz : wk.heap.size < (wk.alloc (.cells #[.int .i64 px, .int .i64 py] 53)).heap.size := by simp
                  have HBz := Lib.hid (below_more (below_more HB2.out Hb4.out) hA)
                  have HAz := Lib.hid (below_more Hb4.out hA)
                  clear hA
                  generalize wk.alloc (.cells #[.int .i64 px, .int .i64 py] 53) = wz at *
                  have HLz := Lib.hid (HL.out.below HBz.out)
                  have hk68 : decide ((k : Int) < 16) = true := by simp; omega
                  rw [hk68]
                  clear hk68
                  go_loopw [18, 19] (fun v18 v19 w2 => ∃ i : Nat, i ≤ P.length ∧ v19 = .int .i64 i ∧ v18 = .int .i64 (((P.take i).map fun q => windF q.2.2 (px, py)).sum) ∧ Below wz.heap.size wz w2) (fun _ v19 _ => P.length - (intOf v19).toNat)
                  case atStart => exact ⟨0, by omega, rfl, by simp, Below.refl _ _⟩
                  case round =>
                    obtain ⟨i, hi, rfl, rfl, hb⟩ := hrel
                    have e0 := (hb.cell (p := ⟨wk.heap.size, 0, none⟩) gz).trans g0
                    have e1 := (hb.cell (p := ⟨wk.heap.size, 1, none⟩) gz).trans g1
                    have ez := Nat.lt_of_lt_of_le gz hb.size
                    have hab := sumL_abs P (px, py) i
                    have hstk := sizeL_take P i
                    by_cases hlt4 : i < P.length
                    · obtain ⟨b, off, rfl, hbl, c0⟩ := (HLz.out.below hb).line hlt4
                      have hpl := sizeL_mem (List.getElem_mem hlt4)
                      have hrl := ((HLz.out.below hb).each P[i] (List.getElem_mem hlt4))
                      have htk : P.take (i + 1) = P.take i ++ [P[i]] := List.take_succ_eq_append_getElem hlt4
                      generalize P[i] = p at *
                      obtain ⟨Ap, cp, l⟩ := p
                      simp only [lineHead] at c0 hpl hrl
                      have hwb := windF_abs l (px, py)
                      obtain ⟨N, hN⟩ : ∃ N, ((P.take i).map fun q => windF q.2.2 (px, py)).sum = N := ⟨_, rfl⟩
                      obtain ⟨M, hM⟩ : ∃ M, windF l (px, py) = M := ⟨_, rfl⟩
                      rw [hN] at hab ⊢
                      rw [hM] at hwb
                      have hNb : -100000 ≤ N ∧ N ≤ 100000 := by omega
                      have hMb : -100000 ≤ M ∧ M ≤ 100000 := by omega
                      have HN := Lib.hid hN; have HM := Lib.hid hM; have Hb := Lib.hid hb; have Hrl := Lib.hid hrl; have Htk := Lib.hid htk
                      clear hN hM hb hrl htk hab hstk hwb g0 g1 gz
                      go_upto_region 27 with (fail)
                      go_region_held3 (fun w' => w'.cell? ⟨b, off + i, none⟩ = some (.slice Ap l.length cp) ∧ w'.cell? ⟨wk.heap.size, 0, none⟩ = some (.int .i64 px) ∧ w'.cell? ⟨wk.heap.size, 1, none⟩ = some (.int .i64 py)) (first | exact ⟨m0, m1, m2⟩ | exact ⟨c0, e0, e1⟩ | go_keep)
                        (first
                          | (go_at_call 23; refine (refWinding_any Ap cp l px py _ Hrl.out.drew (by omega)).mono ?_; rintro e w3 ⟨rfl, hb3⟩; rw [HM.out]; have m0 := (hb3.cell (p := ⟨b, off + i, none⟩) hbl).trans c0; have m1 := (hb3.cell (p := ⟨wk.heap.size, 0, none⟩) ez).trans e0; have m2 := (hb3.cell (p := ⟨wk.heap.size, 1, none⟩) ez).trans e1))
                      all_goals
                        have Hb3 := Lib.hid hb3
                        clear hb3 m0 m1 m2 c0 e0 e1
                        have hwr : IntKind.i64.wrap (N + M) = N + M := by rw [IntKind.wrap_i64]; omega
                        (try rw [hwr])
                        clear hwr
                        go_wp2_with fail
                        go_roundw
                        case rel =>
                          refine ⟨i + 1, by omega, by go_num, ?_, Hb.out.trans ((Below.refl _ _).drew.trans (Hb3.out.mono Hb.out.size))⟩
                          rw [Htk.out, List.map_append, List.sum_append, HN.out]
                          simp [HM.out]
                        case measure => simp [intOf]; omega
                    · have hil : i = P.length := by omega
                      subst hil
                      rw [List.take_length] at hab ⊢
                      have hs1 := sumL_wind P _ Hpt.out Hf.out
                      rw [hs1] at hab ⊢
                      have hcb := Hcb2.out
                      obtain ⟨N, hN⟩ : ∃ N, windE (edgesL P) (px, py) = N := ⟨_, rfl⟩
                      rw [hN] at hab hcb ⊢
                      have hNb : -100000 ≤ N ∧ N ≤ 100000 := by omega
                      have HBn := Lib.hid (below_more HAz.out hb)
                      clear hs1 hN hab hstk hb e0 e1 ez g0 g1 gz
                      have hk15 : k ≤ 15 := by omega
                      have hset := or_shl_u16 Y k (Nat.lt_of_lt_of_le Hbn.out (show 2 ^ k ≤ 2 ^ 16 from Nat.pow_le_pow_right (by omega) (by omega))) hk15
                      have hbs := Hbs.out
                      rw [hcb] at hbs
                      have Hset := Lib.hid hset; have Hbs2 := Lib.hid hbs
                      clear hset hbs hcb
                      cases even
                      · by_cases hN0 : N = 0
                        · subst hN0
                          go_wp2_with fail
                          go_roundw
                          case rel => exact ⟨k + 1, by omega, by go_num, by rw [Hbs2.out]; simp [ruledB], HBn.out⟩
                          case measure => simp [intOf]; omega
                        · go_wp2_with fail
                          go_roundw
                          case rel => exact ⟨k + 1, by omega, by go_num, by rw [Hbs2.out]; simp [ruledB, hN0]; exact Hset.out, HBn.out⟩
                          case measure => simp [intOf]; omega
                      · by_cases hN2 : N % 2 = 0
                        · have ht : N.tmod 2 = 0 := tmod2.2 hN2
                          go_wp2_with fail
                          go_roundw
                          case rel => exact ⟨k + 1, by omega, by go_num, by rw [Hbs2.out]; simp [ruledB, hN2], HBn.out⟩
                          case measure => simp [intOf]; omega
                        · have ht : ¬ N.tmod 2 = 0 := fun e => hN2 (tmod2.1 e)
                          have hN1 : N % 2 = 1 := by omega
                          go_wp2_with fail
                          go_roundw
                          case rel => exact ⟨k + 1, by omega, by go_num, by rw [Hbs2.out]; simp [ruledB, hN1]; exact Hset.out, HBn.out⟩
                          case measure => simp [intOf]; omega
                · have hk16 : k = 16 := by omega
                  subst hk16
                  have HO3 := Lib.hid (ownsRow_below Hown2.out hb)
                  have HB4 := Lib.hid (below_more HB2.out hb)
                  have hbs := HB4.out.size
                  clear hb
                  go_wp2_with (at_builtin; refine wpList_app rfl rfl Try.etBits (HO3.out.alloc _) rfl rfl (Rd.new _ _ _ rfl) (m := 1) rfl (by simp [Value.oneCell']) (by omega) (by simp; omega) ?_; intro v5 w5 hown5 hg5 _ hb5)
                  have hA := HB4.out.trans (((Below.refl wk.heap.size wk).alloc (Nat.le_refl _) (.cells #[.int .u16 ((bitsN (cBit (edgesL P) even w0 (q + x)) 16 : Nat) : Int)] 65)).mono hbs)
                  have Ho5 := Lib.hid hown5; have Hb5 := Lib.hid (hA.trans hb5)
                  clear hown5 hg5 hb5 hA
                  go_roundw
                  case rel => exact ⟨x + 1, by omega, by go_num, by rw [← Nat.add_assoc, covT_succ]; exact Ho5.out, Hb5.out⟩
                  case measure => simp [intOf]; omega
            · have hxw : x = w0 := by omega
              subst hxw
              go_wp2_with fail
              go_roundw
              case rel => exact ⟨y + 1, by omega, by go_num, by rw [Nat.succ_mul, Hq.out]; exact hown, hb⟩
              case measure => simp [intOf]; omega
        · have hyh : y = h0 := by omega
          subst hyh
          rw [covT_all] at hown
          obtain ⟨Ao, co, rfl, -, -, -⟩ := ownsRow_form hown
          have Hown := Lib.hid hown
          clear hown
          go_wp2_with fail
          go_ret2
          rw [Hor.out]
          have hl : (coverE (edgesL P) even w0 y).length = y * w0 := by rw [← covT_all, covT_len]
          exact ⟨_, rfl, by simp only [hl]; exact Hown.out, HB1.out⟩
end Go.Proofs.Ytkdgibabecpdlaa
