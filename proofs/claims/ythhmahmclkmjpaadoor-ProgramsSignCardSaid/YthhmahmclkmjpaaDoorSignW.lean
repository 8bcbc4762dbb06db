/- Contracts and plain laws that the claims of this seat use (SignW), for all arguments that their hypotheses name. -/
import Derived.Test.YthhmahmclkmjpaaDoorSignLaw
import Derived.Test.YthhmahmclkmjpaaDoorNumW
import Derived.Test.YthhmahmclkmjpaaDoorLives17
namespace Go.Proofs.YthhmahmclkmjpaaDoor
open Go.RowKit
theorem numE_any (k : Nat) (s : ByteArray) (w : World) {x y : Int} (hx : numE k s.data.toList = (x, y)) (hk : k < 256) (hs : s.size ≤ 140737488355328) :
    Calls Tryd.prog 7 #[.agg #[.int .u8 (k : Int), .string s, .int .i64 0]] w fun e w' => e = .returned (.tuple #[.int .i32 x, .int .i64 y]) ∧ Below w.heap.size w w' := by
  have h := number_any k s.data.toList 0 w hk (by rw [← Lib.size_eq]; exact hs)
  have e : (⟨s.data.toList.toArray⟩ : ByteArray) = s := by simp
  rw [e] at h
  refine h.mono ?_
  rintro e w' ⟨h, hb⟩
  refine ⟨?_, hb⟩
  unfold numE at hx
  rcases h with ⟨n, hn, rfl⟩ | ⟨hn, rfl⟩
  · rw [hn] at hx; injection hx with h1 h2; subst h1 h2; rfl
  · rw [hn] at hx; injection hx with h1 h2; subst h1 h2; rfl
theorem fit_cases {x : Int} (h : 0 ≤ x) : (fitE x = (x, 0) ∧ fitE (-x) = (-x, 0) ∧ x ≤ 2147483647) ∨ (fitE x = (0, 13) ∧ 2147483647 < x) := by
  unfold fitE
  by_cases h1 : x ≤ 2147483647
  · left; rw [if_pos (by omega), if_pos (by omega)]; exact ⟨rfl, rfl, h1⟩
  · right; rw [if_neg (by omega)]; exact ⟨rfl, by omega⟩
def strLen : Value → Nat
  | .string s => s.size
  | _ => 0
theorem digit_slice (d : Nat) (h : d < 10) : ∃ q : ByteArray, q.data.toList = [digC d] ∧ ∀ w, (Instr.slice 9 (.string ⟨#[48, 49, 50, 51, 52, 53, 54, 55, 56, 57]⟩) (some (.int .u32 (d : Int))) (some (.int .u32 ((d : Int) + 1))) none).run Tryd.prog w = .ok (.string q) w :=
  ⟨(⟨#[48, 49, 50, 51, 52, 53, 54, 55, 56, 57]⟩ : ByteArray).extract d (d + 1), by
    have : ∀ j : Fin 10, ((⟨#[48, 49, 50, 51, 52, 53, 54, 55, 56, 57]⟩ : ByteArray).extract j.val (j.val + 1)).data.toList = [digC j.val] := by decide +kernel
    exact this ⟨d, h⟩, fun w => by
    rw [run_slice_string w 9 ⟨#[48, 49, 50, 51, 52, 53, 54, 55, 56, 57]⟩ .u32 .u32 d ((d : Int) + 1) (by kernel_rfl) (by omega) (by omega) (by show (d : Int) + 1 ≤ 10; omega)]
    rw [show ((d : Int) + 1).toNat = d + 1 by omega, Int.toNat_natCast]⟩
theorem sgn_cat (c : UInt8) (s : ByteArray) (hs : s.size ≤ 20) : ∃ q : ByteArray, q.data.toList = c :: s.data.toList ∧ q.size ≤ 21 ∧ ∀ w, (Op.stringOp .add ⟨#[c]⟩ s).run Tryd.prog w = .ok (.string q) w :=
  ⟨⟨#[c]⟩ ++ s, by rw [ByteArray.data_append, Array.toList_append]; rfl, by rw [ByteArray.size_append, show (⟨#[c]⟩ : ByteArray).size = 1 from rfl]; omega, fun w => run_string_add_sum w ⟨#[c]⟩ s (by show 1 + s.size ≤ _; omega)⟩
set_option maxRecDepth 100000 in
set_option maxHeartbeats 4000000 in
theorem sign_walk (n k0 : Nat) (b : Bool) (w : World) (hn : n < 4294967296) (hk0 : k0 < 256) (hT : SpaceTab w) (h0 : 0 < w.heap.size) :
    Calls Tryd.prog 6 #[.int .u32 (n : Int), .int .u8 (k0 : Int), .bool b] w fun e w' => e = .returned (.bool true) ∧ Below w.heap.size w w' := by
  have HT := Lib.hid hT; have H0 := Lib.hid h0; have HN := Lib.hid hn
  clear hT h0 hn
  go_enter Tryd.func6, Tryd.ntmps6
  go_wp2_with fail
  go_loopw [7, 8] (fun v7 v8 wr => ∃ (s : ByteArray) (m : Nat), v7 = .string s ∧ v8 = .int .u32 (m : Int) ∧ Hid (Dgs n m s.data.toList ∧ m ≤ n) ∧ wr = w) (fun v7 v8 _ => (intOf v8).toNat + (1 - strLen v7))
  case atStart => exact ⟨_, n, rfl, rfl, Lib.hid ⟨⟨by simp, by simp [valD], by simp⟩, Nat.le_refl _⟩, rfl⟩
  case round =>
    obtain ⟨s, m, rfl, rfl, hd, rfl⟩ := hrel
    have hmn : m < 4294967296 := by have := hd.out.2; have := HN.out; omega
    have hm0 : (0 : Int) ≤ (m : Int) := by omega
    have hss : s.size ≤ 10 := by rw [Lib.size_eq]; exact hd.out.1.le
    by_cases hgo : 0 < m ∨ s = ⟨#[]⟩
    · obtain ⟨d, hd10, hmd, hm10⟩ : ∃ d : Nat, d < 10 ∧ d = m % 10 ∧ (m : Int) % 10 = (d : Int) := ⟨m % 10, by omega, rfl, by omega⟩
      obtain ⟨q, hq, hsl⟩ := digit_slice d hd10
      have hst := hd.out.1.step HN.out (hgo.imp id (fun h => by rw [h]))
      rw [← hmd, show digC d :: s.data.toList = (q ++ s).data.toList by rw [ByteArray.data_append, Array.toList_append, hq]; rfl] at hst
      have Hst := Lib.hid hst; have HQ := Lib.hid hq; have Hmd := Lib.hid hmd
      have hqs : q.size = 1 := by rw [Lib.size_eq, hq]; rfl
      have ha : ∀ w, (Op.stringOp .add q s).run Tryd.prog w = .ok (.string (q ++ s)) w := fun w => run_string_add_sum w q s (by omega)
      have hd0 : (0 : Int) ≤ (d : Int) := by omega
      have hd1 : (d : Int) ≤ 9 := by omega
      have w1 : IntKind.u32.wrap ((d : Int) + 1) = (d : Int) + 1 := by rw [IntKind.wrap_u32]; omega
      have Hmn := Lib.hid hd.out.2
      clear hst hq hmd
      have Hg : Hid (0 < m ∨ s = ⟨#[]⟩) := Lib.hid hgo
      rcases Nat.eq_zero_or_pos m with hm | hm
      · obtain rfl : s = ⟨#[]⟩ := by
          rcases hgo with h2 | h2
          · omega
          · exact h2
        subst hm
        clear hgo
        obtain rfl : d = 0 := by omega
        go_wp2_with fail
        go_roundw
        case rel =>
          have hst := Hst.out
          rw [show (q ++ (⟨#[]⟩ : ByteArray)).data.toList = ((⟨#[48, 49, 50, 51, 52, 53, 54, 55, 56, 57]⟩ : ByteArray).extract 0 1 ++ ⟨#[]⟩).data.toList by rw [ByteArray.data_append, Array.toList_append, HQ.out]; decide +kernel] at hst
          exact ⟨_, 0, rfl, by go_num, Lib.hid ⟨hst, by omega⟩, trivial⟩
        case measure => decide +kernel
      · clear hgo
        go_wp2_with fail
        go_roundw
        case rel => exact ⟨_, m / 10, rfl, by go_num, Lib.hid ⟨Hst.out, by have := Hmn.out; omega⟩, trivial⟩
        case measure =>
          have hz : (q ++ s).size = q.size + s.size := ByteArray.size_append
          simp only [intOf, strLen]
          rw [hz]
          omega
    · obtain ⟨rfl, hs0⟩ : m = 0 ∧ s ≠ ⟨#[]⟩ := ⟨by omega, fun e => hgo (.inr e)⟩
      have hdg : Dg s.data.toList n := hd.out.1.done (fun e => hs0 (by cases s with | mk d => simp at e; rw [e]))
      have HD := Lib.hid hdg
      have hse : s.toList.isEmpty = false := by
        rw [Lib.toList_data]
        cases hl : s.data.toList with
        | nil => exact absurd (by cases s with | mk d => simp at hl; rw [hl]) hs0
        | cons _ _ => rfl
      clear hdg hgo hd
      obtain ⟨k, hk, hk2⟩ : ∃ k : Nat, k < 6 ∧ (k0 : Int) % 6 = (k : Int) := ⟨k0 % 6, by omega, by omega⟩
      have wk : IntKind.i64.wrap (k0 : Int) = (k0 : Int) := by rw [IntKind.wrap_i64]; omega
      go_upto_block 2 with (fail)
      rw [hk2, show ((0 : Nat) : Int) = 0 from rfl]
      clear hk2 hm0
      go_cut [10, 11] from 42 (fun v10 v11 wc => ∃ t : ByteArray, v10 = .string t ∧ Hid (Dg t.data.toList n) ∧ wc = wr)
      case first =>
        go_wp2_with fail
        go_loopw [10, 11] (fun v10 v11 wd => ∃ (t : ByteArray) (i : Nat), v10 = .string t ∧ v11 = .int .i64 (i : Int) ∧ Hid (Dg t.data.toList n ∧ i ≤ k) ∧ wd = wr) (fun _ v11 _ => k - (intOf v11).toNat)
        case atStart => exact ⟨_, 0, rfl, rfl, Lib.hid ⟨HD.out, by omega⟩, rfl⟩
        case round =>
          obtain ⟨t, i, rfl, rfl, hh, rfl⟩ := hrel
          by_cases hik : i < k
          · have e1 : (i : Int) < (k : Int) := by omega
            by_cases h10 : t.size < 10
            · have e2 : (t.size : Int) < 10 := by omega
              have ha : ∀ w, (Op.stringOp .add ⟨#[48]⟩ t).run Tryd.prog w = .ok (.string (⟨#[48]⟩ ++ t)) w := fun w => run_string_add_sum w ⟨#[48]⟩ t (by show 1 + t.size ≤ _; omega)
              have wi : wrap64 ((i : Int) + 1) = (i : Int) + 1 := by unfold wrap64; omega
              have hn := hh.out.1.nought (by rw [← Lib.size_eq]; exact h10)
              have Hn := Lib.hid hn
              have Hik := Lib.hid hik
              clear hn
              go_wp2_with fail
              go_roundw
              case rel => exact ⟨_, i + 1, rfl, by go_num, Lib.hid ⟨by rw [ByteArray.data_append, Array.toList_append]; exact Hn.out, Hik.out⟩, trivial⟩
              case measure => have := Hik.out; simp [intOf]; omega
            · have e2 : ¬ (t.size : Int) < 10 := by omega
              go_wp2_with fail
              go_meet
              case rel => exact ⟨_, rfl, Lib.hid hh.out.1, rfl⟩
          · have e1 : ¬ (i : Int) < (k : Int) := by omega
            go_wp2_with fail
            go_meet
            case rel => exact ⟨_, rfl, Lib.hid hh.out.1, rfl⟩
      case rest =>
        obtain ⟨t, rfl, ht, rfl⟩ := hcut
        have hts : t.size ≤ 10 := by rw [Lib.size_eq]; exact ht.out.le
        cases b
        · have hss2 : s.size ≤ 20 := by omega
          have hts2 : t.size ≤ 20 := by omega
          obtain ⟨sm, q1, z1, ha1⟩ := sgn_cat 45 s hss2
          obtain ⟨sp, q2, z2, ha2⟩ := sgn_cat 43 s hss2
          obtain ⟨g1, g2, g3, g4⟩ := sign_whole HD.out ht.out
          rw [← q1] at g3
          rw [← q2] at g4
          clear q1 q2
          obtain ⟨x, hx⟩ : ∃ x : Int, x = (n : Int) := ⟨_, rfl⟩
          rw [← hx] at g1 g2 g3 g4
          have hx0 : 0 ≤ x := by omega
          rcases fit_cases hx0 with ⟨r1, r2, r3⟩ | ⟨r1, r3⟩
          · rw [r1] at g1 g2 g4
            rw [r2] at g3
            have G1 := Lib.hid g1; have G2 := Lib.hid g2; have G3 := Lib.hid g3; have G4 := Lib.hid g4
            have wx : IntKind.i32.wrap (-x) = -x := by rw [IntKind.wrap_i32]; omega
            have wx2 : wrap32 (-x) = -x := by unfold wrap32; omega
            have wn : IntKind.i32.wrap (n : Int) = x := by rw [IntKind.wrap_i32]; omega
            have d1 : ¬ (2147483647 : Int) < (n : Int) := by omega
            clear g1 g2 g3 g4 r1 r2 hx
            go_wp2_with fail
            refine (numE_any 0 s wc G1.out (by omega) (by omega)).mono ?_
            rintro e w1 ⟨rfl, hb⟩
            have HB1 := Lib.hid hb
            clear hb
            go_wp2_with fail
            refine (numE_any 0 t w1 G2.out (by omega) (by omega)).mono ?_
            rintro e w2 ⟨rfl, hb⟩
            have HB2 := Lib.hid (HB1.out.trans (hb.mono HB1.out.size))
            clear hb
            go_wp2_with fail
            refine (numE_any 0 sm w2 G3.out (by decide) (by omega)).mono ?_
            rintro e w3 ⟨rfl, hb⟩
            have HB3 := Lib.hid (HB2.out.trans (hb.mono HB2.out.size))
            clear hb
            go_wp2_with fail
            refine (numE_any 0 sp w3 G4.out (by decide) (by omega)).mono ?_
            rintro e w4 ⟨rfl, hb⟩
            have HB4 := Lib.hid (HB3.out.trans (hb.mono HB3.out.size))
            clear hb
            have HT4 := Lib.hid (HT.out.below H0.out H0.out HB4.out); have H04 := Lib.hid (Nat.lt_of_lt_of_le H0.out HB4.out.size)
            go_wp2_with fail
            refine (lives17_any w4 HT4.out H04.out).mono ?_
            rintro e w5 ⟨rfl, hb⟩
            have HF := Lib.hid (HB4.out.trans (hb.mono HB4.out.size))
            clear hb
            go_wp2_with fail
            go_ret
            exact ⟨rfl, HF.out⟩
          · rw [r1] at g1 g2 g4
            generalize fitE (-x) = yz at g3
            obtain ⟨y, z⟩ := yz
            have G1 := Lib.hid g1; have G2 := Lib.hid g2; have G3 := Lib.hid g3; have G4 := Lib.hid g4
            have d1 : (2147483647 : Int) < (n : Int) := by omega
            clear g1 g2 g3 g4 r1 hx
            go_wp2_with fail
            refine (numE_any 0 s wc G1.out (by omega) (by omega)).mono ?_
            rintro e w1 ⟨rfl, hb⟩
            have HB1 := Lib.hid hb
            clear hb
            go_wp2_with fail
            refine (numE_any 0 t w1 G2.out (by omega) (by omega)).mono ?_
            rintro e w2 ⟨rfl, hb⟩
            have HB2 := Lib.hid (HB1.out.trans (hb.mono HB1.out.size))
            clear hb
            go_wp2_with fail
            refine (numE_any 0 sm w2 G3.out (by decide) (by omega)).mono ?_
            rintro e w3 ⟨rfl, hb⟩
            have HB3 := Lib.hid (HB2.out.trans (hb.mono HB2.out.size))
            clear hb
            go_wp2_with fail
            refine (numE_any 0 sp w3 G4.out (by decide) (by omega)).mono ?_
            rintro e w4 ⟨rfl, hb⟩
            have HB4 := Lib.hid (HB3.out.trans (hb.mono HB3.out.size))
            clear hb
            have HT4 := Lib.hid (HT.out.below H0.out H0.out HB4.out); have H04 := Lib.hid (Nat.lt_of_lt_of_le H0.out HB4.out.size)
            go_wp2_with fail
            refine (lives17_any w4 HT4.out H04.out).mono ?_
            rintro e w5 ⟨rfl, hb⟩
            have HF := Lib.hid (HB4.out.trans (hb.mono HB4.out.size))
            clear hb
            go_wp2_with fail
            go_ret
            exact ⟨rfl, HF.out⟩
        · have f1 : ∀ w, (Op.stringOp .add s ⟨#[46, 53]⟩).run Tryd.prog w = .ok (.string (s ++ ⟨#[46, 53]⟩)) w := fun w => run_string_add_sum w s ⟨#[46, 53]⟩ (by show s.size + 2 ≤ _; omega)
          have f2 : ∀ w, (Op.stringOp .add t ⟨#[46, 53, 48]⟩).run Tryd.prog w = .ok (.string (t ++ ⟨#[46, 53, 48]⟩)) w := fun w => run_string_add_sum w t ⟨#[46, 53, 48]⟩ (by show t.size + 3 ≤ _; omega)
          obtain ⟨s2, hs2⟩ : ∃ s2 : ByteArray, s2 = s ++ ⟨#[46, 53]⟩ := ⟨_, rfl⟩
          obtain ⟨t2, ht2⟩ : ∃ t2 : ByteArray, t2 = t ++ ⟨#[46, 53, 48]⟩ := ⟨_, rfl⟩
          have p1 : s2.data.toList = s.data.toList ++ [46, 53] := by rw [hs2, ByteArray.data_append, Array.toList_append]
          have p2 : t2.data.toList = t.data.toList ++ [46, 53, 48] := by rw [ht2, ByteArray.data_append, Array.toList_append]
          have hss2 : s2.size ≤ 20 := by rw [hs2, ByteArray.size_append]; show s.size + 2 ≤ 20; omega
          have hts2 : t2.size ≤ 20 := by rw [ht2, ByteArray.size_append]; show t.size + 3 ≤ 20; omega
          obtain ⟨sm, q1, z1, ha1⟩ := sgn_cat 45 s2 hss2
          obtain ⟨sp, q2, z2, ha2⟩ := sgn_cat 43 s2 hss2
          obtain ⟨g1, g2, g3, g4⟩ := sign_half HD.out ht.out
          rw [← p1] at g1 g3 g4
          rw [← p2] at g2
          rw [← q1] at g3
          rw [← q2] at g4
          rw [← hs2] at f1
          rw [← ht2] at f2
          clear q1 q2 p1 p2 hs2 ht2
          obtain ⟨x, hx⟩ : ∃ x : Int, x = (2 * (n : Int) + 1) * 32768 := ⟨_, rfl⟩
          rw [← hx] at g1 g2 g3 g4
          have hx0 : 0 ≤ x := by omega
          rcases fit_cases hx0 with ⟨r1, r2, r3⟩ | ⟨r1, r3⟩
          · rw [r1] at g1 g2 g4
            rw [r2] at g3
            have G1 := Lib.hid g1; have G2 := Lib.hid g2; have G3 := Lib.hid g3; have G4 := Lib.hid g4
            have wx : IntKind.i32.wrap (-x) = -x := by rw [IntKind.wrap_i32]; omega
            have wx2 : wrap32 (-x) = -x := by unfold wrap32; omega
            clear g1 g2 g3 g4 r1 r2 hx
            go_wp2_with fail
            refine (numE_any 1 s2 wc G1.out (by omega) (by omega)).mono ?_
            rintro e w1 ⟨rfl, hb⟩
            have HB1 := Lib.hid hb
            clear hb
            go_wp2_with fail
            refine (numE_any 1 t2 w1 G2.out (by omega) (by omega)).mono ?_
            rintro e w2 ⟨rfl, hb⟩
            have HB2 := Lib.hid (HB1.out.trans (hb.mono HB1.out.size))
            clear hb
            go_wp2_with fail
            refine (numE_any 1 sm w2 G3.out (by decide) (by omega)).mono ?_
            rintro e w3 ⟨rfl, hb⟩
            have HB3 := Lib.hid (HB2.out.trans (hb.mono HB2.out.size))
            clear hb
            go_wp2_with fail
            refine (numE_any 1 sp w3 G4.out (by decide) (by omega)).mono ?_
            rintro e w4 ⟨rfl, hb⟩
            have HB4 := Lib.hid (HB3.out.trans (hb.mono HB3.out.size))
            clear hb
            have HT4 := Lib.hid (HT.out.below H0.out H0.out HB4.out); have H04 := Lib.hid (Nat.lt_of_lt_of_le H0.out HB4.out.size)
            go_wp2_with fail
            all_goals
              refine (lives17_any w4 HT4.out H04.out).mono ?_
              rintro e w5 ⟨rfl, hb⟩
              have HF := Lib.hid (HB4.out.trans (hb.mono HB4.out.size))
              clear hb
              go_wp2_with fail
              go_ret
              exact ⟨rfl, HF.out⟩
          · rw [r1] at g1 g2 g4
            generalize fitE (-x) = yz at g3
            obtain ⟨y, z⟩ := yz
            have G1 := Lib.hid g1; have G2 := Lib.hid g2; have G3 := Lib.hid g3; have G4 := Lib.hid g4
            clear g1 g2 g3 g4 r1 hx
            go_wp2_with fail
            refine (numE_any 1 s2 wc G1.out (by omega) (by omega)).mono ?_
            rintro e w1 ⟨rfl, hb⟩
            have HB1 := Lib.hid hb
            clear hb
            go_wp2_with fail
            refine (numE_any 1 t2 w1 G2.out (by omega) (by omega)).mono ?_
            rintro e w2 ⟨rfl, hb⟩
            have HB2 := Lib.hid (HB1.out.trans (hb.mono HB1.out.size))
            clear hb
            go_wp2_with fail
            refine (numE_any 1 sm w2 G3.out (by decide) (by omega)).mono ?_
            rintro e w3 ⟨rfl, hb⟩
            have HB3 := Lib.hid (HB2.out.trans (hb.mono HB2.out.size))
            clear hb
            go_wp2_with fail
            refine (numE_any 1 sp w3 G4.out (by decide) (by omega)).mono ?_
            rintro e w4 ⟨rfl, hb⟩
            have HB4 := Lib.hid (HB3.out.trans (hb.mono HB3.out.size))
            clear hb
            have HT4 := Lib.hid (HT.out.below H0.out H0.out HB4.out); have H04 := Lib.hid (Nat.lt_of_lt_of_le H0.out HB4.out.size)
            go_wp2_with fail
            all_goals
              refine (lives17_any w4 HT4.out H04.out).mono ?_
              rintro e w5 ⟨rfl, hb⟩
              have HF := Lib.hid (HB4.out.trans (hb.mono HB4.out.size))
              clear hb
              go_wp2_with fail
              go_ret
              exact ⟨rfl, HF.out⟩
end Go.Proofs.YthhmahmclkmjpaaDoor
