/- Proved: gouacheref16.Of answers the plain tokens, in new memory; for every text. -/
import Derived.Test.YtjbfcleflokmoaaDoorRefK
namespace Go.Proofs.YtjbfcleflokmoaaDoor
open Go.RowKit
theorem span_in {p : UInt8 → Bool} {s : ByteArray} {i j n : Nat} (hn : spanN p (s.data.toList.drop i) = n) (hj : j < n) : ∃ h : i + j < s.size, p (s[i + j]'h) = false := by
  have hle := spanN_le p (s.data.toList.drop i)
  rw [List.length_drop, ← Lib.size_eq] at hle
  have h : i + j < s.size := by omega
  refine ⟨h, ?_⟩
  have hl : i + j < s.data.toList.length := by rw [← Lib.size_eq]; exact h
  have hm : s[i + j]'h ∈ (s.data.toList.drop i).take n := by
    rw [List.mem_iff_getElem?]
    refine ⟨j, ?_⟩
    rw [List.getElem?_take, if_pos hj, List.getElem?_drop]
    exact Lib.data_getElem? s (i + j) h
  rw [← hn] at hm
  exact span_ahead p _ _ hm
theorem span_at {p : UInt8 → Bool} {s : ByteArray} {i n : Nat} (hn : spanN p (s.data.toList.drop i) = n) (h : i + n < s.size) : p (s[i + n]'h) = true := by
  have hl : n < (s.data.toList.drop i).length := by rw [List.length_drop, ← Lib.size_eq]; omega
  subst hn
  have := span_hit p (s.data.toList.drop i) hl
  rw [List.getElem_drop] at this
  exact this
set_option maxRecDepth 100000 in
set_option maxHeartbeats 8000000 in
theorem tokRef_any (s : ByteArray) (w : World) (hs : s.size ≤ 140737488355328) :
    Calls Tryd.prog 9 #[.string s] w fun e w' => TokP w (tokRes s.data.toList) e w' := by
  by_cases hbig : 4096 < s.size
  · have hr : tokRes s.data.toList = ([], 0, 3) := by
      unfold tokRes; rw [if_pos (by rw [← Lib.size_eq]; exact hbig)]
    have HR := Lib.hid hr; clear hr
    have e1 : (4096 : Int) < (s.size : Int) := by omega
    go_enter Tryd.func9, Tryd.ntmps9
    go_wp2_with fail
    go_ret3
    rw [HR.out]
    exact ⟨_, rfl, World.ownsRow_nil _ _ _ _, Below.refl _ _⟩
  · go_enter Tryd.func9, Tryd.ntmps9
    go_wp2_with fail
    go_loopw [5, 6] (fun v5 v6 wr => ∃ (i : Nat) (acc : List Tok), i ≤ s.size ∧ acc.length ≤ i ∧ v6 = .int .i64 (i : Int) ∧ wr.ownsRow w.heap.size 47 3 v5 acc.length (tokCells acc) ∧ Below w.heap.size w wr ∧ lexS s.data.toList 0 = (acc ++ (lexS (s.data.toList.drop i) i).1, (lexS (s.data.toList.drop i) i).2)) (fun _ v6 _ => s.size - (intOf v6).toNat)
    case atStart => exact ⟨0, [], by omega, by simp, rfl, World.ownsRow_nil _ _ _ _, Below.refl _ _, by simp⟩
    case round =>
      obtain ⟨i, acc, hi, hai, rfl, hown, hb, hlx⟩ := hrel
      have Hown := Lib.hid hown; have HB := Lib.hid hb; have HLX := Lib.hid hlx
      clear hown hb hlx
      obtain ⟨A, cap, rfl, -, -, -⟩ := ownsRow_form Hown.out
      have hsl : s.data.toList.length = s.size := (Lib.size_eq s).symm
      have HSL := Lib.hid hsl; clear hsl
      by_cases hie : i < s.size
      · obtain ⟨x, hx⟩ : ∃ x : UInt8, s[i]'hie = x := ⟨_, rfl⟩
        obtain ⟨rest, hrest⟩ : ∃ rest, s.data.toList.drop i = x :: rest := ⟨s.data.toList.drop (i + 1), by
          rw [List.drop_eq_getElem_cons (by rw [HSL.out]; omega), ← hx]; rfl⟩
        have HX := Lib.hid hrest; clear hrest
        have hbz : w.heap.size ≤ wr.heap.size := HB.out.size
        have hcb : acc.length ≤ 4096 := by omega
        by_cases h37 : x = 37
        · have hl1 := lex1_37 (t := rest) h37
          rw [← HX.out] at hl1
          obtain ⟨hlx, hn1, hn2⟩ := lx_skip HLX.out hl1 (by rw [HSL.out]; exact hie)
          rw [HSL.out] at hn2
          have hw : whtB x = false := by rw [h37]; decide
          obtain ⟨n, hn⟩ : ∃ n, spanN eolB (s.data.toList.drop i) = n := ⟨_, rfl⟩
          rw [hn] at hlx hn1 hn2
          have t1 : ((x.toNat : Int) == 37) = true := by rw [h37]; rfl
          have HN := Lib.hid hn; have HL := Lib.hid hlx; have HW := Lib.hid hw
          clear hl1 hlx h37 hn hw
          go_wp2_with fail
          refine (refWhite_any x wr).mono ?_
          rintro e w2 ⟨rfl, rfl⟩
          rw [HW.out]
          go_wp2_with fail
          go_loop [6] (fun v6 => ∃ j : Nat, j ≤ n ∧ v6 = .int .i64 ((i + j : Nat) : Int)) (fun v6 => i + n - (intOf v6).toNat)
          case atStart => exact ⟨0, by omega, rfl⟩
          case round =>
            obtain ⟨j, hj, rfl⟩ := hrel
            by_cases hjn : j < n
            · obtain ⟨hlt, hp⟩ := span_in HN.out hjn
              obtain ⟨y, hy⟩ : ∃ y : UInt8, s[i + j]'hlt = y := ⟨_, rfl⟩
              rw [hy] at hp
              have ha : y ≠ 10 := fun e => by rw [e] at hp; revert hp; decide
              have hb : y ≠ 13 := fun e => by rw [e] at hp; revert hp; decide
              have ta := u8ne (n := 10) (by decide) ha; have tb := u8ne (n := 13) (by decide) hb
              simp only [Int.cast_ofNat_Int] at ta tb
              have ta2 : ((y.toNat : Int) != 10) = true := by simp [bne, ta]
              have tb2 : ((y.toNat : Int) != 13) = true := by simp [bne, tb]
              generalize hm : i + j = m at *
              clear ha hb hp ta tb
              have Hm := Lib.hid hm; clear hm
              go_wp2_with fail
              go_round
              case rel => exact ⟨j + 1, by omega, by rw [← Nat.add_assoc, Hm.out]; go_num⟩
              case measure => have := Hm.out; simp [intOf]; omega
            · obtain rfl : j = n := by omega
              by_cases hje : i + j < s.size
              · have hp := span_at HN.out hje
                obtain ⟨y, hy⟩ : ∃ y : UInt8, s[i + j]'hje = y := ⟨_, rfl⟩
                rw [hy] at hp
                by_cases ha : y = 10
                · have t2 : ((y.toNat : Int) != 10) = false := by rw [ha]; rfl
                  generalize hm : i + j = m at *
                  clear ha hp
                  go_wp2_with fail
                  go_roundw
                  case rel => exact ⟨m, acc, hn2, by omega, rfl, Hown.out, HB.out, HL.out⟩
                  case measure => simp [intOf]; omega
                · have hb : y = 13 := by
                    simp only [eolB, Bool.or_eq_true, beq_iff_eq] at hp
                    rcases hp with h | h
                    · exact absurd h ha
                    · exact h
                  have t2 : ((y.toNat : Int) != 10) = true := by rw [hb]; rfl
                  have t3 : ((y.toNat : Int) != 13) = false := by rw [hb]; rfl
                  generalize hm : i + j = m at *
                  clear ha hb hp
                  go_wp2_with fail
                  go_roundw
                  case rel => exact ⟨m, acc, hn2, by omega, rfl, Hown.out, HB.out, HL.out⟩
                  case measure => simp [intOf]; omega
              · generalize hm : i + j = m at *
                obtain rfl : m = s.size := by omega
                go_wp2_with fail
                go_roundw
                case rel => exact ⟨s.size, acc, hn2, by omega, rfl, Hown.out, HB.out, HL.out⟩
                case measure => simp [intOf]; omega
        have n37 : ((x.toNat : Int) == 37) = false := by rw [beq_eq_false_iff_ne]; intro e; exact h37 (UInt8.toNat_inj.1 (by simp; omega))
        by_cases hw : whtB x = true
        · have hl1 := lex1_white (t := rest) h37 hw
          rw [← HX.out] at hl1
          obtain ⟨hlx, hn1, hn2⟩ := lx_skip HLX.out hl1 (by rw [HSL.out]; exact hie)
          rw [HSL.out] at hn2
          have HL := Lib.hid hlx; have HW := Lib.hid hw
          clear hl1 hlx h37 hw
          go_wp2_with fail
          refine (refWhite_any x wr).mono ?_
          rintro e w2 ⟨rfl, rfl⟩
          rw [HW.out]
          go_wp2_with fail
          go_roundw
          case rel => exact ⟨i + 1, acc, hn2, by omega, rfl, Hown.out, HB.out, HL.out⟩
          case measure => simp [intOf]; omega
        have hw' : whtB x = false := by simpa using hw
        have HW := Lib.hid hw'
        by_cases h125 : x = 125
        · have hl1 := lex1_125 (t := rest) h125
          rw [← HX.out] at hl1
          obtain ⟨hlx, hn1, hn2⟩ := lx_tok HLX.out hl1 (by rw [HSL.out]; exact hie)
          rw [HSL.out] at hn2
          have HL := Lib.hid hlx
          have t1 : ((x.toNat : Int) == 125) = true := by rw [h125]; rfl
          have t2 : ((x.toNat : Int) == 123) = false := by rw [h125]; rfl
          clear hl1 hlx h37 hw h125 hw'
          go_wp2_with fail
          refine (refWhite_any x wr).mono ?_
          rintro e w2 ⟨rfl, rfl⟩
          rw [HW.out]
          go_wp2_with (at_builtin; refine wpList_app rfl rfl Tryd.etTok (Hown.out.alloc _) rfl rfl (Rd.new _ _ _ rfl) (m := 1) rfl (by simp [Value.oneCell']) (by omega) (by simp; omega) ?_; intro v5 w5 hown5 hg5 _ hb5)
          have HO5 := Lib.hid (own_snoc (k := 4) (n := 1) rfl hown5); have HB5 := Lib.hid (HB.out.trans (((Below.refl _ _).alloc hbz _).trans hb5))
          clear hown5 hg5 hb5
          go_wp2_with fail
          go_roundw
          case rel => exact ⟨i + 1, _, hn2, by simp; omega, rfl, HO5.out, HB5.out, HL.out⟩
          case measure => simp [intOf]; omega
        have n125 : ((x.toNat : Int) == 125) = false := by rw [beq_eq_false_iff_ne]; intro e; exact h125 (UInt8.toNat_inj.1 (by simp; omega))
        by_cases h123 : x = 123
        · have hl1 := lex1_123 (t := rest) h123
          rw [← HX.out] at hl1
          obtain ⟨hlx, hn1, hn2⟩ := lx_tok HLX.out hl1 (by rw [HSL.out]; exact hie)
          rw [HSL.out] at hn2
          have HL := Lib.hid hlx
          have t1 : ((x.toNat : Int) == 123) = true := by rw [h123]; rfl
          clear hl1 hlx h37 hw h125 h123 hw'
          go_wp2_with fail
          refine (refWhite_any x wr).mono ?_
          rintro e w2 ⟨rfl, rfl⟩
          rw [HW.out]
          go_wp2_with (at_builtin; refine wpList_app rfl rfl Tryd.etTok (Hown.out.alloc _) rfl rfl (Rd.new _ _ _ rfl) (m := 1) rfl (by simp [Value.oneCell']) (by omega) (by simp; omega) ?_; intro v5 w5 hown5 hg5 _ hb5)
          have HO5 := Lib.hid (own_snoc (k := 3) (n := 1) rfl hown5); have HB5 := Lib.hid (HB.out.trans (((Below.refl _ _).alloc hbz _).trans hb5))
          clear hown5 hg5 hb5
          go_wp2_with fail
          go_roundw
          case rel => exact ⟨i + 1, _, hn2, by simp; omega, rfl, HO5.out, HB5.out, HL.out⟩
          case measure => simp [intOf]; omega
        have n123 : ((x.toNat : Int) == 123) = false := by rw [beq_eq_false_iff_ne]; intro e; exact h123 (UInt8.toNat_inj.1 (by simp; omega))
        have hl1 := lex1_word (t := rest) h37 hw' h125 h123
        have hsp := span_stop_pos (t := rest) h37 hw' h125 h123
        rw [← HX.out] at hl1 hsp
        have hsl := spanN_le stopB (s.data.toList.drop i)
        obtain ⟨n, hn⟩ : ∃ n, spanN stopB (s.data.toList.drop i) = n := ⟨_, rfl⟩
        rw [List.length_drop, HSL.out] at hsl
        rw [hn] at hl1 hsp hsl
        have hkl : (s.extract i (i + n)).data.toList = (s.data.toList.drop i).take n := by rw [Lib.extract_data, Nat.add_sub_cancel_left]
        have hks : (s.extract i (i + n)).size = n := by simp; omega
        have HL1 := Lib.hid hl1; have HKL := Lib.hid hkl; have HKS := Lib.hid hks; have HN := Lib.hid hn
        clear hl1 hn hkl hks h37 hw h125 h123 hw'
        go_wp2_with fail
        refine (refWhite_any x wr).mono ?_
        rintro e w2 ⟨rfl, rfl⟩
        rw [HW.out]
        go_wp2_with fail
        go_loop [9] (fun v9 => ∃ j : Nat, j ≤ n ∧ v9 = .int .i64 ((i + j : Nat) : Int)) (fun v9 => i + n - (intOf v9).toNat)
        case atStart => exact ⟨0, by omega, rfl⟩
        case round =>
          obtain ⟨j, hj, rfl⟩ := hrel
          by_cases hjn : j < n
          · obtain ⟨hlt, hp⟩ := span_in HN.out hjn
            obtain ⟨y, hy⟩ : ∃ y : UInt8, s[i + j]'hlt = y := ⟨_, rfl⟩
            rw [hy] at hp
            have hyw : whtB y = false := by
              cases h : whtB y
              · rfl
              · rw [stopB, h] at hp; cases hp
            have m37 : y ≠ 37 := fun e => by rw [e] at hp; revert hp; decide
            have m123 : y ≠ 123 := fun e => by rw [e] at hp; revert hp; decide
            have m125 : y ≠ 125 := fun e => by rw [e] at hp; revert hp; decide
            have t37 := u8ne (n := 37) (by decide) m37; have t123 := u8ne (n := 123) (by decide) m123; have t125 := u8ne (n := 125) (by decide) m125
            simp only [Int.cast_ofNat_Int] at t37 t123 t125
            have s37 : ((y.toNat : Int) != 37) = true := by simp [bne, t37]
            have s123 : ((y.toNat : Int) != 123) = true := by simp [bne, t123]
            have s125 : ((y.toNat : Int) != 125) = true := by simp [bne, t125]
            generalize hm : i + j = m at *
            have HY := Lib.hid hyw; have Hm := Lib.hid hm
            clear hp hyw m37 m123 m125 t37 t123 t125 hm
            go_wp2_with fail
            refine (refWhite_any y _).mono ?_
            rintro e w2 ⟨rfl, rfl⟩
            rw [HY.out]
            go_wp2_with fail
            go_round
            case rel => exact ⟨j + 1, by omega, by rw [← Nat.add_assoc, Hm.out]; go_num⟩
            case measure => have := Hm.out; simp [intOf]; omega
          · obtain rfl : n = j := by omega
            by_cases hje : i + n < s.size
            · have hp := span_at HN.out hje
              obtain ⟨y, hy⟩ : ∃ y : UInt8, s[i + n]'hje = y := ⟨_, rfl⟩
              rw [hy] at hp
              generalize hm : i + n = m at *
              have him0 : i ≤ m := by omega
              have hnm : n ≤ 4096 := by omega
              have Hm := Lib.hid hm; clear hm
              cases hyw : whtB y
              · have HY := Lib.hid hyw
                have hp2 : y = 37 ∨ y = 123 ∨ y = 125 := by
                  simp only [stopB, hyw, Bool.false_or, Bool.or_eq_true, beq_iff_eq] at hp
                  rcases hp with (h | h) | h
                  · exact .inl h
                  · exact .inr (.inl h)
                  · exact .inr (.inr h)
                clear hyw hp
                rcases hp2 with e | e | e
                · have s37 : ((y.toNat : Int) != 37) = false := by rw [e]; rfl
                  have s123 : ((y.toNat : Int) != 123) = true := by rw [e]; rfl
                  have s125 : ((y.toNat : Int) != 125) = true := by rw [e]; rfl
                  clear e
                  go_wp2_with fail
                  refine (refWhite_any y _).mono ?_
                  rintro e w2 ⟨rfl, rfl⟩
                  rw [HY.out]
                  go_wp2_with fail
                  refine (refKind_any _ wr (by rw [HKS.out]; omega)).mono ?_
                  rintro e w3 ⟨k, b, rfl, hkf, hb3⟩
                  rw [HKL.out] at hkf
                  have HKF := Lib.hid hkf
                  have HO3 := Lib.hid (ownsRow_below Hown.out hb3); have HB3 := Lib.hid (belowMore HB.out hb3)
                  clear hkf hb3
                  cases b with
                  | false =>
                    have hl1 := HL1.out
                    have hkf := HKF.out
                    rw [hkf] at hl1
                    have hbad := lexS_bad (l := s.data.toList.drop i) hl1 i
                    have hr : tokRes s.data.toList = ([], i, 13) := by
                      unfold tokRes
                      rw [if_neg (by rw [HSL.out]; omega), HLX.out, hbad, if_neg Bool.false_ne_true]
                    have HR := Lib.hid hr
                    clear hl1 hkf hbad hr
                    go_wp2_with fail
                    go_ret3
                    rw [HR.out]
                    exact ⟨_, rfl, World.ownsRow_nil _ _ _ _, HB3.out⟩
                  | true =>
                    have hl1 := HL1.out
                    have hkf := HKF.out
                    rw [hkf] at hl1
                    obtain ⟨hlx, hn1, hn2⟩ := lx_tok (k := k) HLX.out hl1 (by rw [HSL.out]; exact hie)
                    rw [HSL.out] at hn2
                    rw [Hm.out] at hlx hn2
                    have HL := Lib.hid hlx
                    have hbz3 : w.heap.size ≤ w3.heap.size := HB3.out.size
                    have him : i < m := by have := Hm.out; omega
                    clear hl1 hlx hkf
                    go_wp2_with (at_builtin; refine wpList_app rfl rfl Tryd.etTok (HO3.out.alloc _) rfl rfl (Rd.new _ _ _ rfl) (m := 1) rfl (by simp [Value.oneCell']) (by omega) (by simp; omega) ?_; intro v5 w5 hown5 hg5 _ hb5)
                    rw [← Hm.out] at hown5
                    have HO5 := Lib.hid (own_snoc (k := k) (n := n) rfl hown5); have HB5 := Lib.hid (HB3.out.trans (((Below.refl _ _).alloc hbz3 _).trans hb5))
                    clear hown5 hg5 hb5
                    go_wp2_with fail
                    go_roundw
                    case rel => exact ⟨m, _, hn2, by simp; omega, rfl, HO5.out, HB5.out, HL.out⟩
                    case measure => simp [intOf]; omega
                · have s37 : ((y.toNat : Int) != 37) = true := by rw [e]; rfl
                  have s123 : ((y.toNat : Int) != 123) = false := by rw [e]; rfl
                  have s125 : ((y.toNat : Int) != 125) = true := by rw [e]; rfl
                  clear e
                  go_wp2_with fail
                  refine (refWhite_any y _).mono ?_
                  rintro e w2 ⟨rfl, rfl⟩
                  rw [HY.out]
                  go_wp2_with fail
                  refine (refKind_any _ wr (by rw [HKS.out]; omega)).mono ?_
                  rintro e w3 ⟨k, b, rfl, hkf, hb3⟩
                  rw [HKL.out] at hkf
                  have HKF := Lib.hid hkf
                  have HO3 := Lib.hid (ownsRow_below Hown.out hb3); have HB3 := Lib.hid (belowMore HB.out hb3)
                  clear hkf hb3
                  cases b with
                  | false =>
                    have hl1 := HL1.out
                    have hkf := HKF.out
                    rw [hkf] at hl1
                    have hbad := lexS_bad (l := s.data.toList.drop i) hl1 i
                    have hr : tokRes s.data.toList = ([], i, 13) := by
                      unfold tokRes
                      rw [if_neg (by rw [HSL.out]; omega), HLX.out, hbad, if_neg Bool.false_ne_true]
                    have HR := Lib.hid hr
                    clear hl1 hkf hbad hr
                    go_wp2_with fail
                    go_ret3
                    rw [HR.out]
                    exact ⟨_, rfl, World.ownsRow_nil _ _ _ _, HB3.out⟩
                  | true =>
                    have hl1 := HL1.out
                    have hkf := HKF.out
                    rw [hkf] at hl1
                    obtain ⟨hlx, hn1, hn2⟩ := lx_tok (k := k) HLX.out hl1 (by rw [HSL.out]; exact hie)
                    rw [HSL.out] at hn2
                    rw [Hm.out] at hlx hn2
                    have HL := Lib.hid hlx
                    have hbz3 : w.heap.size ≤ w3.heap.size := HB3.out.size
                    have him : i < m := by have := Hm.out; omega
                    clear hl1 hlx hkf
                    go_wp2_with (at_builtin; refine wpList_app rfl rfl Tryd.etTok (HO3.out.alloc _) rfl rfl (Rd.new _ _ _ rfl) (m := 1) rfl (by simp [Value.oneCell']) (by omega) (by simp; omega) ?_; intro v5 w5 hown5 hg5 _ hb5)
                    rw [← Hm.out] at hown5
                    have HO5 := Lib.hid (own_snoc (k := k) (n := n) rfl hown5); have HB5 := Lib.hid (HB3.out.trans (((Below.refl _ _).alloc hbz3 _).trans hb5))
                    clear hown5 hg5 hb5
                    go_wp2_with fail
                    go_roundw
                    case rel => exact ⟨m, _, hn2, by simp; omega, rfl, HO5.out, HB5.out, HL.out⟩
                    case measure => simp [intOf]; omega
                · have s37 : ((y.toNat : Int) != 37) = true := by rw [e]; rfl
                  have s123 : ((y.toNat : Int) != 123) = true := by rw [e]; rfl
                  have s125 : ((y.toNat : Int) != 125) = false := by rw [e]; rfl
                  clear e
                  go_wp2_with fail
                  refine (refWhite_any y _).mono ?_
                  rintro e w2 ⟨rfl, rfl⟩
                  rw [HY.out]
                  go_wp2_with fail
                  refine (refKind_any _ wr (by rw [HKS.out]; omega)).mono ?_
                  rintro e w3 ⟨k, b, rfl, hkf, hb3⟩
                  rw [HKL.out] at hkf
                  have HKF := Lib.hid hkf
                  have HO3 := Lib.hid (ownsRow_below Hown.out hb3); have HB3 := Lib.hid (belowMore HB.out hb3)
                  clear hkf hb3
                  cases b with
                  | false =>
                    have hl1 := HL1.out
                    have hkf := HKF.out
                    rw [hkf] at hl1
                    have hbad := lexS_bad (l := s.data.toList.drop i) hl1 i
                    have hr : tokRes s.data.toList = ([], i, 13) := by
                      unfold tokRes
                      rw [if_neg (by rw [HSL.out]; omega), HLX.out, hbad, if_neg Bool.false_ne_true]
                    have HR := Lib.hid hr
                    clear hl1 hkf hbad hr
                    go_wp2_with fail
                    go_ret3
                    rw [HR.out]
                    exact ⟨_, rfl, World.ownsRow_nil _ _ _ _, HB3.out⟩
                  | true =>
                    have hl1 := HL1.out
                    have hkf := HKF.out
                    rw [hkf] at hl1
                    obtain ⟨hlx, hn1, hn2⟩ := lx_tok (k := k) HLX.out hl1 (by rw [HSL.out]; exact hie)
                    rw [HSL.out] at hn2
                    rw [Hm.out] at hlx hn2
                    have HL := Lib.hid hlx
                    have hbz3 : w.heap.size ≤ w3.heap.size := HB3.out.size
                    have him : i < m := by have := Hm.out; omega
                    clear hl1 hlx hkf
                    go_wp2_with (at_builtin; refine wpList_app rfl rfl Tryd.etTok (HO3.out.alloc _) rfl rfl (Rd.new _ _ _ rfl) (m := 1) rfl (by simp [Value.oneCell']) (by omega) (by simp; omega) ?_; intro v5 w5 hown5 hg5 _ hb5)
                    rw [← Hm.out] at hown5
                    have HO5 := Lib.hid (own_snoc (k := k) (n := n) rfl hown5); have HB5 := Lib.hid (HB3.out.trans (((Below.refl _ _).alloc hbz3 _).trans hb5))
                    clear hown5 hg5 hb5
                    go_wp2_with fail
                    go_roundw
                    case rel => exact ⟨m, _, hn2, by simp; omega, rfl, HO5.out, HB5.out, HL.out⟩
                    case measure => simp [intOf]; omega
              · have HY := Lib.hid hyw
                clear hyw hp
                go_wp2_with fail
                refine (refWhite_any y _).mono ?_
                rintro e w2 ⟨rfl, rfl⟩
                rw [HY.out]
                go_wp2_with fail
                refine (refKind_any _ wr (by rw [HKS.out]; omega)).mono ?_
                rintro e w3 ⟨k, b, rfl, hkf, hb3⟩
                rw [HKL.out] at hkf
                have HKF := Lib.hid hkf
                have HO3 := Lib.hid (ownsRow_below Hown.out hb3); have HB3 := Lib.hid (belowMore HB.out hb3)
                clear hkf hb3
                cases b with
                | false =>
                  have hl1 := HL1.out
                  have hkf := HKF.out
                  rw [hkf] at hl1
                  have hbad := lexS_bad (l := s.data.toList.drop i) hl1 i
                  have hr : tokRes s.data.toList = ([], i, 13) := by
                    unfold tokRes
                    rw [if_neg (by rw [HSL.out]; omega), HLX.out, hbad, if_neg Bool.false_ne_true]
                  have HR := Lib.hid hr
                  clear hl1 hkf hbad hr
                  go_wp2_with fail
                  go_ret3
                  rw [HR.out]
                  exact ⟨_, rfl, World.ownsRow_nil _ _ _ _, HB3.out⟩
                | true =>
                  have hl1 := HL1.out
                  have hkf := HKF.out
                  rw [hkf] at hl1
                  obtain ⟨hlx, hn1, hn2⟩ := lx_tok (k := k) HLX.out hl1 (by rw [HSL.out]; exact hie)
                  rw [HSL.out] at hn2
                  rw [Hm.out] at hlx hn2
                  have HL := Lib.hid hlx
                  have hbz3 : w.heap.size ≤ w3.heap.size := HB3.out.size
                  have him : i < m := by have := Hm.out; omega
                  clear hl1 hlx hkf
                  go_wp2_with (at_builtin; refine wpList_app rfl rfl Tryd.etTok (HO3.out.alloc _) rfl rfl (Rd.new _ _ _ rfl) (m := 1) rfl (by simp [Value.oneCell']) (by omega) (by simp; omega) ?_; intro v5 w5 hown5 hg5 _ hb5)
                  rw [← Hm.out] at hown5
                  have HO5 := Lib.hid (own_snoc (k := k) (n := n) rfl hown5); have HB5 := Lib.hid (HB3.out.trans (((Below.refl _ _).alloc hbz3 _).trans hb5))
                  clear hown5 hg5 hb5
                  go_wp2_with fail
                  go_roundw
                  case rel => exact ⟨m, _, hn2, by simp; omega, rfl, HO5.out, HB5.out, HL.out⟩
                  case measure => simp [intOf]; omega
            · generalize hm : i + n = m at *
              have him0 : i ≤ m := by omega
              have hnm : n ≤ 4096 := by omega
              obtain rfl : m = s.size := by omega
              have Hm := Lib.hid hm; clear hm
              go_wp2_with fail
              refine (refKind_any _ wr (by rw [HKS.out]; omega)).mono ?_
              rintro e w3 ⟨k, b, rfl, hkf, hb3⟩
              rw [HKL.out] at hkf
              have HKF := Lib.hid hkf
              have HO3 := Lib.hid (ownsRow_below Hown.out hb3); have HB3 := Lib.hid (belowMore HB.out hb3)
              clear hkf hb3
              cases b with
              | false =>
                have hl1 := HL1.out
                have hkf := HKF.out
                rw [hkf] at hl1
                have hbad := lexS_bad (l := s.data.toList.drop i) hl1 i
                have hr : tokRes s.data.toList = ([], i, 13) := by
                  unfold tokRes
                  rw [if_neg (by rw [HSL.out]; omega), HLX.out, hbad, if_neg Bool.false_ne_true]
                have HR := Lib.hid hr
                clear hl1 hkf hbad hr
                go_wp2_with fail
                go_ret3
                rw [HR.out]
                exact ⟨_, rfl, World.ownsRow_nil _ _ _ _, HB3.out⟩
              | true =>
                have hl1 := HL1.out
                have hkf := HKF.out
                rw [hkf] at hl1
                obtain ⟨hlx, hn1, hn2⟩ := lx_tok (k := k) HLX.out hl1 (by rw [HSL.out]; exact hie)
                rw [HSL.out] at hn2
                rw [Hm.out] at hlx hn2
                have HL := Lib.hid hlx
                have hbz3 : w.heap.size ≤ w3.heap.size := HB3.out.size
                have him : i < s.size := by have := Hm.out; omega
                clear hl1 hlx hkf
                go_wp2_with (at_builtin; refine wpList_app rfl rfl Tryd.etTok (HO3.out.alloc _) rfl rfl (Rd.new _ _ _ rfl) (m := 1) rfl (by simp [Value.oneCell']) (by omega) (by simp; omega) ?_; intro v5 w5 hown5 hg5 _ hb5)
                rw [← Hm.out] at hown5
                have HO5 := Lib.hid (own_snoc (k := k) (n := n) rfl hown5); have HB5 := Lib.hid (HB3.out.trans (((Below.refl _ _).alloc hbz3 _).trans hb5))
                clear hown5 hg5 hb5
                go_wp2_with fail
                go_roundw
                case rel => exact ⟨s.size, _, hn2, by simp; omega, rfl, HO5.out, HB5.out, HL.out⟩
                case measure => simp [intOf]; omega
      · obtain rfl : i = s.size := by omega
        have hr : tokRes s.data.toList = (acc, s.size, 0) := by
          have h0 : s.data.toList.drop s.size = [] := List.drop_eq_nil_of_le (by rw [HSL.out]; omega)
          have h1 := HLX.out
          rw [h0, lexS_nil, List.append_nil] at h1
          unfold tokRes
          rw [if_neg (by rw [HSL.out]; omega), h1, if_pos rfl]
        have HR := Lib.hid hr; clear hr
        go_wp2_with fail
        go_ret3
        rw [HR.out]
        exact ⟨_, rfl, Hown.out, HB.out⟩
end Go.Proofs.YtjbfcleflokmoaaDoor
