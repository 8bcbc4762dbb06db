/- Proved: gouacheref16.Kind answers the plain kind; for words of a million bytes at most. -/
import Derived.Test.YthhmahmclkmjpaaDoorTokOfW
namespace Go.Proofs.YthhmahmclkmjpaaDoor
open Go.RowKit
theorem u8ne {x : UInt8} {n : Nat} (hn : n < 256) (h : x ≠ UInt8.ofNat n) : ((x.toNat : Int) == (n : Int)) = false := by
  rw [beq_eq_false_iff_ne]; intro e; exact h (UInt8.toNat_inj.1 (by simp; omega))
theorem ret_kind {k : Nat} {b c : Bool} (h : b = c) : Ending.returned (.tuple #[.int .u8 (k : Int), .bool b]) = .returned (.tuple #[.int .u8 (k : Int), .bool c]) := by rw [h]
theorem letB_iff (x : UInt8) : letB x = (decide (97 ≤ x.toNat ∧ x.toNat ≤ 122) || decide (65 ≤ x.toNat ∧ x.toNat ≤ 90)) := by
  simp [letB, Bool.decide_and]
theorem all_snoc {p : UInt8 → Bool} {s : ByteArray} {k : Nat} (hk : k < s.size) : (s.data.toList.take (k + 1)).all p = ((s.data.toList.take k).all p && p (s[k]'hk)) := by
  have hk2 : k < s.data.toList.length := by rw [← Lib.size_eq]; exact hk
  rw [List.take_succ_eq_append_getElem hk2, List.all_append]
  simp; rfl
theorem count_snoc {p : UInt8 → Bool} {s : ByteArray} {k : Nat} (hk : k < s.size) : (s.data.toList.take (k + 1)).countP p = (s.data.toList.take k).countP p + if p (s[k]'hk) then 1 else 0 := by
  have hk2 : k < s.data.toList.length := by rw [← Lib.size_eq]; exact hk
  rw [List.take_succ_eq_append_getElem hk2, List.countP_append]
  simp only [List.countP_cons, List.countP_nil, Nat.zero_add]; rfl
theorem take_all (s : ByteArray) : s.data.toList.take s.size = s.data.toList := by rw [Lib.size_eq]; exact List.take_length
set_option maxRecDepth 100000 in
set_option maxHeartbeats 4000000 in
theorem refKind_any (s : ByteArray) (w : World) (hs : s.size ≤ 140737488355328) :
    Calls Tryd.prog 20 #[.string s] w fun e w' => KindP w s.data.toList e w' := by
  go_enter Tryd.func20, Tryd.ntmps20
  go_wp2_with fail
  go_loop [4, 5] (fun v4 v5 => ∃ k : Nat, k ≤ s.size ∧ v5 = .int .i64 k ∧ v4 = .bool ((s.data.toList.take k).all letB)) (fun _ v5 => s.size - (intOf v5).toNat)
  case atStart => exact ⟨0, by omega, rfl, rfl⟩
  case round =>
    obtain ⟨k, hk, rfl, rfl⟩ := hrel
    by_cases hlt : k < s.size
    · have hsn := all_snoc (p := letB) hlt
      obtain ⟨x, hx⟩ : ∃ x : UInt8, s[k]'hlt = x := ⟨_, rfl⟩
      rw [hx] at hsn
      have HS := Lib.hid hsn
      clear hsn
      generalize (s.data.toList.take k).all letB = b at *
      cases b with
      | false =>
        go_wp2_with fail
        go_round
        case rel => exact ⟨k + 1, by omega, by go_num, by rw [HS.out]; rfl⟩
        case measure => simp [intOf]; omega
      | true =>
        by_cases c1 : x.toNat < 65
        · have HV : Hid (letB x = false) := Lib.hid (by rw [letB_iff]; simp; omega)
          go_wp2_with fail
          go_round
          case rel => exact ⟨k + 1, by omega, by go_num, by rw [HS.out, HV.out]; first | rfl | (simp; omega)⟩
          case measure => simp [intOf]; omega
        by_cases c2 : x.toNat ≤ 90
        · have HV : Hid (letB x = true) := Lib.hid (by rw [letB_iff]; simp; omega)
          go_wp2_with fail
          go_round
          case rel => exact ⟨k + 1, by omega, by go_num, by rw [HS.out, HV.out]; first | rfl | (simp; omega)⟩
          case measure => simp [intOf]; omega
        by_cases c3 : x.toNat < 97
        · have HV : Hid (letB x = false) := Lib.hid (by rw [letB_iff]; simp; omega)
          go_wp2_with fail
          go_round
          case rel => exact ⟨k + 1, by omega, by go_num, by rw [HS.out, HV.out]; first | rfl | (simp; omega)⟩
          case measure => simp [intOf]; omega
        by_cases c4 : x.toNat ≤ 122
        · have HV : Hid (letB x = true) := Lib.hid (by rw [letB_iff]; simp; omega)
          go_wp2_with fail
          go_round
          case rel => exact ⟨k + 1, by omega, by go_num, by rw [HS.out, HV.out]; first | rfl | (simp; omega)⟩
          case measure => simp [intOf]; omega
        · have HV : Hid (letB x = false) := Lib.hid (by rw [letB_iff]; simp; omega)
          go_wp2_with fail
          go_round
          case rel => exact ⟨k + 1, by omega, by go_num, by rw [HS.out, HV.out]; first | rfl | (simp; omega)⟩
          case measure => simp [intOf]; omega
    · obtain rfl : k = s.size := by omega
      rw [take_all]
      cases ha : s.data.toList.all letB with
      | true =>
        have hk2 : kindF s.data.toList = if decide (0 < s.size) = true then some 2 else none := by
          unfold kindF
          rw [if_pos ha, Lib.size_eq]
          cases s.data.toList <;> simp
        have HK2 := Lib.hid hk2
        clear hk2 ha
        go_wp2_with fail
        go_ret2
        exact ⟨2, decide (0 < s.size), rfl, HK2.out, Below.refl _ _⟩
      | false =>
        have h0 : 0 < s.size := by
          rcases Nat.eq_zero_or_pos s.size with h | h
          · rw [Lib.size_eq] at h
            rw [List.eq_nil_of_length_eq_zero h] at ha; cases ha
          · exact h
        obtain ⟨x, hx⟩ : ∃ x : UInt8, s[0]'h0 = x := ⟨_, rfl⟩
        have hl : s.data.toList = x :: s.data.toList.drop 1 := by
          have h1 : 0 < s.data.toList.length := by rw [Lib.size_eq] at h0; exact h0
          have e := List.drop_eq_getElem_cons (l := s.data.toList) (i := 0) h1
          rw [List.drop_zero] at e
          rw [e]
          congr 1
        have hemp : s.toList.isEmpty = false := by rw [Lib.toList_data, hl]; rfl
        have hkf : kindF s.data.toList = numF (unsign s.data.toList) := by
          unfold kindF; rw [ha, if_neg Bool.false_ne_true]
        have HKF := Lib.hid hkf; have HL := Lib.hid hl; have HX := Lib.hid hx
        clear hkf hl ha
        have e1 : (0 : Int) < (s.size : Int) := by omega
        go_upto_region 8 with (fail)
        go_cut [55] from 9 to 55 (fun v55 wc => v55 = .bool (x == 43 || x == 45) ∧ wc = w)
        case first =>
          by_cases h43 : x.toNat = 43
          · have t1 : ((x.toNat : Int) == 43) = true := by rw [beq_iff_eq]; omega
            have hx : x = 43 := UInt8.toNat_inj.1 h43
            subst hx
            go_wp2_with fail
            go_meet
            exact ⟨rfl, rfl⟩
          by_cases h45 : x.toNat = 45
          · have t2 : ((x.toNat : Int) == 45) = true := by rw [beq_iff_eq]; omega
            have hx : x = 45 := UInt8.toNat_inj.1 h45
            subst hx
            go_wp2_with fail
            go_meet
            exact ⟨rfl, rfl⟩
          · have t1 : ((x.toNat : Int) == 43) = false := by rw [beq_eq_false_iff_ne]; omega
            have t2 : ((x.toNat : Int) == 45) = false := by rw [beq_eq_false_iff_ne]; omega
            have t3 : (x == 43 || x == 45) = false := by
              rw [Bool.or_eq_false_iff, beq_eq_false_iff_ne, beq_eq_false_iff_ne]
              exact ⟨fun e => h43 (by rw [e]; rfl), fun e => h45 (by rw [e]; rfl)⟩
            have T3 := Lib.hid t3; clear t3
            go_wp2_with fail
            go_meet
            exact ⟨by rw [T3.out], rfl⟩
        case rest =>
          obtain ⟨rfl, rfl⟩ := hcut
          go_upto_if 55 with (fail)
          go_cut [0] from 9 to 57 (fun v0 wd => ∃ u : ByteArray, v0 = .string u ∧ u.data.toList = unsign s.data.toList ∧ u.size ≤ s.size ∧ wd = wc)
          case first =>
            cases hsg : (x == 43 || x == 45)
            · have HSG := Lib.hid hsg; clear hsg
              go_wp2_with fail
              go_meet
              exact ⟨s, rfl, by rw [HL.out, unsign_cons, HSG.out]; simp, Nat.le_refl _, rfl⟩
            · have HSG := Lib.hid hsg; clear hsg
              go_wp2_with fail
              go_meet
              exact ⟨_, rfl, by rw [Lib.extract_to_end, HL.out, unsign_cons, HSG.out]; simp, by simp, rfl⟩
          case rest =>
            obtain ⟨u, rfl, hu, hus, rfl⟩ := hcut
            have hku : kindF s.data.toList = numF u.data.toList := by rw [HKF.out, hu]
            have HKU := Lib.hid hku
            clear hu hku
            go_wp2_with fail
            go_loop [6, 7, 8] (fun v6 v7 v8 => ∃ k : Nat, k ≤ u.size ∧ v8 = .int .i64 k ∧ v6 = .int .i64 ((digitsN (u.data.toList.take k) : Nat) : Int) ∧ v7 = .int .i64 ((pointsN (u.data.toList.take k) : Nat) : Int) ∧ numB (u.data.toList.take k) = true) (fun _ _ v8 => u.size - (intOf v8).toNat)
            case atStart => exact ⟨0, by omega, rfl, rfl, rfl, rfl⟩
            case round =>
              obtain ⟨k, hk, rfl, rfl, rfl, hnb⟩ := hrel
              have hdk : digitsN (u.data.toList.take k) ≤ k := Nat.le_trans List.countP_le_length (List.length_take_le _ _)
              have hpk : pointsN (u.data.toList.take k) ≤ k := Nat.le_trans List.countP_le_length (List.length_take_le _ _)
              by_cases hlt : k < u.size
              · have hs1 := all_snoc (p := fun c => digB c || c == 46) hlt
                have hs2 := count_snoc (p := digB) hlt
                have hs3 := count_snoc (p := (· == 46)) hlt
                have hnu : numB u.data.toList = true → (digB (u[k]'hlt) || (u[k]'hlt) == 46) = true := fun h => List.all_eq_true.1 h _ (by
                  rw [List.mem_iff_getElem?]; exact ⟨k, Lib.data_getElem? u k hlt⟩)
                change numB (u.data.toList.take (k + 1)) = (numB (u.data.toList.take k) && _) at hs1
                change digitsN (u.data.toList.take (k + 1)) = digitsN (u.data.toList.take k) + _ at hs2
                change pointsN (u.data.toList.take (k + 1)) = pointsN (u.data.toList.take k) + _ at hs3
                obtain ⟨y, hy⟩ : ∃ y : UInt8, u[k]'hlt = y := ⟨_, rfl⟩
                rw [hy] at hs1 hs2 hs3 hnu
                rw [hnb] at hs1
                have H1 := Lib.hid hs1; have H2 := Lib.hid hs2; have H3 := Lib.hid hs3; have HNU := Lib.hid hnu
                clear hs1 hs2 hs3 hnu hnb
                generalize digitsN (u.data.toList.take k) = d at *
                generalize pointsN (u.data.toList.take k) = p at *
                have hdg : digB y = decide (48 ≤ y.toNat ∧ y.toNat ≤ 57) := by simp [digB, Bool.decide_and]
                by_cases c1 : 48 ≤ y.toNat ∧ y.toNat ≤ 57
                · obtain ⟨c1a, c1b⟩ := c1
                  have hd1 : digB y = true := by rw [hdg]; simp; omega
                  have n46 : y ≠ 46 := fun e => by rw [e] at c1a; revert c1a; decide
                  have HD := Lib.hid hd1; have HN := Lib.hid n46
                  clear hd1 hdg n46
                  go_wp2_with fail
                  go_round
                  case rel => exact ⟨k + 1, by omega, by go_num, by rw [H2.out, HD.out]; rfl, by rw [H3.out, if_neg (by simpa using HN.out)]; rfl, by rw [H1.out, HD.out]; rfl⟩
                  case measure => simp [intOf]; omega
                · have hd0 : digB y = false := by rw [hdg]; simpa using c1
                  by_cases c2 : y = 46
                  · have HD := Lib.hid hd0
                    have t46 : ((y.toNat : Int) == 46) = true := by rw [c2]; rfl
                    have H3' : Hid (pointsN (u.data.toList.take (k + 1)) = p + 1) := Lib.hid (by rw [H3.out, c2]; rfl)
                    have H1' : Hid (numB (u.data.toList.take (k + 1)) = true) := Lib.hid (by rw [H1.out, c2]; rfl)
                    have t48 : ¬ (48 : Int) ≤ (y.toNat : Int) := by rw [c2]; decide
                    clear hd0 hdg c2 c1
                    go_wp2_with fail
                    go_round
                    case rel => exact ⟨k + 1, by omega, by go_num, by rw [H2.out, HD.out]; rfl, by rw [H3'.out]; go_num, H1'.out⟩
                    case measure => simp [intOf]; omega
                  · have t46 : ((y.toNat : Int) == 46) = false := by
                      rw [beq_eq_false_iff_ne]; intro e; exact c2 (UInt8.toNat_inj.1 (by simp; omega))
                    have hno : kindF s.data.toList = none := by
                      rw [HKU.out]; unfold numF
                      rw [if_neg]
                      rintro ⟨h, _, _⟩
                      have := HNU.out h
                      rw [hd0] at this
                      exact c2 (by simpa using this)
                    have HNO := Lib.hid hno
                    clear hno hd0 hdg c2
                    by_cases c3 : 48 ≤ y.toNat
                    · have c4 : ¬ (y.toNat : Int) ≤ 57 := by omega
                      clear c1
                      go_wp2_with fail
                      go_ret2
                      exact ⟨0, false, rfl, HNO.out, Below.refl _ _⟩
                    · clear c1
                      go_wp2_with fail
                      go_ret2
                      exact ⟨0, false, rfl, HNO.out, Below.refl _ _⟩
              · obtain rfl : k = u.size := by omega
                rw [take_all] at hnb hdk hpk ⊢
                have hno := HKU.out
                unfold numF at hno
                rw [hnb] at hno
                generalize digitsN u.data.toList = d at *
                generalize pointsN u.data.toList = p at *
                clear hnb
                have hz : ∀ n : Nat, ((n : Int) == 0) = decide (n = 0) := fun n => by rw [Bool.eq_iff_iff]; simp
                by_cases hp0 : p = 0
                · subst hp0
                  by_cases hd1 : 1 ≤ d
                  · rw [if_pos ⟨rfl, by omega, hd1⟩, if_pos rfl] at hno
                    have HNO := Lib.hid hno
                    clear hno
                    go_wp2_with fail
                    go_ret2
                    exact ⟨0, decide (d ≤ 10), ret_kind (k := 0) (by rw [Bool.eq_iff_iff]; simp; try omega), by rw [HNO.out]; simp, Below.refl _ _⟩
                  · rw [if_neg (fun h => hd1 h.2.2)] at hno
                    have HNO := Lib.hid hno
                    clear hno
                    go_wp2_with fail
                    go_ret2
                    exact ⟨0, false, rfl, HNO.out, Below.refl _ _⟩
                · have tp0 : ((p : Int) == 0) = false := by rw [beq_eq_false_iff_ne]; omega
                  by_cases hp1 : p = 1
                  · subst hp1
                    by_cases hd1 : 1 ≤ d
                    · rw [if_pos ⟨rfl, by omega, hd1⟩, if_neg hp0] at hno
                      have HNO := Lib.hid hno
                      clear hno hp0
                      go_wp2_with fail
                      go_ret2
                      exact ⟨1, decide (d ≤ 18), ret_kind (k := 1) (by rw [Bool.eq_iff_iff]; simp; try omega), by rw [HNO.out]; simp, Below.refl _ _⟩
                    · rw [if_neg (fun h => hd1 h.2.2)] at hno
                      have HNO := Lib.hid hno
                      clear hno hp0
                      go_wp2_with fail
                      go_ret2
                      exact ⟨1, false, rfl, HNO.out, Below.refl _ _⟩
                  · rw [if_neg (fun h => by have := h.2.1; omega)] at hno
                    have tp1 : ((p : Int) == 1) = false := by rw [beq_eq_false_iff_ne]; omega
                    have HNO := Lib.hid hno
                    clear hno
                    go_wp2_with fail
                    go_ret2
                    exact ⟨1, false, rfl, HNO.out, Below.refl _ _⟩
end Go.Proofs.YthhmahmclkmjpaaDoor
