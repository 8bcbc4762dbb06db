/- Proved: what remark, letters, kind of tokens and strings.Cut at a point answer; for texts of a million bytes at most. -/
import Derived.Test.YthhmahmclkmjpaaDoorTokNum
import Derived.Test.YthhmahmclkmjpaaDoorAnyS
namespace Go.Proofs.YthhmahmclkmjpaaDoor
open Go.RowKit
theorem plain_of_all {l : Bytes} (h : l.all (fun b => decide (b.toNat < 128)) = true) : Plain ⟨l.toArray⟩ := by
  intro j b hb
  have hm : b ∈ l := by simpa using List.mem_of_getElem? hb
  simpa using List.all_eq_true.1 h b hm
theorem bytes_eq {s : ByteArray} {l : Bytes} (h : s.data.toList = l) : s = ⟨l.toArray⟩ := by
  subst h; rfl
theorem bytes_ext {s t : ByteArray} (h : s.data.toList = t.data.toList) : s = t := by
  cases s; cases t; simp only [ByteArray.mk.injEq]; exact Array.toList_inj.1 h
set_option maxHeartbeats 1000000 in
theorem remark_any (s : ByteArray) (w : World) (hs : s.size < 4294967281) :
    Calls Tryd.prog 53 #[.string s] w fun e w' => e = .returned (.int .i64 (spanN eolB s.data.toList : Nat)) ∧ Below w.heap.size w w' := by
  have hx := indexAny_span [10, 13] eolB eol_has s.data.toList
  have hle := spanN_le eolB s.data.toList
  have hsz : s.data.toList.length = s.size := (Lib.size_eq s).symm
  rw [hsz] at hx hle
  have HX := Lib.hid hx
  generalize spanN eolB s.data.toList = n at *
  clear hx hsz
  go_enter Tryd.func53, Tryd.ntmps53
  go_wp2_with fail
  refine (indexAny_any s ⟨#[10, 13]⟩ w (by decide) (by decide) hs (plain_of_all (l := [10, 13]) (by decide))).mono ?_
  rintro e w1 ⟨rfl, hb⟩
  rw [HX.out]
  by_cases hn : n < s.size
  · rw [if_pos hn]
    go_wp2_with fail
    go_ret
    exact ⟨rfl, hb⟩
  · rw [if_neg hn]
    obtain rfl : n = s.size := by omega
    go_wp2_with fail
    go_ret
    exact ⟨rfl, hb⟩
set_option maxHeartbeats 1000000 in
theorem letters_any (s : ByteArray) (w : World) (hs : s.size ≤ 9223372036854775807) :
    Calls Tryd.prog 80 #[.string s] w fun e w' => e = .returned (.bool (s.data.toList.all letB)) ∧ Below w.heap.size w w' := by
  have ht := trimS_nil s.data.toList letterL
  rw [all_has letterL letB letter_has] at ht
  obtain ⟨t, hT⟩ : ∃ t, Lib.trimS s.data.toList letterL = t := ⟨_, rfl⟩
  rw [hT] at ht
  have HT := Lib.hid hT; have H := Lib.hid ht
  clear ht hT
  go_enter Tryd.func80, Tryd.ntmps80
  go_wp2_with fail
  refine (Tryd.strings_Trim_laid s ⟨letterL.toArray⟩ w hs (by decide) (plain_of_all (by decide))).mono ?_
  rintro e w1 ⟨rfl, hb⟩
  rw [show Lib.trimS s.data.toList (⟨letterL.toArray⟩ : ByteArray).data.toList = t from HT.out]
  go_wp2_with fail
  go_ret
  refine ⟨?_, hb⟩
  show Ending.returned (.bool t.isEmpty) = _
  congr 2
  rw [Bool.eq_iff_iff, List.isEmpty_iff]
  exact H.out
theorem liteIndex_any (s : ByteArray) (c : UInt8) (w : World) : Calls Tryd.prog 58 #[.string s, .string ⟨#[c]⟩] w fun e w' => e = .returned (.int .i64 (Lib.indexByte s.data.toList c)) ∧ w = w' :=
  (Tryd.stringslite_Index_one s c w).mono fun _ _ h => ⟨h.1, h.2.symm⟩
def aheadS (s : ByteArray) : ByteArray := ⟨(ahead s.data.toList).toArray⟩
def behindS (s : ByteArray) : ByteArray := ⟨(behind s.data.toList).toArray⟩
def pointB (s : ByteArray) : Bool := decide (spanN (· == 46) s.data.toList < s.data.toList.length)
set_option maxHeartbeats 1000000 in
theorem liteCut_any (s : ByteArray) (w : World) (hs : s.size < 4294967281) :
    Calls Tryd.prog 36 #[.string s, .string ⟨#[46]⟩] w fun e w' => e = .returned (.tuple #[.string (aheadS s), .string (behindS s), .bool (pointB s)]) ∧ Below w.heap.size w w' := by
  have hx := indexByte_span 46 s.data.toList
  have hle := spanN_le (· == 46) s.data.toList
  have hsz : s.data.toList.length = s.size := (Lib.size_eq s).symm
  have ha : aheadS s = s.extract 0 (spanN (· == 46) s.data.toList) := by
    unfold aheadS
    exact (bytes_eq (by rw [Lib.extract_data]; simp [ahead])).symm
  have hb : behindS s = s.extract (spanN (· == 46) s.data.toList + 1) s.size := by
    unfold behindS
    exact (bytes_eq (by rw [Lib.extract_to_end]; rfl)).symm
  have hp : pointB s = decide (spanN (· == 46) s.data.toList < s.size) := by unfold pointB; rw [hsz]
  rw [hsz] at hx hle
  generalize hm : spanN (· == 46) s.data.toList = m at *
  by_cases hn : m < s.size
  · rw [if_pos hn] at hx
    rw [decide_eq_true hn] at hp
    have HX := Lib.hid hx; have HA := Lib.hid ha; have HB := Lib.hid hb; have HPo := Lib.hid hp
    clear hx ha hb hp hm hsz
    go_enter Tryd.func36, Tryd.ntmps36
    go_wp2_with fail
    refine (liteIndex_any s 46 w).mono ?_
    rintro e w1 ⟨rfl, rfl⟩
    rw [HX.out]
    have k0 : (0 : Int) ≤ (m : Int) := by omega
    have k00 : (m : Int) ≤ (s.size : Int) := by omega
    have k2 : (0 : Int) ≤ (m : Int) + 1 := by omega
    have k3 : ((m : Int) + 1).toNat = m + 1 := by omega
    have k4 : (m : Int) + 1 ≤ (s.size : Int) := by omega
    have k1 : IntKind.i64.wrap ((m : Int) + 1) = (m : Int) + 1 := IntWalk.i64_in _ (by omega)
    go_wp2_with (go_quiet (fail))
    go_ret3
    exact ⟨by rw [HA.out, HB.out, HPo.out]; rfl, below_drewN (Below.refl _ _) _⟩
  · rw [if_neg hn] at hx
    rw [decide_eq_false hn] at hp
    obtain rfl : m = s.size := by omega
    have ha' : aheadS s = s := by
      rw [ha]; exact bytes_ext (by rw [Lib.extract_data, List.drop_zero, Nat.sub_zero, Lib.size_eq, List.take_length])
    have hb' : behindS s = ⟨#[]⟩ := by
      rw [hb]; exact bytes_ext (by rw [Lib.extract_data, List.drop_eq_nil_of_le (by rw [Lib.size_eq]; omega), List.take_nil])
    have HX := Lib.hid hx; have HA := Lib.hid ha'; have HB := Lib.hid hb'; have HPo := Lib.hid hp
    clear hx ha hb hp hm hsz ha' hb'
    go_enter Tryd.func36, Tryd.ntmps36
    go_wp2_with fail
    refine (liteIndex_any s 46 w).mono ?_
    rintro e w1 ⟨rfl, rfl⟩
    rw [HX.out]
    go_wp2_with fail
    go_ret3
    exact ⟨by rw [HA.out, HB.out, HPo.out]; rfl, Below.refl _ _⟩
set_option maxHeartbeats 1000000 in
theorem strCut_any (s : ByteArray) (w : World) (hs : s.size < 4294967281) :
    Calls Tryd.prog 14 #[.string s, .string ⟨#[46]⟩] w fun e w' => e = .returned (.tuple #[.string (aheadS s), .string (behindS s), .bool (pointB s)]) ∧ Below w.heap.size w w' := by
  go_enter Tryd.func14, Tryd.ntmps14
  go_wp2_with fail
  refine (liteCut_any s w hs).mono ?_
  rintro e w1 ⟨rfl, hb⟩
  go_wp2_with fail
  go_ret3
  exact ⟨rfl, hb⟩
def KindP (w : World) (l : Bytes) (e : Ending) (w' : World) : Prop := ∃ (k : Nat) (b : Bool), e = .returned (.tuple #[.int .u8 (k : Int), .bool b]) ∧ kindF l = (if b then some k else none) ∧ Below w.heap.size w w'
theorem unsign_cons (c : UInt8) (t : Bytes) : unsign (c :: t) = if c == 43 || c == 45 then t else c :: t := rfl
set_option maxHeartbeats 2000000 in
theorem kind_any (s : ByteArray) (w : World) (hs : s.size ≤ 1000000) (h0 : 1 ≤ s.size) :
    Calls Tryd.prog 56 #[.string s] w fun e w' => KindP w s.data.toList e w' := by
  obtain ⟨x, hx⟩ : ∃ x : UInt8, s[0]'h0 = x := ⟨_, rfl⟩
  have hl : s.data.toList = x :: s.data.toList.drop 1 := by
    have h1 : 0 < s.data.toList.length := by rw [Lib.size_eq] at h0; exact h0
    have e := List.drop_eq_getElem_cons (l := s.data.toList) (i := 0) h1
    rw [List.drop_zero] at e
    rw [e]
    congr 1
  have hemp : s.toList.isEmpty = false := by rw [Lib.toList_data, hl]; rfl
  have hk : kindF s.data.toList = if s.data.toList.all letB then some 2 else numC (unsign s.data.toList) := by
    unfold kindF
    rw [numF_cut]
    by_cases ha : s.data.toList.all letB = true
    · rw [if_pos ha, if_pos ha, if_neg (by rw [hl]; simp)]
    · rw [if_neg ha, if_neg ha]
  have HK := Lib.hid hk; have HL := Lib.hid hl; have HX := Lib.hid hx
  clear hk hl
  go_enter Tryd.func56, Tryd.ntmps56
  go_wp2_with fail
  refine (letters_any s w (by omega)).mono ?_
  rintro e w1 ⟨rfl, hb⟩
  cases ha : s.data.toList.all letB
  case true =>
    have HB := Lib.hid hb; have HA := Lib.hid ha
    clear hb ha
    go_wp2_with fail
    go_ret2
    exact ⟨2, true, rfl, by rw [HK.out, HA.out]; rfl, HB.out⟩
  case false =>
    have HB := Lib.hid hb; have HA := Lib.hid ha
    clear hb ha
    have e1 : (0 : Int) < (s.size : Int) := by omega
    go_upto_region 3 with (fail)
    go_cut [19] from 12 to 19 (fun v19 wc => v19 = .bool (x == 43 || x == 45) ∧ wc = w1)
    case first =>
      by_cases h43 : x.toNat = 43
      · have t1 : ((x.toNat : Int) == 43) = true := by rw [beq_iff_eq]; omega
        have hx : x = 43 := UInt8.toNat_inj.1 h43
        subst hx
        go_wp2_with fail
        go_meet
        exact ⟨rfl, rfl⟩
      by_cases h45 : x.toNat = 45
      · have t2 : ((x.toNat : Int) == 45) = true := by rw [beq_iff_eq]; omega
        have hx : x = 45 := UInt8.toNat_inj.1 h45
        subst hx
        go_wp2_with fail
        go_meet
        exact ⟨rfl, rfl⟩
      · have t1 : ((x.toNat : Int) == 43) = false := by rw [beq_eq_false_iff_ne]; omega
        have t2 : ((x.toNat : Int) == 45) = false := by rw [beq_eq_false_iff_ne]; omega
        have t3 : (x == 43 || x == 45) = false := by
          rw [Bool.or_eq_false_iff, beq_eq_false_iff_ne, beq_eq_false_iff_ne]
          exact ⟨fun e => h43 (by rw [e]; rfl), fun e => h45 (by rw [e]; rfl)⟩
        have T3 := Lib.hid t3; clear t3
        go_wp2_with fail
        go_meet
        exact ⟨by rw [T3.out], rfl⟩
    case rest =>
      obtain ⟨rfl, rfl⟩ := hcut
      go_upto_if 19 with (fail)
      go_cut [0] from 12 to 21 (fun v0 wc => ∃ u : ByteArray, v0 = .string u ∧ u.data.toList = unsign s.data.toList ∧ u.size ≤ s.size ∧ Below w.heap.size w wc)
      case first =>
        cases hsg : (x == 43 || x == 45)
        · have HSG := Lib.hid hsg; clear hsg
          go_wp2_with fail
          go_meet
          exact ⟨s, rfl, by rw [HL.out, unsign_cons, HSG.out]; simp, Nat.le_refl _, HB.out⟩
        · have HSG := Lib.hid hsg; clear hsg
          go_wp2_with fail
          go_meet
          exact ⟨_, rfl, by rw [Lib.extract_to_end, HL.out, unsign_cons, HSG.out]; simp, by simp, HB.out⟩
      case rest =>
        obtain ⟨u, rfl, hu, hus, hbu⟩ := hcut
        have HBu := Lib.hid hbu; have HU := Lib.hid hu
        clear hu hbu
        go_wp2_with fail
        refine (strCut_any u _ (by omega)).mono ?_
        rintro e w3 ⟨rfl, hb3⟩
        have hsA : (aheadS u).size + (behindS u).size = cutN u.data.toList := by
          rw [Lib.size_eq, Lib.size_eq]; rfl
        have hbd : cutN u.data.toList ≤ u.size := by
          unfold cutN ahead behind
          rw [Lib.size_eq, List.length_take, List.length_drop]
          have := spanN_le (· == 46) u.data.toList
          omega
        have hAB : ((aheadS u) ++ (behindS u)).data.toList = ahead u.data.toList ++ behind u.data.toList := by
          rw [ByteArray.data_append, Array.toList_append]; rfl
        have hABs : ((aheadS u) ++ (behindS u)).size = (aheadS u).size + (behindS u).size := ByteArray.size_append
        have hnum : kindF s.data.toList = numC u.data.toList := by rw [HK.out, HA.out, HU.out]; rfl
        unfold numC at hnum
        have hpo : pointB u = decide (spanN (· == 46) u.data.toList < u.data.toList.length) := rfl
        have htr := trimS_nil ((aheadS u) ++ (behindS u)).data.toList digitL
        rw [all_has digitL digB digit_has, hAB] at htr
        obtain ⟨t, hT⟩ : ∃ t, Lib.trimS (aheadS u ++ behindS u).data.toList digitL = t := ⟨_, rfl⟩
        rw [hAB] at hT
        rw [hT] at htr
        obtain ⟨n, hn⟩ : ∃ n, cutN u.data.toList = n := ⟨_, rfl⟩
        rw [hn] at hsA hbd hnum
        have hsI : ((aheadS u).size : Int) + ((behindS u).size : Int) = (n : Int) := by omega
        rw [hsA] at hABs
        obtain ⟨pb, hpb⟩ : ∃ pb, pointB u = pb := ⟨_, rfl⟩
        obtain ⟨q, hq⟩ : ∃ q, aheadS u ++ behindS u = q := ⟨_, rfl⟩
        rw [hpb] at hpo ⊢
        rw [hq] at hAB hABs
        rw [← hAB] at hT
        have HB3 := Lib.hid (belowMore HBu.out hb3); have HT := Lib.hid hT; have HTR := Lib.hid htr; have HNM := Lib.hid hnum; have HPB := Lib.hid hpo
        have hsAl : (aheadS u).size ≤ 1000000 := by omega
        have hsBl : (behindS u).size ≤ 1000000 := by omega
        have hqs : q.size ≤ 1000000 := by omega
        clear hb3 hT htr hnum hpo hpb hAB hABs hn hsA
        generalize aheadS u = A at *
        generalize behindS u = B at *
        by_cases hn0 : n = 0
        · have hk0 := HNM.out
          rw [if_pos (.inl hn0)] at hk0
          have HK0 := Lib.hid hk0; clear hk0
          subst hn0
          go_wp2_with fail
          go_ret2
          exact ⟨0, false, rfl, HK0.out, HB3.out⟩
        · have hn0' : ((n : Int) == 0) = false := by rw [beq_eq_false_iff_ne]; omega
          go_wp2_with fail
          refine (Tryd.strings_Trim_laid q ⟨digitL.toArray⟩ w3 (by omega) (by decide) (plain_of_all (by decide))).mono ?_
          rintro e w4 ⟨rfl, hb4⟩
          rw [show Lib.trimS q.data.toList (⟨digitL.toArray⟩ : ByteArray).data.toList = t from HT.out]
          have HB4 := Lib.hid (belowMore HB3.out hb4); clear hb4
          cases t with
          | cons t0 t1 =>
            have hk0 := HNM.out
            have hna : ¬ (ahead u.data.toList ++ behind u.data.toList).all digB = true := fun h => by
              have := HTR.out.2 h; cases this
            rw [if_pos (.inr (by simpa using hna))] at hk0
            have HK0 := Lib.hid hk0; clear hk0 hna
            go_wp2_with fail
            go_ret2
            exact ⟨0, false, rfl, HK0.out, HB4.out⟩
          | nil =>
            have hk0 := HNM.out
            have hna : (ahead u.data.toList ++ behind u.data.toList).all digB = true := HTR.out.1 rfl
            rw [if_neg (fun h => h.elim hn0 (fun h => by rw [hna] at h; cases h))] at hk0
            cases pb with
            | true =>
              rw [if_pos (of_decide_eq_true HPB.out.symm)] at hk0
              have HK0 := Lib.hid hk0; clear hk0 hna
              go_wp2_with fail
              go_ret2
              refine ⟨1, decide (n ≤ 18), ?_, ?_, HB4.out⟩
              · show Ending.returned (.tuple #[.int .u8 1, .bool (decide ((n : Int) ≤ 18))]) = _
                rw [show decide ((n : Int) ≤ 18) = decide (n ≤ 18) from by rw [decide_eq_decide]; omega]
                rfl
              · rw [HK0.out]; simp
            | false =>
              rw [if_neg (of_decide_eq_false HPB.out.symm)] at hk0
              have HK0 := Lib.hid hk0; clear hk0 hna
              go_wp2_with fail
              go_ret2
              refine ⟨0, decide (n ≤ 10), ?_, ?_, HB4.out⟩
              · show Ending.returned (.tuple #[.int .u8 0, .bool (decide ((n : Int) ≤ 10))]) = _
                rw [show decide ((n : Int) ≤ 10) = decide (n ≤ 10) from by rw [decide_eq_decide]; omega]
                rfl
              · rw [HK0.out]; simp
end Go.Proofs.YthhmahmclkmjpaaDoor
