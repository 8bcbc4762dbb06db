/- Proved: the function TokensRemark answers true and changes no old memory; for all texts. -/
import Derived.Test.YtjbfcleflokmoaaDoorAgainW
namespace Go.Proofs.YtjbfcleflokmoaaDoor
open Go.RowKit
theorem lexS_pos : ∀ (n : Nat) (l : Bytes) (pos : Nat), l.length ≤ n → ∀ t ∈ (lexS l pos).1, t.pos ≤ pos + l.length := by
  intro n
  induction n with
  | zero => intro l pos hl t ht; obtain rfl := List.eq_nil_of_length_eq_zero (Nat.le_zero.1 hl); simp [lexS_nil] at ht
  | succ n ih =>
    intro l pos hl t ht
    cases l with
    | nil => simp [lexS_nil] at ht
    | cons c r =>
      cases hx : lex1 (c :: r) with
      | bad => rw [lexS_bad hx] at ht; simp at ht
      | skip m =>
        obtain ⟨h1, h2⟩ := lex1_skip hx
        rw [lexS_skip hx (by simp)] at ht
        have := ih _ _ (by simp only [List.length_drop]; omega) t ht
        simp only [List.length_drop] at this; omega
      | tok k m =>
        obtain ⟨h1, h2⟩ := lex1_tok hx
        rw [lexS_tok hx] at ht
        rcases List.mem_cons.1 ht with rfl | ht
        · simp
        · have := ih _ _ (by simp only [List.length_drop]; omega) t ht
          simp only [List.length_drop] at this; omega
theorem lexS_count (l : Bytes) (pos : Nat) : (lexS l pos).1.length ≤ 2 * l.length := by
  have h := (lexS_good l.length l pos (Nat.le_refl _)).2
  have : (lexS l pos).1.length ≤ ((lexS l pos).1.map (fun t => t.t.length + 1)).sum := by
    generalize (lexS l pos).1 = T
    induction T with
    | nil => simp
    | cons t T ih => simp only [List.length_cons, List.map_cons, List.sum_cons]; omega
  omega
/-- What a text's tokens are, short. -/
theorem tokRes_facts {l : Bytes} (h : l.length ≤ 2000) : (tokRes l).1.length ≤ 4000 ∧ (∀ t ∈ (tokRes l).1, t.pos ≤ l.length) ∧ (tokRes l).2.1 ≤ l.length ∧ ((tokRes l).2.2 = 0 ∨ (tokRes l).2.2 = 13) := by
  rw [tokRes_small (by omega)]
  have h1 := lexS_count l 0
  have h2 := lexS_pos l.length l 0 (Nat.le_refl _)
  have h3 := lexS_le l.length l 0 (Nat.le_refl _)
  split
  · refine ⟨by simp only; omega, fun t ht => ?_, Nat.le_refl _, .inl rfl⟩
    have := h2 t ht; omega
  · refine ⟨by simp, fun t ht => by simp at ht, by simp only; omega, .inr rfl⟩
theorem tokRes_remark (R T : Bytes) (hR : ∀ x ∈ R, eolB x = false) (h : R.length + T.length ≤ 2000) : tokRes (37 :: (R ++ 10 :: T)) = ((tokRes T).1.map (shift (R.length + 2)), (tokRes T).2.1 + (R.length + 2), (tokRes T).2.2) := by
  rw [tokRes_small (l := T) (by omega), tokRes_small (by simp; omega), lexS_remark R T hR]
  by_cases hok : (lexS T 0).2.2 = true
  · rw [if_pos hok, if_pos hok]
    simp only [Prod.mk.injEq, List.length_cons, List.length_append, and_true, true_and]; omega
  · rw [if_neg hok, if_neg hok]; rfl
set_option maxRecDepth 100000 in
set_option maxHeartbeats 4000000 in
theorem remark_walk (s r : ByteArray) (w : World) (hs : s.size ≤ 140737488355328) (hr : r.size ≤ 140737488355328) :
    Calls Tryd.prog 6 #[.string s, .string r] w fun e w' => e = .returned (.bool true) ∧ Below w.heap.size w w' := by
  go_enter Tryd.func6, Tryd.ntmps6
  by_cases hbig : 2000 < s.size + r.size
  · have e1 : (2000 : Int) < (s.size : Int) + (r.size : Int) := by omega
    go_wp2_with fail
    refine (lives16_any w).mono ?_
    rintro e w1 ⟨rfl, hb⟩
    go_wp2_with fail
    go_ret
    exact ⟨rfl, hb⟩
  have e1 : ¬ (2000 : Int) < (s.size : Int) + (r.size : Int) := by omega
  go_wp2_with fail
  go_loop [5] (fun v5 => ∃ k : Nat, k ≤ r.size ∧ v5 = .int .i64 k ∧ (r.data.toList.take k).all (fun c => !eolB c) = true) (fun v5 => r.size - (intOf v5).toNat)
  case atStart => exact ⟨0, by omega, rfl, rfl⟩
  case round =>
    obtain ⟨k, hk, rfl, hall⟩ := hrel
    by_cases hlt : k < r.size
    · have hsn := all_snoc (p := fun c => !eolB c) hlt
      obtain ⟨y, hy⟩ : ∃ y : UInt8, r[k]'hlt = y := ⟨_, rfl⟩
      rw [hall, hy] at hsn
      have HS := Lib.hid hsn; have HA := Lib.hid hall
      clear hsn hall
      by_cases h10 : y = 10
      · have t1 : ((y.toNat : Int) == 10) = true := by rw [h10]; rfl
        go_wp2_with fail
        refine (lives16_any w).mono ?_
        rintro e w1 ⟨rfl, hb⟩
        go_wp2_with fail
        go_ret
        exact ⟨rfl, hb⟩
      have t1 := u8ne (n := 10) (by decide) h10
      by_cases h13 : y = 13
      · have t2 : ((y.toNat : Int) == 13) = true := by rw [h13]; rfl
        simp only [Int.cast_ofNat_Int] at t1
        go_wp2_with fail
        refine (lives16_any w).mono ?_
        rintro e w1 ⟨rfl, hb⟩
        go_wp2_with fail
        go_ret
        exact ⟨rfl, hb⟩
      · have t2 := u8ne (n := 13) (by decide) h13
        simp only [Int.cast_ofNat_Int] at t1 t2
        have he : eolB y = false := by simp [eolB, h10, h13]
        have HE := Lib.hid he; clear he h10 h13
        go_wp2_with fail
        go_round
        case rel => exact ⟨k + 1, by omega, by go_num, by rw [HS.out, HE.out]; rfl⟩
        case measure => simp [intOf]; omega
    · obtain rfl : k = r.size := by omega
      rw [take_all] at hall
      have hsl : s.data.toList.length = s.size := (Lib.size_eq s).symm
      have hrl : r.data.toList.length = r.size := (Lib.size_eq r).symm
      have hR2 := tokRes_remark r.data.toList s.data.toList (fun x hx => by simpa using List.all_eq_true.1 hall x hx) (by omega)
      obtain ⟨f1, f2, f3, f4⟩ := tokRes_facts (l := s.data.toList) (by omega)
      obtain ⟨⟨T, n, e⟩, hR⟩ : ∃ R, tokRes s.data.toList = R := ⟨_, rfl⟩
      rw [hR] at f1 f2 f3 f4 hR2
      simp only at f1 f2 f3 f4 hR2
      rw [hrl] at hR2
      rw [hsl] at f2 f3
      obtain ⟨m, hm⟩ : ∃ m, T.length = m := ⟨_, rfl⟩
      rw [hm] at f1
      obtain ⟨N2, hN2⟩ : ∃ N2, n + (r.size + 2) = N2 := ⟨_, rfl⟩
      rw [hN2] at hR2
      have hne : ((N2 : Int) != (n : Int) + (r.size : Int) + 2) = false := by rw [← Bool.not_eq_true, bne_iff_ne, Decidable.not_not]; omega
      have hee : ((e : Int) != (e : Int)) = false := by simp
      have HR := Lib.hid hR; have HR2 := Lib.hid hR2; have HM := Lib.hid hm; have HF := Lib.hid f2; have HNE := Lib.hid hne; have HEE := Lib.hid hee
      clear hR hR2 hm f2 hall hsl hrl hN2 hne hee
      go_wp2_with fail
      refine (tokOf_gen s w T n e m hs HR.out HM.out).mono ?_
      rintro en w1 ⟨A, c, rfl, ho, hb⟩
      have HO := Lib.hid (rd_of ho); have HB := Lib.hid hb
      clear ho hb
      go_wp2_with fail
      obtain ⟨q, hq⟩ : ∃ q : ByteArray, (⟨#[37]⟩ : ByteArray) ++ r ++ ⟨#[10]⟩ ++ s = q := ⟨_, rfl⟩
      have hql : q.data.toList = 37 :: (r.data.toList ++ 10 :: s.data.toList) := by
        rw [← hq]; simp [ByteArray.data_append]
      have hqs : q.size ≤ 140737488355328 := by
        rw [← hq]; simp only [ByteArray.size_append]; show 1 + r.size + 1 + s.size ≤ _; omega
      rw [hq]
      have HQ : Hid (tokRes q.data.toList = (T.map (shift (r.size + 2)), N2, e)) := Lib.hid (by rw [hql]; exact HR2.out)
      clear hq hql
      have HM2 : Hid ((T.map (shift (r.size + 2))).length = m) := Lib.hid (by rw [List.length_map]; exact HM.out)
      refine (tokOf_gen q w1 (T.map (shift (r.size + 2))) N2 e m hqs HQ.out HM2.out).mono ?_
      rintro en w2 ⟨A2, c2, rfl, ho2, hb2⟩
      have HO1 := Lib.hid (HO.out.below hb2); have HO2 := Lib.hid (rd_of ho2); have HB2 := Lib.hid (belowMore HB.out hb2)
      clear ho2 hb2
      have hne := HNE.out; have hee := HEE.out
      go_wp2_with fail
      refine (alike_eq A A2 c c2 m T _ w2 HO1.out HO2.out HM.out (by rw [List.map_map]; rfl) (by omega)).mono ?_
      rintro en w3 ⟨rfl, hb3⟩
      have HP1 := Lib.hid (HO1.out.below hb3); have HP2 := Lib.hid (HO2.out.below hb3); have HB3 := Lib.hid (belowMore HB2.out hb3)
      clear hb3 hne hee
      go_wp2_with fail
      go_loopw [12] (fun v12 wr => ∃ k : Nat, k ≤ m ∧ v12 = .int .i64 k ∧ Below w3.heap.size w3 wr) (fun v12 _ => m - (intOf v12).toNat)
      case atStart => exact ⟨0, by omega, rfl, Below.refl _ _⟩
      case round =>
        obtain ⟨k, hk, rfl, hb⟩ := hrel
        by_cases hkm : k < m
        · have hkt : k < T.length := by rw [HM.out]; exact hkm
          have hku : k < (T.map (shift (r.size + 2))).length := by rw [HM2.out]; exact hkm
          obtain ⟨b1, o1, rfl, hz1, c0, c1, c2'⟩ := (HP1.out.below hb).tok (List.getElem?_eq_getElem hkt)
          obtain ⟨b2, o2, rfl, hz2, d0, d1, d2⟩ := (HP2.out.below hb).tok (List.getElem?_eq_getElem hku)
          rw [List.getElem_map] at d0 d1 d2
          have hpos := HF.out _ (List.getElem_mem hkt)
          generalize T[k] = t at *
          obtain ⟨kk, tt, pp⟩ := t
          simp only [shift] at c0 c1 c2' d0 d1 d2 hpos
          have HBe := Lib.hid hb; clear hb
          obtain ⟨u, hu⟩ : ∃ u : Nat, pp + (r.size + 2) = u := ⟨_, rfl⟩
          rw [hu] at d2
          have hbu : ((u : Int) != (pp : Int) + (r.size : Int) + 2) = false := by rw [← Bool.not_eq_true, bne_iff_ne, Decidable.not_not]; omega
          have hii : (k : Int) < (m : Int) := by omega
          have hi0 : (0 : Int) ≤ (k : Int) := by omega
          have j1 : IntKind.i64.wrap ((pp : Int) + (r.size : Int)) = (pp : Int) + (r.size : Int) := IntWalk.i64_in _ (by omega)
          have j2 : IntKind.i64.wrap ((pp : Int) + (r.size : Int) + 2) = (pp : Int) + (r.size : Int) + 2 := IntWalk.i64_in _ (by omega)
          clear hu c0 c1 d0 d1
          go_wp2_with (go_quiet (fail))
          go_roundw
          case rel => exact ⟨k + 1, by omega, by go_num, below_drewN HBe.out _⟩
          case measure => simp [intOf]; omega
        · obtain rfl : k = m := by omega
          have HBe := Lib.hid hb; clear hb
          go_wp2_with fail
          refine (lives16_any _).mono ?_
          rintro en w4 ⟨rfl, hb4⟩
          go_wp2_with fail
          go_ret
          exact ⟨rfl, belowMore HB3.out (belowMore HBe.out hb4)⟩
end Go.Proofs.YtjbfcleflokmoaaDoor
