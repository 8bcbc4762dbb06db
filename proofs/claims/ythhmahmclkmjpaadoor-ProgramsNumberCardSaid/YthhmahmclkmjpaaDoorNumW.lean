/- Proved: programs.Number answers the plain number, or that there is none; for texts within the reach. -/
import Derived.Test.YthhmahmclkmjpaaDoorStepLaw
import Derived.Test.YthhmahmclkmjpaaDoorNumLaw2
import Derived.Test.YthhmahmclkmjpaaDoorNumO
import Derived.Test.YthhmahmclkmjpaaDoorWideI
namespace Go.Proofs.YthhmahmclkmjpaaDoor
open Go.RowKit
theorem ascii_sign : ∀ (j : Nat) b, (⟨#[43, 45]⟩ : ByteArray).data.toList[j]? = some b → b.toNat < 128 := by
  intro j b h
  have : b ∈ [43, 45] := List.mem_of_getElem? h
  simp at this
  rcases this with rfl | rfl <;> decide
def trimA (t : Bytes) : ByteArray := ⟨(Lib.trimLeftS (ahead t) [43, 45]).toArray⟩
theorem trim_any (t : Bytes) (w : World) : Calls Tryd.prog 15 #[.string (aheadS ⟨t.toArray⟩), .string ⟨#[43, 45]⟩] w fun e w' => e = .returned (.string (trimA t)) ∧ Below w.heap.size w w' :=
  (Tryd.strings_TrimLeft_laid (aheadS ⟨t.toArray⟩) ⟨#[43, 45]⟩ w (by decide) ascii_sign).mono fun e w' h => ⟨by rw [h.1]; simp [trimA, aheadS], h.2⟩
theorem digits_bytes (t : Bytes) : (trimA t ++ behindS ⟨t.toArray⟩).data.toList = digL t := by
  simp [trimA, behindS, digL]
theorem digits_size (t : Bytes) : (trimA t).size + (behindS ⟨t.toArray⟩).size = (digL t).length := by
  unfold digL trimA behindS
  show (Lib.trimLeftS (ahead t) [43, 45]).toArray.size + (behind t.toArray.toList).toArray.size = _
  simp
theorem digits_size2 (t : Bytes) : (trimA t ++ behindS ⟨t.toArray⟩).size = (digL t).length := by
  rw [Lib.size_eq, digits_bytes]
theorem behind_bytes (t : Bytes) : (behindS ⟨t.toArray⟩).data.toList = behind t := by simp [behindS]
theorem behind_digits {t : Bytes} {k : Nat} (h : kindF t = some k) (hk : k ≤ 1) : ∀ x ∈ behind t, x.toNat < 128 := fun x hx => by
  have := (digL_all h hk).1 x (by unfold digL; simp [hx])
  unfold digB at this; simp at this; omega
/-- A digit more. -/
theorem digit_step {N : Nat} {x : UInt8} (hx : digB x = true) (hN : N ≤ 100000000000000000) : ∃ d m : Nat, m = dstep N x ∧ IntKind.i32.wrap ((x.toNat : Int) - 48) = (d : Int) ∧ IntKind.i64.wrap (d : Int) = (d : Int) ∧ wrap64 (wrap64 (10 * (N : Int)) + (d : Int)) = (m : Int) ∧ x.toNat < 128 := by
  have h := hx
  unfold digB at h
  simp only [Bool.and_eq_true, decide_eq_true_eq] at h
  refine ⟨x.toNat - 48, dstep N x, rfl, ?_, ?_, ?_, by omega⟩
  · rw [IntKind.wrap_i32]; omega
  · rw [IntKind.wrap_i64]; omega
  · unfold dstep wrap64; rw [if_pos hx]; omega
def NumP (k : Nat) (t : Bytes) (w : World) (e : Ending) (w' : World) : Prop :=
  ((∃ n, numR k t = some n ∧ e = .returned (.tuple #[.int .i32 n, .int .i64 0])) ∨ numR k t = none ∧ e = .returned (.tuple #[.int .i32 0, .int .i64 13])) ∧ Below w.heap.size w w'
set_option maxRecDepth 100000 in
set_option maxHeartbeats 4000000 in
theorem number_word (k : Nat) (t : Bytes) (p : Int) (w : World) (hk : ¬ k ≤ 1) (hk2 : k < 256) :
    Calls Tryd.prog 7 #[.agg #[.int .u8 (k : Int), .string ⟨t.toArray⟩, .int .i64 p]] w (NumP k t w) := by
  have e0 : ((k : Int) != 0) = true := by simp; omega
  have e1 : ((k : Int) != 1) = true := by simp; omega
  have hr : numR k t = none := by unfold numR; rw [if_neg (fun h => hk h.1)]
  have hb := (Below.refl w.heap.size w).alloc (Nat.le_refl _) (.cells #[.int .u8 (k : Int), .string ⟨t.toArray⟩, .int .i64 p] 24)
  have Hr := Lib.hid hr; have Hb := Lib.hid hb
  clear hr hb hk hk2
  go_enter Tryd.func7, Tryd.ntmps7
  go_wp2_with fail
  go_ret2
  exact ⟨.inr ⟨Hr.out, rfl⟩, Hb.out⟩
set_option maxRecDepth 100000 in
set_option maxHeartbeats 4000000 in
theorem number_none (k : Nat) (t : Bytes) (p : Int) (w : World) (hk : k ≤ 1) (ht : t.length ≤ 140737488355328) (h1 : ¬ kindF t = some k) :
    Calls Tryd.prog 7 #[.agg #[.int .u8 (k : Int), .string ⟨t.toArray⟩, .int .i64 p]] w (NumP k t w) := by
  have he : ((((k : Int) != 0) = false)) ∨ ((((k : Int) != 0) = true) ∧ (((k : Int) != 1) = false)) := by simp; omega
  have hr : numR k t = none := by unfold numR; rw [if_neg (fun h => h1 h.2.1)]
  have ho : oneB k t = false := by rw [one_iff hk]; simp [h1]
  have hb := (Below.refl w.heap.size w).alloc (Nat.le_refl _) (.cells #[.int .u8 (k : Int), .string ⟨t.toArray⟩, .int .i64 p] 24)
  have Hr := Lib.hid hr; have Hb := Lib.hid hb; have Ho := Lib.hid ho; have Hk := Lib.hid hk; have Ht := Lib.hid ht
  clear hr hb hk ht ho h1
  rcases he with e0 | ⟨e0, e1⟩
  all_goals
    go_enter Tryd.func7, Tryd.ntmps7
    go_wp2_with fail
    refine (one_any k t p _ (by have := Hk.out; omega) Ht.out).mono ?_
    rintro e w1 ⟨rfl, hb1⟩
    rw [Ho.out]
    have HF := Lib.hid (Hb.out.trans (hb1.mono Hb.out.size))
    clear hb1
    go_wp2_with fail
    go_ret2
    exact ⟨.inr ⟨Hr.out, rfl⟩, HF.out⟩
set_option maxRecDepth 100000 in
set_option maxHeartbeats 4000000 in
theorem number_some (k : Nat) (t : Bytes) (p : Int) (w : World) (hk : k ≤ 1) (ht : t.length ≤ 140737488355328) (h1 : kindF t = some k) :
    Calls Tryd.prog 7 #[.agg #[.int .u8 (k : Int), .string ⟨t.toArray⟩, .int .i64 p]] w (NumP k t w) := by
  have he : ((((k : Int) != 0) = false)) ∨ ((((k : Int) != 0) = true) ∧ (((k : Int) != 1) = false)) := by simp; omega
  have ho : oneB k t = true := one_of_kind h1 hk
  have hb := (Below.refl w.heap.size w).alloc (Nat.le_refl _) (.cells #[.int .u8 (k : Int), .string ⟨t.toArray⟩, .int .i64 p] 24)
  have hc := heap_alloc_new w (.cells #[.int .u8 (k : Int), .string ⟨t.toArray⟩, .int .i64 p] 24)
  have hl := (num_len h1 hk).1
  have Hb := Lib.hid hb; have Ho := Lib.hid ho; have Hk := Lib.hid hk; have Ht := Lib.hid ht; have Hkd := Lib.hid h1; have Hl := Lib.hid hl; have HC := Lib.hid hc
  clear hb hk ht ho h1 hl hc
  rcases he with e0 | ⟨e0, e1⟩
  all_goals
    go_enter Tryd.func7, Tryd.ntmps7
    go_wp2_with fail
    refine (one_any k t p _ (by have := Hk.out; omega) Ht.out).mono ?_
    rintro e w1 ⟨rfl, hb1⟩
    rw [Ho.out]
    have hB := heapB HC.out hb1
    have HF := Lib.hid (Hb.out.trans (hb1.mono Hb.out.size))
    obtain ⟨c0, c1, c2, c3, -⟩ := row3 hB
    have HB := Lib.hid hB
    clear hb1 hB
    go_wp2_with fail
    refine (strCut_any _ _ (by show t.toArray.size < _; have := Hl.out; simp; omega)).mono ?_
    rintro e w2 ⟨rfl, hb2⟩
    have hB2 := heapB HB.out hb2
    have HF2 := Lib.hid (HF.out.trans (hb2.mono HF.out.size))
    clear c0 c1 c2 c3 HB HF
    obtain ⟨c0, c1, c2, c3, -⟩ := row3 hB2
    have HB2 := Lib.hid hB2
    clear hb2 hB2
    go_wp2_with fail
    refine (trim_any t _).mono ?_
    rintro e w3 ⟨rfl, hb3⟩
    have hB3 := heapB HB2.out hb3
    have HF3 := Lib.hid (HF2.out.trans (hb3.mono HF2.out.size))
    clear c0 c1 c2 c3 HB2 HF2
    obtain ⟨c0, c1, c2, c3, -⟩ := row3 hB3
    have HB3 := Lib.hid hB3
    have hcat : (9223372036854775807 < (trimA t).size + (behindS ⟨t.toArray⟩).size) = False := by
      rw [digits_size]; have := (digL_all Hkd.out Hk.out).2.1; simp; omega
    have Hit := Lib.hid (World.iter_heap w3 (trimA t ++ behindS ⟨t.toArray⟩) 0); have Hib := Lib.hid (iter_below w3 (trimA t ++ behindS ⟨t.toArray⟩) 0)
    clear hb3 hB3
    go_upto_block 0 with (fail)
    have hDl := digits_bytes t
    generalize trimA t ++ behindS ⟨t.toArray⟩ = D at *
    have hds : D.size = (digL t).length := by rw [Lib.size_eq, hDl]
    have hdm := (digL_all Hkd.out Hk.out).2.1
    have HDl := Lib.hid hDl; have Hds := Lib.hid hds; have Hdm := Lib.hid hdm
    clear hDl hds hdm hcat
    obtain ⟨N, hN⟩ : ∃ N, N = decN t := ⟨_, rfl⟩
    have HN := Lib.hid hN
    clear hN
    go_cut [7, 10] from 39 (fun v7 v10 wc => v7 = .int .i64 (N : Int) ∧ Below w3.heap.size w3 wc)
    case first =>
      go_wp2_with fail
      go_loopg [7, 10] D.size (fun g v7 v10 wx => ∃ (i M : Nat), v7 = .int .i64 (M : Int) ∧ Hid (i ≤ D.size ∧ D.size - i ≤ g ∧ M = ((digL t).take i).foldl dstep 0) ∧ wx.heap[w3.heap.size]? = some (.stringIter D i) ∧ Below w3.heap.size w3 wx)
      case atStart => exact ⟨0, 0, rfl, Lib.hid ⟨by omega, by omega, rfl⟩, Hit.out, Hib.out⟩
      case round =>
        obtain ⟨i, M, rfl, hi, hit, hb⟩ := hrel
        have HB := Lib.hid hb; have HI := Lib.hid hit
        clear hb hit
        by_cases hlt : i < D.size
        · have hnx := fun ty => run_nextB (P := Tryd.prog) wr w3.heap.size D i ty HI.out hlt
          have hil : i < (digL t).length := by rw [← Hds.out]; exact hlt
          have hdig := (digL_all Hkd.out Hk.out).1 _ (List.getElem_mem hil)
          have hMb : M ≤ 100000000000000000 := by
            have h1 := fold_bound ((digL t).take i) 0
            have h2 : ((digL t).take i).length ≤ 17 := by have := Hdm.out; rw [List.length_take]; omega
            have h3 : 10 ^ ((digL t).take i).length ≤ 10 ^ 17 := Nat.pow_le_pow_right (by omega) h2
            rw [← hi.out.2.2] at h1
            omega
          obtain ⟨d, m, hm, f1, f2, f3, hx128⟩ := digit_step hdig hMb
          have hxe : D[i] = (digL t)[i] := by
            have h1 := Lib.data_getElem? D i hlt
            rw [HDl.out, List.getElem?_eq_getElem hil] at h1
            injection h1 with h1
            exact h1.symm
          have hstep : m = ((digL t).take (i + 1)).foldl dstep 0 := by
            rw [List.take_add_one, List.getElem?_eq_getElem hil, List.foldl_append, ← hi.out.2.2, hm]; rfl
          rw [decode_ascii D i hlt (by rw [hxe]; exact hx128), hxe] at hnx
          simp only at hnx
          generalize (digL t)[i] = x at *
          have Hstep := Lib.hid hstep; have Hlt := Lib.hid hlt
          have hlt2 : w3.heap.size < wr.heap.size := (Array.getElem?_eq_some_iff.1 HI.out).1
          have HIt := Lib.hid (itTo_heap (s := D) (i := i + 1) hlt2)
          have HBt := Lib.hid (HB.out.trans (itTo_below (w := wr) (B := w3.heap.size) (s := D) (i := i + 1) (Nat.le_refl _)))
          obtain ⟨g, rfl⟩ : ∃ g, gk = g + 1 := ⟨gk - 1, by have := hi.out; omega⟩
          clear hil hdig hMb hm hx128 hxe hstep hlt2 hlt
          go_wp2_with fail
          go_roundg g
          case rel => exact ⟨i + 1, m, by rw [f3], Lib.hid ⟨Hlt.out, by have := hi.out.2.1; have := Hlt.out; omega, Hstep.out⟩, HIt.out, HBt.out⟩
          case measure => omega
        · have hnx := fun ty => run_nextB_end (P := Tryd.prog) wr w3.heap.size D i ty HI.out hlt
          have hM : M = N := by
            rw [hi.out.2.2, List.take_of_length_le (by rw [← Hds.out]; omega), HN.out]
            exact (decN_digL Hkd.out Hk.out).symm
          have HM := Lib.hid hM
          clear hM hlt
          go_wp2_with fail
          go_meet
          case rel => exact ⟨by rw [HM.out], HB.out⟩
    case rest =>
      obtain ⟨rfl, hbw⟩ := hcut
      have hB4 := heapB HB3.out hbw
      have HF4 := Lib.hid (HF3.out.trans (hbw.mono HF3.out.size))
      clear c0 c1 c2 c3 HB3 HF3
      obtain ⟨c0, c1, c2, c3, -⟩ := row3 hB4
      have HB4 := Lib.hid hB4
      clear hbw hB4 Hit Hib
      have Hit := Lib.hid (World.iter_heap wc (behindS ⟨t.toArray⟩) 0); have Hib := Lib.hid (iter_below wc (behindS ⟨t.toArray⟩) 0)
      go_upto_block 2 with (fail)
      have hbl := behind_bytes t
      have hbd := behind_digits Hkd.out Hk.out
      generalize behindS ⟨t.toArray⟩ = E at *
      have hes : E.size = (behind t).length := by rw [Lib.size_eq, hbl]
      have hel := behind_len t
      have HEl := Lib.hid hbl; have Hes := Lib.hid hes; have Hel := Lib.hid hel; have Hbd := Lib.hid hbd
      clear hbl hes hel hbd
      obtain ⟨dn, hdn⟩ : ∃ dn, dn = 10 ^ behindN t := ⟨_, rfl⟩
      have Hdn := Lib.hid hdn
      clear hdn
      go_cut [8] from 50 (fun v8 wd => v8 = .int .i64 (dn : Int) ∧ Below wc.heap.size wc wd)
      case first =>
        go_wp2_with fail
        go_loopg [8] E.size (fun g v8 wx => ∃ (i M : Nat), v8 = .int .i64 (M : Int) ∧ Hid (i ≤ E.size ∧ E.size - i ≤ g ∧ M = 10 ^ i) ∧ wx.heap[wc.heap.size]? = some (.stringIter E i) ∧ Below wc.heap.size wc wx)
        case atStart => exact ⟨0, 1, rfl, Lib.hid ⟨by omega, by omega, rfl⟩, Hit.out, Hib.out⟩
        case round =>
          obtain ⟨i, M, rfl, hi, hit, hb⟩ := hrel
          have HB := Lib.hid hb; have HI := Lib.hid hit
          clear hb hit
          by_cases hlt : i < E.size
          · have hnx := fun ty => run_nextB (P := Tryd.prog) wr wc.heap.size E i ty HI.out hlt
            have hil : i < (behind t).length := by rw [← Hes.out]; exact hlt
            have hx128 := Hbd.out _ (List.getElem_mem hil)
            have hMb : M ≤ 100000000000000000 := by
              have h3 : 10 ^ i ≤ 10 ^ 17 := Nat.pow_le_pow_right (by omega) (by have := Hdm.out; have := Hel.out; omega)
              rw [hi.out.2.2]
              omega
            obtain ⟨m, hm, f3⟩ : ∃ m : Nat, m = 10 ^ (i + 1) ∧ wrap64 ((M : Int) * 10) = (m : Int) := ⟨M * 10, by rw [hi.out.2.2, Nat.pow_succ], by unfold wrap64; omega⟩
            have hxe : E[i] = (behind t)[i] := by
              have h1 := Lib.data_getElem? E i hlt
              rw [HEl.out, List.getElem?_eq_getElem hil] at h1
              injection h1 with h1
              exact h1.symm
            rw [decode_ascii E i hlt (by rw [hxe]; exact hx128), hxe] at hnx
            simp only at hnx
            generalize (behind t)[i] = x at *
            have Hstep := Lib.hid hm; have Hlt := Lib.hid hlt
            have hlt2 : wc.heap.size < wr.heap.size := (Array.getElem?_eq_some_iff.1 HI.out).1
            have HIt := Lib.hid (itTo_heap (s := E) (i := i + 1) hlt2)
            have HBt := Lib.hid (HB.out.trans (itTo_below (w := wr) (B := wc.heap.size) (s := E) (i := i + 1) (Nat.le_refl _)))
            obtain ⟨g, rfl⟩ : ∃ g, gk = g + 1 := ⟨gk - 1, by have := hi.out; omega⟩
            clear hil hMb hm hx128 hxe hlt2 hlt
            go_wp2_with fail
            go_roundg g
            case rel => exact ⟨i + 1, m, by rw [f3], Lib.hid ⟨Hlt.out, by have := hi.out.2.1; have := Hlt.out; omega, Hstep.out⟩, HIt.out, HBt.out⟩
            case measure => omega
          · have hnx := fun ty => run_nextB_end (P := Tryd.prog) wr wc.heap.size E i ty HI.out hlt
            have hM : M = dn := by
              rw [hi.out.2.2, Hdn.out, behindN_eq, ← Hes.out]
              have := hi.out.1
              congr 1; omega
            have HM := Lib.hid hM
            clear hM hlt
            go_wp2_with fail
            go_meet
            case rel => exact ⟨by rw [HM.out], HB.out⟩
      case rest =>
        obtain ⟨rfl, hbw⟩ := hcut
        have hB5 := heapB HB4.out hbw
        have HF5 := Lib.hid (HF4.out.trans (hbw.mono HF4.out.size))
        clear c0 c1 c2 c3 HB4 HF4
        obtain ⟨c0, c1, c2, c3, -⟩ := row3 hB5
        have HB5 := Lib.hid hB5
        clear hbw hB5 Hit Hib
        go_wp2_with fail
        refine (Tryd.strings_HasPrefix ⟨t.toArray⟩ ⟨#[45]⟩ _).mono ?_
        rintro e w6 ⟨rfl, rfl⟩
        rw [show Lib.hasPrefix (⟨t.toArray⟩ : ByteArray).data.toList (⟨#[45]⟩ : ByteArray).data.toList = decide (t.head? = some 45) from by rw [← prefix_minus]]
        have hNb : N < 1000000000000000000 := by
          have h1 := fold_bound (digL t) 0
          have h3 : 10 ^ (digL t).length ≤ 10 ^ 18 := Nat.pow_le_pow_right (by omega) Hdm.out
          rw [← decN_digL Hkd.out Hk.out, ← HN.out] at h1
          omega
        obtain ⟨v, hv⟩ : ∃ v : Int, v = if t.head? = some 45 then -(N : Int) else N := ⟨_, rfl⟩
        have hvb : -1000000000000000000 < v ∧ v < 1000000000000000000 := by rw [hv]; split <;> omega
        have hvx : numV k t = if k = 1 then (2 * (v * 65536) + (dn : Int)) / (2 * (dn : Int)) else v := by
          unfold numV
          rw [hv, HN.out, Hdn.out]
          push_cast
          rfl
        have hdb : 1 ≤ dn ∧ dn ≤ 1000000000000000000 := by
          rw [Hdn.out, behindN_eq]
          have h3 : 10 ^ (behind t).length ≤ 10 ^ 18 := Nat.pow_le_pow_right (by omega) (by have := Hdm.out; have := Hel.out; omega)
          have h4 : 0 < 10 ^ (behind t).length := Nat.pow_pos (by omega)
          omega
        have Hvb := Lib.hid hvb; have Hvx := Lib.hid hvx; have Hdb := Lib.hid hdb
        have hsg : (decide (t.head? = some 45) = true ∧ wrap64 (-(N : Int)) = v) ∨ (decide (t.head? = some 45) = false ∧ (N : Int) = v) := by
          by_cases h : t.head? = some 45
          · left; rw [hv, if_pos h]; exact ⟨by simp [h], by unfold wrap64; omega⟩
          · right; rw [hv, if_neg h]; exact ⟨by simp [h], rfl⟩
        clear hNb hvb hvx hdb hv
        have hk01 : k = 0 ∨ k = 1 := by have := Hk.out; omega
        generalize decide (t.head? = some 45) = sg at *
        have hgoal : sg = true ∧ wrap64 (-(N : Int)) = v ∨ sg = false ∧ (N : Int) = v := hsg
        clear hsg
        rcases hk01 with hk0 | hk1
        · try (exfalso; rw [hk0] at e0; exact absurd e0 (by decide))
          all_goals
            have e9 : ((k : Int) == 1) = false := by simp; omega
            rcases hgoal with ⟨rfl, hw⟩ | ⟨rfl, hw⟩
            · obtain ⟨X, hX⟩ : ∃ X, X = v := ⟨_, rfl⟩
              have HX : Hid (numV k t = X) := Lib.hid (by rw [Hvx.out, if_neg (by omega), hX])
              have HFF := HF5
              have hXb : -1000000000000000000 < X ∧ X < 1000000000000000000 := by rw [hX]; exact Hvb.out
              rw [← hX] at hw
              clear hX hk0
              by_cases hin : -2147483648 ≤ X ∧ X ≤ 2147483647
              · have u1 : IntKind.i32.wrap X = X := by rw [IntKind.wrap_i32]; omega
                have u2 : IntKind.i64.wrap X = X := by rw [IntKind.wrap_i64]; omega
                have hr : numR k t = some X := by unfold numR; rw [if_pos ⟨Hk.out, Hkd.out, by rw [HX.out]; exact hin⟩, HX.out]
                have Hr := Lib.hid hr
                clear hr hin
                go_wp2_with fail
                go_ret2
                exact ⟨.inl ⟨X, Hr.out, rfl⟩, HFF.out⟩
              · obtain ⟨u, hu⟩ : ∃ u, IntKind.i32.wrap X = u := ⟨_, rfl⟩
                have u2 : IntKind.i64.wrap u = u := by rw [← hu, IntKind.wrap_i64, IntKind.wrap_i32]; omega
                have u3 : (X != u) = true := by rw [IntKind.wrap_i32] at hu; simp; omega
                have hr : numR k t = none := by unfold numR; rw [if_neg (fun h => hin (by rw [← HX.out]; exact h.2.2))]
                have Hr := Lib.hid hr
                clear hr hin
                go_wp2_with fail
                go_ret2
                exact ⟨.inr ⟨Hr.out, rfl⟩, HFF.out⟩
            · obtain ⟨X, hX⟩ : ∃ X, X = (N : Int) := ⟨_, rfl⟩
              have HX : Hid (numV k t = X) := Lib.hid (by rw [Hvx.out, if_neg (by omega), hX, hw])
              have HFF := HF5
              have hXb : -1000000000000000000 < X ∧ X < 1000000000000000000 := by rw [hX, hw]; exact Hvb.out
              rw [← hX]
              clear hX hk0 hw
              by_cases hin : -2147483648 ≤ X ∧ X ≤ 2147483647
              · have u1 : IntKind.i32.wrap X = X := by rw [IntKind.wrap_i32]; omega
                have u2 : IntKind.i64.wrap X = X := by rw [IntKind.wrap_i64]; omega
                have hr : numR k t = some X := by unfold numR; rw [if_pos ⟨Hk.out, Hkd.out, by rw [HX.out]; exact hin⟩, HX.out]
                have Hr := Lib.hid hr
                clear hr hin
                go_wp2_with fail
                go_ret2
                exact ⟨.inl ⟨X, Hr.out, rfl⟩, HFF.out⟩
              · obtain ⟨u, hu⟩ : ∃ u, IntKind.i32.wrap X = u := ⟨_, rfl⟩
                have u2 : IntKind.i64.wrap u = u := by rw [← hu, IntKind.wrap_i64, IntKind.wrap_i32]; omega
                have u3 : (X != u) = true := by rw [IntKind.wrap_i32] at hu; simp; omega
                have hr : numR k t = none := by unfold numR; rw [if_neg (fun h => hin (by rw [← HX.out]; exact h.2.2))]
                have Hr := Lib.hid hr
                clear hr hin
                go_wp2_with fail
                go_ret2
                exact ⟨.inr ⟨Hr.out, rfl⟩, HFF.out⟩
        · try (exfalso; rw [hk1] at e0; exact absurd e0 (by decide))
          all_goals
            have e9 : ((k : Int) == 1) = true := by simp; omega
            have hvv := Hvx.out
            rw [if_pos hk1] at hvv
            have Hvv := Lib.hid hvv
            clear hvv hk1
            rcases hgoal with ⟨rfl, hw⟩ | ⟨rfl, hw⟩
            · go_wp2_with fail
              refine (wMul_any v 65536 (by have := Hvb.out; omega) (by have := Hvb.out; omega) (by decide) (by decide) (by have := Hvb.out; omega) (by have := Hvb.out; omega) _).mono ?_
              rintro e w7 ⟨h7, l7, rfl, hl7, hv7, g0, g1, hb7⟩
              have HF6 := Lib.hid (HF5.out.trans (hb7.mono HF5.out.size))
              have H7 := Lib.hid (And.intro hl7 (And.intro hv7 (And.intro g0 g1)))
              clear hb7 hl7 hv7 g0 g1 c0 c1 c2 c3
              go_wp2_with fail
              refine (wNear_any h7 l7 dn H7.out.2.2.1 H7.out.2.2.2 H7.out.1 Hdb.out.1 (by have := Hdb.out.2; omega) _).mono ?_
              rintro e w8 ⟨qh, ql, rfl, hql, hqv, g0, g1, hb8⟩
              have HF7 := Lib.hid (HF6.out.trans (hb8.mono HF6.out.size))
              rw [H7.out.2.1] at hqv
              have HF8 := Lib.hid (HF7.out.alloc HF7.out.size (.cells #[.int .i64 qh, .int .u64 (ql : Int)] 48))
              have HQ := Lib.hid hqv; have Hql := Lib.hid hql
              clear hb8 hql hqv g0 g1
              go_wp2_with fail
              refine (wInt_any qh ql Hql.out _).mono ?_
              rintro e w9 ⟨rfl, hb9⟩
              have HFF := Lib.hid (HF8.out.trans (hb9.mono HF8.out.size))
              rw [HQ.out]
              clear hb9
              obtain ⟨X, hX⟩ : ∃ X, X = (2 * (v * 65536) + (dn : Int)) / (2 * (dn : Int)) := ⟨_, rfl⟩
              rw [← hX]
              have HX : Hid (numV k t = X) := Lib.hid (by rw [Hvv.out, ← hX])
              clear hX
              by_cases hfit : -9223372036854775808 ≤ X ∧ X ≤ 9223372036854775807
              · rw [show intW X = (X, true) by unfold intW; rw [if_pos hfit]]
                by_cases hin : -2147483648 ≤ X ∧ X ≤ 2147483647
                · have u1 : IntKind.i32.wrap X = X := by rw [IntKind.wrap_i32]; omega
                  have u2 : IntKind.i64.wrap X = X := by rw [IntKind.wrap_i64]; omega
                  have hr : numR k t = some X := by unfold numR; rw [if_pos ⟨Hk.out, Hkd.out, by rw [HX.out]; exact hin⟩, HX.out]
                  have Hr := Lib.hid hr
                  clear hr hin
                  go_wp2_with fail
                  go_ret2
                  exact ⟨.inl ⟨X, Hr.out, rfl⟩, HFF.out⟩
                · obtain ⟨u, hu⟩ : ∃ u, IntKind.i32.wrap X = u := ⟨_, rfl⟩
                  have u2 : IntKind.i64.wrap u = u := by rw [← hu, IntKind.wrap_i64, IntKind.wrap_i32]; omega
                  have u3 : (X != u) = true := by rw [IntKind.wrap_i32] at hu; simp; omega
                  have hr : numR k t = none := by unfold numR; rw [if_neg (fun h => hin (by rw [← HX.out]; exact h.2.2))]
                  have Hr := Lib.hid hr
                  clear hr hin
                  go_wp2_with fail
                  go_ret2
                  exact ⟨.inr ⟨Hr.out, rfl⟩, HFF.out⟩
              · rw [show intW X = (0, false) by unfold intW; rw [if_neg hfit]]
                have hr : numR k t = none := by unfold numR; rw [if_neg (fun h => hfit (by have h2 := h.2.2; rw [HX.out] at h2; omega))]
                have Hr := Lib.hid hr
                clear hr hfit
                go_wp2_with fail
                go_ret2
                exact ⟨.inr ⟨Hr.out, rfl⟩, HFF.out⟩
            · subst hw
              go_wp2_with fail
              refine (wMul_any (N : Int) 65536 (by have := Hvb.out; omega) (by have := Hvb.out; omega) (by decide) (by decide) (by have := Hvb.out; omega) (by have := Hvb.out; omega) _).mono ?_
              rintro e w7 ⟨h7, l7, rfl, hl7, hv7, g0, g1, hb7⟩
              have HF6 := Lib.hid (HF5.out.trans (hb7.mono HF5.out.size))
              have H7 := Lib.hid (And.intro hl7 (And.intro hv7 (And.intro g0 g1)))
              clear hb7 hl7 hv7 g0 g1 c0 c1 c2 c3
              go_wp2_with fail
              refine (wNear_any h7 l7 dn H7.out.2.2.1 H7.out.2.2.2 H7.out.1 Hdb.out.1 (by have := Hdb.out.2; omega) _).mono ?_
              rintro e w8 ⟨qh, ql, rfl, hql, hqv, g0, g1, hb8⟩
              have HF7 := Lib.hid (HF6.out.trans (hb8.mono HF6.out.size))
              rw [H7.out.2.1] at hqv
              have HF8 := Lib.hid (HF7.out.alloc HF7.out.size (.cells #[.int .i64 qh, .int .u64 (ql : Int)] 48))
              have HQ := Lib.hid hqv; have Hql := Lib.hid hql
              clear hb8 hql hqv g0 g1
              go_wp2_with fail
              refine (wInt_any qh ql Hql.out _).mono ?_
              rintro e w9 ⟨rfl, hb9⟩
              have HFF := Lib.hid (HF8.out.trans (hb9.mono HF8.out.size))
              rw [HQ.out]
              clear hb9
              obtain ⟨X, hX⟩ : ∃ X, X = (2 * ((N : Int) * 65536) + (dn : Int)) / (2 * (dn : Int)) := ⟨_, rfl⟩
              rw [← hX]
              have HX : Hid (numV k t = X) := Lib.hid (by rw [Hvv.out, ← hX])
              clear hX
              by_cases hfit : -9223372036854775808 ≤ X ∧ X ≤ 9223372036854775807
              · rw [show intW X = (X, true) by unfold intW; rw [if_pos hfit]]
                by_cases hin : -2147483648 ≤ X ∧ X ≤ 2147483647
                · have u1 : IntKind.i32.wrap X = X := by rw [IntKind.wrap_i32]; omega
                  have u2 : IntKind.i64.wrap X = X := by rw [IntKind.wrap_i64]; omega
                  have hr : numR k t = some X := by unfold numR; rw [if_pos ⟨Hk.out, Hkd.out, by rw [HX.out]; exact hin⟩, HX.out]
                  have Hr := Lib.hid hr
                  clear hr hin
                  go_wp2_with fail
                  go_ret2
                  exact ⟨.inl ⟨X, Hr.out, rfl⟩, HFF.out⟩
                · obtain ⟨u, hu⟩ : ∃ u, IntKind.i32.wrap X = u := ⟨_, rfl⟩
                  have u2 : IntKind.i64.wrap u = u := by rw [← hu, IntKind.wrap_i64, IntKind.wrap_i32]; omega
                  have u3 : (X != u) = true := by rw [IntKind.wrap_i32] at hu; simp; omega
                  have hr : numR k t = none := by unfold numR; rw [if_neg (fun h => hin (by rw [← HX.out]; exact h.2.2))]
                  have Hr := Lib.hid hr
                  clear hr hin
                  go_wp2_with fail
                  go_ret2
                  exact ⟨.inr ⟨Hr.out, rfl⟩, HFF.out⟩
              · rw [show intW X = (0, false) by unfold intW; rw [if_neg hfit]]
                have hr : numR k t = none := by unfold numR; rw [if_neg (fun h => hfit (by have h2 := h.2.2; rw [HX.out] at h2; omega))]
                have Hr := Lib.hid hr
                clear hr hfit
                go_wp2_with fail
                go_ret2
                exact ⟨.inr ⟨Hr.out, rfl⟩, HFF.out⟩
theorem number_any (k : Nat) (t : Bytes) (p : Int) (w : World) (hk : k < 256) (ht : t.length ≤ 140737488355328) :
    Calls Tryd.prog 7 #[.agg #[.int .u8 (k : Int), .string ⟨t.toArray⟩, .int .i64 p]] w (NumP k t w) := by
  by_cases h1 : k ≤ 1
  · by_cases h2 : kindF t = some k
    · exact number_some k t p w h1 ht h2
    · exact number_none k t p w h1 ht h2
  · exact number_word k t p w h1 hk
end Go.Proofs.YthhmahmclkmjpaaDoor
