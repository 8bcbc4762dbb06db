/- Proved: the function TokensAgain answers true and changes no old memory; for every text and byte. -/
import Derived.Test.YtjbfcleflokmoaaDoorLives16
import Derived.Test.YtjbfcleflokmoaaDoorTokLaw2
namespace Go.Proofs.YtjbfcleflokmoaaDoor
open Go.RowKit
theorem tokOf_gen (s : ByteArray) (w : World) (T : List Tok) (n e m : Nat) (hs : s.size ≤ 140737488355328) (hR : tokRes s.data.toList = (T, n, e)) (hm : T.length = m) :
    Calls Tryd.prog 8 #[.string s] w fun en w' => ∃ A c, en = .returned (.tuple #[.slice A m c, .int .i64 (n : Int), .int .i64 (e : Int)]) ∧ w'.ownsRow w.heap.size 47 3 (.slice A m c) m (tokCells T) ∧ Below w.heap.size w w' := by
  subst hm
  refine (tokOf_any s w hs).mono ?_
  rintro en w' ⟨v, rfl, ho, hb⟩
  rw [hR] at ho ⊢
  obtain ⟨A, c, rfl, -, -, -⟩ := ownsRow_form ho
  exact ⟨A, c, rfl, ho, hb⟩
theorem tokRes_small {l : Bytes} (h : l.length ≤ 4096) : tokRes l = if (lexS l 0).2.2 = true then ((lexS l 0).1, l.length, 0) else ([], (lexS l 0).2.1, 13) := by
  unfold tokRes
  rw [if_neg (by omega)]
  split
  · rename_i h1
    have := lexS_end l.length l 0 (Nat.le_refl _) h1
    rw [Nat.zero_add] at this
    rw [this]
  · rfl
theorem spread_snoc (w : UInt8) (T : List Tok) (k : Nat) (h : k < T.length) : spread w (T.take (k + 1)) = spread w (T.take k) ++ w :: T[k].t := by
  unfold spread; rw [List.take_succ_eq_append_getElem h, List.flatMap_append, List.flatMap_cons, List.flatMap_nil, List.append_nil]
theorem spread_le (w : UInt8) (T : List Tok) (k : Nat) : (spread w (T.take k)).length ≤ (spread w T).length := by
  conv => rhs; rw [← List.take_append_drop k T]
  unfold spread; rw [List.flatMap_append, List.length_append]; omega
theorem white_slice (i : Nat) (h : i < 6) : ∃ q : ByteArray, q.data.toList = [whiteL[i]'h] ∧ ∀ w, (Instr.slice 9 (.string ⟨#[0, 9, 10, 12, 13, 32]⟩) (some (.int .i64 (i : Int))) (some (.int .i64 ((i : Int) + 1))) none).run Tryd.prog w = .ok (.string q) w :=
  ⟨(⟨#[0, 9, 10, 12, 13, 32]⟩ : ByteArray).extract i (i + 1), by
    have : ∀ j : Fin 6, ((⟨#[0, 9, 10, 12, 13, 32]⟩ : ByteArray).extract j.val (j.val + 1)).data.toList = [whiteL[j.val]'j.isLt] := by decide
    exact this ⟨i, h⟩, fun w => by
    rw [run_slice_string w 9 ⟨#[0, 9, 10, 12, 13, 32]⟩ .i64 .i64 i ((i : Int) + 1) (by kernel_rfl) (by omega) (by omega) (by show (i : Int) + 1 ≤ 6; omega)]
    rw [show ((i : Int) + 1).toNat = i + 1 by omega, Int.toNat_natCast]⟩
theorem white_get (i : Nat) (h : i < 6) : whtB (whiteL[i]'h) = true := by
  have : ∀ j : Fin 6, whtB (whiteL[j.val]'j.isLt) = true := by decide
  exact this ⟨i, h⟩
set_option maxRecDepth 100000 in
set_option maxHeartbeats 4000000 in
theorem again_walk (s : ByteArray) (wh : Nat) (w : World) (hs : s.size ≤ 140737488355328) (hwh : wh < 256) :
    Calls Tryd.prog 4 #[.string s, .int .u8 (wh : Int)] w fun e w' => e = .returned (.bool true) ∧ Below w.heap.size w w' := by
  go_enter Tryd.func4, Tryd.ntmps4
  by_cases hbig : 2000 < s.size
  · have e1 : (2000 : Int) < (s.size : Int) := by omega
    go_wp2_with fail
    refine (lives16_any w).mono ?_
    rintro e w1 ⟨rfl, hb⟩
    go_wp2_with fail
    go_ret
    exact ⟨rfl, hb⟩
  have hsl : s.data.toList.length = s.size := (Lib.size_eq s).symm
  have hR := tokRes_small (l := s.data.toList) (by omega)
  obtain ⟨hgood, hsum⟩ := lexS_good s.data.toList.length s.data.toList 0 (Nat.le_refl _)
  rw [hsl] at hR hsum
  by_cases hok : (lexS s.data.toList 0).2.2 = true
  · rw [if_pos hok] at hR
    generalize (lexS s.data.toList 0).1 = T at *
    obtain ⟨m, hm⟩ : ∃ m, T.length = m := ⟨_, rfl⟩
    have hm2 : m ≤ 4000 := by
      have : T.length ≤ (T.map (fun t => t.t.length + 1)).sum := by
        clear hR hgood hsum hm
        induction T with
        | nil => simp
        | cons t T ih => simp only [List.length_cons, List.map_cons, List.sum_cons]; omega
      omega
    have HR := Lib.hid hR; have HM := Lib.hid hm; have HG := Lib.hid hgood; have HS := Lib.hid hsum
    clear hR hm hgood hsum hok hsl
    have i0 : (0 : Int) ≤ (wh : Int) := by omega
    obtain ⟨i, hi⟩ : ∃ i : Nat, wh % 6 = i := ⟨_, rfl⟩
    have hi6 : i < 6 := by omega
    have hmod : (wh : Int) % 6 = (i : Int) := by omega
    clear hi
    go_wp2_with fail
    refine (tokOf_gen s w T s.size 0 m hs HR.out HM.out).mono ?_
    rintro e w1 ⟨A, c, rfl, ho, hb⟩
    have HO := Lib.hid (rd_of ho); have HB := Lib.hid hb
    clear ho hb
    go_wp2_with fail
    rw [hmod]
    clear hmod
    have hw := white_get i hi6
    obtain ⟨q, hx, hsl⟩ := white_slice i hi6
    obtain ⟨wb, hwb⟩ : ∃ wb, whiteL[i]'hi6 = wb := ⟨_, rfl⟩
    rw [hwb] at hw hx
    clear hwb
    have HW := Lib.hid hw; have HX := Lib.hid hx; have HSl := Lib.hid hsl
    clear hw hx hsl
    go_loopw [9, 10] (fun v9 v10 wr => ∃ (k : Nat) (o : ByteArray), k ≤ m ∧ v10 = .int .i64 k ∧ v9 = .string o ∧ o.data.toList = spread wb (T.take k) ∧ Below w1.heap.size w1 wr) (fun _ v10 _ => m - (intOf v10).toNat)
    case atStart => exact ⟨0, _, by omega, rfl, rfl, rfl, Below.refl _ _⟩
    case round =>
      obtain ⟨k, o, hk, rfl, rfl, ho, hb⟩ := hrel
      have Ho := Lib.hid ho; have Hb := Lib.hid hb
      clear ho hb
      by_cases hlt : k < m
      · have hkt : k < T.length := by rw [HM.out]; exact hlt
        obtain ⟨b1, o1, rfl, hz1, c0, c1, c2⟩ := (HO.out.below Hb.out).tok (List.getElem?_eq_getElem hkt)
        have hsn := spread_snoc wb T k hkt
        generalize T[k] = t at *
        obtain ⟨kk, tt, pp⟩ := t
        simp only at c0 c1 c2 hsn
        have hle := spread_le wb T (k + 1)
        rw [hsn, spread_len, List.length_append, List.length_cons, ← Ho.out, ← Lib.size_eq] at hle
        have hos : o.size ≤ 4000 := by have := HS.out; omega
        have hts : (⟨tt.toArray⟩ : ByteArray).size ≤ 4000 := by have := HS.out; show tt.toArray.size ≤ 4000; simp; omega
        have hqs : q.size = 1 := by rw [Lib.size_eq, HX.out]; rfl
        have Hsn := Lib.hid hsn; clear hsn hle
        have hii : (k : Int) < (m : Int) := by omega
        have hi0 : (0 : Int) ≤ (k : Int) := by omega
        have j0 : (0 : Int) ≤ (i : Int) := by omega
        have j1 : (0 : Int) ≤ (i : Int) + 1 := by omega
        have hsl := HSl.out
        have ha1 : ∀ w, (Op.stringOp .add o q).run Tryd.prog w = .ok (.string (o ++ q)) w := fun w => run_string_add_sum w o q (by omega)
        have ha2 : ∀ w, (Op.stringOp .add (o ++ q) ⟨tt.toArray⟩).run Tryd.prog w = .ok (.string (o ++ q ++ ⟨tt.toArray⟩)) w := fun w => run_string_add_sum w (o ++ q) ⟨tt.toArray⟩ (by rw [ByteArray.size_append]; omega)
        have j4 : IntKind.i64.wrap ((i : Int) + 1) = (i : Int) + 1 := IntWalk.i64_in _ (by omega)
        go_wp2_with fail
        go_quiet (fail)
        go_wp2_with fail
        go_roundw
        case rel => exact ⟨k + 1, _, by omega, by go_num, rfl, by rw [Hsn.out, ByteArray.data_append, ByteArray.data_append, Array.toList_append, Array.toList_append, Ho.out, HX.out, List.append_assoc]; rfl, below_drewN Hb.out _⟩
        case measure => simp [intOf]; omega
      · obtain rfl : k = m := by omega
        have ho := Ho.out
        rw [show T.take k = T from by rw [← HM.out, List.take_length]] at ho
        have hol : o.data.toList.length ≤ 4000 := by rw [ho, spread_len]; have := HS.out; omega
        have hos : o.size ≤ 4000 := by rw [Lib.size_eq]; exact hol
        obtain ⟨hl1, hl2⟩ := lexS_spread wb HW.out T 0 HG.out
        have hR2 := tokRes_small (l := o.data.toList) (by omega)
        rw [ho, if_pos hl2, ← ho, ← Lib.size_eq] at hR2
        rw [← ho] at hl1
        generalize (lexS o.data.toList 0).1 = U at *
        have hul : U.length = k := by have := congrArg List.length hl1; simpa [HM.out] using this
        have HR2 := Lib.hid hR2; have HU := Lib.hid hl1; have HUL := Lib.hid hul
        clear hl1 hl2 hR2 hul ho hol
        go_wp2_with fail
        refine (tokOf_gen o _ U o.size 0 k (by omega) HR2.out HUL.out).mono ?_
        rintro e w2 ⟨A2, c2, rfl, ho2, hb2⟩
        have HO2 := Lib.hid (rd_of ho2); have HB2 := Lib.hid (belowMore Hb.out hb2)
        clear ho2 hb2
        go_wp2_with fail
        refine (alike_eq A A2 c c2 k T U w2 (HO.out.below HB2.out) HO2.out HM.out HU.out (by omega)).mono ?_
        rintro e w3 ⟨rfl, hb3⟩
        have HB3 := Lib.hid (belowMore HB2.out hb3)
        clear hb3
        go_wp2_with fail
        refine (lives16_any w3).mono ?_
        rintro e w4 ⟨rfl, hb4⟩
        go_wp2_with fail
        go_ret
        exact ⟨rfl, belowMore HB.out (belowMore HB3.out hb4)⟩
  · rw [if_neg hok] at hR
    generalize (lexS s.data.toList 0).2.1 = n at *
    have HR := Lib.hid hR
    clear hR hgood hsum hok hsl
    go_wp2_with fail
    refine (tokOf_gen s w [] n 13 0 hs HR.out rfl).mono ?_
    rintro e w1 ⟨A, c, rfl, -, hb⟩
    have HB := Lib.hid hb
    clear hb
    go_wp2_with fail
    refine (lives16_any w1).mono ?_
    rintro e w2 ⟨rfl, hb2⟩
    go_wp2_with fail
    go_ret
    exact ⟨rfl, belowMore HB.out hb2⟩
end Go.Proofs.YtjbfcleflokmoaaDoor
