/- Proved: strings.FieldsSeq yields a plain text's words, in order; for texts of a thousand plain bytes at most. -/
import Derived.RangeFuncNested
import Derived.RangeFuncBox
import Derived.RangeFuncBound
import Derived.RangeFuncCalls
import Derived.RangeFuncLeaves
import Derived.Shelf.Abstract
import Derived.OwnWalkIn
import Derived.TacticsInMore
import Derived.LoopNIn
import Derived.LoopIn
import Derived.Maps.OwnIn
import Derived.Test.YthhmahmclkmjpaaDoorGen
import Derived.Test.YthhmahmclkmjpaaDoorTokOfW
namespace Go.Proofs.YthhmahmclkmjpaaDoor
open Go.RowKit Go.Shelf
attribute [local go_sem] Oper.semAt_some
/-- A text that is no longer than a thousand bytes. -/
abbrev Wd := { b : ByteArray // b.size ≤ 1000 }
def Wd.l (x : Wd) : Bytes := x.1.data.toList
def spB (c : UInt8) : Bool := c == 9 || c == 10 || c == 11 || c == 12 || c == 13 || c == 32
/-- The words of a text: those that are whole, and the one under way. -/
def fstep (st : List Bytes × Option Bytes) (c : UInt8) : List Bytes × Option Bytes :=
  if spB c then (st.1 ++ st.2.toList, none) else (st.1, some (st.2.getD [] ++ [c]))
def fsF (l : Bytes) : List Bytes × Option Bytes := l.foldl fstep ([], none)
theorem fsF_snoc (l : Bytes) (c : UInt8) : fsF (l ++ [c]) = fstep (fsF l) c := by simp [fsF, List.foldl_append]
def wordsF (l : Bytes) : List Bytes := (fsF l).1 ++ (fsF l).2.toList
/-- Where the word under way began. -/
def StartAt (l : Bytes) (i : Nat) (st : Int) : Prop := (st = -1 ∧ (fsF (l.take i)).2 = none) ∨ ∃ j : Nat, st = j ∧ j < i ∧ (fsF (l.take i)).2 = some ((l.take i).drop j)
/-- The table of white bytes, as it lies. -/
def SpaceTab (w : World) : Prop := ∀ x : UInt8, x.toNat < 128 → w.cell? ⟨0, x.toNat, none⟩ = some (.int .u8 (if spB x then 1 else 0))
theorem extract_l (s : ByteArray) (j i : Nat) : (s.extract j i).data.toList = (s.data.toList.take i).drop j := by
  rw [ByteArray.data_extract, Array.toList_extract, List.extract_eq_take_drop, List.drop_take]
theorem take_snoc (s : ByteArray) (k : Nat) (h : k < s.size) : s.data.toList.take (k + 1) = s.data.toList.take k ++ [s[k]] := by
  rw [List.take_succ_eq_append_getElem (by simpa using h)]; rfl
set_option maxRecDepth 100000 in
set_option maxHeartbeats 4000000 in
theorem fields1_in (F : Fence) (n : Nat) (hf : F.fn 82) (hro : F.round = none) (hn : 1 ≤ n) (l Bn : Nat) (s : ByteArray) (hs : s.size ≤ 1000) (hascii : ∀ i (h : i < s.size), (s[i]'h).toNat < 128) (J Jx : List Wd → World → Prop)
    (hY : ∀ pre x W, J pre W → pre.length < s.size + 1 → YieldAt F (n - 1) Tryd.prog l #[.string x.1] W fun e W' =>
      (e = .returned (.bool true) ∧ J (pre ++ [x]) W' ∧ W'.heap[Bn]? = W.heap[Bn]? ∧ W'.heap[0]? = W.heap[0]?) ∨ (e = .returned (.bool false) ∧ Jx (pre ++ [x]) W'))
    (W : World) (hBn : W.cell? ⟨Bn, 0, none⟩ = some (.string s)) (hT : SpaceTab W) (h0 : J [] W) :
    CallsIn F n Tryd.prog 82 #[.func (.yield l) #[] #[], .pointer (some ⟨Bn, 0, none⟩)] W fun e W' => (∃ v, e = .returned v) ∧
      ((∃ ys, ys.map Wd.l = wordsF s.data.toList ∧ J ys W') ∨ (∃ pre : List Wd, True ∧ Jx pre W')) := by
  refine callsIn_of_wp Tryd.func82 rfl hf ?_ hro
  simp only [Tryd.ntmps82, List.size_toArray, List.length_cons, List.length_nil, Nat.reduceAdd, Nat.reduceSub, Array.replicate_succ, Array.replicate_zero, List.push_toArray, List.append_toArray, List.nil_append, List.cons_append]
  gi_wp2
  gi_loopw [3, 4] (fun v3 v4 wr => ∃ (i : Nat) (st : Int) (pre : List Wd), v3 = .int .i64 st ∧ v4 = .int .i64 i ∧ i ≤ s.size ∧ StartAt s.data.toList i st ∧ pre.map Wd.l = (fsF (s.data.toList.take i)).1 ∧ pre.length ≤ i ∧ wr.cell? ⟨Bn, 0, none⟩ = some (.string s) ∧ SpaceTab wr ∧ J pre wr)
    (fun _ v4 _ => s.size - (intOf v4).toNat)
  case atStart => exact ⟨0, -1, [], rfl, rfl, by omega, .inl ⟨rfl, rfl⟩, rfl, by simp, hBn, hT, h0⟩
  case round =>
    obtain ⟨i, st, pre, rfl, rfl, hi, hst, hpre, hlen, hc, ht, hj⟩ := hrel
    by_cases hlt : i < s.size
    · have hx := hascii i hlt
      have ht1 := ht s[i] hx
      have hsn : s.data.toList.take (i + 1) = s.data.toList.take i ++ [s[i]] := take_snoc s i hlt
      have hst1 : fsF (s.data.toList.take (i + 1)) = fstep (fsF (s.data.toList.take i)) s[i] := by rw [hsn, fsF_snoc]
      have hxi : ((s[i].toNat : Nat) : Int) < 128 := by omega
      have Hst1 := Lib.hid hst1; have Hpre := Lib.hid hpre; have Hj := Lib.hid hj; have Ht := Lib.hid ht; have Hst := Lib.hid hst
      clear hst1 hpre hj ht hsn hst
      by_cases hsp : spB s[i] = true
      · rw [if_pos hsp] at ht1
        have Hsp := Lib.hid hsp; clear hsp
        rcases Hst.out with ⟨rfl, hcur⟩ | ⟨j, rfl, hj, hcur⟩
        · have Hcur := Lib.hid hcur; clear hcur
          gi_wp2
          go_roundw
          case rel => exact ⟨i + 1, -1, pre, rfl, by go_num, by omega, .inl ⟨rfl, by rw [Hst1.out, fstep, if_pos Hsp.out]⟩, by rw [Hst1.out, fstep, if_pos Hsp.out, Hcur.out, Hpre.out]; simp, by omega, hc, Ht.out, Hj.out⟩
          case measure => simp [intOf]; omega
        · have Hcur := Lib.hid hcur; clear hcur
          have hji : (j : Int) ≤ (i : Int) := by omega
          have hj0 : (0 : Int) ≤ (j : Int) := by omega
          obtain ⟨fn, tmps, assign, body, hy, hR⟩ := hY pre ⟨s.extract j i, by simp; omega⟩ wr Hj.out (by omega)
          dsimp only at hy
          gi_wp2
          refine hR.mono ?_
          rintro e W3 (⟨rfl, hJ3, hB3, hA3⟩ | ⟨rfl, hJx3⟩)
          · have hc3 : W3.cell? ⟨Bn, 0, none⟩ = some (.string s) := (World.cell?_of_block (w := wr) hB3).trans hc
            have ht3 : SpaceTab W3 := fun x hx => (World.cell?_of_block (w := wr) (a := ⟨0, x.toNat, none⟩) hA3).trans (Ht.out x hx)
            have HJ3 := Lib.hid hJ3; have HT3 := Lib.hid ht3
            clear hJ3 ht3 hB3 hA3 hy hR
            gi_wp2
            go_roundw
            case rel => exact ⟨i + 1, -1, pre ++ [⟨s.extract j i, by simp; omega⟩], rfl, by go_num, by omega, .inl ⟨rfl, by rw [Hst1.out, fstep, if_pos Hsp.out]⟩, by rw [Hst1.out, fstep, if_pos Hsp.out, Hcur.out, List.map_append, Hpre.out]; simp only [List.map_cons, List.map_nil, Wd.l, extract_l, Option.toList], by simp; omega, hc3, HT3.out, HJ3.out⟩
            case measure => simp [intOf]; omega
          · gi_wp2
            refine bodyPost_ret (results_none rfl _ _ _) rfl ?_
            exact ⟨⟨_, rfl⟩, .inr ⟨_, trivial, hJx3⟩⟩
      · rw [if_neg hsp] at ht1
        have Hsp := Lib.hid hsp; clear hsp
        rcases Hst.out with ⟨rfl, hcur⟩ | ⟨j, rfl, hj, hcur⟩
        · have Hcur := Lib.hid hcur; clear hcur
          gi_wp2
          go_roundw
          case rel => exact ⟨i + 1, i, pre, rfl, by go_num, by omega, .inr ⟨i, rfl, by omega, by rw [Hst1.out, fstep, if_neg Hsp.out, Hcur.out, take_snoc s i hlt, List.drop_append_of_le_length (by simp; omega), List.drop_of_length_le (by simp; omega)]; rfl⟩, by rw [Hst1.out, fstep, if_neg Hsp.out, Hpre.out], by omega, hc, Ht.out, Hj.out⟩
          case measure => simp [intOf]; omega
        · have Hcur := Lib.hid hcur; clear hcur
          gi_wp2
          go_roundw
          case rel => exact ⟨i + 1, j, pre, rfl, by go_num, by omega, .inr ⟨j, rfl, by omega, by rw [Hst1.out, fstep, if_neg Hsp.out, Hcur.out, take_snoc s i hlt, List.drop_append_of_le_length (by simp; omega)]; rfl⟩, by rw [Hst1.out, fstep, if_neg Hsp.out, Hpre.out], by omega, hc, Ht.out, Hj.out⟩
          case measure => simp [intOf]; omega
    · obtain rfl : i = s.size := by omega
      have hall : s.data.toList.take s.size = s.data.toList := by rw [Lib.size_eq]; exact List.take_length
      rw [hall] at hpre
      have Hst : Hid ((st = -1 ∧ (fsF s.data.toList).2 = none) ∨ ∃ j : Nat, st = j ∧ j < s.size ∧ (fsF s.data.toList).2 = some (s.data.toList.drop j)) := by
        have := hst; unfold StartAt at this; rw [hall] at this; exact Lib.hid this
      have Hpre := Lib.hid hpre; have Hj := Lib.hid hj
      clear hst hall hpre hj ht
      rcases Hst.out with ⟨rfl, hcur⟩ | ⟨j, rfl, hj, hcur⟩
      · have Hcur := Lib.hid hcur; clear hcur
        gi_wp2
        go_end0
        exact ⟨⟨_, rfl⟩, .inl ⟨pre, by rw [wordsF, Hcur.out, Hpre.out]; simp, Hj.out⟩⟩
      · have Hcur := Lib.hid hcur; clear hcur
        have hji : (j : Int) ≤ (s.size : Int) := by omega
        have hj0 : (0 : Int) ≤ (j : Int) := by omega
        obtain ⟨fn, tmps, assign, body, hy, hR⟩ := hY pre ⟨s.extract j s.size, by simp; omega⟩ wr Hj.out (by omega)
        dsimp only at hy
        gi_wp2
        refine hR.mono ?_
        rintro e W3 (⟨rfl, hJ3, -, -⟩ | ⟨rfl, hJx3⟩)
        · have HJ3 := Lib.hid hJ3
          clear hJ3 hy hR
          gi_wp2
          go_end0
          exact ⟨⟨_, rfl⟩, .inl ⟨_, by rw [wordsF, Hcur.out, List.map_append, Hpre.out]; simp only [List.map_cons, List.map_nil, Wd.l, extract_l, Option.toList]; rw [Lib.size_eq, List.take_length], HJ3.out⟩⟩
        · gi_wp2
          go_end0
          exact ⟨⟨_, rfl⟩, .inr ⟨_, trivial, hJx3⟩⟩
end Go.Proofs.YthhmahmclkmjpaaDoor
