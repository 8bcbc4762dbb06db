/- Proved: strings.IndexAny answers where the first of some plain bytes stands; for every text, and plain bytes. -/
import Derived.Test.YthhmahmclkmjpaaDoorRuneH
namespace Go.Proofs.YthhmahmclkmjpaaDoor
open Go.RowKit
theorem get!_at (s : ByteArray) (i : Nat) (h : i < s.size) : s.get! i = s[i]'h := by simpa using get_at s i h
/-- What is not plain is decoded out of bytes that are not plain. -/
theorem decode_run (s : ByteArray) (pos : Nat) (h : pos < s.size) (ha : 128 ≤ (s[pos]'h).toNat) : ∀ j, j < (Utf8.decode s pos).2 → pos + j < s.size ∧ 128 ≤ (s.get! (pos + j)).toNat := by
  intro j hj
  have h0 : 128 ≤ (s.get! (pos + 0)).toNat := by rw [get_at s pos h]; exact ha
  by_cases hj0 : j = 0
  · subst hj0; exact ⟨h, h0⟩
  obtain ⟨f, hf⟩ : ∃ f : Nat → Nat, ∀ k, (s.get! (pos + k)).toNat = f k := ⟨_, fun _ => rfl⟩
  rw [hf] at h0 ⊢
  simp only [Utf8.decode, hf] at hj
  rw [if_neg (by omega)] at hj
  split at hj
  · rename_i hc
    simp only [Bool.and_eq_true, decide_eq_true_eq, beq_iff_eq] at hc
    split at hj
    · obtain rfl : j = 1 := by simp only at hj; omega
      omega
    · simp only at hj; omega
  · split at hj
    · rename_i hc
      simp only [Bool.and_eq_true, decide_eq_true_eq, beq_iff_eq] at hc
      split at hj
      · have : j = 1 ∨ j = 2 := by simp only at hj; omega
        rcases this with rfl | rfl
        · omega
        · omega
      · simp only at hj; omega
    · split at hj
      · rename_i hc
        simp only [Bool.and_eq_true, decide_eq_true_eq, beq_iff_eq] at hc
        split at hj
        · have : j = 1 ∨ j = 2 ∨ j = 3 := by simp only at hj; omega
          rcases this with rfl | rfl | rfl
          · omega
          · omega
          · omega
        · simp only at hj; omega
      · simp only at hj; omega
theorem decode_end (s : ByteArray) (pos : Nat) (h : pos < s.size) (ha : 128 ≤ (s[pos]'h).toNat) : pos + (Utf8.decode s pos).2 ≤ s.size := by
  have h1 := (decode_high s pos h ha).2
  have := (decode_run s pos h ha ((Utf8.decode s pos).2 - 1) (by omega)).1
  omega
theorem plain_contains {chars : ByteArray} (hp : Plain chars) {b : UInt8} (h : 128 ≤ b.toNat) : chars.data.toList.contains b = false := by
  rw [← Bool.not_eq_true, List.contains_iff_mem]
  intro hm
  obtain ⟨j, hj⟩ := List.mem_iff_getElem?.1 hm
  have := hp j b hj
  omega
theorem noAny_run {s chars : ByteArray} {i n : Nat} (hp : Plain chars) (h : Lib.NoAny s.data.toList chars.data.toList i) (hr : ∀ j, j < n → i + j < s.size ∧ 128 ≤ (s.get! (i + j)).toNat) : Lib.NoAny s.data.toList chars.data.toList (i + n) := by
  intro j b hj hb
  by_cases hji : j < i
  · exact h j b hji hb
  · obtain ⟨h1, h2⟩ := hr (j - i) (by omega)
    rw [show i + (j - i) = j by omega] at h1 h2
    have e := Lib.data_getElem? s j h1
    rw [hb] at e
    injection e with e
    rw [get!_at s j h1, ← e] at h2
    exact plain_contains hp h2
theorem indexRune_plain (s : ByteArray) (x : UInt8) (w : World) (h1 : x.toNat < 128) : Calls Tryd.prog 78 #[.string s, .int .i32 x.toNat] w fun e w' => e = .returned (.int .i64 (Lib.indexByte s.data.toList x)) ∧ w = w' :=
  (Tryd.strings_IndexRune_ascii s x.toNat w (by omega) (by omega)).mono fun _ _ h2 => ⟨by rw [h2.1]; simp, h2.2.symm⟩
theorem indexRune_beyond (s : ByteArray) (r : Int) (w : World) (hs : s.size ≤ 1000) (hp : Plain s) (hv : Utf8.valid r = true) (h128 : 128 ≤ r) :
    Calls Tryd.prog 78 #[.string s, .int .i32 r] w fun e w' => e = .returned (.int .i64 (-1)) ∧ Below w.heap.size w w' := by
  by_cases hne : r = 65533
  · subst hne; exact indexRune_err s w hs hp
  · exact indexRune_high s r w hs hp hv h128 hne
theorem useAscii_any (n : Int) (w : World) : Calls Tryd.prog 79 #[.int .i64 n] w fun e w' => e = .returned (.bool (decide (8 < n))) ∧ w = w' :=
  (Tryd.strings_shouldUseASCIISet n w).mono fun _ _ h => ⟨h.1, h.2.symm⟩
theorem ret_i64 {k : IntKind} {a b : Int} (h : a = b) : Ending.returned (.int k a) = .returned (.int k b) := by rw [h]
theorem iter_below (w : World) (s : ByteArray) (i : Nat) : Below w.heap.size w (w.iter s i) := (Below.refl _ _).alloc (Nat.le_refl _) _
/-- An iterator's block moves on. -/
def World.itTo (w : World) (B : Nat) (s : ByteArray) (i : Nat) : World := { w with heap := w.heap.setIfInBounds B (.stringIter s i) }
theorem run_nextB {P : Program} (w : World) (B : Nat) (s : ByteArray) (pos : Nat) (ty : TypeId) (hB : w.heap[B]? = some (.stringIter s pos)) (h : pos < s.size) :
    (Instr.next (.pointer (some ⟨B, 0, none⟩)) true ty).run P w = .ok (.tuple #[.bool true, .int .i64 pos, .int .i32 (Utf8.decode s pos).1]) (World.itTo w B s (pos + (Utf8.decode s pos).2)) := by
  simp only [Instr.next, getObj, setObj, Sem.run_bind, Sem.run, hB, Result.andThen, h, if_true]
  simp [goInt, World.itTo]
theorem run_nextB_end {P : Program} (w : World) (B : Nat) (s : ByteArray) (pos : Nat) (ty : TypeId) (hB : w.heap[B]? = some (.stringIter s pos)) (h : ¬ pos < s.size) :
    (Instr.next (.pointer (some ⟨B, 0, none⟩)) true ty).run P w = .ok (.tuple #[.bool false]) w := by
  simp [Instr.next, getObj, Sem.run, hB, h]
theorem itTo_heap {w : World} {B : Nat} {s : ByteArray} {i : Nat} (h : B < w.heap.size) : (World.itTo w B s i).heap[B]? = some (.stringIter s i) := by
  simp [World.itTo, h]
theorem itTo_below {w : World} {B : Nat} {s : ByteArray} {i : Nat} {c : Nat} (hc : c ≤ B) : Below c w (World.itTo w B s i) :=
  ⟨rfl, rfl, rfl, by simp [World.itTo], fun k hk => by
    simp only [World.itTo]
    rw [Array.getElem?_setIfInBounds]
    have : ¬ B = k := by omega
    simp [this]⟩
set_option maxHeartbeats 8000000 in
set_option maxRecDepth 1000000 in
theorem indexAny_short (s chars : ByteArray) (w : World) (h2 : 2 ≤ chars.size) (hc : chars.size ≤ 1000) (h8 : s.size ≤ 8) (hp : Plain chars) :
    Calls Tryd.prog 55 #[.string s, .string chars] w fun e w' => e = .returned (.int .i64 (Lib.indexAny s.data.toList chars.data.toList)) ∧ Below w.heap.size w w' := by
  have HP := Lib.hid hp; clear hp
  have hemp : chars.toList.isEmpty = false := by
    rw [Lib.toList_data]
    cases h : chars.data.toList with
    | nil => have := Lib.size_eq chars; rw [h, List.length_nil] at this; omega
    | cons _ _ => rfl
  have hn1 : ((chars.size : Int) == 1) = false := beq_eq_false_iff_ne.2 (by omega)
  have h8z : decide ((8 : Int) < (s.size : Int)) = false := decide_eq_false (by omega)
  have H8 := Lib.hid h8z; clear h8z
  have Hit := Lib.hid (World.iter_heap w s 0); have Hib := Lib.hid (iter_below w s 0)
  go_enter Tryd.func55, Tryd.ntmps55
  go_wp2_with fail
  refine (useAscii_any _ _).mono ?_
  rintro e w1 ⟨rfl, rfl⟩
  rw [H8.out]
  go_wp2_with fail
  go_loopg [9, 10] s.size (fun g _ _ wx => ∃ i : Nat, i ≤ s.size ∧ s.size - i ≤ g ∧ wx.heap[w.heap.size]? = some (.stringIter s i) ∧ Below w.heap.size w wx ∧ Lib.NoAny s.data.toList chars.data.toList i)
  case atStart => exact ⟨0, by omega, by omega, Hit.out, Hib.out, Lib.NoAny.zero _ _⟩
  case round =>
    obtain ⟨i, hi0, hig, hit, hb, hno⟩ := hrel
    have HN := Lib.hid hno; have HB := Lib.hid hb; have HI := Lib.hid hit
    clear hno hb hit
    by_cases hi : i < s.size
    · cases gk with
      | zero => exfalso; omega
      | succ g =>
        have hlt : w.heap.size < wr.heap.size := (Array.getElem?_eq_some_iff.1 HI.out).1
        have hnx := fun ty => run_nextB (P := Tryd.prog) wr w.heap.size s i ty HI.out hi
        obtain ⟨x, hx⟩ : ∃ x : UInt8, s[i]'hi = x := ⟨_, rfl⟩
        have hxl : s.data.toList[i]? = some x := by rw [← hx]; exact Lib.data_getElem? s i hi
        by_cases hx128 : x.toNat < 128
        · rw [decode_ascii s i hi (by rw [hx]; exact hx128), hx] at hnx
          simp only at hnx
          have HIt := Lib.hid (itTo_heap (s := s) (i := i + 1) hlt)
          have HBt := Lib.hid (HB.out.trans (itTo_below (w := wr) (B := w.heap.size) (s := s) (i := i + 1) (Nat.le_refl _)))
          have Hxl := Lib.hid hxl; have Hx := Lib.hid hx
          clear hxl hx
          have hcon := Lib.contains_iff_indexByte chars.data.toList x
          cases hin : chars.data.toList.contains x
          · rw [hin] at hcon
            have hlt' : ¬ ((0 : Int) ≤ Lib.indexByte chars.data.toList x) := of_decide_eq_false hcon.symm
            have HIN := Lib.hid hin
            clear hcon hin
            go_wp2_with fail
            refine (indexRune_plain chars x _ hx128).mono ?_
            rintro e w2 ⟨rfl, rfl⟩
            go_wp2_with fail
            go_roundg g
            case measure => omega
            case rel => exact ⟨i + 1, by omega, by omega, HIt.out, HBt.out, HN.out.succ Hxl.out HIN.out⟩
          · rw [hin] at hcon
            have hge : (0 : Int) ≤ Lib.indexByte chars.data.toList x := of_decide_eq_true hcon.symm
            have HIN := Lib.hid hin
            clear hcon hin
            go_wp2_with fail
            refine (indexRune_plain chars x _ hx128).mono ?_
            rintro e w2 ⟨rfl, rfl⟩
            go_wp2_with fail
            go_ret
            exact ⟨ret_i64 (Lib.indexAny_hit HN.out Hxl.out HIN.out).symm, HBt.out⟩
        · have hge : 128 ≤ (s[i]'hi).toNat := by rw [hx]; omega
          obtain ⟨hr1, hr2⟩ := decode_high s i hi hge
          have hrun := decode_run s i hi hge
          have hend := decode_end s i hi hge
          have hval := decode_valid s i hi
          obtain ⟨⟨r, n⟩, hrn⟩ : ∃ p, Utf8.decode s i = p := ⟨_, rfl⟩
          rw [hrn] at hnx hr1 hr2 hrun hend hval
          simp only at hnx hr1 hr2 hrun hend hval
          have hr1' : (128 : Int) ≤ (r : Int) := by omega
          have HIt := Lib.hid (itTo_heap (s := s) (i := i + n) hlt)
          have HBt := Lib.hid (HB.out.trans (itTo_below (w := wr) (B := w.heap.size) (s := s) (i := i + n) (Nat.le_refl _)))
          have HNn := Lib.hid (noAny_run HP.out HN.out hrun)
          have HV := Lib.hid hval
          have hlt2 : w.heap.size < (World.itTo wr w.heap.size s (i + n)).heap.size := by simp [World.itTo]; omega
          clear hxl hx hrn hrun hval hge hr1
          go_wp2_with fail
          refine (indexRune_beyond chars r _ hc HP.out HV.out hr1').mono ?_
          rintro e w2 ⟨rfl, hb2⟩
          have HI2 := Lib.hid ((hb2.block _ hlt2).trans HIt.out); have HB2 := Lib.hid (belowMore HBt.out hb2)
          clear hb2
          go_wp2_with fail
          go_roundg g
          case measure => omega
          case rel => exact ⟨i + n, by omega, by omega, HI2.out, HB2.out, HNn.out⟩
    · obtain rfl : i = s.size := by omega
      have hnx := fun ty => run_nextB_end (P := Tryd.prog) wr w.heap.size s s.size ty HI.out hi
      go_wp2_with fail
      go_ret
      exact ⟨ret_i64 (Lib.indexAny_none (by rw [← Lib.size_eq]; exact HN.out)).symm, HB.out⟩
theorem indexAny_any (s chars : ByteArray) (w : World) (h2 : 2 ≤ chars.size) (hc : chars.size ≤ 1000) (hs : s.size < 4294967281) (hp : Plain chars) :
    Calls Tryd.prog 55 #[.string s, .string chars] w fun e w' => e = .returned (.int .i64 (Lib.indexAny s.data.toList chars.data.toList)) ∧ Below w.heap.size w w' := by
  by_cases h8 : s.size ≤ 8
  · exact indexAny_short s chars w h2 hc h8 hp
  · exact (Tryd.strings_IndexAny_long (zero_of_info (n := 256) (by kernel_rfl)).1 s chars w h2 (by omega) hs (by omega) hp).mono fun e w' ⟨h1, hw⟩ => ⟨h1, by
      rw [hw]; exact ((Below.refl _ _).alloc (Nat.le_refl _) _).alloc (by simp) _⟩
end Go.Proofs.YthhmahmclkmjpaaDoor
