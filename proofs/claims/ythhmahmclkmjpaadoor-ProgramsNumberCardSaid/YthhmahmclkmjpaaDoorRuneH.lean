/- Proved: strings.IndexRune finds no rune beyond the plain ones in a plain text; for short plain texts. -/
import Derived.Test.YthhmahmclkmjpaaDoorShelfD
import Derived.Test.YthhmahmclkmjpaaDoorGen
import Derived.Test.YthhmahmclkmjpaaDoorTokLaw
import Derived.Laws.RangeAny
import Derived.Laws.Runes
import Derived.Deep.QuietTactic
import Derived.BigQuiet
import Derived.Deep.LoopGhost
import Derived.Lib.IndexBytes
import Derived.IntWalk
namespace Go.Proofs.YthhmahmclkmjpaaDoor
open Go.RowKit

/-- A text of plain bytes. -/
def Plain (s : ByteArray) : Prop := ∀ (j : Nat) b, s.data.toList[j]? = some b → b.toNat < 128
theorem Plain.at {s : ByteArray} (h : Plain s) {i : Nat} (hi : i < s.size) : (s[i]'hi).toNat < 128 := h i _ (Lib.data_getElem? s i hi)
theorem decode_valid (s : ByteArray) (pos : Nat) (h : pos < s.size) : Utf8.valid (Utf8.decode s pos).1 = true := by
  have hb : ∀ k, (s.get! (pos + k)).toNat < 256 := fun k => (s.get! (pos + k)).toNat_lt
  have h0 := hb 0; have h1 := hb 1; have h2 := hb 2; have h3 := hb 3
  simp only [Utf8.decode]
  repeat' split
  all_goals simp_all [Utf8.runeError, Utf8.valid]
  all_goals omega
set_option maxHeartbeats 2000000 in
set_option maxRecDepth 1000000 in
/-- The rune that stands for what is none is not in a plain text. -/
theorem indexRune_err (s : ByteArray) (w : World) (hs : s.size ≤ 1000) (hp : Plain s) :
    Calls Tryd.prog 78 #[.string s, .int .i32 65533] w fun e w' => e = .returned (.int .i64 (-1)) ∧ Below w.heap.size w w' := by
  have HP := Lib.hid hp; clear hp
  go_enter Tryd.func78, Tryd.ntmps78
  go_wp2_with fail
  go_loopg [5, 6] s.size (fun g _ _ wx => ∃ i : Nat, i + g = s.size ∧ wx = w.iter s i)
  case atStart => exact ⟨0, by omega, rfl⟩
  case round =>
    obtain ⟨i, hig, rfl⟩ := hrel
    cases gk with
    | zero =>
      obtain rfl : i = s.size := by omega
      have hnx := run_next_end (P := Tryd.prog) w s s.size
      go_wp2_with fail
      go_ret
      exact ⟨rfl, (Below.refl _ _).alloc (Nat.le_refl _) _⟩
    | succ g =>
      have hi : i < s.size := by omega
      have hx128 := HP.out.at hi
      obtain ⟨x, hx⟩ : ∃ x : UInt8, s[i]'hi = x := ⟨_, rfl⟩
      have hnx := fun ty => run_next_ascii (P := Tryd.prog) w s i ty hi hx128
      rw [hx] at hnx hx128
      have hne : ((x.toNat : Int) == 65533) = false := by
        rw [beq_eq_false_iff_ne]; omega
      clear hx
      go_wp2_with fail
      go_roundg g
      case measure => omega
      case rel => exact ⟨i + 1, by omega, rfl⟩
theorem run_ix (s : ByteArray) (i : Nat) (hi : i < s.size) {c : UInt8} (h : s[i]'hi = c) (w : World) : (Instr.index 9 (.string s) (.int .i64 (i : Int))).run Tryd.prog w = .ok (.int .u8 (c.toNat : Int)) w := by
  rw [run_index_string w 9 s .i64 i (by kernel_rfl), dif_pos ⟨by omega, by omega⟩]
  simp only [Int.toNat_natCast, h]
theorem indexByte_not : ∀ (l : List UInt8) (c : UInt8), (∀ b ∈ l, b ≠ c) → Lib.indexByte l c = -1
  | [], _, _ => rfl
  | b :: l, c, h => by
    have h1 : (b == c) = false := by simpa using h b (List.mem_cons_self ..)
    simp [Lib.indexByte, h1, indexByte_not l c (fun x hx => h x (List.mem_cons_of_mem _ hx))]
theorem Plain.not_high {s : ByteArray} (h : Plain s) (c : UInt8) (hc : 128 ≤ c.toNat) (a b : Nat) : Lib.indexByte (s.extract a b).data.toList c = -1 :=
  indexByte_not _ _ fun x hx e => by
    have hm := mem_extract hx
    obtain ⟨j, hj⟩ := List.mem_iff_getElem?.1 hm
    have := h j x hj
    rw [e] at this; omega
theorem validRune_any (r : Int) (w : World) : Calls Tryd.prog 93 #[.int .i32 r] w fun e w' => e = .returned (.bool (Lib.validRune r)) ∧ w = w' :=
  (Any.utf8_ValidRune { Tryd.lays152 with } r w).mono fun _ _ h => ⟨h.1, h.2.symm⟩
theorem indexByte_plain (s : ByteArray) (c : UInt8) (w : World) (h : Lib.indexByte s.data.toList c = -1) : Calls Tryd.prog 54 #[.string s, .int .u8 c.toNat] w fun e w' => e = .returned (.int .i64 (-1)) ∧ w' = w :=
  (Tryd.strings_IndexByte s c.toNat w).mono fun _ _ h2 => ⟨by rw [h2.1]; simp [h], h2.2⟩
set_option maxHeartbeats 2000000 in
set_option maxRecDepth 1000000 in
/-- A rune beyond the plain ones is not in a plain text. -/
theorem indexRune_high (s : ByteArray) (r : Int) (w : World) (hs : s.size ≤ 1000) (hp : Plain s) (hv : Utf8.valid r = true) (h128 : 128 ≤ r) (hne : r ≠ 65533) :
    Calls Tryd.prog 78 #[.string s, .int .i32 r] w fun e w' => e = .returned (.int .i64 (-1)) ∧ Below w.heap.size w w' := by
  obtain ⟨f2, f4, fl⟩ := encode_facts r hv h128
  have HP := Lib.hid hp; clear hp
  have hn0 : decide (r < 128) = false := by simp; omega
  have hn1 : (r == 65533) = false := beq_eq_false_iff_ne.2 hne
  obtain ⟨en, hen⟩ : ∃ en, Utf8.encode r = en := ⟨_, rfl⟩
  rw [hen] at f2 f4 fl
  obtain ⟨L, hL⟩ : ∃ L, en.size = L + 1 := ⟨en.size - 1, by omega⟩
  have hLl : L < en.size := by omega
  obtain ⟨c, hc⟩ : ∃ c, en[L]'hLl = c := ⟨_, rfl⟩
  have hc128 : 128 ≤ c.toNat := by
    have := fl (by omega)
    simp only [hL, Nat.add_sub_cancel] at this
    rw [hc] at this; exact this
  have hszi : (en.size : Int) - 1 = (L : Int) := by omega
  have HC := Lib.hid hc; have HE := Lib.hid hen; have HV := Lib.hid hv
  have hvr : Lib.validRune r = true := by
    have := hv; rw [validRune_eq] at this; exact this
  have HVR := Lib.hid hvr
  have kc : ∀ w, (convert 21 9 (.int .i32 r)).run Tryd.prog w = .ok (.string en) w := fun w => by
    rw [run_convert_int_string w 21 9 .i32 r (by kernel_rfl) (by kernel_rfl), hen]
  clear fl hc hen hv hvr
  have hr0 : ¬ r < 128 := by omega
  have h9 : (L : Int) < (s.size : Int) → (0 : Int) ≤ (L : Int) + 1 ∧ (L : Int) + 1 ≤ (s.size : Int) := fun h => by omega
  go_enter Tryd.func78, Tryd.ntmps78
  go_wp2_with fail
  refine (validRune_any r w).mono ?_
  rintro e w1 ⟨rfl, rfl⟩
  rw [HVR.out]
  go_wp2_with fail
  go_step3
  go_wp2_with fail
  go_loop [9] (fun v9 => v9 = .int .i64 (L : Int)) (fun _ => 0)
  case atStart => exact rfl
  case round =>
    subst hrel
    by_cases hlt : L < s.size
    · have hx128 := HP.out.at hlt
      obtain ⟨x, hx⟩ : ∃ x : UInt8, s[L]'hlt = x := ⟨_, rfl⟩
      rw [hx] at hx128
      have hxc : ((x.toNat : Int) == (c.toNat : Int)) = false := beq_eq_false_iff_ne.2 (by omega)
      have hxc2 : ((x.toNat : Int) != (c.toNat : Int)) = true := by simp [bne, hxc]
      have hc' := HC.out
      go_wp2_with fail
      go_step3
      go_wp2_with (go_quiet (fail))
      have HB : Hid (Below w.heap.size w (w.drewN nq)) := Lib.hid (below_drewN (Below.refl _ _) _)
      generalize w.drewN nq = w2 at *
      have hix : ∀ w, (Instr.index 9 (.string en) (.int .i64 (L : Int))).run Tryd.prog w = .ok (.int .u8 (c.toNat : Int)) w := run_ix en L hLl hc'
      clear hc'
      have k1 : IntKind.i64.wrap ((L : Int) + 1) = (L : Int) + 1 := IntWalk.i64_in _ (by omega)
      have k2 : (0 : Int) ≤ (L : Int) + 1 := by omega
      have k3 : ((L : Int) + 1).toNat = L + 1 := by omega
      have k4 : (L : Int) + 1 ≤ (s.size : Int) := by omega
      go_quiet ((go_at_call 54; exact Calls.quiet_of_same (indexByte_plain _ _ _ (HP.out.not_high c hc128 _ _))))
      go_wp2_with fail
      rw [Exit.noGoto_ret]
      go_wp2_with fail
      try rw [Exit.noGoto_ret]
      go_ret
      exact ⟨rfl, below_drewN HB.out _⟩
    · go_wp2_with fail
      try rw [Exit.noGoto_ret]
      go_ret
      exact ⟨rfl, Below.refl _ _⟩
end Go.Proofs.YthhmahmclkmjpaaDoor
