/- Contracts and plain laws that the claims of this seat use (Mv17), for all arguments that their hypotheses name. -/
import Derived.Test.YthhmahmclkmjpaaDoorIfLaw
import Derived.Test.YthhmahmclkmjpaaDoorSameK
namespace Go.Proofs.YthhmahmclkmjpaaDoor
open Go.RowKit
theorem up_step (C : List Cd) (q : Nat) {i : Nat} (h : i < C.length) : cdCells ((C.map (up q)).take (i + 1)) = cdCells ((C.map (up q)).take i) ++ [.int .u8 ((up q C[i]).1 : Int), .int .i32 (up q C[i]).2] := by
  rw [List.take_add_one, List.getElem?_map, List.getElem?_eq_getElem h, Option.map_some, Option.toList_some, cdCells_snoc]
set_option maxRecDepth 100000 in
set_option maxHeartbeats 4000000 in
theorem moved17_any (C : List Cd) (A : Option Addr) (cl q n : Nat) (w : World) (hr : Rd w A (cdCells C)) (hn : C.length = n) (hl : n ≤ 100000) (hx : ∀ c ∈ C, jumpB c = true → 0 ≤ c.2 ∧ c.2 ≤ 100000) (hq : q ≤ 100000) :
    Calls Tryd.prog 11 #[.slice A n cl, .int .i32 (q : Int)] w fun e w' => ∃ B cap, e = .returned (.slice B n cap) ∧ w'.ownsRow w.heap.size 36 2 (.slice B n cap) n (cdCells (C.map (up q))) ∧ Below w.heap.size w w' := by
  have HR := Lib.hid hr; have HN := Lib.hid hn; have HX := Lib.hid hx; have HQ := Lib.hid hq; have HL := Lib.hid hl
  clear hr hn hx hq hl
  go_enter Tryd.func11, Tryd.ntmps11
  go_wp2_with fail
  go_loopw [5, 6] (fun v5 v6 wr => ∃ (i : Nat) (B : Option Addr) (c : Nat), v6 = .int .i64 (i : Int) ∧ v5 = .slice B i c ∧ Hid (i ≤ n ∧ wr.ownsRow w.heap.size 36 2 (.slice B i c) i (cdCells ((C.map (up q)).take i)) ∧ Below w.heap.size w wr)) (fun _ v6 _ => n - (intOf v6).toNat)
  case atStart => exact ⟨0, none, 0, rfl, rfl, Lib.hid ⟨by omega, World.ownsRow_nil _ _ _ _, Below.refl _ _⟩⟩
  case round =>
    obtain ⟨i, B, c, rfl, rfl, hh⟩ := hrel
    by_cases hlt : i < n
    · have hil : i < C.length := by rw [HN.out]; exact hlt
      obtain ⟨bb, off, hA, hbl, c0, c1⟩ := (HR.out.below hh.out.2.2).cd (List.getElem?_eq_getElem hil)
      have hst := up_step C q hil
      have hxx := HX.out C[i] (List.getElem_mem hil)
      generalize C[i] = t at *
      obtain ⟨op, N⟩ := t
      simp only at c0 c1 hxx
      subst hA
      have Hst := Lib.hid hst; have Hlt := Lib.hid hlt; have Hxx := Lib.hid hxx
      have hii : (i : Int) < (n : Int) := by omega
      have hi0 : (0 : Int) ≤ (i : Int) := by omega
      have wi : wrap64 ((i : Int) + 1) = ((i + 1 : Nat) : Int) := by have := HL.out; unfold wrap64; omega
      clear hst hil hlt hxx
      have hcase : (((op : Int) == 3) = true ∧ jumpB (op, N) = true) ∨ (((op : Int) == 3) = false ∧ ((op : Int) == 4) = true ∧ jumpB (op, N) = true) ∨ (((op : Int) == 3) = false ∧ ((op : Int) == 4) = false ∧ jumpB (op, N) = false) := by
        unfold jumpB; simp; omega
      have HO := Lib.hid hh.out.2.1; have HB := Lib.hid hh.out.2.2
      have hbz : w.heap.size ≤ wr.heap.size := HB.out.size
      have hn1 : (i + 1) * 8 ≤ 140737488355328 := by have := HL.out; have := Hlt.out; omega
      clear hh
      rcases hcase with ⟨f3, hj⟩ | ⟨f3, f4, hj⟩ | ⟨f3, f4, hj⟩
      · have hup : up q (op, N) = (op, N + (q : Int)) := by unfold up; rw [if_pos hj]
        have hr0 := Hxx.out hj
        have wN : IntKind.i32.wrap (N + (q : Int)) = N + (q : Int) := by have := HQ.out; rw [IntKind.wrap_i32]; omega
        have wN2 : wrap32 (N + (q : Int)) = N + (q : Int) := by have := HQ.out; unfold wrap32; omega
        have Hup := Lib.hid hup
        clear hup hj hr0 Hxx
        go_wp2_with (at_builtin; refine wpList_app rfl rfl Tryd.etCode ((HO.out.alloc _).alloc _) rfl rfl (Rd.new _ _ _ (World.size_alloc _ _)) (m := 1) rfl (by simp [Value.oneCell']) hn1 (by simp; omega) ?_; intro v5 w5 hown5 hg5 _ hb5)
        obtain ⟨A5, c5, rfl, -, -, -⟩ := ownsRow_form hown5
        have HO5 := Lib.hid hown5; have HB5 := Lib.hid (HB.out.trans ((((Below.refl _ _).alloc hbz _).alloc (by simp; omega) _).trans hb5))
        clear hown5 hg5 hb5
        go_wp2_with fail
        go_roundw
        case rel => exact ⟨i + 1, _, _, by go_num, rfl, Lib.hid ⟨Hlt.out, by rw [Hst.out, Hup.out]; exact HO5.out, HB5.out⟩⟩
        case measure => have := Hlt.out; simp [intOf]; omega
      · have hup : up q (op, N) = (op, N + (q : Int)) := by unfold up; rw [if_pos hj]
        have hr0 := Hxx.out hj
        have wN : IntKind.i32.wrap (N + (q : Int)) = N + (q : Int) := by have := HQ.out; rw [IntKind.wrap_i32]; omega
        have wN2 : wrap32 (N + (q : Int)) = N + (q : Int) := by have := HQ.out; unfold wrap32; omega
        have Hup := Lib.hid hup
        clear hup hj hr0 Hxx
        go_wp2_with (at_builtin; refine wpList_app rfl rfl Tryd.etCode ((HO.out.alloc _).alloc _) rfl rfl (Rd.new _ _ _ (World.size_alloc _ _)) (m := 1) rfl (by simp [Value.oneCell']) hn1 (by simp; omega) ?_; intro v5 w5 hown5 hg5 _ hb5)
        obtain ⟨A5, c5, rfl, -, -, -⟩ := ownsRow_form hown5
        have HO5 := Lib.hid hown5; have HB5 := Lib.hid (HB.out.trans ((((Below.refl _ _).alloc hbz _).alloc (by simp; omega) _).trans hb5))
        clear hown5 hg5 hb5
        go_wp2_with fail
        go_roundw
        case rel => exact ⟨i + 1, _, _, by go_num, rfl, Lib.hid ⟨Hlt.out, by rw [Hst.out, Hup.out]; exact HO5.out, HB5.out⟩⟩
        case measure => have := Hlt.out; simp [intOf]; omega
      · have hup : up q (op, N) = (op, N) := by unfold up; rw [if_neg (by rw [hj]; simp)]
        have Hup := Lib.hid hup
        clear hup hj Hxx
        go_wp2_with (at_builtin; refine wpList_app rfl rfl Tryd.etCode ((HO.out.alloc _).alloc _) rfl rfl (Rd.new _ _ _ (World.size_alloc _ _)) (m := 1) rfl (by simp [Value.oneCell']) hn1 (by simp; omega) ?_; intro v5 w5 hown5 hg5 _ hb5)
        obtain ⟨A5, c5, rfl, -, -, -⟩ := ownsRow_form hown5
        have HO5 := Lib.hid hown5; have HB5 := Lib.hid (HB.out.trans ((((Below.refl _ _).alloc hbz _).alloc (by simp; omega) _).trans hb5))
        clear hown5 hg5 hb5
        go_wp2_with fail
        go_roundw
        case rel => exact ⟨i + 1, _, _, by go_num, rfl, Lib.hid ⟨Hlt.out, by rw [Hst.out, Hup.out]; exact HO5.out, HB5.out⟩⟩
        case measure => have := Hlt.out; simp [intOf]; omega
    · obtain rfl : i = n := by have := hh.out.1; omega
      have HO := Lib.hid hh.out.2.1; have HB := Lib.hid hh.out.2.2
      clear hh
      go_wp2_with fail
      go_ret
      have hO := HO.out
      rw [List.take_of_length_le (by simp [HN.out])] at hO
      exact ⟨B, c, rfl, hO, HB.out⟩
end Go.Proofs.YthhmahmclkmjpaaDoor
