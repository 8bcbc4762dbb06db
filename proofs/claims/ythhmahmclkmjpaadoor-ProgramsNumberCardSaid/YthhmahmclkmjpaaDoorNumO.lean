/- Proved: programs.one answers whether a token is the word it says; for texts within the reach. -/
import Derived.Test.YthhmahmclkmjpaaDoorNumLaw
import Derived.Test.YthhmahmclkmjpaaDoorTokOfW
namespace Go.Proofs.YthhmahmclkmjpaaDoor
open Go.RowKit
set_option maxRecDepth 100000 in
set_option maxHeartbeats 4000000 in
theorem one_any (k : Nat) (t : Bytes) (p : Int) (w : World) (hk : k < 256) (ht : t.length ≤ 140737488355328) :
    Calls Tryd.prog 13 #[.agg #[.int .u8 (k : Int), .string ⟨t.toArray⟩, .int .i64 p]] w fun e w' => e = .returned (.bool (oneB k t)) ∧ Below w.heap.size w w' := by
  have hts : (⟨t.toArray⟩ : ByteArray).size ≤ 140737488355328 := by show t.toArray.size ≤ _; simpa using ht
  have hbx := (Below.refl w.heap.size w).alloc (Nat.le_refl _) (.cells #[.int .u8 (k : Int), .string ⟨t.toArray⟩, .int .i64 p] 24)
  have hc := heap_alloc_new w (.cells #[.int .u8 (k : Int), .string ⟨t.toArray⟩, .int .i64 p] 24)
  have HBX := Lib.hid hbx; have HC := Lib.hid hc; have Hts := Lib.hid hts
  clear hbx hc hts ht
  go_enter Tryd.func13, Tryd.ntmps13
  go_wp2_with fail
  refine (tokOf_any ⟨t.toArray⟩ _ Hts.out).mono ?_
  rintro e w1 ⟨v, rfl, hown, hb⟩
  have hB := (hb.block w.heap.size (by simp)).trans HC.out
  have HBL := Lib.hid (HBX.out.trans (hb.mono HBX.out.size))
  obtain ⟨A, cap, rfl, -, hr, -⟩ := ownsRow_form hown
  have hone : oneB k t = match tokRes t with | ([x], _, 0) => x.k == k && x.t == t | _ => false := rfl
  have htr : tokRes (⟨t.toArray⟩ : ByteArray).data.toList = tokRes t := by simp
  rw [htr] at hr
  rw [htr]
  clear hb hown htr HC HBX
  generalize tokRes t = R at *
  obtain ⟨L, q, er⟩ := R
  simp only at hr hone ⊢
  have HB := Lib.hid hB
  have hc0 := cell_of_row w1 w.heap.size 0 _ _ _ hB
  have hc1 := cell_of_row w1 w.heap.size 1 _ _ _ hB
  have hsz := (Array.getElem?_eq_some_iff.1 hB).1
  have Hone := Lib.hid hone
  clear hB hone
  by_cases he : er = 0
  · subst he
    by_cases hl : L.length = 1
    · obtain ⟨x, rfl⟩ : ∃ x, L = [x] := by
        cases L with
        | nil => simp at hl
        | cons x l => cases l with
          | nil => exact ⟨x, rfl⟩
          | cons _ _ => simp at hl
      clear hl
      obtain ⟨b, off, hA, hb, hcc⟩ := hr.at_ (by simp [tokCells, tokCell])
      have x0 := hcc 0 _ (show (tokCells [x])[0]? = some (.int .u8 (x.k : Int)) from rfl)
      have x1 := hcc 1 _ (show (tokCells [x])[1]? = some (.string ⟨x.t.toArray⟩) from rfl)
      subst hA
      simp only [Nat.add_zero] at x0
      have hres : oneB k t = (x.k == k && x.t == t) := Hone.out
      have hbr : (x.t == t) = true ∨ (x.t == t) = false := by cases (x.t == t) <;> simp
      by_cases hk2 : x.k = k
      · have e1 : ((x.k : Int) == (k : Int)) = true := by simp [hk2]
        have e1b : (x.k == k) = true := by simp [hk2]
        rcases hbr with e2 | e2
        · rw [e1b, e2] at hres
          have Hres := Lib.hid hres
          clear hk2 Hone hres hr hcc e1b
          go_wp2_with fail
          go_quiet (fail)
          go_wp2_with fail
          go_ret
          exact ⟨congrArg (fun b => Ending.returned (.bool b)) Hres.out.symm, below_drewN HBL.out nq⟩
        · rw [e1b, e2] at hres
          have Hres := Lib.hid hres
          clear hk2 Hone hres hr hcc e1b
          go_wp2_with fail
          go_quiet (fail)
          go_wp2_with fail
          go_ret
          exact ⟨congrArg (fun b => Ending.returned (.bool b)) Hres.out.symm, below_drewN HBL.out nq⟩
      · have e1 : ((x.k : Int) == (k : Int)) = false := by simp; omega
        have e1b : (x.k == k) = false := by simp [hk2]
        rw [e1b, Bool.false_and] at hres
        have Hres := Lib.hid hres
        clear hk2 Hone hres hr hcc e1b
        go_wp2_with fail
        go_quiet (fail)
        go_wp2_with fail
        go_ret
        exact ⟨congrArg (fun b => Ending.returned (.bool b)) Hres.out.symm, below_drewN HBL.out nq⟩
    · have hres : oneB k t = false := by
        rw [Hone.out]
        split
        · rename_i heq; injection heq with h1 _; subst h1; simp at hl
        · rfl
      have e1 : ((L.length : Int) == 1) = false := by simp; omega
      have Hres := Lib.hid hres
      clear Hone hres hr hl
      generalize L.length = n at *
      go_wp2_with fail
      go_quiet (fail)
      go_wp2_with fail
      go_ret
      exact ⟨congrArg (fun b => Ending.returned (.bool b)) Hres.out.symm, below_drewN HBL.out nq⟩
  · have hres : oneB k t = false := by
      rw [Hone.out]
      split
      · rename_i heq; injection heq with h1 h2; injection h2 with _ h2; exact absurd h2.symm (by simpa using fun h => he h.symm)
      · rfl
    have e1 : ((er : Int) == 0) = false := by simp; omega
    have Hres := Lib.hid hres
    clear Hone hres hr he
    generalize L.length = n at *
    go_wp2_with fail
    go_quiet (fail)
    go_wp2_with fail
    go_ret
    exact ⟨congrArg (fun b => Ending.returned (.bool b)) Hres.out.symm, below_drewN HBL.out nq⟩
end Go.Proofs.YthhmahmclkmjpaaDoor
