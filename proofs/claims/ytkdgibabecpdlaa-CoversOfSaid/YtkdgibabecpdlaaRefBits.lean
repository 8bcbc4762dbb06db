/- Contracts and plain laws that the claims of this seat use (RefBits), for all arguments that their hypotheses name. -/
import Derived.Test.YtkdgibabecpdlaaBoth
import Derived.Test.YtkdgibabecpdlaaTurnedW0
import Derived.Test.YtkdgibabecpdlaaBookC
namespace Go.Proofs.Ytkdgibabecpdlaa
open Go.RowKit
def bothK (a b : List Nat) (k : Nat) : List Nat := (List.range k).map fun j => a.getD j 0 &&& b.getD j 0
theorem bothK_all (a b : List Nat) : bothK a b (min a.length b.length) = bothF a b := by
  unfold bothF bothTo bothK
  apply List.map_congr_left
  intro j hj
  have : j < min a.length b.length := by simpa using hj
  simp only [this, if_true]
theorem bothK_succ (a b : List Nat) (k : Nat) : bothK a b (k + 1) = bothK a b k ++ [a.getD k 0 &&& b.getD k 0] := by simp [bothK, List.range_succ]
theorem bothK_len (a b : List Nat) (k : Nat) : (bothK a b k).length = k := by simp [bothK]
set_option maxRecDepth 100000 in
set_option maxHeartbeats 4000000 in
theorem refBoth_any (A B : Option Addr) (ca cb : Nat) (a b : List Nat) (w : World) (ha : Rd w A (bitVs a)) (hb : Rd w B (bitVs b)) (hal : a.length ≤ 1000000) (hbl : b.length ≤ 1000000) (ha16 : ∀ x ∈ a, x < 65536) (hb16 : ∀ x ∈ b, x < 65536) :
    Calls Try.prog 31 #[.slice A a.length ca, .slice B b.length cb] w fun e w' => ∃ v, e = .returned v ∧ w'.ownsRow w.heap.size 65 1 v (bothF a b).length (bitVs (bothF a b)) ∧ Below w.heap.size w w' := by
  have HA := Lib.hid ha; have HB := Lib.hid hb; have H16 := Lib.hid ha16; have G16 := Lib.hid hb16
  clear ha hb ha16 hb16
  go_enter Try.func31, Try.ntmps31
  go_wp2_with fail
  go_loopw [5, 6] (fun v5 v6 wr => ∃ k : Nat, k ≤ a.length ∧ k ≤ b.length ∧ v6 = .int .i64 k ∧ wr.ownsRow w.heap.size 65 1 v5 k (bitVs (bothK a b k)) ∧ Below w.heap.size w wr) (fun _ v6 _ => a.length - (intOf v6).toNat)
  case atStart => exact ⟨0, by omega, by omega, rfl, World.ownsRow_nil _ _ _ _, Below.refl _ _⟩
  case round =>
    obtain ⟨k, hka, hkb, rfl, hown, hbw⟩ := hrel
    by_cases hlt : k < a.length ∧ k < b.length
    · obtain ⟨hlta, hltb⟩ := hlt
      obtain ⟨ba, oa, rfl, hbal, ca0⟩ := (HA.out.below hbw).bit hlta
      obtain ⟨bb, ob, rfl, hbbl, cb0⟩ := (HB.out.below hbw).bit hltb
      have hx16 := H16.out _ (List.getElem_mem hlta)
      have hy16 := G16.out _ (List.getElem_mem hltb)
      have hga : a.getD k 0 = a[k] := by simp [List.getD, hlta]
      have hgb : b.getD k 0 = b[k] := by simp [List.getD, hltb]
      have hstep := bothK_succ a b k
      rw [hga, hgb] at hstep
      generalize a[k] = x at *
      generalize b[k] = y at *
      have hand : bits .and .u16 (x : Int) (y : Int) = ((x &&& y : Nat) : Int) := (bits_nat .u16 16 (by decide) (fun n h0 h1 => by rw [IntKind.wrap_u16]; omega) x y hx16 hy16).1
      obtain ⟨z, hz⟩ : ∃ z, x &&& y = z := ⟨_, rfl⟩
      rw [hz] at hand hstep
      have Hstep := Lib.hid hstep; have Hb := Lib.hid hbw; have Hown := Lib.hid hown
      have Hbs := Lib.hid hbw.size
      clear hstep hbw hga hgb hz hown
      have hai : (k : Int) < (a.length : Int) := by omega
      have hbi : (k : Int) < (b.length : Int) := by omega
      go_upto_region 5 with (fail)
      go_region_law (refine step_app3 (m := 1) (news := [.int .u16 (z : Int)]) rfl rfl Try.etBits (Hown.out.alloc _) rfl rfl (Rd.new _ _ _ rfl) rfl (by simp [Value.oneCell']) (by omega) (by omega) (by have := Hbs.out; simp; omega) ?_; intro v5 w5 hown5 hb5 hd5; clear hd5)
      all_goals
        have HN := Lib.hid (show w5.ownsRow w.heap.size 65 1 v5 (k + 1) (bitVs (bothK a b (k + 1))) from by rw [Hstep.out]; simpa [bitVs] using hown5)
        have HBN := Lib.hid (Hb.out.trans ((((Below.refl wr.heap.size wr).alloc (Nat.le_refl _) (.cells #[.int .u16 (z : Int)] 65)).drew.mono Hbs.out).trans hb5))
        clear hown5 hb5
        go_wp2_with fail
        go_roundw
        case rel => first | exact ⟨k + 1, by omega, by omega, by go_num, HN.out, HBN.out⟩ | exact ⟨k + 1, by omega, by omega, by go_num, HN.out, HBN.out.drew⟩
        case measure => simp [intOf]; omega
    · have hke : k = min a.length b.length := by omega
      have hfin := hown
      have hbl2 : (bothF a b).length = k := by rw [← bothK_all, bothK_len, ← hke]
      rw [hke, bothK_all, ← hke, ← hbl2] at hfin
      have Hf := Lib.hid hfin
      have HbL := Lib.hid hbl2
      clear hbl2 hke
      clear hown hfin
      by_cases h1 : (k : Int) < (a.length : Int)
      · have h2 : ¬ (k : Int) < (b.length : Int) := by omega
        go_wp2_with fail
        go_ret
        exact ⟨_, rfl, by first | exact Hf.out | (rw [← HbL.out]; exact Hf.out) | (simpa using Hf.out), hbw⟩
      · go_wp2_with fail
        go_ret
        exact ⟨_, rfl, Hf.out, hbw⟩
end Go.Proofs.Ytkdgibabecpdlaa
