/- Contracts and plain laws that the claims of this seat use (BookQ), for all arguments that their hypotheses name. -/
import Derived.Test.YtkdgibabecpdlaaBookN
import Derived.Test.YtkdgibabecpdlaaBookP
namespace Go.Proofs.Ytkdgibabecpdlaa
open Go.RowKit
theorem Try.etStrips : ET Try.prog 33 88 3 56 := ET.mk' (z := .agg #[.slice none 0 0, .slice none 0 0, .int .u16 0]) (by kernel_rfl) (by kernel_rfl) rfl (by decide) (by decide)
theorem Try.runNext (w : World) : ∀ vs, (callFunc 41 vs).run Try.prog w = .ok (.enter 41 vs) w := fun vs => by
  go_simp
set_option maxHeartbeats 1000000 in
theorem next_any (K : Nat) (n : Int) (v : Value) (w : World) (hK : w.heap[K]? = some (.cells (bookCells n v) 46 (0, 0))) (h0 : 0 ≤ n) (h1 : n ≤ 1000) :
    Calls Try.prog 41 #[.pointer (some ⟨K, 0, none⟩)] w fun e w' => e = .returned (.int .i64 (n + 1)) ∧ w'.heap[K]? = some (.cells (bookCells (n + 1) v) 46 (0, 0)) ∧ Upd [K] w w' := by
  obtain ⟨q0, q2, qz, -⟩ := book_cells hK
  have hfr := frozen_of_row w K 0 _ _ hK
  have HK := Lib.hid hK; clear hK
  go_enter Try.func41, Try.ntmps41
  go_wp2
  go_ret
  refine ⟨rfl, ?_, ?_⟩
  · have := heap_setCell_same w K 0 _ _ (.int .i64 (n + 1)) HK.out
    rw [this]
    rfl
  · exact (Upd.refl [K] w).setCell (.inl (by simp)) _
/-- A book at block K that holds the lists L. -/
def Bk (w : World) (base K : Nat) (L : List St) : Prop :=
  ∃ vS, w.heap[K]? = some (.cells (bookCells (L.length : Int) vS) 46 (0, 0)) ∧ base ≤ K ∧ w.ownsRow base 88 3 vS L.length (stCells L) ∧ (∀ s ∈ L, w.ownsRow base 65 1 s.v s.n (bitVs s.vals)) ∧
    (L.Pairwise fun s t => s.v.ownBlock = none ∨ s.v.ownBlock ≠ t.v.ownBlock) ∧ ∀ s ∈ L, s.vals.length = s.n
/-- A row whose elements are of another type than a block's lies elsewhere. -/
theorem own_not {w : World} {base e s n k : Nat} {v : Value} {xs : List Value} {co : Array Value} {t : TypeId} (h : w.ownsRow base e s v n xs) (hk : w.heap[k]? = some (.cells co t (0, 0))) (he : e ≠ t) : k ∉ v.ownBlock.toList := by
  intro hm
  have := own_ne h hk he
  exact this (by simpa using hm)
theorem own_off {k : Nat} {v : Value} (h : k ∉ v.ownBlock.toList) : ∀ g, v.ownBlock = some g → g ∉ [k] := by
  intro g hg hm
  have e : g = k := by simpa using hm
  subst e
  exact h (by rw [hg]; simp)
set_option maxRecDepth 100000 in
set_option maxHeartbeats 4000000 in
theorem bookBits_any (K base : Nat) (L : List St) (A : Option Addr) (n c : Nat) (vals : List Nat) (w : World) (hB : Bk w base K L) (hv : w.ownsRow base 65 1 (.slice A n c) n (bitVs vals)) (hl : vals.length = n) (hL : L.length ≤ 200)
    (hap : ∀ s ∈ L, s.v.ownBlock = none ∨ s.v.ownBlock ≠ (Value.slice A n c).ownBlock) (hbase : base ≤ w.heap.size) :
    Calls Try.prog 17 #[.pointer (some ⟨K, 0, none⟩), .slice A n c] w fun e w' => e = .returned (.tuple #[]) ∧ Bk w' base K (L ++ [⟨.slice A n c, n, .slice none 0 0, L.length + 1, vals⟩]) ∧ Below base w w' ∧
      (∀ k, k < w.heap.size → (∀ t co, w.heap[k]? = some (.cells co t (0, 0)) → t ≠ 46 ∧ t ≠ 88) → w'.heap[k]? = w.heap[k]?) := by
  obtain ⟨vS, hK, hbK, hrow, hown, hpw, hlens⟩ := hB
  obtain ⟨AS, cS, hvS, -, -, -⟩ := ownsRow_form hrow
  subst hvS
  obtain ⟨q0, q2, qz, -⟩ := book_cells hK
  have HK := Lib.hid hK; have Hrow := Lib.hid hrow; have Hown := Lib.hid hown; have Hpw := Lib.hid hpw; have Hlens := Lib.hid hlens; have Hv := Lib.hid hv; have Hap := Lib.hid hap; have Hbase := Lib.hid hbase; have HbK := Lib.hid hbK; have Hl := Lib.hid hl
  have Hrk := Lib.hid (own_not hrow hK (by decide))
  have HK0 := Lib.hid hK
  clear hK hrow hown hpw hlens hv hap hbase q0 hbK hl
  have hl1 : (L.length : Int) + 1 ≤ 201 := by omega
  have hl0 : (0 : Int) ≤ (L.length : Int) := by omega
  have hw16 : IntKind.u16.wrap ((L.length : Int) + 1) = (L.length : Int) + 1 := by rw [IntKind.wrap_u16]; omega
  go_enter Try.func17, Try.ntmps17
  go_upto_region 0 with (fail)
  go_region_law (first
    | (refine step_call (next_any K (L.length : Int) (.slice AS L.length cS) _ HK.out hl0 (by omega)) rfl rfl rfl (Try.runNext _) ?_; rintro e w1 ⟨rfl, hk1, hu1⟩; refine ⟨_, rfl, ?_⟩; obtain ⟨-, r2, rz, -⟩ := book_cells hk1; have rfr := frozen_of_row w1 K 2 _ _ hk1; have HK1 := Lib.hid hk1; have HU1 := Lib.hid hu1; have Hrow1 := Lib.hid (hu1.own Hrow.out (own_off Hrk.out)); clear hk1 hu1)
    | (refine step_app3 (m := 1) (news := [.slice A n c, .slice none 0 0, .int .u16 ((L.length : Int) + 1)]) rfl rfl Try.etStrips (Hrow1.out.alloc _) rfl rfl (Rd.new _ _ _ rfl) rfl (by simp [Value.oneCell']) (by omega) (by omega) (by have h1 := Hbase.out; have h2 : w.heap.size ≤ w1.heap.size := HU1.out.size; simp; omega) ?_; intro v5 w5 hown5 hb5 hd5; have hKa : K ∉ (Value.slice AS L.length cS).ownBlock.toList := Hrk.out; obtain ⟨s1, s2, s3⟩ := dir_keeps hd5 hKa (by simp; omega) 2; have hal1 := (Below.refl w1.heap.size w1).alloc (Nat.le_refl _) (.cells #[.slice A n c, .slice none 0 0, .int .u16 ((L.length : Int) + 1)] 88); have s1 := s1.trans ((hal1.cell (p := ⟨K, 2, none⟩) rz).trans r2); have s2 := s2.trans ((hal1.frozen (p := ⟨K, 2, none⟩) rz).trans rfr); obtain ⟨A5, c5, rfl, -, -, -⟩ := ownsRow_form hown5))
  all_goals
    have hu5 : Upd (Value.slice AS L.length cS).ownBlock.toList (w1.alloc (.cells #[.slice A n c, .slice none 0 0, .int .u16 ((L.length : Int) + 1)] 88)) w5 := by
      rcases hd5 with ⟨_, h1⟩ | ⟨_, h1⟩
      · exact h1
      · exact h1.mono (by simp)
    have u1 : Upd (K :: (Value.slice AS L.length cS).ownBlock.toList) w w1 := ((Upd.refl _ w).drew).trans (HU1.out.mono (by simp))
    have u5 : Upd (K :: (Value.slice AS L.length cS).ownBlock.toList) w w5 := (u1.alloc _).trans (hu5.mono (fun x hx => List.mem_cons_of_mem _ hx))
    have u6 : Upd (K :: (Value.slice AS L.length cS).ownBlock.toList) w (w5.setCell ⟨K, 2, none⟩ (.slice A5 (L.length + 1) c5)) := u5.setCell (.inl (by simp)) _
    have h5K : w5.heap[K]? = some (.cells (bookCells ((L.length : Int) + 1) (.slice AS L.length cS)) 46 (0, 0)) := by
      rw [hu5.block K (by simp; omega) hKa, Below.heap_alloc _ _ _ rz]; exact HK1.out
    have h6K : (w5.setCell ⟨K, 2, none⟩ (.slice A5 (L.length + 1) c5)).heap[K]? = some (.cells (bookCells ((L.length : Int) + 1) (.slice A5 (L.length + 1) c5)) 46 (0, 0)) := by
      rw [heap_setCell_same w5 K 2 _ _ _ h5K]; rfl
    have us : Upd [K] w5 (w5.setCell ⟨K, 2, none⟩ (.slice A5 (L.length + 1) c5)) := (Upd.refl [K] w5).setCell (.inl (by simp)) _
    have hrow6 := us.own hown5 (own_off (own_not hown5 h5K (by decide)))
    have hoff : ∀ {m : Nat} {u : Value} {xs : List Value}, w.ownsRow base 65 1 u m xs → ∀ g, u.ownBlock = some g → g ∉ K :: (Value.slice AS L.length cS).ownBlock.toList := fun {m u xs} hu g hg hm => by
      rcases List.mem_cons.1 hm with e | hm
      · subst e; exact own_not hu HK0.out (by decide) (by rw [hg]; simp)
      · exact own_apart hu Hrow.out (by decide) g hg hm
    have hbl : Below base w (w5.setCell ⟨K, 2, none⟩ (.slice A5 (L.length + 1) c5)) := u6.toBelow Hbase.out (fun x hx => by
      rcases List.mem_cons.1 hx with e | hx
      · rw [e]; exact HbK.out
      · rcases Hrow.out.2 with ⟨h0, _⟩ | ⟨g, c', cur, hv, hbg, _⟩
        · rw [h0] at hx; simp [Value.ownBlock] at hx
        · rw [hv] at hx
          have : x = g := by simpa [Value.ownBlock] using hx
          omega)
    have HBL := Lib.hid hbl; have HR6 := Lib.hid hrow6; have H6K := Lib.hid h6K; have HU6 := Lib.hid u6; have HOF := Lib.hid (fun (m : Nat) (u : Value) (xs : List Value) (hu : w.ownsRow base 65 1 u m xs) => hoff hu)
    clear hu5 u1 u5 u6 h5K h6K us hrow6 hoff hbl hown5 hb5 hd5
    go_end0
    refine ⟨rfl, ⟨.slice A5 (L.length + 1) c5, ?_, HbK.out, ?_, ?_, ?_, ?_⟩, HBL.out, ?_⟩
    · rw [H6K.out]; simp
    · simpa [stCells, stCell] using HR6.out
    · intro s hs
      rcases List.mem_append.1 hs with hs | hs
      · exact HU6.out.own (Hown.out s hs) (HOF.out _ _ _ (Hown.out s hs))
      · rw [List.mem_singleton.1 hs]
        exact HU6.out.own Hv.out (HOF.out _ _ _ Hv.out)
    · rw [List.pairwise_append]
      exact ⟨Hpw.out, by simp, fun s hs t ht => by rw [List.mem_singleton.1 ht]; exact Hap.out s hs⟩
    · intro s hs
      rcases List.mem_append.1 hs with hs | hs
      · exact Hlens.out s hs
      · rw [List.mem_singleton.1 hs]; exact Hl.out
    · intro k hk hty
      refine HU6.out.block k hk (fun hm => ?_)
      rcases List.mem_cons.1 hm with e | hm
      · subst e; exact (hty _ _ HK0.out).1 rfl
      · rcases Hrow.out.2 with ⟨h0, _⟩ | ⟨g, c', cur, hv, hbg, hg, _⟩
        · rw [h0] at hm; simp [Value.ownBlock] at hm
        · rw [hv] at hm
          have : k = g := by simpa [Value.ownBlock] using hm
          subst this
          exact (hty _ _ hg).2 rfl
end Go.Proofs.Ytkdgibabecpdlaa
