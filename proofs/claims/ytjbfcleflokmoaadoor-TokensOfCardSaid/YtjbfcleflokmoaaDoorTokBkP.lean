/- Proved: a book that holds one list of tokens finds it apart; for lists of a million tokens at most. -/
import Derived.Test.YtjbfcleflokmoaaDoorTokBkN
import Derived.Test.YtjbfcleflokmoaaDoorTokBk2
namespace Go.Proofs.YtjbfcleflokmoaaDoor
open Go.RowKit
/-- A book's cells: how many marks, and its lists of tokens; it has no others. -/
def bookT (n : Int) (v : Value) : Array Value := #[.int .i64 n, .slice none 0 0, .slice none 0 0, .slice none 0 0, .slice none 0 0, .slice none 0 0, .slice none 0 0, .slice none 0 0, .slice none 0 0, .slice none 0 0, v, .slice none 0 0, .slice none 0 0, .slice none 0 0]
theorem bookT_cells {w : World} {K : Nat} {n : Int} {v : Value} (h : w.heap[K]? = some (.cells (bookT n v) 42 (0, 0))) :
    K < w.heap.size ∧ w.cell? ⟨K, 0, none⟩ = some (.int .i64 n) ∧ w.cell? ⟨K, 10, none⟩ = some v ∧ w.cell? ⟨K, 1, none⟩ = some (.slice none 0 0) ∧ w.cell? ⟨K, 2, none⟩ = some (.slice none 0 0) ∧ w.cell? ⟨K, 3, none⟩ = some (.slice none 0 0) ∧ w.cell? ⟨K, 4, none⟩ = some (.slice none 0 0) ∧ w.cell? ⟨K, 5, none⟩ = some (.slice none 0 0) ∧ w.cell? ⟨K, 6, none⟩ = some (.slice none 0 0) ∧ w.cell? ⟨K, 7, none⟩ = some (.slice none 0 0) ∧ w.cell? ⟨K, 8, none⟩ = some (.slice none 0 0) ∧ w.cell? ⟨K, 9, none⟩ = some (.slice none 0 0) ∧ w.cell? ⟨K, 11, none⟩ = some (.slice none 0 0) ∧ w.cell? ⟨K, 12, none⟩ = some (.slice none 0 0) ∧ w.cell? ⟨K, 13, none⟩ = some (.slice none 0 0) := by
  have hc := fun j => cell_of_row w K j _ _ _ h
  refine ⟨(Array.getElem?_eq_some_iff.1 h).1, ?_, ?_, ?_, ?_, ?_, ?_, ?_, ?_, ?_, ?_, ?_, ?_, ?_, ?_⟩ <;> (rw [hc]; rfl)
set_option maxRecDepth 100000 in
set_option maxHeartbeats 8000000 in
theorem apartT_one (K base S cap n c : Nat) (A : Option Addr) (w : World) (hK : w.heap[K]? = some (.cells (bookT 1 (.slice (some ⟨S, 0, none⟩) 1 cap)) 42 (0, 0))) (hS : StripT w base S cap (.slice A n c) (.slice none 0 0)) (xs : List Value) (ho : w.ownsRow base 47 3 (.slice A n c) n xs) (hn : n ≤ 1000000) (hbase : base ≤ w.heap.size) :
    Calls Tryd.prog 12 #[.pointer (some ⟨K, 0, none⟩)] w fun e w' => e = .returned (.bool true) ∧ Below base w w' := by
  obtain ⟨qz, q0, q10, q1, q2, q3, q4, q5, q6, q7, q8, q9, q11, q12, q13⟩ := bookT_cells hK
  have HS := Lib.hid hS; have HO := Lib.hid ho; have HK := Lib.hid hK; have Hba := Lib.hid hbase
  have HKA := Lib.hid (own_not ho hK (by decide)); have HKS := Lib.hid (own_not hS hK (by decide))
  have HSA : Hid (S ∉ (Value.slice A n c).ownBlock.toList) := Lib.hid (own_apart hS ho (by decide) S rfl)
  clear hS ho hK hbase
  go_enter Tryd.func12, Tryd.ntmps12
  go_wp2_with fail
  refine (fillNbyte_nil _).mono ?_
  rintro e w' ⟨rfl, rfl⟩
  go_wp2_with fail
  refine (fillU16_nil _).mono ?_
  rintro e w' ⟨rfl, rfl⟩
  go_wp2_with fail
  refine (fillNFix_nil _).mono ?_
  rintro e w' ⟨rfl, rfl⟩
  go_wp2_with fail
  refine (fillNRec_nil _).mono ?_
  rintro e w' ⟨rfl, rfl⟩
  go_wp2_with fail
  refine (fillNTri_nil _).mono ?_
  rintro e w' ⟨rfl, rfl⟩
  go_wp2_with fail
  refine (fillNSheet_nil _).mono ?_
  rintro e w' ⟨rfl, rfl⟩
  go_wp2_with fail
  refine (fillNPatch_nil _).mono ?_
  rintro e w' ⟨rfl, rfl⟩
  go_wp2_with fail
  refine (fillNDot_nil _).mono ?_
  rintro e w' ⟨rfl, rfl⟩
  go_wp2_with fail
  refine (fillNFacet_nil _).mono ?_
  rintro e w' ⟨rfl, rfl⟩
  go_wp2_with fail
  refine (fillTok_one base S cap n c A _ xs _ HS.out HO.out hn).mono ?_
  rintro e w1 ⟨rfl, ho1, hu1⟩
  have HO1 := Lib.hid ho1; have HU1 := Lib.hid hu1
  have HK1 := Lib.hid (hu1.blk HKA.out HK.out)
  have HS1 : Hid (StripT w1 base S cap (.slice A n c) (.slice none 0 0)) := Lib.hid (hu1.own HS.out (own_apart HS.out HO.out (by decide)))
  clear qz q0 q10 q1 q2 q3 q4 q5 q6 q7 q8 q9 q11 q12 q13
  obtain ⟨qz, q0, q10, q1, q2, q3, q4, q5, q6, q7, q8, q9, q11, q12, q13⟩ := bookT_cells HK1.out
  clear ho1 hu1
  go_wp2_with fail
  refine (fillNCode_nil _).mono ?_
  rintro e w' ⟨rfl, rfl⟩
  go_wp2_with fail
  refine (fillNVal_nil _).mono ?_
  rintro e w' ⟨rfl, rfl⟩
  go_wp2_with fail
  refine (fillNSample_nil _).mono ?_
  rintro e w' ⟨rfl, rfl⟩
  go_wp2_with fail
  refine (growNbyte_nil _).mono ?_
  rintro e w' ⟨rfl, rfl⟩
  go_wp2_with fail
  refine (growU16_nil _).mono ?_
  rintro e w' ⟨rfl, rfl⟩
  go_wp2_with fail
  refine (growNFix_nil _).mono ?_
  rintro e w' ⟨rfl, rfl⟩
  go_wp2_with fail
  refine (growNRec_nil _).mono ?_
  rintro e w' ⟨rfl, rfl⟩
  go_wp2_with fail
  refine (growNTri_nil _).mono ?_
  rintro e w' ⟨rfl, rfl⟩
  go_wp2_with fail
  refine (growNSheet_nil _).mono ?_
  rintro e w' ⟨rfl, rfl⟩
  go_wp2_with fail
  refine (growNPatch_nil _).mono ?_
  rintro e w' ⟨rfl, rfl⟩
  go_wp2_with fail
  refine (growNDot_nil _).mono ?_
  rintro e w' ⟨rfl, rfl⟩
  go_wp2_with fail
  refine (growNFacet_nil _).mono ?_
  rintro e w' ⟨rfl, rfl⟩
  go_wp2_with fail
  refine (growTok_one base S cap n c A _ HS1.out HO1.out hn (by have := HU1.out.size; have := Hba.out; omega)).mono ?_
  rintro e w2 ⟨rfl, B, d, hg⟩
  have HG := Lib.hid hg
  have hK2 : w2.heap[K]? = some (.cells (bookT 1 (.slice (some ⟨S, 0, none⟩) 1 cap)) 42 (0, 0)) := hg.upd.blk (fun hm => by
    rcases List.mem_cons.1 hm with e | hm
    · exact HKS.out (by rw [e]; simp [Value.ownBlock])
    · exact HKA.out hm) HK1.out
  clear qz q0 q10 q1 q2 q3 q4 q5 q6 q7 q8 q9 q11 q12 q13
  obtain ⟨qz, q0, q10, q1, q2, q3, q4, q5, q6, q7, q8, q9, q11, q12, q13⟩ := bookT_cells hK2
  clear hg hK2
  go_wp2_with fail
  refine (growNCode_nil _).mono ?_
  rintro e w' ⟨rfl, rfl⟩
  go_wp2_with fail
  refine (growNVal_nil _).mono ?_
  rintro e w' ⟨rfl, rfl⟩
  go_wp2_with fail
  refine (growNSample_nil _).mono ?_
  rintro e w' ⟨rfl, rfl⟩
  go_wp2_with fail
  refine (markedNbyte_nil _).mono ?_
  rintro e w' ⟨rfl, rfl⟩
  go_wp2_with fail
  refine (markedU16_nil _).mono ?_
  rintro e w' ⟨rfl, rfl⟩
  go_wp2_with fail
  refine (markedNFix_nil _).mono ?_
  rintro e w' ⟨rfl, rfl⟩
  go_wp2_with fail
  refine (markedNRec_nil _).mono ?_
  rintro e w' ⟨rfl, rfl⟩
  go_wp2_with fail
  refine (markedNTri_nil _).mono ?_
  rintro e w' ⟨rfl, rfl⟩
  go_wp2_with fail
  refine (markedNSheet_nil _).mono ?_
  rintro e w' ⟨rfl, rfl⟩
  go_wp2_with fail
  refine (markedNPatch_nil _).mono ?_
  rintro e w' ⟨rfl, rfl⟩
  go_wp2_with fail
  refine (markedNDot_nil _).mono ?_
  rintro e w' ⟨rfl, rfl⟩
  go_wp2_with fail
  refine (markedNFacet_nil _).mono ?_
  rintro e w' ⟨rfl, rfl⟩
  go_wp2_with fail
  refine (markedTok_one base S cap n c (n + 24) d A B _ HG.out.row HG.out.old (rd_of HG.out.own) (by omega) (by omega)).mono ?_
  rintro e w3 ⟨rfl, hb3⟩
  have HB3 := Lib.hid hb3
  have rz := Nat.lt_of_lt_of_le qz hb3.size
  have r11 := (hb3.cell (p := ⟨K, 11, none⟩) qz).trans q11; have r12 := (hb3.cell (p := ⟨K, 12, none⟩) qz).trans q12; have r13 := (hb3.cell (p := ⟨K, 13, none⟩) qz).trans q13
  clear qz q0 q10 q1 q2 q3 q4 q5 q6 q7 q8 q9 q11 q12 q13
  clear hb3
  go_wp2_with fail
  refine (markedNCode_nil _).mono ?_
  rintro e w' ⟨rfl, rfl⟩
  go_wp2_with fail
  refine (markedNVal_nil _).mono ?_
  rintro e w' ⟨rfl, rfl⟩
  go_wp2_with fail
  refine (markedNSample_nil _).mono ?_
  rintro e w' ⟨rfl, rfl⟩
  go_wp2_with fail
  go_ret
  refine ⟨rfl, ?_⟩
  have h1 := (HU1.out.mono (bs' := S :: (Value.slice A n c).ownBlock.toList) (fun x hx => List.mem_cons_of_mem _ hx)).trans HG.out.upd
  have hb := h1.toBelow Hba.out (fun x hx => by
    rcases List.mem_cons.1 hx with e | hx
    · rw [e]; exact HS.out.cells.2.2.2.2.2.2.2
    · obtain ⟨A5, c5, e5, -, -, hl⟩ := ownsRow_form HO.out
      rw [e5] at hx
      cases A5 with
      | none => simp [Value.ownBlock] at hx
      | some ad =>
        have : x = ad.block := by simpa [Value.ownBlock] using hx
        rw [this]; exact (hl ad rfl).1)
  exact hb.trans (HB3.out.mono (by have := h1.size; have := Hba.out; omega))
theorem Tryd.etStripsT : ET Tryd.prog 37 59 5 80 := ET.mk' (z := .agg #[.slice none 0 0, .slice none 0 0, .int .u8 0, .string ⟨#[]⟩, .int .i64 0]) (by kernel_rfl) (by kernel_rfl) rfl (by decide) (by decide)
theorem Tryd.runNext (w : World) : ∀ vs, (callFunc 21 vs).run Tryd.prog w = .ok (.enter 21 vs) w := fun vs => by
  go_simp
set_option maxHeartbeats 1000000 in
theorem nextT_any (K : Nat) (v : Value) (w : World) (hK : w.heap[K]? = some (.cells (bookT 0 v) 42 (0, 0))) :
    Calls Tryd.prog 21 #[.pointer (some ⟨K, 0, none⟩)] w fun e w' => e = .returned (.int .i64 1) ∧ w'.heap[K]? = some (.cells (bookT 1 v) 42 (0, 0)) ∧ Upd [K] w w' := by
  obtain ⟨qz, q0, -⟩ := bookT_cells hK
  have hfr := frozen_of_row w K 0 _ _ hK
  have HK := Lib.hid hK; clear hK
  go_enter Tryd.func21, Tryd.ntmps21
  go_wp2
  go_ret
  refine ⟨rfl, ?_, ?_⟩
  · have := heap_setCell_same w K 0 _ _ (.int .i64 1) HK.out
    rw [this]
    rfl
  · exact (Upd.refl [K] w).setCell (.inl (by simp)) _
set_option maxRecDepth 100000 in
set_option maxHeartbeats 4000000 in
theorem bookTokens_one (K base n c : Nat) (A : Option Addr) (w : World) (hK : w.heap[K]? = some (.cells (bookT 0 (.slice none 0 0)) 42 (0, 0))) (hbase : base ≤ w.heap.size) :
    Calls Tryd.prog 11 #[.pointer (some ⟨K, 0, none⟩), .slice A n c] w fun e w' => e = .returned (.tuple #[]) ∧ ∃ S cap, w'.heap[K]? = some (.cells (bookT 1 (.slice (some ⟨S, 0, none⟩) 1 cap)) 42 (0, 0)) ∧ StripT w' base S cap (.slice A n c) (.slice none 0 0) ∧ Upd [K] w w' := by
  obtain ⟨qz, q0, q10, -⟩ := bookT_cells hK
  have HK := Lib.hid hK; have Hbase := Lib.hid hbase
  clear hK hbase q0
  go_enter Tryd.func11, Tryd.ntmps11
  go_upto_region 0 with (fail)
  go_region_law (first
    | (refine step_call (nextT_any K (.slice none 0 0) _ HK.out) rfl rfl rfl (Tryd.runNext _) ?_; rintro e w1 ⟨rfl, hk1, hu1⟩; refine ⟨_, rfl, ?_⟩; obtain ⟨rz, -, r10, -⟩ := bookT_cells hk1; have rfr := frozen_of_row w1 K 10 _ _ hk1; have HK1 := Lib.hid hk1; have HU1 := Lib.hid hu1; clear hk1 hu1)
    | (refine step_app3 (base := base) (n := 0) (xs := []) (m := 1) (news := stripT (.slice A n c) (.slice none 0 0)) rfl rfl Tryd.etStripsT (World.ownsRow_nil _ _ _ _) rfl rfl (Rd.new _ _ _ rfl) rfl (by simp [Value.oneCell', stripT]) (by omega) (by omega) (by have h1 := Hbase.out; have h2 : w.heap.size ≤ w1.heap.size := HU1.out.size; simp; omega) ?_; intro v5 w5 hown5 hb5 hd5; obtain ⟨s1, s2, s3⟩ := dir_keeps hd5 (S := K) (by simp [Value.ownBlock]) (by simp; omega) 10; have hal1 := (Below.refl w1.heap.size w1).alloc (Nat.le_refl _) (.cells #[.slice A n c, .slice none 0 0, .int .u8 0, .string ⟨#[]⟩, .int .i64 (-1)] 59); have s1 := s1.trans ((hal1.cell (p := ⟨K, 10, none⟩) rz).trans r10); have s2 := s2.trans ((hal1.frozen (p := ⟨K, 10, none⟩) rz).trans rfr); obtain ⟨A5, c5, rfl, -, -, -⟩ := ownsRow_form hown5))
  all_goals
    have hu5 : Upd [] (w1.alloc (.cells #[.slice A n c, .slice none 0 0, .int .u8 0, .string ⟨#[]⟩, .int .i64 (-1)] 59)) w5 := by
      rcases hd5 with ⟨_, h1⟩ | ⟨_, h1⟩
      · exact h1.mono (by simp [Value.ownBlock])
      · exact h1
    have u5 : Upd [K] w w5 := ((((Upd.refl _ w).drew).trans HU1.out).alloc _).trans (hu5.mono (by simp))
    have u6 : Upd [K] w (w5.setCell ⟨K, 10, none⟩ (.slice A5 1 c5)) := u5.setCell (.inl (by simp)) _
    have h5K : w5.heap[K]? = some (.cells (bookT 1 (.slice none 0 0)) 42 (0, 0)) := by
      rw [hu5.block K (by simp; omega) (by simp), Below.heap_alloc _ _ _ rz]; exact HK1.out
    have h6K : (w5.setCell ⟨K, 10, none⟩ (.slice A5 1 c5)).heap[K]? = some (.cells (bookT 1 (.slice A5 1 c5)) 42 (0, 0)) := by
      rw [heap_setCell_same w5 K 10 _ _ _ h5K]; rfl
    have us : Upd [K] w5 (w5.setCell ⟨K, 10, none⟩ (.slice A5 1 c5)) := (Upd.refl [K] w5).setCell (.inl (by simp)) _
    have hrow6 := us.own hown5 (own_off (own_not hown5 h5K (by decide)))
    obtain ⟨g, c6, cur, hv, -⟩ := own_addr hrow6 (by omega)
    injection hv with hv1 _ hv3
    subst hv1
    have HR6 := Lib.hid hrow6; have H6K := Lib.hid h6K; have HU6 := Lib.hid u6
    clear hu5 u5 u6 h5K h6K us hrow6 hown5 hb5 hd5
    go_end0
    exact ⟨rfl, g, c5, H6K.out, HR6.out, HU6.out⟩
end Go.Proofs.YtjbfcleflokmoaaDoor
