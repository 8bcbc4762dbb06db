/- Contracts and plain laws that the claims of this seat use (BookP), for all arguments that their hypotheses name. -/
import Derived.Test.YtkdgibabecpdlaaBookN
namespace Go.Proofs.Ytkdgibabecpdlaa
open Go.RowKit
/-- A book's cells: how many marks, and the one list that is not nil. -/
def bookCells (n : Int) (v : Value) : Array Value := #[.int .i64 n, .slice none 0 0, v, .slice none 0 0, .slice none 0 0, .slice none 0 0, .slice none 0 0, .slice none 0 0, .slice none 0 0, .slice none 0 0, .slice none 0 0, .slice none 0 0, .slice none 0 0, .slice none 0 0]
theorem book_cells {w : World} {K : Nat} {n : Int} {v : Value} (h : w.heap[K]? = some (.cells (bookCells n v) 46 (0, 0))) :
    w.cell? ⟨K, 0, none⟩ = some (.int .i64 n) ∧ w.cell? ⟨K, 2, none⟩ = some v ∧ K < w.heap.size ∧ w.cell? ⟨K, 1, none⟩ = some (.slice none 0 0) ∧ w.cell? ⟨K, 3, none⟩ = some (.slice none 0 0) ∧ w.cell? ⟨K, 4, none⟩ = some (.slice none 0 0) ∧ w.cell? ⟨K, 5, none⟩ = some (.slice none 0 0) ∧ w.cell? ⟨K, 6, none⟩ = some (.slice none 0 0) ∧ w.cell? ⟨K, 7, none⟩ = some (.slice none 0 0) ∧ w.cell? ⟨K, 8, none⟩ = some (.slice none 0 0) ∧ w.cell? ⟨K, 9, none⟩ = some (.slice none 0 0) ∧ w.cell? ⟨K, 10, none⟩ = some (.slice none 0 0) ∧ w.cell? ⟨K, 11, none⟩ = some (.slice none 0 0) ∧ w.cell? ⟨K, 12, none⟩ = some (.slice none 0 0) ∧ w.cell? ⟨K, 13, none⟩ = some (.slice none 0 0) := by
  have hc := fun j => cell_of_row w K j _ _ _ h
  refine ⟨?_, ?_, (Array.getElem?_eq_some_iff.1 h).1, ?_, ?_, ?_, ?_, ?_, ?_, ?_, ?_, ?_, ?_, ?_, ?_⟩ <;> (rw [hc]; rfl)
theorem fill_rep (L : List St) (hl : ∀ s ∈ L, s.vals.length = s.n) : ∀ s ∈ fillL L.length 0 L, s.vals = List.replicate s.n s.m := by
  intro s hs
  obtain ⟨j, hj, rfl⟩ := List.getElem_of_mem hs
  rw [fillL_at]
  rw [fillL_len] at hj
  simp [fillAt, hj]
theorem fill_n (L : List St) (i k : Nat) (B : Nat) (h : ∀ s ∈ L, s.n ≤ B) : ∀ s ∈ fillL i k L, s.n ≤ B := by
  intro s hs
  obtain ⟨j, hj, rfl⟩ := List.getElem_of_mem hs
  rw [fillL_at]
  rw [fillL_len] at hj
  have := h L[j] (List.getElem_mem hj)
  simpa [fillAt] using this
theorem growU16_n (base S cap N : Nat) (L : List St) (w : World) (hN : L.length = N) (h : Sts w base S cap L) (hf : ∀ s ∈ L, s.vals = List.replicate s.n s.m) (hL : L.length ≤ 1000) (hn : ∀ s ∈ L, s.n ≤ 1000000) (hbase : base ≤ w.heap.size) (K : Nat) (co : Array Value) (hK : w.heap[K]? = some (.cells co 46 (0, 0))) :
    Calls Try.prog 57 #[.slice (some ⟨S, 0, none⟩) N cap] w fun e w' => e = .returned (.tuple #[]) ∧ (∃ lv, Gs w w' base S cap L L.length lv) ∧ w'.heap[K]? = some (.cells co 46 (0, 0)) := by
  subst hN; exact growU16_any base S cap L w h hf hL hn hbase K co hK
theorem markedU16_n (w0 : World) (base S cap N : Nat) (L : List St) (lv : Nat → Value) (w : World) (hN : L.length = N) (h : Gs w0 w base S cap L L.length lv) (hL : L.length ≤ 1000) (hn : ∀ s ∈ L, s.n ≤ 1000000) :
    Calls Try.prog 70 #[.slice (some ⟨S, 0, none⟩) N cap] w fun e w' => e = .returned (.bool true) ∧ Below w.heap.size w w' := by
  subst hN; exact markedU16_any w0 base S cap L lv w h hL hn
set_option maxRecDepth 100000 in
set_option maxHeartbeats 8000000 in
theorem apart_any (K base S cap : Nat) (n : Int) (L : List St) (w : World) (hK : w.heap[K]? = some (.cells (bookCells n (.slice (some ⟨S, 0, none⟩) L.length cap)) 46 (0, 0))) (h : Sts w base S cap L) (hL : L.length ≤ 1000) (hn : ∀ s ∈ L, s.n ≤ 1000000) (hn0 : 0 ≤ n) (hn1 : n ≤ 250) (hbase : base ≤ w.heap.size) :
    Calls Try.prog 20 #[.pointer (some ⟨K, 0, none⟩)] w fun e w' => e = .returned (.bool true) ∧ Below base w w' := by
  have hlens := h.lens
  have H := Lib.hid h; have HN := Lib.hid hn; have HK := Lib.hid hK; have HLE := Lib.hid hlens; have Hba := Lib.hid hbase
  obtain ⟨q0, q2, qz, q1, q3, q4, q5, q6, q7, q8, q9, q10, q11, q12, q13⟩ := book_cells hK
  clear h hn hK hlens hbase
  go_enter Try.func20, Try.ntmps20
  go_wp2_with fail
  refine (fillNbyte_nil _).mono ?_
  rintro e w' ⟨rfl, rfl⟩
  go_wp2_with fail
  refine (fillU16_any base S cap L _ H.out hL HN.out K _ HK.out).mono ?_
  rintro e w1 ⟨rfl, hs1, hb1, hk1⟩
  have H1 := Lib.hid hs1; have HB1 := Lib.hid hb1; have HK1 := Lib.hid hk1
  clear q0 q1 q2 q3 q4 q5 q6 q7 q8 q9 q10 q11 q12 q13 qz
  obtain ⟨q0, q2, qz, q1, q3, q4, q5, q6, q7, q8, q9, q10, q11, q12, q13⟩ := book_cells hk1
  clear hs1 hb1 hk1
  go_wp2_with fail
  refine (fillNFix_nil _).mono ?_
  rintro e w' ⟨rfl, rfl⟩
  go_wp2_with fail
  refine (fillNRec_nil _).mono ?_
  rintro e w' ⟨rfl, rfl⟩
  go_wp2_with fail
  refine (fillNTri_nil _).mono ?_
  rintro e w' ⟨rfl, rfl⟩
  go_wp2_with fail
  refine (fillNSheet_nil _).mono ?_
  rintro e w' ⟨rfl, rfl⟩
  go_wp2_with fail
  refine (fillNPatch_nil _).mono ?_
  rintro e w' ⟨rfl, rfl⟩
  go_wp2_with fail
  refine (fillNDot_nil _).mono ?_
  rintro e w' ⟨rfl, rfl⟩
  go_wp2_with fail
  refine (fillNFacet_nil _).mono ?_
  rintro e w' ⟨rfl, rfl⟩
  go_wp2_with fail
  refine (fillNToken_nil _).mono ?_
  rintro e w' ⟨rfl, rfl⟩
  go_wp2_with fail
  refine (fillNCode_nil _).mono ?_
  rintro e w' ⟨rfl, rfl⟩
  go_wp2_with fail
  refine (fillNVal_nil _).mono ?_
  rintro e w' ⟨rfl, rfl⟩
  go_wp2_with fail
  refine (fillNSample_nil _).mono ?_
  rintro e w' ⟨rfl, rfl⟩
  go_wp2_with fail
  refine (growNbyte_nil _).mono ?_
  rintro e w' ⟨rfl, rfl⟩
  go_wp2_with fail
  have hll := fillL_len L.length 0 L
  refine (growU16_n base S cap L.length (fillL L.length 0 L) _ hll H1.out (fill_rep L HLE.out) (by rw [hll]; exact hL) (fill_n L _ _ _ HN.out) (by have := HB1.out.size; have := Hba.out; omega) K _ HK1.out).mono ?_
  rintro e w2 ⟨rfl, ⟨lv, hg2⟩, hk2⟩
  have H2 := Lib.hid hg2
  clear q0 q1 q2 q3 q4 q5 q6 q7 q8 q9 q10 q11 q12 q13 qz
  obtain ⟨q0, q2, qz, q1, q3, q4, q5, q6, q7, q8, q9, q10, q11, q12, q13⟩ := book_cells hk2
  clear hg2 hk2
  go_wp2_with fail
  refine (growNFix_nil _).mono ?_
  rintro e w' ⟨rfl, rfl⟩
  go_wp2_with fail
  refine (growNRec_nil _).mono ?_
  rintro e w' ⟨rfl, rfl⟩
  go_wp2_with fail
  refine (growNTri_nil _).mono ?_
  rintro e w' ⟨rfl, rfl⟩
  go_wp2_with fail
  refine (growNSheet_nil _).mono ?_
  rintro e w' ⟨rfl, rfl⟩
  go_wp2_with fail
  refine (growNPatch_nil _).mono ?_
  rintro e w' ⟨rfl, rfl⟩
  go_wp2_with fail
  refine (growNDot_nil _).mono ?_
  rintro e w' ⟨rfl, rfl⟩
  go_wp2_with fail
  refine (growNFacet_nil _).mono ?_
  rintro e w' ⟨rfl, rfl⟩
  go_wp2_with fail
  refine (growNToken_nil _).mono ?_
  rintro e w' ⟨rfl, rfl⟩
  go_wp2_with fail
  refine (growNCode_nil _).mono ?_
  rintro e w' ⟨rfl, rfl⟩
  go_wp2_with fail
  refine (growNVal_nil _).mono ?_
  rintro e w' ⟨rfl, rfl⟩
  go_wp2_with fail
  refine (growNSample_nil _).mono ?_
  rintro e w' ⟨rfl, rfl⟩
  go_wp2_with fail
  refine (markedNbyte_nil _).mono ?_
  rintro e w' ⟨rfl, rfl⟩
  go_wp2_with fail
  refine (markedU16_n _ base S cap L.length (fillL L.length 0 L) lv _ hll H2.out (by rw [hll]; exact hL) (fill_n L _ _ _ HN.out)).mono ?_
  rintro e w3 ⟨rfl, hb3⟩
  have HB3 := Lib.hid hb3
  have r3 := (hb3.cell (p := ⟨K, 3, none⟩) qz).trans q3; have r4 := (hb3.cell (p := ⟨K, 4, none⟩) qz).trans q4; have r5 := (hb3.cell (p := ⟨K, 5, none⟩) qz).trans q5; have r6 := (hb3.cell (p := ⟨K, 6, none⟩) qz).trans q6; have r7 := (hb3.cell (p := ⟨K, 7, none⟩) qz).trans q7; have r8 := (hb3.cell (p := ⟨K, 8, none⟩) qz).trans q8; have r9 := (hb3.cell (p := ⟨K, 9, none⟩) qz).trans q9; have r10 := (hb3.cell (p := ⟨K, 10, none⟩) qz).trans q10; have r11 := (hb3.cell (p := ⟨K, 11, none⟩) qz).trans q11; have r12 := (hb3.cell (p := ⟨K, 12, none⟩) qz).trans q12; have r13 := (hb3.cell (p := ⟨K, 13, none⟩) qz).trans q13
  have rz := Nat.lt_of_lt_of_le qz hb3.size
  clear q0 q1 q2 q3 q4 q5 q6 q7 q8 q9 q10 q11 q12 q13 qz hb3
  go_wp2_with fail
  refine (markedNFix_nil _).mono ?_
  rintro e w' ⟨rfl, rfl⟩
  go_wp2_with fail
  refine (markedNRec_nil _).mono ?_
  rintro e w' ⟨rfl, rfl⟩
  go_wp2_with fail
  refine (markedNTri_nil _).mono ?_
  rintro e w' ⟨rfl, rfl⟩
  go_wp2_with fail
  refine (markedNSheet_nil _).mono ?_
  rintro e w' ⟨rfl, rfl⟩
  go_wp2_with fail
  refine (markedNPatch_nil _).mono ?_
  rintro e w' ⟨rfl, rfl⟩
  go_wp2_with fail
  refine (markedNDot_nil _).mono ?_
  rintro e w' ⟨rfl, rfl⟩
  go_wp2_with fail
  refine (markedNFacet_nil _).mono ?_
  rintro e w' ⟨rfl, rfl⟩
  go_wp2_with fail
  refine (markedNToken_nil _).mono ?_
  rintro e w' ⟨rfl, rfl⟩
  go_wp2_with fail
  refine (markedNCode_nil _).mono ?_
  rintro e w' ⟨rfl, rfl⟩
  go_wp2_with fail
  refine (markedNVal_nil _).mono ?_
  rintro e w' ⟨rfl, rfl⟩
  go_wp2_with fail
  refine (markedNSample_nil _).mono ?_
  rintro e w' ⟨rfl, rfl⟩
  go_wp2_with fail
  go_ret
  refine ⟨rfl, ?_⟩
  have h1 := HB1.out
  have h2 := H2.out.below
  exact h1.trans (h2.trans (HB3.out.mono (by have := h1.size; have := h2.size; have := Hba.out; omega)))
end Go.Proofs.Ytkdgibabecpdlaa
