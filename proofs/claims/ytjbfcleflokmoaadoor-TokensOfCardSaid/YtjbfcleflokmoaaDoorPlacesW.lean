/- Proved: the function TokensPlaces answers true and changes no old memory; for every text. -/
import Derived.Test.YtjbfcleflokmoaaDoorRemarkW
namespace Go.Proofs.YtjbfcleflokmoaaDoor
open Go.RowKit
/-- What is left of a text's tokens, from a place on. -/
def Left (l : Bytes) (T : List Tok) (i p : Nat) : Prop := p ≤ l.length ∧ ∃ q, lexS (l.drop p) p = (T.drop i, q, true)
theorem Left.start {l : Bytes} (h : (lexS l 0).2.2 = true) : Left l (lexS l 0).1 0 0 := ⟨Nat.zero_le _, (lexS l 0).2.1, by
  rw [List.drop_zero, List.drop_zero]
  rw [← h]⟩
theorem Left.step {l : Bytes} {T : List Tok} {i p : Nat} (h : Left l T i p) (hi : i < T.length) (hl : l.length ≤ 4096) :
    p ≤ T[i].pos ∧ T[i].pos + T[i].t.length ≤ l.length ∧ (l.drop T[i].pos).take T[i].t.length = T[i].t ∧
      tokRes ((l.drop p).take (T[i].pos - p)) = ([], T[i].pos - p, 0) ∧ Left l T (i + 1) (T[i].pos + T[i].t.length) := by
  obtain ⟨hp, q, hq⟩ := h
  rw [List.drop_eq_getElem_cons hi] at hq
  obtain ⟨g, e1, e2, e3, e4, e5, e6⟩ := lexS_first _ _ _ _ _ _ _ (Nat.le_refl _) hq
  rw [List.length_drop] at e2
  rw [List.drop_drop] at e5 e6
  have eg : T[i].pos - p = g := by omega
  refine ⟨by omega, by omega, ?_, ?_, by omega, q, ?_⟩
  · rw [e1]; exact e5.symm
  · rw [eg, tokRes_small (by rw [List.length_take, List.length_drop]; omega), if_pos (e4 0).2, (e4 0).1]
    rw [List.length_take, List.length_drop]
    congr 2; omega
  · rw [show T[i].pos + T[i].t.length = p + (g + T[i].t.length) by omega]; exact e6
theorem Left.last {l : Bytes} {T : List Tok} {p : Nat} (h : Left l T T.length p) (hl : l.length ≤ 4096) : tokRes ((l.drop p).take (l.length - p)) = ([], l.length - p, 0) := by
  obtain ⟨hp, q, hq⟩ := h
  rw [List.drop_eq_nil_of_le (Nat.le_refl _)] at hq
  have hs := lexS_shift p (l.drop p).length (l.drop p) 0 (Nat.le_refl _)
  rw [Nat.zero_add, hq] at hs
  have h1 := (Prod.mk.inj hs).1
  have h2 := (Prod.mk.inj (Prod.mk.inj hs).2).2
  have h3 : (lexS (l.drop p) 0).1 = [] := List.map_eq_nil_iff.1 h1.symm
  have e : (l.drop p).take (l.length - p) = l.drop p := List.take_of_length_le (by rw [List.length_drop]; omega)
  rw [e, tokRes_small (by rw [List.length_drop]; omega), if_pos h2.symm, h3, List.length_drop]
set_option maxRecDepth 100000 in
set_option maxHeartbeats 4000000 in
theorem places_walk (s : ByteArray) (w : World) (hs : s.size ≤ 140737488355328) :
    Calls Tryd.prog 5 #[.string s] w fun e w' => e = .returned (.bool true) ∧ Below w.heap.size w w' := by
  go_enter Tryd.func5, Tryd.ntmps5
  by_cases hbig : 2000 < s.size
  · have e1 : (2000 : Int) < (s.size : Int) := by omega
    go_wp2_with fail
    refine (lives16_any w).mono ?_
    rintro e w1 ⟨rfl, hb⟩
    go_wp2_with fail
    go_ret
    exact ⟨rfl, hb⟩
  have hsl : s.data.toList.length = s.size := (Lib.size_eq s).symm
  have hR := tokRes_small (l := s.data.toList) (by omega)
  rw [hsl] at hR
  by_cases hok : (lexS s.data.toList 0).2.2 = true
  · rw [if_pos hok] at hR
    have hL := Left.start hok
    have hcount := lexS_count s.data.toList 0
    rw [hsl] at hcount
    generalize (lexS s.data.toList 0).1 = T at *
    obtain ⟨m, hm⟩ : ∃ m, T.length = m := ⟨_, rfl⟩
    rw [hm] at hcount
    have HR := Lib.hid hR; have HM := Lib.hid hm; have HL := Lib.hid hL; have HSL := Lib.hid hsl
    clear hR hm hL hok hsl
    go_wp2_with fail
    refine (tokOf_gen s w T s.size 0 m hs HR.out HM.out).mono ?_
    rintro e w1 ⟨A, c, rfl, ho, hb⟩
    have HO := Lib.hid (rd_of ho); have HB := Lib.hid hb
    clear ho hb
    go_wp2_with fail
    go_loopw [6, 7] (fun v6 v7 wr => ∃ (i p : Nat), i ≤ m + 1 ∧ p ≤ s.size ∧ v7 = .int .i64 i ∧ v6 = .int .i64 p ∧ (i ≤ m → Left s.data.toList T i p) ∧ Below w1.heap.size w1 wr) (fun _ v7 _ => m + 1 - (intOf v7).toNat)
    case atStart => exact ⟨0, 0, by omega, by omega, rfl, rfl, fun _ => HL.out, Below.refl _ _⟩
    case round =>
      obtain ⟨i, p, hi, hp, rfl, rfl, hleft, hb⟩ := hrel
      have HBr := Lib.hid hb
      by_cases him : i ≤ m
      · have hl2 := hleft him
        clear hleft
        by_cases hlt : i < m
        · have hit : i < T.length := by rw [HM.out]; exact hlt
          obtain ⟨g1, g2, g3, g4, g5⟩ := hl2.step hit (by rw [HSL.out]; omega)
          obtain ⟨b1, o1, rfl, hz1, c0, c1, c2⟩ := (HO.out.below hb).tok (List.getElem?_eq_getElem hit)
          generalize T[i] = t at *
          obtain ⟨kk, tt, pp⟩ := t
          simp only at c0 c1 c2 g1 g2 g3 g4 g5
          rw [HSL.out] at g2
          have HG3 := Lib.hid g3; have HG4 := Lib.hid g4; have HG5 := Lib.hid g5
          clear g3 g4 g5 hl2 hb
          have hex : (s.extract p pp).data.toList = (s.data.toList.drop p).take (pp - p) := by rw [Lib.extract_data]
          have Hex := Lib.hid hex; clear hex
          have hii : (i : Int) < (m : Int) := by omega
          have hi0 : (0 : Int) ≤ (i : Int) := by omega
          go_wp2_with fail
          refine (tokOf_gen (s.extract p pp) wr [] (pp - p) 0 0 (by simp; omega) (by rw [Hex.out]; exact HG4.out) rfl).mono ?_
          rintro e w2 ⟨A2, c2', rfl, -, hb2⟩
          have k1 := (hb2.cell (p := ⟨b1, o1 + i * 3 + 1, none⟩) hz1).trans c1
          have hz2 := Nat.lt_of_lt_of_le hz1 hb2.size
          have HB2 := Lib.hid (belowMore HBr.out hb2)
          clear hb2 c0 c1 c2 hz1
          obtain ⟨ts, hts⟩ : ∃ ts : ByteArray, (⟨tt.toArray⟩ : ByteArray) = ts := ⟨_, rfl⟩
          have htl : ts.size = tt.length := by rw [← hts]; show tt.toArray.size = _; simp
          have hte : s.extract pp (pp + tt.length) = ts := by rw [extract_take, HG3.out, hts]
          rw [hts] at k1
          obtain ⟨n, hn⟩ : ∃ n, tt.length = n := ⟨_, rfl⟩
          rw [hn] at htl hte g2
          have HG5' : Hid (Left s.data.toList T (i + 1) (pp + n)) := Lib.hid (by rw [← hn]; exact HG5.out)
          clear hts hn
          have q1 : (pp : Int) + (n : Int) ≤ (s.size : Int) := by omega
          have q2 : (0 : Int) ≤ (pp : Int) + (n : Int) := by omega
          have q3 : ((pp : Int) + (n : Int)).toNat = pp + n := by omega
          have q4 : (pp : Int) ≤ (pp : Int) + (n : Int) := by omega
          have q5 : decide ((s.size : Int) < (pp : Int) + (n : Int)) = false := by simp; omega
          have hz3 : (ts.size : Int) = (n : Int) := by omega
          go_wp2_with (go_quiet (fail))
          go_roundw
          case rel => exact ⟨i + 1, pp + n, by omega, by omega, by go_num, by go_num, fun _ => HG5'.out, below_drewN HB2.out _⟩
          case measure => simp [intOf]; omega
        · obtain rfl : i = m := by omega
          have hlast := (show Left s.data.toList T T.length p from by rw [HM.out]; exact hl2).last (by rw [HSL.out]; omega)
          rw [HSL.out] at hlast
          have hex : (s.extract p s.size).data.toList = (s.data.toList.drop p).take (s.size - p) := by rw [Lib.extract_data]
          have HLA : Hid (tokRes (s.extract p s.size).data.toList = ([], s.size - p, 0)) := Lib.hid (by rw [hex]; exact hlast)
          clear hlast hex hl2 hb
          go_wp2_with fail
          refine (tokOf_gen (s.extract p s.size) wr [] (s.size - p) 0 0 (by simp; omega) HLA.out rfl).mono ?_
          rintro e w2 ⟨A2, c2', rfl, -, hb2⟩
          have HB2 := Lib.hid (belowMore HBr.out hb2)
          clear hb2
          go_wp2_with fail
          go_roundw
          case rel => exact ⟨i + 1, p, by omega, hp, by go_num, rfl, fun h => by omega, HB2.out⟩
          case measure => simp [intOf]
      · obtain rfl : i = m + 1 := by omega
        clear hb hleft
        go_wp2_with fail
        refine (lives16_any _).mono ?_
        rintro en w4 ⟨rfl, hb4⟩
        go_wp2_with fail
        go_ret
        exact ⟨rfl, belowMore HB.out (belowMore HBr.out hb4)⟩
  · rw [if_neg hok] at hR
    have hle := lexS_le s.data.toList.length s.data.toList 0 (Nat.le_refl _)
    rw [hsl] at hle
    generalize (lexS s.data.toList 0).2.1 = n at *
    have HR := Lib.hid hR
    clear hR hok hsl
    have q0 : (0 : Int) ≤ (n : Int) := by omega
    have q1 : (n : Int) ≤ (s.size : Int) := by omega
    go_wp2_with fail
    refine (tokOf_gen s w [] n 13 0 hs HR.out rfl).mono ?_
    rintro e w1 ⟨A, c, rfl, -, hb⟩
    have HB := Lib.hid hb
    clear hb
    go_wp2_with fail
    refine (lives16_any w1).mono ?_
    rintro e w2 ⟨rfl, hb2⟩
    go_wp2_with fail
    go_ret
    exact ⟨rfl, belowMore HB.out hb2⟩
end Go.Proofs.YtjbfcleflokmoaaDoor
