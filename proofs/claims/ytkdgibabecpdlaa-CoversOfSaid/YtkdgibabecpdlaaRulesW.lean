/- Proved: the function CoversRules answers true and changes no old memory; for all lines within the reach. -/
import Derived.Test.YtkdgibabecpdlaaRulesLaw
import Derived.Test.YtkdgibabecpdlaaArea
import Derived.Test.YtkdgibabecpdlaaTurnedW0
import Derived.Deep.RegionHeld3
namespace Go.Proofs.Ytkdgibabecpdlaa
open Go.RowKit
theorem Try.etLines : ET Try.prog 22 51 1 24 := ET.mk' (z := .slice none 0 0) (by kernel_rfl) (by kernel_rfl) rfl (by decide) (by decide)
/-- Rows over different element types lie apart. -/
theorem own_apart {w : World} {b1 b2 e1 e2 s1 s2 n1 n2 : Nat} {u v : Value} {xs ys : List Value} (hu : w.ownsRow b1 e1 s1 u n1 xs) (hv : w.ownsRow b2 e2 s2 v n2 ys) (he : e1 ≠ e2) : ∀ g, u.ownBlock = some g → g ∉ v.ownBlock.toList := by
  intro g hg hm
  have hvg : v.ownBlock = some g := by simpa using hm
  rcases hv.2 with ⟨rfl, _⟩ | ⟨g2, cap2, cur2, rfl, _, hg2, _⟩
  · simp [Value.ownBlock] at hvg
  · have : g2 = g := by simpa [Value.ownBlock] using hvg
    subst this
    exact own_ne hu hg2 he hg
theorem own_lt {w : World} {b e s n : Nat} {u : Value} {xs : List Value} (hu : w.ownsRow b e s u n xs) : ∀ g, u.ownBlock = some g → g < w.heap.size := by
  intro g hg
  rcases hu.2 with ⟨rfl, _⟩ | ⟨g2, cap2, cur2, rfl, _, hg2, _⟩
  · simp [Value.ownBlock] at hg
  · have : g2 = g := by simpa [Value.ownBlock] using hg
    subst this
    exact (Array.getElem?_eq_some_iff.1 hg2).1
theorem grown_upd {w w' : World} {v : Value} (hg : w.grownBy w' v.ownBlock) : Upd v.ownBlock.toList w w' := (Upd.refl _ _).grown hg (fun g h => .inl (by simp [h]))
def heads (P : List LineV) : List Value := P.map lineHead
theorem heads_one {P : List LineV} : ∀ u ∈ heads P, u.oneCell' = true := by
  intro u hu
  obtain ⟨p, _, rfl⟩ := List.mem_map.1 hu
  rfl
theorem twice_len (L : List (List Dot)) : (L.flatMap fun l => [l, l]).length = 2 * L.length := by
  induction L with
  | nil => rfl
  | cons l L ih => simp only [List.flatMap_cons, List.length_append, ih, List.length_cons, List.length_nil]; omega
/-- The two lists of lines that the law builds, k lines done. -/
structure RuS (w0 wr : World) (P : List LineV) (k : Nat) (v3 v4 : Value) (Pb Pt : List LineV) : Prop where
  own3 : wr.ownsRow w0.heap.size 51 1 v3 Pb.length (heads Pb)
  own4 : wr.ownsRow w0.heap.size 51 1 v4 Pt.length (heads Pt)
  ne : v3.ownBlock = none ∨ v3.ownBlock ≠ v4.ownBlock
  lines : ∀ p ∈ Pb, wr.ownsRow w0.heap.size 53 2 (lineHead p) p.2.2.length (dotCells p.2.2)
  mem : ∀ p ∈ Pt, p ∈ P
  db : dotsL Pb = (dotsL (P.take k)).map List.reverse
  dt : dotsL Pt = (dotsL (P.take k)).flatMap fun l => [l, l]
  far : farL (P.take k) = false
  below : Below w0.heap.size w0 wr
theorem RuS.stay {w0 wr w' : World} {P : List LineV} {k : Nat} {v3 v4 : Value} {Pb Pt : List LineV} (h : RuS w0 wr P k v3 v4 Pb Pt) (hb : Below wr.heap.size wr w') : RuS w0 w' P k v3 v4 Pb Pt :=
  ⟨ownsRow_below h.own3 hb, ownsRow_below h.own4 hb, h.ne, fun p hp => ownsRow_below (h.lines p hp) hb, h.mem, h.db, h.dt, h.far, h.below.trans (hb.mono h.below.size)⟩
/-- The first list, one line more; the second one stays. -/
theorem RuS.more3 {w0 w w' : World} {P : List LineV} {k : Nat} {v3 v4 v' : Value} {Pb Pt : List LineV} (h : RuS w0 w P k v3 v4 Pb Pt) {q : LineV} (hq : w.ownsRow w0.heap.size 53 2 (lineHead q) q.2.2.length (dotCells q.2.2))
    (hown : w'.ownsRow w0.heap.size 51 1 v' (Pb.length + 1) (heads Pb ++ [lineHead q])) (hg : w.grownBy w' v3.ownBlock) (hat : v'.ownBlock = v3.ownBlock ∨ v'.ownBlock = some w.heap.size) (hb : Below w0.heap.size w w') :
    w'.ownsRow w0.heap.size 51 1 v' (Pb ++ [q]).length (heads (Pb ++ [q])) ∧ w'.ownsRow w0.heap.size 51 1 v4 Pt.length (heads Pt) ∧ (v'.ownBlock = none ∨ v'.ownBlock ≠ v4.ownBlock) ∧
      (∀ p ∈ Pb ++ [q], w'.ownsRow w0.heap.size 53 2 (lineHead p) p.2.2.length (dotCells p.2.2)) ∧ Below w0.heap.size w0 w' := by
  have hu := grown_upd hg
  have h4 : w'.ownsRow w0.heap.size 51 1 v4 Pt.length (heads Pt) := hu.own h.own4 (fun g hg4 hm => by
    have h3 : v3.ownBlock = some g := by simpa using hm
    rcases h.ne with hn | hn
    · rw [hn] at h3; cases h3
    · exact hn (h3.trans hg4.symm))
  refine ⟨by simpa [heads] using hown, h4, ?_, ?_, h.below.trans (hb.mono (Nat.le_refl _))⟩
  · rcases hat with e | e
    · rw [e]; exact h.ne
    · right
      rw [e]
      intro e2
      have := own_lt h.own4 _ e2.symm
      omega
  · intro p hp
    have hp2 : w.ownsRow w0.heap.size 53 2 (lineHead p) p.2.2.length (dotCells p.2.2) := by
      rcases List.mem_append.1 hp with hp | hp
      · exact h.lines p hp
      · rw [List.mem_singleton.1 hp]; exact hq
    exact hu.own hp2 (own_apart hp2 h.own3 (by decide))
theorem own_nil_apart {v v' : Value} (h : v.ownBlock = none ∨ v.ownBlock ≠ v'.ownBlock) : ∀ g, v.ownBlock = some g → g ∉ v'.ownBlock.toList := by
  intro g hg hm
  have h3 : v'.ownBlock = some g := by simpa using hm
  rcases h with hn | hn
  · rw [hn] at hg; cases hg
  · exact hn (hg.trans h3.symm)
theorem sameBits_n (A B : Option Addr) (ca cb n m : Nat) (a b : List Nat) (w : World) (ha : Rd w A (bitVs a)) (hb : Rd w B (bitVs b)) (hn : a.length = n) (hm : b.length = m) (hal : a.length ≤ maxLen) (hbl : b.length ≤ maxLen) :
    Calls Try.prog 18 #[.slice A n ca, .slice B m cb] w fun e w' => e = .returned (.bool (decide (a = b))) ∧ Below w.heap.size w w' := by
  subst hn hm; exact sameBits_any A B ca cb a b w ha hb hal hbl
theorem both_n (A B : Option Addr) (ca cb n m : Nat) (a b : List Nat) (w : World) (ha : Rd w A (bitVs a)) (hb : Rd w B (bitVs b)) (hn : a.length = n) (hm : b.length = m) (hal : a.length ≤ 1000000) (hbl : b.length ≤ 1000000) (ha16 : ∀ x ∈ a, x < 65536) (hb16 : ∀ x ∈ b, x < 65536) :
    Calls Try.prog 30 #[.slice A n ca, .slice B m cb] w fun e w' => ∃ v, e = .returned v ∧ w'.ownsRow w.heap.size 65 1 v (bothF a b).length (bitVs (bothF a b)) ∧ Below w.heap.size w w' := by
  subst hn hm; exact both_any A B ca cb a b w ha hb hal hbl ha16 hb16
/-- covers.Of of lines that are not far, 7 by 6 pixels. -/
theorem cov76 (A : Option Addr) (cap n : Nat) (Q : List LineV) (even : Bool) (w : World) (C : List Nat) (hL : Lns w A Q) (hn : Q.length = n) (hq : Q.length ≤ 100000) (hs : sizeL Q ≤ 100000) (hf : farL Q = false) (hC : coverE ((dotsL Q).flatMap edgesF) even 7 6 = C) :
    Calls Try.prog 15 #[.slice A n cap, .bool even, .int .i64 7, .int .i64 6] w fun e w' => ∃ A' c', e = .returned (.tuple #[.slice A' 42 c', .int .i64 0]) ∧ Rd w' A' (bitVs C) ∧ Below w.heap.size w w' := by
  subst hn
  refine (coversOf_any A cap Q even 7 6 w hL hq hs).mono ?_
  rintro e w' ⟨v, rfl, hown, hb⟩
  have hor : ofRes Q even 7 6 = (C, 0) := by
    unfold ofRes; rw [if_neg (by omega), hf, ← hC, ← edgesL_dots]; rfl
  rw [hor] at hown ⊢
  obtain ⟨A', c', rfl, -, hr, -⟩ := ownsRow_form hown
  have h42 : C.length = 42 := by rw [← hC, coverE_len]
  refine ⟨A', c', ?_, hr, hb⟩
  show Ending.returned (.tuple #[.slice A' C.length c', .int .i64 0]) = _
  rw [h42]
theorem made_rep (z : Value) (hz : z.cells = #[z]) (n : Nat) : madeCells z.cells n = (List.replicate n z).toArray := by
  rw [hz]
  apply Array.toList_inj.1
  simp only [List.toArray_replicate, Array.toList_replicate]
  apply List.ext_getElem
  · simp [madeCells]
  · intro k hk1 hk2
    simp [madeCells, Nat.mod_one]
def mk42 : Array Value := (List.replicate 42 (.int .u16 0)).toArray
theorem mk42_bits : mk42.toList = bitVs (List.replicate 42 0) := by simp [mk42, bitVs]
theorem run_mk42 (w : World) : (Instr.makeSlice 28 (.int .i64 42) (.int .i64 42)).run Try.prog w = .ok (.slice (some ⟨w.heap.size, 0, none⟩) 42 42) (w.alloc (.cells mk42 65)) := by
  obtain ⟨i, h1, h2, h3, h4⟩ := info_parts (P := Try.prog) (e := 65) (z := .int .u16 0) (size := 1) (bytes := 2) (by kernel_rfl)
  have := run_make (P := Try.prog) w 28 65 i (.int .u16 0) Try.underlying28 h1 h2 .i64 .i64 42 42 (by decide) (by decide) (by rw [h4]; decide) (by decide)
  have hm : madeCells (Value.int .u16 0).cells ((42 : Int).toNat * 1) = mk42 := made_rep _ rfl 42
  rw [this, h3, hm]
  rfl
theorem sum_rev (L : List (List Dot)) : ((L.map List.reverse).map List.length).sum = (L.map List.length).sum := by
  induction L with
  | nil => rfl
  | cons l L ih => simp only [List.map_cons, List.sum_cons, ih, List.length_reverse]
theorem sum_twice (L : List (List Dot)) : ((L.flatMap fun l => [l, l]).map List.length).sum = 2 * (L.map List.length).sum := by
  induction L with
  | nil => rfl
  | cons l L ih => simp only [List.flatMap_cons, List.map_append, List.sum_append, List.map_cons, List.map_nil, List.sum_cons, List.sum_nil, ih]; omega
theorem any_rev (L : List (List Dot)) : (L.map List.reverse).any (fun l => l.any isFarB) = L.any (fun l => l.any isFarB) := by
  induction L with
  | nil => rfl
  | cons l L ih => simp only [List.map_cons, List.any_cons, ih, any_reverse']
theorem any_twice (L : List (List Dot)) : (L.flatMap fun l => [l, l]).any (fun l => l.any isFarB) = L.any (fun l => l.any isFarB) := by
  induction L with
  | nil => rfl
  | cons l L ih =>
    simp only [List.flatMap_cons, List.any_append, List.any_cons, List.any_nil, Bool.or_false, ih, Bool.or_self]
set_option maxRecDepth 100000 in
set_option maxHeartbeats 4000000 in
theorem rules_walk (A : Option Addr) (cap : Nat) (P : List LineV) (w : World) (hL : Lns w A P) (hn : P.length ≤ 140737488355328) (hs : ∀ p ∈ P, p.2.2.length ≤ 140737488355328) :
    Calls Try.prog 11 #[.slice A P.length cap] w fun e w' => e = .returned (.bool true) ∧ Below w.heap.size w w' := by
  have HL := Lib.hid hL; have HS := Lib.hid hs; clear hL hs
  go_enter Try.func11, Try.ntmps11
  go_wp2_with fail
  refine (size28_any A cap P _ HL.out hn HS.out).mono ?_
  rintro e w1 ⟨⟨n, rfl, hn1, hn2⟩, hb1⟩
  by_cases hbig : 150 < n
  · have hbi : (150 : Int) < (n : Int) := by omega
    clear hn1 hn2
    go_wp2_with fail
    refine (lives_any _).mono ?_
    rintro e w2 ⟨rfl, hb2⟩
    go_wp2_with fail
    go_ret
    exact ⟨rfl, belowMore hb1 hb2⟩
  have hbi : ¬ (150 : Int) < (n : Int) := by omega
  have hsz := hn1 (by omega)
  have hPl : P.length ≤ 150 := by omega
  have hsl : sizeL P ≤ 150 := by omega
  have HL1 := Lib.hid (HL.out.below hb1)
  have HB1 := Lib.hid hb1
  clear hn1 hn2 hsz hn hb1 HL
  go_wp2_with fail
  go_loopw [3, 4, 5] (fun v3 v4 v5 wr => ∃ (k : Nat) (Pb Pt : List LineV), k ≤ P.length ∧ v5 = .int .i64 k ∧ RuS w1 wr P k v3 v4 Pb Pt) (fun _ _ v5 _ => P.length - (intOf v5).toNat)
  case atStart => exact ⟨0, [], [], by omega, rfl, ⟨World.ownsRow_nil _ _ _ _, World.ownsRow_nil _ _ _ _, .inl rfl, by simp, by simp, by simp [dotsL], by simp [dotsL], by simp [farL], Below.refl _ _⟩⟩
  case round =>
    obtain ⟨k, Pb, Pt, hk, rfl, hru⟩ := hrel
    have HR := Lib.hid hru; clear hru
    have hlb : Pb.length = k ∧ Pt.length = 2 * k := by
      have h1 := congrArg List.length HR.out.db
      have h2 := congrArg List.length HR.out.dt
      rw [twice_len] at h2
      simp [dotsL] at h1 h2
      omega
    have HLB := Lib.hid hlb; clear hlb
    by_cases hlt : k < P.length
    · obtain ⟨b, off, rfl, hb1, c00⟩ := HL1.out.line hlt
      have c0 := (HR.out.below.cell (p := ⟨b, off + k, none⟩) hb1).trans c00
      have hbl : b < wr.heap.size := Nat.lt_of_lt_of_le hb1 HR.out.below.size
      clear c00
      have hpl := sizeL_mem (List.getElem_mem hlt)
      have hrl := ((HL1.out.below HR.out.below).each P[k] (List.getElem_mem hlt))
      have hmem : P[k] ∈ P := List.getElem_mem hlt
      have htk : P.take (k + 1) = P.take k ++ [P[k]] := List.take_succ_eq_append_getElem hlt
      generalize P[k] = p at *
      obtain ⟨Ap, cp, l⟩ := p
      simp only [lineHead] at c0 hpl hrl
      have Hrl := Lib.hid hrl; have Hmem := Lib.hid hmem; have Htk := Lib.hid htk
      clear hrl hmem htk
      go_wp2_with fail
      refine (anyFar_any Ap cp _ l _ Hrl.out rfl (by simp only [maxLen]; omega)).mono ?_
      rintro e w2 ⟨rfl, hb2⟩
      by_cases hfl : l.any isFarB = true
      · rw [hfl]
        go_wp2_with fail
        refine (lives_any _).mono ?_
        rintro e w3 ⟨rfl, hb3⟩
        go_wp2_with fail
        go_ret
        exact ⟨rfl, belowMore (belowMore (belowMore HB1.out HR.out.below) hb2) hb3⟩
      · have hfl' : l.any isFarB = false := by simpa using hfl
        rw [hfl']
        have d0 := (hb2.cell (p := ⟨b, off + k, none⟩) hbl).trans c0
        have dbl := Nat.lt_of_lt_of_le hbl hb2.size
        have HR2 := Lib.hid (HR.out.stay hb2)
        have Hrl2 := Lib.hid (Hrl.out.below hb2)
        clear hb2 c0 hbl hfl
        go_wp2_with fail
        refine (turned_any Ap cp l _ Hrl2.out (by omega)).mono ?_
        rintro e w3 ⟨v3', rfl, hown3, hb3⟩
        have e0 := (hb3.cell (p := ⟨b, off + k, none⟩) dbl).trans d0
        have ebl := Nat.lt_of_lt_of_le dbl hb3.size
        have HR3 := Lib.hid (HR2.out.stay hb3)
        have Hrl3 := Lib.hid (Hrl2.out.below hb3)
        obtain ⟨A3, c3, rfl, -, -, -⟩ := ownsRow_form hown3
        have Hq := Lib.hid (show w3.ownsRow w1.heap.size 53 2 (lineHead (A3, c3, l.reverse)) l.reverse.length (dotCells l.reverse) from ownsRow_mono hown3 HR2.out.below.size)
        clear hown3 hb3 d0 dbl Hrl Hrl2
        go_upto_region 10 with (at_builtin; refine wpList_app rfl rfl Try.etLines (HR3.out.own3.alloc _) rfl rfl (Rd.new _ _ _ rfl) (m := 1) rfl (by simp [Value.oneCell']) (by have := HLB.out; omega) (by have := HR3.out.below.size; simp; omega) ?_; intro v5 w5 hown5 hg5 hat5 hb5)
        have hRA : RuS w1 (w3.alloc (.cells #[.slice A3 l.length c3] 51)) P k _ _ Pb Pt := HR3.out.stay ((Below.refl _ _).alloc (Nat.le_refl _) _)
        have hqA : (w3.alloc (.cells #[.slice A3 l.length c3] 51)).ownsRow w1.heap.size 53 2 (lineHead (A3, c3, l.reverse)) l.reverse.length (dotCells l.reverse) := Hq.out.alloc _
        obtain ⟨m1, m2, m3, m4, m5⟩ := hRA.more3 (q := (A3, c3, l.reverse)) hqA (by simpa [lineHead] using hown5) hg5 hat5 hb5
        have f0 : w5.cell? ⟨b, off + k, none⟩ = some (.slice Ap l.length cp) := by
          rw [hb5.cell (p := ⟨b, off + k, none⟩) hb1]
          exact (((Below.refl w3.heap.size w3).alloc (Nat.le_refl _) _).cell (p := ⟨b, off + k, none⟩) ebl).trans e0
        have fbl : b < w5.heap.size := Nat.lt_of_lt_of_le hb1 m5.size
        have M1 := Lib.hid m1; have M2 := Lib.hid m2; have M3 := Lib.hid m3; have M4 := Lib.hid m4; have M5 := Lib.hid m5
        clear m1 m2 m3 m4 m5 hRA hqA hown5 hg5 hat5 hb5 e0 ebl
        have hlk : (k : Int) < (P.length : Int) := by omega
        go_region_held3 (fun w' => w'.cell? ⟨b, off + k, none⟩ = some (.slice Ap l.length cp)) (first | exact m0 | exact f0 | go_keep)
            (first
              | (refine step_app2 (m := 2) (news := [.slice Ap l.length cp, .slice Ap l.length cp]) rfl rfl Try.etLines Try.underlying22 (M2.out.alloc _) rfl rfl (Rd.new _ _ _ rfl) rfl (by simp [Value.oneCell']) (by have := HLB.out; omega) (by have := M5.out.size; simp; omega) ?_; intro v6 w6 hown6 hg6 hat6 hb6; have m0 : w6.cell? ⟨b, off + k, none⟩ = some (.slice Ap l.length cp) := by
                  rw [hb6.cell (p := ⟨b, off + k, none⟩) hb1]
                  exact (((Below.refl w5.heap.size w5).alloc (Nat.le_refl _) _).cell (p := ⟨b, off + k, none⟩) fbl).trans f0))
        have hz5 : w1.heap.size ≤ w5.heap.size := M5.out.size
        have hg6' : Upd _ (w5.alloc (.cells #[.slice Ap l.length cp, .slice Ap l.length cp] 51)).drew w6 := grown_upd hg6
        have hA5 : Below w5.heap.size w5 (w5.alloc (.cells #[.slice Ap l.length cp, .slice Ap l.length cp] 51)).drew := ((Below.refl _ _).alloc (Nat.le_refl _) _).drew
        have hrs : RuS w1 w6 P (k + 1) v5 v6 (Pb ++ [(A3, c3, l.reverse)]) (Pt ++ [(Ap, cp, l), (Ap, cp, l)]) := by
          refine ⟨?_, ?_, ?_, ?_, ?_, ?_, ?_, ?_, ?_⟩
          · exact hg6'.own (ownsRow_below M1.out hA5) (own_nil_apart M3.out)
          · simpa [heads, lineHead] using hown6
          · rcases hat6 with e | e
            · rw [e]; exact M3.out
            · right
              rw [e]
              intro e2
              have := own_lt M1.out _ e2
              have hz : (w5.alloc (.cells #[.slice Ap l.length cp, .slice Ap l.length cp] 51)).drew.heap.size = w5.heap.size + 1 := by show (w5.alloc _).heap.size = _; simp
              omega
          · intro q hq
            have hq2 := ownsRow_below (M4.out q hq) hA5
            exact hg6'.own hq2 (own_apart hq2 (ownsRow_below M2.out hA5) (by decide))
          · intro q hq
            rcases List.mem_append.1 hq with hq | hq
            · exact HR3.out.mem q hq
            · have : q = (Ap, cp, l) := by simpa using hq
              rw [this]; exact Hmem.out
          · rw [Htk.out]
            have := HR3.out.db
            simp only [dotsL, List.map_append, List.map_cons, List.map_nil] at this ⊢
            rw [this]
          · rw [Htk.out]
            have := HR3.out.dt
            simp only [dotsL, List.map_append, List.map_cons, List.map_nil, List.flatMap_append, List.flatMap_cons, List.flatMap_nil, List.append_nil] at this ⊢
            rw [this]
          · rw [Htk.out]; simp only [farL, List.any_append, List.any_cons, List.any_nil, Bool.or_false, Bool.or_eq_false_iff]; exact ⟨HR3.out.far, hfl'⟩
          · exact (M5.out.trans (hA5.mono hz5)).trans hb6
        have HRS := Lib.hid hrs
        clear hrs hg6' hA5 hown6 hg6 hat6 hb6 m0 f0 fbl
        go_wp2_with fail
        go_roundw
        case rel => exact ⟨k + 1, _, _, by omega, by go_num, HRS.out⟩
        case measure => simp [intOf]; omega
    · have hkl : k = P.length := by omega
      subst hkl
      have hfar := HR.out.far
      have hdb := HR.out.db
      have hdt := HR.out.dt
      rw [List.take_length] at hfar hdb hdt
      have hfb : farL Pb = false := by rw [farL_dots, hdb, any_rev, ← farL_dots]; exact hfar
      have hft : farL Pt = false := by rw [farL_dots, hdt, any_twice, ← farL_dots]; exact hfar
      have hsb : sizeL Pb ≤ 100000 := by rw [sizeL_dots, hdb, sum_rev, ← sizeL_dots]; omega
      have hst : sizeL Pt ≤ 100000 := by rw [sizeL_dots, hdt, sum_twice, ← sizeL_dots]; omega
      have hLP := HL1.out.below HR.out.below
      have hown3 := HR.out.own3
      have hown4 := HR.out.own4
      obtain ⟨A3, c3, hv3, -, hr3, -⟩ := ownsRow_form hown3
      obtain ⟨A4, c4, hv4, -, hr4, -⟩ := ownsRow_form hown4
      have hLb : Lns wr A3 Pb := ⟨hr3, fun p hp => by
        obtain ⟨A', c', e', -, hr', -⟩ := ownsRow_form (HR.out.lines p hp)
        injection e' with e1 _ _
        rw [e1]; exact hr'⟩
      have hLt : Lns wr A4 Pt := ⟨hr4, fun p hp => hLP.each p (HR.out.mem p hp)⟩
      have hC0 : ∃ C, coverE ((dotsL P).flatMap edgesF) false 7 6 = C := ⟨_, rfl⟩
      have hC1 : ∃ C, coverE ((dotsL P).flatMap edgesF) true 7 6 = C := ⟨_, rfl⟩
      obtain ⟨C0, hC0⟩ := hC0
      obtain ⟨C1, hC1⟩ := hC1
      have hD0 : coverE ((dotsL Pb).flatMap edgesF) false 7 6 = C0 := by rw [hdb, cover_rev, hC0]
      have hD1 : coverE ((dotsL Pb).flatMap edgesF) true 7 6 = C1 := by rw [hdb, cover_rev, hC1]
      have hE0 : coverE ((dotsL Pt).flatMap edgesF) false 7 6 = C0 := by rw [hdt, cover_twice, hC0]
      have hE1 : coverE ((dotsL Pt).flatMap edgesF) true 7 6 = List.replicate 42 0 := by rw [hdt, cover_none]
      have hl0 : C0.length = 42 := by rw [← hC0, coverE_len]
      have hl1 : C1.length = 42 := by rw [← hC1, coverE_len]
      have hbo : bothF C0 C1 = C1 := by rw [← hC0, ← hC1, both_cover]
      have h160 : ∀ x ∈ C0, x < 65536 := by rw [← hC0]; exact coverE_lt _ _ _ _
      have h161 : ∀ x ∈ C1, x < 65536 := by rw [← hC1]; exact coverE_lt _ _ _ _
      have HLP := Lib.hid hLP; have HLb := Lib.hid hLb; have HLt := Lib.hid hLt
      have hlb2 := HLB.out
      have Q1 := Lib.hid (show P.length ≤ 100000 by omega); have Q2 := Lib.hid (show Pb.length ≤ 100000 by omega); have Q3 := Lib.hid (show Pt.length ≤ 100000 by omega); have Q4 := Lib.hid (show sizeL P ≤ 100000 by omega)
      have QA := Lib.hid hfar; have QB := Lib.hid hfb; have QC := Lib.hid hft; have QD := Lib.hid hsb; have QE := Lib.hid hst
      have HC0 := Lib.hid hC0; have HC1 := Lib.hid hC1; have HD0 := Lib.hid hD0; have HD1 := Lib.hid hD1; have HE0 := Lib.hid hE0; have HE1 := Lib.hid hE1
      have Hl0 := Lib.hid hl0; have Hl1 := Lib.hid hl1; have Hbo := Lib.hid hbo; have H160 := Lib.hid h160; have H161 := Lib.hid h161
      have HBr := Lib.hid (belowMore HB1.out HR.out.below)
      clear hfar hfb hft hsb hst hdb hdt hLP hLb hLt hr3 hr4 hown3 hown4 hC0 hC1 hD0 hD1 hE0 hE1 hl0 hl1 hbo h160 h161 HR HLB hlb2 HL1 HB1
      subst hv3 hv4
      go_wp2_with fail
      refine (cov76 A cap _ P false _ C0 HLP.out rfl Q1.out Q4.out QA.out HC0.out).mono ?_
      rintro e w2 ⟨a1, b1, rfl, r1, hb2⟩
      go_wp2_with fail
      refine (cov76 A cap _ P true _ C1 (HLP.out.below hb2) rfl Q1.out Q4.out QA.out HC1.out).mono ?_
      rintro e w3 ⟨a2, b2, rfl, r2, hb3⟩
      have h23 := belowMore hb2 hb3
      go_wp2_with fail
      refine (cov76 A3 c3 _ Pb false _ C0 (HLb.out.below h23) rfl Q2.out QD.out QB.out HD0.out).mono ?_
      rintro e w4 ⟨a3, b3, rfl, r3, hb4⟩
      have h24 := belowMore h23 hb4
      go_wp2_with fail
      refine (cov76 A3 c3 _ Pb true _ C1 (HLb.out.below h24) rfl Q2.out QD.out QB.out HD1.out).mono ?_
      rintro e w5 ⟨a4, b4, rfl, r4, hb5⟩
      have h25 := belowMore h24 hb5
      go_wp2_with fail
      refine (cov76 A4 c4 _ Pt false _ C0 (HLt.out.below h25) rfl Q3.out QE.out QC.out HE0.out).mono ?_
      rintro e w6 ⟨a5, b5, rfl, r5, hb6⟩
      have h26 := belowMore h25 hb6
      go_wp2_with fail
      refine (cov76 A4 c4 _ Pt true _ (List.replicate 42 0) (HLt.out.below h26) rfl Q3.out QE.out QC.out HE1.out).mono ?_
      rintro e w7 ⟨a6, b6, rfl, r6, hb7⟩
      have R1 := Lib.hid (((((r1.below hb3).below hb4).below hb5).below hb6).below hb7)
      have R2 := Lib.hid ((((r2.below hb4).below hb5).below hb6).below hb7)
      have R3 := Lib.hid (((r3.below hb5).below hb6).below hb7)
      have R4 := Lib.hid ((r4.below hb6).below hb7)
      have R5 := Lib.hid (r5.below hb7)
      have R6 := Lib.hid r6
      have HB7 := Lib.hid (belowMore HBr.out (belowMore h26 hb7))
      clear r1 r2 r3 r4 r5 r6 hb2 hb3 hb4 hb5 hb6 hb7 h23 h24 h25 h26 HLP HLb HLt HBr
      have hmk := run_mk42
      go_wp2_with fail
      refine (sameBits_n a1 a3 b1 b3 42 42 C0 C0 _ R1.out R3.out Hl0.out Hl0.out (by rw [Hl0.out]; simp [maxLen]) (by rw [Hl0.out]; simp [maxLen])).mono ?_
      rintro e w8 ⟨rfl, hb8⟩
      rw [decide_eq_true rfl]
      go_wp2_with fail
      refine (sameBits_n a2 a4 b2 b4 42 42 C1 C1 _ (R2.out.below hb8) (R4.out.below hb8) Hl1.out Hl1.out (by rw [Hl1.out]; simp [maxLen]) (by rw [Hl1.out]; simp [maxLen])).mono ?_
      rintro e w9 ⟨rfl, hb9⟩
      rw [decide_eq_true rfl]
      have h89 := belowMore hb8 hb9
      go_wp2_with fail
      refine (sameBits_n a1 a5 b1 b5 42 42 C0 C0 _ (R1.out.below h89) (R5.out.below h89) Hl0.out Hl0.out (by rw [Hl0.out]; simp [maxLen]) (by rw [Hl0.out]; simp [maxLen])).mono ?_
      rintro e w10 ⟨rfl, hb10⟩
      rw [decide_eq_true rfl]
      have h810 := belowMore h89 hb10
      go_wp2_with fail
      have hAl : Below w10.heap.size w10 (w10.alloc (.cells mk42 65)) := (Below.refl _ _).alloc (Nat.le_refl _) _
      have hRm : Rd (w10.alloc (.cells mk42 65)) (some ⟨w10.heap.size, 0, none⟩) (bitVs (List.replicate 42 0)) := by rw [← mk42_bits]; exact Rd.new _ _ _ rfl
      have h810a := belowMore h810 hAl
      refine (sameBits_n a6 _ b6 42 42 42 (List.replicate 42 0) (List.replicate 42 0) _ (R6.out.below h810a) hRm (by simp) (by simp) (by simp [maxLen]) (by simp [maxLen])).mono ?_
      rintro e w11 ⟨rfl, hb11⟩
      rw [decide_eq_true rfl]
      have h811 := belowMore h810a hb11
      clear hRm hAl hmk
      go_wp2_with fail
      refine (both_n a1 a2 b1 b2 42 42 C0 C1 _ (R1.out.below h811) (R2.out.below h811) Hl0.out Hl1.out (by rw [Hl0.out]; decide) (by rw [Hl1.out]; decide) H160.out H161.out).mono ?_
      rintro e w12 ⟨v12, rfl, hown12, hb12⟩
      rw [Hbo.out, Hl1.out] at hown12
      obtain ⟨A12, c12, rfl, -, hr12, -⟩ := ownsRow_form hown12
      have h812 := belowMore h811 hb12
      go_wp2_with fail
      refine (sameBits_n A12 a2 c12 b2 42 42 C1 C1 _ hr12 (R2.out.below h812) Hl1.out Hl1.out (by rw [Hl1.out]; simp [maxLen]) (by rw [Hl1.out]; simp [maxLen])).mono ?_
      rintro e w13 ⟨rfl, hb13⟩
      rw [decide_eq_true rfl]
      have h813 := belowMore h812 hb13
      go_wp2_with fail
      refine (lives_any _).mono ?_
      rintro e w14 ⟨rfl, hb14⟩
      have h814 := belowMore h813 hb14
      go_wp2_with fail
      go_ret
      exact ⟨rfl, belowMore HB7.out h814⟩
end Go.Proofs.Ytkdgibabecpdlaa
