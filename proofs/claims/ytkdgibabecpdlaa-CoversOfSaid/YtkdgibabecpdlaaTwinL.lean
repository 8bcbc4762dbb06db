/- Proved: TwinLines makes marked copies of lines, and LeftLines finds them as they were; for lines of 100000 dots at most together. -/
import Derived.Test.YtkdgibabecpdlaaTwinD
import Derived.Test.YtkdgibabecpdlaaRulesW
import Derived.Test.YtkdgibabecpdlaaBookQ
namespace Go.Proofs.Ytkdgibabecpdlaa
open Go.RowKit
abbrev dotMarks : List Dot := [(1152921504606846976, 0), (1152921504606846976, 0), (1152921504606846976, 0)]
/-- A twin of a line: its room ends with three marks. -/
def Marked (w : World) (q : LineV) : Prop := ∃ g, q.1 = some ⟨g, 0, none⟩ ∧ q.2.1 = q.2.2.length + 3 ∧ w.ownsRow 0 53 2 (.slice (some ⟨g, 0, none⟩) (q.2.2.length + 3) (q.2.2.length + 3)) (q.2.2.length + 3) (dotCells (q.2.2 ++ dotMarks))
theorem Marked.below {w w' : World} {q : LineV} (h : Marked w q) (hb : Below w.heap.size w w') : Marked w' q := by
  obtain ⟨g, h1, h2, h3⟩ := h; exact ⟨g, h1, h2, ownsRow_below h3 hb⟩
theorem Marked.all {w : World} {q : LineV} (h : Marked w q) : Rd w q.1 (dotCells (q.2.2 ++ dotMarks)) := by
  obtain ⟨g, h1, h2, h3⟩ := h
  obtain ⟨A', c', e', -, hr', -⟩ := ownsRow_form h3
  injection e' with e1 _ _
  rw [h1, e1]; exact hr'
theorem Marked.rd {w : World} {q : LineV} (h : Marked w q) : Rd w q.1 (dotCells q.2.2) := by
  have h3 := h.all
  rw [dotCells, List.flatMap_append] at h3
  exact h3.pre
/-- The first k lines' twins. -/
structure TwS (w wr : World) (P : List LineV) (k : Nat) (v3 : Value) (Pm : List LineV) : Prop where
  own : wr.ownsRow w.heap.size 51 1 v3 k (heads Pm)
  len : Pm.length = k
  tws : ∀ q ∈ Pm, Marked wr q
  dm : dotsL Pm = dotsL (P.take k)
  below : Below w.heap.size w wr
theorem TwS.stay {w wr w' : World} {P : List LineV} {k : Nat} {v3 : Value} {Pm : List LineV} (h : TwS w wr P k v3 Pm) (hb : Below wr.heap.size wr w') : TwS w w' P k v3 Pm :=
  ⟨ownsRow_below h.own hb, h.len, fun q hq => (h.tws q hq).below hb, h.dm, h.below.trans (hb.mono h.below.size)⟩
theorem TwS.more {w wq w2 w5 : World} {P : List LineV} {k g : Nat} {v3 v5 : Value} {Pm : List LineV} {l : List Dot} (h : TwS w wq P k v3 Pm) (hb : Below wq.heap.size wq w2)
    (hr : w2.ownsRow 0 53 2 (.slice (some ⟨g, 0, none⟩) (l.length + 3) (l.length + 3)) (l.length + 3) (dotCells (l ++ dotMarks)))
    {o : Obj} (hown : w5.ownsRow w.heap.size 51 1 v5 (k + 1) (heads Pm ++ [.slice (some ⟨g, 0, none⟩) l.length (l.length + 3)])) (hgr : (w2.alloc o).grownBy w5 v3.ownBlock) (hb5 : Below w.heap.size (w2.alloc o) w5)
    (hl : dotsL (P.take (k + 1)) = dotsL (P.take k) ++ [l]) : TwS w w5 P (k + 1) v5 (Pm ++ [(some ⟨g, 0, none⟩, l.length + 3, l)]) := by
  have hA := (Below.refl w2.heap.size w2).alloc (Nat.le_refl _) o
  have hu := grown_upd hgr
  have h2 := (h.stay hb).stay hA
  have keep : ∀ q, Marked (w2.alloc o) q → Marked w5 q := by
    intro q hq
    obtain ⟨g', e1, e2, hr'⟩ := hq
    exact ⟨g', e1, e2, hu.own hr' (own_apart hr' h2.own (by decide))⟩
  refine ⟨by simpa [heads, lineHead] using hown, by simp [h.len], ?_, ?_, ?_⟩
  · intro q hq
    rcases List.mem_append.1 hq with hq | hq
    · exact keep q (h2.tws q hq)
    · rw [List.mem_singleton.1 hq]
      exact keep _ ⟨g, rfl, rfl, ownsRow_below hr hA⟩
  · rw [hl, ← h.dm]; simp [dotsL]
  · have hs1 := h.below.size
    have hs2 := hb.size
    exact h.below.trans ((hb.mono hs1).trans ((hA.mono (by omega)).trans hb5))
set_option maxRecDepth 100000 in
set_option maxHeartbeats 4000000 in
theorem twinLines_any (A : Option Addr) (cap : Nat) (P : List LineV) (w : World) (hL : Lns w A P) (hn : P.length ≤ 100000) (hs : sizeL P ≤ 100000) :
    Calls Try.prog 14 #[.slice A P.length cap] w fun e w' => ∃ v Pm, e = .returned v ∧ TwS w w' P P.length v Pm := by
  have HL := Lib.hid hL; clear hL
  go_enter Try.func14, Try.ntmps14
  go_wp2_with fail
  go_loopw [3, 4] (fun v3 v4 wr => ∃ (k : Nat) (Pm : List LineV), k ≤ P.length ∧ v4 = .int .i64 k ∧ TwS w wr P k v3 Pm) (fun _ v4 _ => P.length - (intOf v4).toNat)
  case atStart => exact ⟨0, [], by omega, rfl, ⟨World.ownsRow_nil _ _ _ _, rfl, by simp, by simp [dotsL], Below.refl _ _⟩⟩
  case round =>
    obtain ⟨k, Pm, hk, rfl, hmo⟩ := hrel
    have HM := Lib.hid hmo; clear hmo
    by_cases hlt : k < P.length
    · obtain ⟨b, off, rfl, hb1, c00⟩ := (HL.out.below HM.out.below).line hlt
      have hpl := sizeL_mem (List.getElem_mem hlt)
      have hrl := ((HL.out.below HM.out.below).each P[k] (List.getElem_mem hlt))
      have htk : dotsL (P.take (k + 1)) = dotsL (P.take k) ++ [P[k].2.2] := by rw [List.take_succ_eq_append_getElem hlt]; simp only [dotsL, List.map_append, List.map_cons, List.map_nil]
      generalize P[k] = p at *
      obtain ⟨Ap, cp, l⟩ := p
      simp only [lineHead] at hpl hrl c00 htk
      have Hrl := Lib.hid hrl; have Htk := Lib.hid htk
      clear hrl htk
      have hl : l.length ≤ 100000 := by omega
      obtain ⟨A3, c3, rfl, -, -, -⟩ := ownsRow_form HM.out.own
      go_wp2_with fail
      refine (twinDotsO_any Ap cp l _ Hrl.out hl).mono ?_
      rintro e w2 ⟨g, rfl, hg, ho, hr, hb2⟩
      have Hr := Lib.hid (ownsRow_mono ho (Nat.zero_le _)); have Hb2 := Lib.hid hb2
      clear hr hb2 hg ho
      have hsz : w.heap.size ≤ w2.heap.size := Nat.le_trans HM.out.below.size Hb2.out.size
      have HO := Lib.hid (ownsRow_below HM.out.own Hb2.out)
      go_wp2_with (at_builtin; refine wpList_app rfl rfl Try.etLines (HO.out.alloc _) rfl rfl (Rd.new _ _ _ rfl) (m := 1) rfl (by simp [Value.oneCell']) (by omega) (by simp; omega) ?_; intro v5 w5 hown5 hg5 hat5 hb5)
      have Hms := Lib.hid (HM.out.more Hb2.out Hr.out hown5 hg5 hb5 Htk.out)
      clear hown5 hg5 hat5 hb5
      go_roundw
      case rel => exact ⟨k + 1, _, by omega, by go_num, Hms.out⟩
      case measure => simp [intOf]; omega
    · have hkl : k = P.length := by omega
      subst hkl
      go_wp2_with fail
      go_ret
      exact ⟨_, Pm, rfl, HM.out⟩
set_option maxRecDepth 100000 in
set_option maxHeartbeats 4000000 in
theorem leftLines_any (A B : Option Addr) (ca cb n : Nat) (P Pm : List LineV) (w : World) (hL : Lns w A P) (hM : Lns w B Pm) (hmk : ∀ q ∈ Pm, Marked w q) (hd : dotsL Pm = dotsL P) (hn : P.length = n) (hn0 : P.length ≤ 100000) (hs : sizeL P ≤ 100000) :
    Calls Try.prog 19 #[.slice B n cb, .slice A n ca] w fun e w' => e = .returned (.bool true) ∧ Below w.heap.size w w' := by
  subst hn
  have hlen : Pm.length = P.length := by have := congrArg List.length hd; simpa [dotsL] using this
  have HL := Lib.hid hL; have HM := Lib.hid hM; have HK := Lib.hid hmk; have HD := Lib.hid hd; have HN := Lib.hid hlen
  clear hL hM hmk hd hlen
  go_enter Try.func19, Try.ntmps19
  go_wp2_with fail
  go_loopw [5] (fun v5 wr => ∃ k : Nat, k ≤ P.length ∧ v5 = .int .i64 k ∧ Below w.heap.size w wr) (fun v5 _ => P.length - (intOf v5).toNat)
  case atStart => exact ⟨0, by omega, rfl, Below.refl _ _⟩
  case round =>
    obtain ⟨k, hk, rfl, hb⟩ := hrel
    by_cases hlt : k < P.length
    · have hlt2 : k < Pm.length := by rw [HN.out]; exact hlt
      obtain ⟨b1, off1, rfl, hz1, c1⟩ := (HL.out.below hb).line hlt
      obtain ⟨b2, off2, rfl, hz2, c2⟩ := (HM.out.below hb).line hlt2
      have hpl := sizeL_mem (List.getElem_mem hlt)
      have hrl := ((HL.out.below hb).each P[k] (List.getElem_mem hlt))
      have hmk := (HK.out Pm[k] (List.getElem_mem hlt2)).below hb
      have hdd : Pm[k].2.2 = P[k].2.2 := by
        have h1 : (dotsL Pm)[k]? = (dotsL P)[k]? := by rw [HD.out]
        simpa [dotsL, List.getElem?_eq_getElem hlt, List.getElem?_eq_getElem hlt2] using h1
      generalize P[k] = p at *
      generalize Pm[k] = q at *
      obtain ⟨Ap, cp, l⟩ := p
      obtain ⟨Aq, cq, m⟩ := q
      have hr := hmk.all
      obtain ⟨g, e1, e2, -⟩ := hmk
      simp only at e1 e2 hdd hr hpl hrl
      subst e1 hdd e2
      simp only [lineHead] at c1 c2
      have Hrl := Lib.hid hrl; have Hr := Lib.hid hr; have Hb := Lib.hid hb
      clear hrl hr hb
      go_upto_region 6 with (fail)
      go_region_held3 (fun w' => w'.cell? ⟨b1, off1 + k, none⟩ = some (.slice Ap m.length cp) ∧ w'.cell? ⟨b2, off2 + k, none⟩ = some (.slice (some ⟨g, 0, none⟩) m.length (m.length + 3))) (first | exact ⟨d1, d2⟩ | exact ⟨c1, c2⟩ | go_keep)
        (first
          | (go_at_call 24; refine (leftDots_any Ap cp g m _ Hrl.out.drew (by omega) Hr.out.drew).mono ?_; rintro e w3 ⟨rfl, hb3⟩; have d1 := (hb3.cell (p := ⟨b1, off1 + k, none⟩) hz1).trans c1; have d2 := (hb3.cell (p := ⟨b2, off2 + k, none⟩) hz2).trans c2))
      all_goals
        have Hb3 := Lib.hid hb3
        clear hb3 d1 d2 c1 c2
        go_wp2_with fail
        go_roundw
        case rel => exact ⟨k + 1, by omega, by go_num, Hb.out.trans ((Below.refl _ _).drew.trans (Hb3.out.mono Hb.out.size))⟩
        case measure => simp [intOf]; omega
    · have hkl : k = P.length := by omega
      subst hkl
      go_wp2_with fail
      go_ret
      exact ⟨rfl, hb⟩
end Go.Proofs.Ytkdgibabecpdlaa
