/- Proved: the small closures of programs.Of (is, must, named); for runs that keep what PK says. -/
import Derived.Test.YthhmahmclkmjpaaDoorOpsW
import Derived.Test.YthhmahmclkmjpaaDoorApp3
namespace Go.Proofs.YthhmahmclkmjpaaDoor
open Go.RowKit
/-- A token as it comes: its kind, its text, its place. -/
abbrev Tk := Nat × Bytes × Int
def tkCell (x : Tk) : List Value := [.int .u8 (x.1 : Int), .string ⟨x.2.1.toArray⟩, .int .i64 x.2.2]
def tkCells (T : List Tk) : List Value := T.flatMap tkCell
theorem tkCells_len (T : List Tk) : (tkCells T).length = T.length * 3 := flatMap_len tkCell 3 (fun _ => rfl) T
def ktOf (T : List Tk) : List KT := T.map fun x => (x.1, x.2.1)
theorem ktOf_len (T : List Tk) : (ktOf T).length = T.length := by simp [ktOf]
theorem ktOf_at {T : List Tk} {i : Nat} {x : Tk} (h : T[i]? = some x) : (ktOf T)[i]? = some (x.1, x.2.1) := by simp [ktOf, h]
theorem Rd.tk {w : World} {A : Option Addr} {T : List Tk} (h : Rd w A (tkCells T)) {k : Nat} {d : Tk} (hk : T[k]? = some d) :
    ∃ b off, A = some ⟨b, off, none⟩ ∧ b < w.heap.size ∧ w.cell? ⟨b, off + k * 3, none⟩ = some (.int .u8 (d.1 : Int)) ∧ w.cell? ⟨b, off + k * 3 + 1, none⟩ = some (.string ⟨d.2.1.toArray⟩) ∧ w.cell? ⟨b, off + k * 3 + 2, none⟩ = some (.int .i64 d.2.2) := by
  have e := fun j hj => flatMap_at tkCell 3 (fun _ => rfl) T k d hk j hj
  obtain ⟨b, off, hA, hb, hc⟩ := h.at_ (by intro e0; have := e 0 (by omega); unfold tkCells at e0; rw [e0] at this; simp [tkCell] at this)
  have h0 := hc _ _ ((e 0 (by omega)).trans rfl)
  have h1 := hc _ _ ((e 1 (by omega)).trans rfl)
  have h2 := hc _ _ ((e 2 (by omega)).trans rfl)
  exact ⟨b, off, hA, hb, by simpa using h0, by simpa [Nat.add_assoc] using h1, by simpa [Nat.add_assoc] using h2⟩
def cdCell (c : Cd) : List Value := [.int .u8 (c.1 : Int), .int .i32 c.2]
def cdCells (l : List Cd) : List Value := l.flatMap cdCell
theorem cdCells_len (l : List Cd) : (cdCells l).length = l.length * 2 := flatMap_len cdCell 2 (fun _ => rfl) l
theorem cdCells_snoc (l : List Cd) (c : Cd) : cdCells (l ++ [c]) = cdCells l ++ [.int .u8 (c.1 : Int), .int .i32 c.2] := by simp [cdCells, cdCell]
theorem Tryd.etCode : ET Tryd.prog 31 36 2 8 := ET.mk' (z := .agg #[.int .u8 0, .int .i32 0]) (by kernel_rfl) (by kernel_rfl) rfl (by decide) (by decide)
/-- Where a run of programs.Of keeps its things. -/
structure Cx where
  b : Nat
  n : Nat
  M : Nat
  A : Option Addr
  cl : Nat
  T : List Tk
  base : Nat
abbrev pt (k : Nat) : Value := .pointer (some ⟨k, 0, none⟩)
/-- What stays as it is while programs.Of runs. -/
structure PK (c : Cx) (w : World) : Prop where
  hl : w.heap[c.b]? = some (.cells #[.slice c.A c.T.length c.cl] 30 (0, 0))
  herr : w.heap[c.b + 3]? = some (.cells #[.int .i64 0] 25 (0, 0))
  his : w.heap[c.b + 4]? = some (.cells #[.func (.func 27) #[] #[pt (c.b + 2), pt c.b]] 60 (0, 0))
  hmust : w.heap[c.b + 5]? = some (.cells #[.func (.func 28) #[] #[]] 61 (0, 0))
  hnamed : w.heap[c.b + 6]? = some (.cells #[.func (.func 29) #[] #[pt (c.b + 4), pt c.b, pt (c.b + 2)]] 62 (0, 0))
  hmap : w.heap[c.n]? = some (.cells #[.map (some c.M)] 63 (0, 0))
  hadd : w.heap[c.n + 1]? = some (.cells #[.func (.func 31) #[] #[pt (c.b + 1)]] 65 (0, 0))
  hblock : w.heap[c.n + 2]? = some (.cells #[.func (.func 34) #[] #[pt (c.b + 5), pt (c.b + 4), pt (c.b + 2), pt (c.n + 4)]] 66 (0, 0))
  hchoice : w.heap[c.n + 3]? = some (.cells #[.func (.func 32) #[] #[pt (c.n + 1), pt (c.n + 2), pt (c.b + 6), pt (c.b + 5), pt (c.b + 4), pt (c.b + 1)]] 66 (0, 0))
  hitem : w.heap[c.n + 4]? = some (.cells #[.func (.func 33) #[] #[pt (c.b + 5), pt (c.b + 2), pt c.b, pt (c.n + 3), pt (c.n + 1), pt c.n]] 66 (0, 0))
  howns : w.ownsMap Tryd.prog 9 cdElem c.M 40 (opD opNames)
  rd : Rd w c.A (tkCells c.T)
  old : c.T ≠ [] → ∀ ad, c.A = some ad → ad.block < c.base
  base : c.base ≤ c.b
  bn : c.b + 7 ≤ c.n
  mb : c.b + 7 ≤ c.M
  tl : c.T.length ≤ 4398046511104
  tx : ∀ x ∈ c.T, x.2.1.length ≤ 140737488355328
/-- .. and what turns: the place, and the steps. -/
structure PE (c : Cx) (w : World) (i : Nat) (out : List Cd) : Prop where
  k : PK c w
  hat : w.heap[c.b + 2]? = some (.cells #[.int .i64 (i : Int)] 3 (0, 0))
  hout : ∃ A cap, w.heap[c.b + 1]? = some (.cells #[.slice A out.length cap] 31 (0, 0)) ∧ w.ownsRow c.base 36 2 (.slice A out.length cap) out.length (cdCells out)
/-- Only the place, the steps and their array turn. -/
structure Kp (c : Cx) (w w' : World) : Prop where
  os : w'.os = w.os
  tape : w'.tape = w.tape
  output : w'.output = w.output
  size : w.heap.size ≤ w'.heap.size
  block : ∀ k, k < w.heap.size → k ≠ c.b + 1 → k ≠ c.b + 2 → (c.base ≤ k → ∀ cs fr, w.heap[k]? ≠ some (.cells cs 36 fr)) → w'.heap[k]? = w.heap[k]?
theorem Kp.refl (c : Cx) (w : World) : Kp c w w := ⟨rfl, rfl, rfl, Nat.le_refl _, fun _ _ _ _ _ => rfl⟩
theorem Kp.trans {c : Cx} {u v w : World} (h : Kp c u v) (k : Kp c v w) : Kp c u w :=
  ⟨k.os.trans h.os, k.tape.trans h.tape, k.output.trans h.output, Nat.le_trans h.size k.size, fun q hq h1 h2 h3 => by
    have e := h.block q hq h1 h2 h3
    rw [k.block q (Nat.lt_of_lt_of_le hq h.size) h1 h2 (fun hb => by rw [e]; exact h3 hb), e]⟩
theorem Kp.upd {c : Cx} {w w' : World} {bs : List Nat} (h : Upd bs w w') (hb : ∀ k ∈ bs, k < w.heap.size → k = c.b + 1 ∨ k = c.b + 2 ∨ (c.base ≤ k ∧ ∃ cs fr, w.heap[k]? = some (.cells cs 36 fr))) : Kp c w w' :=
  ⟨h.os, h.tape, h.output, h.size, fun q hq h1 h2 h3 => h.block q hq (fun hm => by
    rcases hb q hm hq with e | e | ⟨e, cs, fr, e2⟩
    · exact h1 e
    · exact h2 e
    · exact h3 e cs fr e2)⟩
theorem Kp.below {c : Cx} {w w' : World} (h : Below w.heap.size w w') : Kp c w w' := ⟨h.os, h.tape, h.output, h.size, fun q hq _ _ _ => h.block q hq⟩
theorem Kp.toBelow {c : Cx} {w w' : World} (h : Kp c w w') (hb : c.base ≤ c.b) (hs : c.base ≤ w.heap.size) : Below c.base w w' :=
  ⟨h.os, h.tape, h.output, h.size, fun q hq => h.block q (by omega) (by omega) (by omega) (fun e => by omega)⟩
theorem PK.keep {c : Cx} {w w' : World} (h : PK c w) (k : Kp c w w') : PK c w' := by
  have hx : ∀ (q : Nat) (cs : Array Value) (t : TypeId), w.heap[q]? = some (.cells cs t (0, 0)) → t ≠ 36 → q ≠ c.b + 1 → q ≠ c.b + 2 → w'.heap[q]? = some (.cells cs t (0, 0)) := fun q cs t hq ht h1 h2 => by
    rw [k.block q (Array.getElem?_eq_some_iff.1 hq).1 h1 h2 (fun _ cs' fr e => by rw [hq] at e; injection e with e; injection e with _ e _; exact ht e)]; exact hq
  have hn := h.bn
  have ⟨es, ck, hM, F⟩ := h.howns
  refine ⟨hx _ _ _ h.hl (by decide) (by omega) (by omega), hx _ _ _ h.herr (by decide) (by omega) (by omega), hx _ _ _ h.his (by decide) (by omega) (by omega), hx _ _ _ h.hmust (by decide) (by omega) (by omega), hx _ _ _ h.hnamed (by decide) (by omega) (by omega), hx _ _ _ h.hmap (by decide) (by omega) (by omega), hx _ _ _ h.hadd (by decide) (by omega) (by omega), hx _ _ _ h.hblock (by decide) (by omega) (by omega), hx _ _ _ h.hchoice (by decide) (by omega) (by omega), hx _ _ _ h.hitem (by decide) (by omega) (by omega), ?_, ?_, h.old, h.base, h.bn, h.mb, h.tl, h.tx⟩
  · have hlt := (Array.getElem?_eq_some_iff.1 hM).1
    have hmb := h.mb
    exact ⟨es, ck, (k.block c.M hlt (by omega) (by omega) (fun _ cs fr e => by rw [hM] at e; cases e)).trans hM, F⟩
  · have hb0 := h.base
    rcases h.rd with e | ⟨b, off, hA, hb, hc⟩
    · exact .inl e
    · by_cases hT : c.T = []
      · exact .inl (by rw [hT]; rfl)
      have hlt := h.old hT _ hA
      simp only at hlt
      refine .inr ⟨b, off, hA, Nat.lt_of_lt_of_le hb k.size, fun j u hj => ?_⟩
      rw [World.cell?_of_block (w := w) (a := ⟨b, off + j, none⟩) (k.block b hb (by omega) (by omega) (fun e => by omega))]
      exact hc j u hj
theorem must_yes (e : Int) (w : World) : Calls Tryd.prog 28 #[.bool true, .int .i64 e] w fun r w' => r = .returned (.tuple #[]) ∧ w' = w := by
  go_enter Tryd.func28, Tryd.ntmps28
  go_wp2
  go_end0
  exact ⟨rfl, rfl⟩
theorem must_no (e : Int) (w : World) : Calls Tryd.prog 28 #[.bool false, .int .i64 e] w fun r w' => r = .panicked [{ v := .iface 25 (.int .i64 e), recovered := false }] ∧ w' = w := by
  go_enter Tryd.func28, Tryd.ntmps28
  go_wp2
  exact ⟨rfl, rfl, rfl⟩
theorem cell1 {w : World} {k : Nat} {v : Value} {t : TypeId} (h : w.heap[k]? = some (.cells #[v] t (0, 0))) : w.cell? ⟨k, 0, none⟩ = some v ∧ k < w.heap.size ∧ w.frozen? ⟨k, 0, none⟩ = false :=
  ⟨by rw [cell_of_row w k 0 _ _ _ h]; rfl, (Array.getElem?_eq_some_iff.1 h).1, frozen_of_row w k 0 _ _ h⟩
set_option maxRecDepth 100000 in
set_option maxHeartbeats 4000000 in
theorem is_any (c : Cx) (k i : Nat) (out : List Cd) (w : World) (h : PE c w i out) (hk : k < 256) :
    Calls Tryd.prog 27 #[.int .u8 (k : Int), pt (c.b + 2), pt c.b] w fun r w' => r = .returned (.bool (isK (ktOf c.T) i k)) ∧ w' = w := by
  obtain ⟨a0, a1, -⟩ := cell1 h.hat
  obtain ⟨l0, l1, -⟩ := cell1 h.k.hl
  have H := Lib.hid h; clear h
  by_cases hlt : i < c.T.length
  · obtain ⟨b, off, hA, hb, c0, c1, c2⟩ := H.out.k.rd.tk (List.getElem?_eq_getElem hlt)
    have hr : isK (ktOf c.T) i k = (c.T[i].1 == k) := by unfold isK; rw [ktOf_at (List.getElem?_eq_getElem hlt)]
    have Hr := Lib.hid hr; clear hr
    generalize c.T[i] = t at *
    rw [hA] at l0
    have e1 : decide ((i : Int) < (c.T.length : Int)) = true := by simp; omega
    have e2 : (0 : Int) ≤ (i : Int) := by omega
    have e3 : (i : Int) < (c.T.length : Int) := by omega
    generalize c.T.length = nT at *
    clear hA
    by_cases he : t.1 = k
    · have e4 : ((t.1 : Int) == (k : Int)) = true := by simp [he]
      go_enter Tryd.func27, Tryd.ntmps27
      go_wp2_with fail
      go_ret
      exact ⟨by rw [Hr.out]; simp [he], rfl⟩
    · have e4 : ((t.1 : Int) == (k : Int)) = false := by simp; omega
      go_enter Tryd.func27, Tryd.ntmps27
      go_wp2_with fail
      go_ret
      exact ⟨by rw [Hr.out]; simp [he], rfl⟩
  · have hr : isK (ktOf c.T) i k = false := by unfold isK; rw [List.getElem?_eq_none (by rw [ktOf_len]; omega)]
    have Hr := Lib.hid hr; clear hr
    have e1 : decide ((i : Int) < (c.T.length : Int)) = false := by simp; omega
    generalize c.T.length = nT at *
    go_enter Tryd.func27, Tryd.ntmps27
    go_wp2_with fail
    go_ret
    exact ⟨by rw [Hr.out]; rfl, rfl⟩
/-- A store into the place's cell. -/
theorem PE.at_ {c : Cx} {w : World} {i : Nat} {out : List Cd} (h : PE c w i out) (j : Nat) : PE c (w.setCell ⟨c.b + 2, 0, none⟩ (.int .i64 (j : Int))) j out ∧ Kp c w (w.setCell ⟨c.b + 2, 0, none⟩ (.int .i64 (j : Int))) := by
  have hu : Upd [c.b + 2] w (w.setCell ⟨c.b + 2, 0, none⟩ (.int .i64 (j : Int))) := (Upd.refl _ w).setCell (.inl (by simp)) _
  have hk : Kp c w (w.setCell ⟨c.b + 2, 0, none⟩ (.int .i64 (j : Int))) := Kp.upd hu (fun k hk _ => .inr (.inl (by simpa using hk)))
  refine ⟨⟨h.k.keep hk, ?_, ?_⟩, hk⟩
  · have := heap_setCell_same w (c.b + 2) 0 _ _ (.int .i64 (j : Int)) h.hat
    rw [this]; rfl
  · obtain ⟨A, cap, h1, h2⟩ := h.hout
    exact ⟨A, cap, hu.blk (by simp) h1, hu.own h2 (own_off (own_not h2 h.hat (by decide)))⟩
theorem PE.keep {c : Cx} {w w' : World} {i : Nat} {out : List Cd} (h : PE c w i out) (hb : Below w.heap.size w w') : PE c w' i out := by
  refine ⟨h.k.keep (Kp.below hb), ?_, ?_⟩
  · rw [hb.block _ (Array.getElem?_eq_some_iff.1 h.hat).1]; exact h.hat
  · obtain ⟨A, cap, h1, h2⟩ := h.hout
    exact ⟨A, cap, by rw [hb.block _ (Array.getElem?_eq_some_iff.1 h1).1]; exact h1, ownsRow_below h2 hb⟩
theorem PE.drew {c : Cx} {w : World} {i : Nat} {out : List Cd} (h : PE c w i out) : PE c w.drew i out := h.keep ((Below.refl _ _).drew)
theorem PE.len {c : Cx} {w : World} {i : Nat} {out : List Cd} (h : PE c w i out) : out.length ≤ 9223372036854775807 := by
  obtain ⟨A, cap, h1, h2⟩ := h.hout
  rcases Nat.eq_zero_or_pos out.length with h0 | h0
  · omega
  · obtain ⟨g, c', cur, _, _, _, h5, h6, _⟩ := own_addr h2 h0
    simp only [maxLen] at h6; omega
def NameP (c : Cx) (i : Nat) (out : List Cd) (n : Bytes) (w : World) (r : Ending) (w' : World) : Prop :=
  r = .returned (.bool (isName (ktOf c.T) i n)) ∧ PE c w' (if isName (ktOf c.T) i n then i + 1 else i) out ∧ Kp c w w'
set_option maxRecDepth 100000 in
set_option maxHeartbeats 4000000 in
theorem named_any (c : Cx) (i : Nat) (out : List Cd) (n : Bytes) (w : World) (h : PE c w i out) :
    Calls Tryd.prog 29 #[.string ⟨n.toArray⟩, pt (c.b + 4), pt c.b, pt (c.b + 2)] w (NameP c i out n w) := by
  obtain ⟨a0, a1, af⟩ := cell1 h.hat
  obtain ⟨l0, l1, -⟩ := cell1 h.k.hl
  obtain ⟨s0, s1, -⟩ := cell1 h.k.his
  have htl := h.k.tl
  have H := Lib.hid h; clear h
  by_cases h2 : isK (ktOf c.T) i 2 = true
  · have hlt : i < c.T.length := by have := isK_lt h2; rwa [ktOf_len] at this
    obtain ⟨b, off, hA, hb, c0, c1, c2⟩ := H.out.k.rd.tk (List.getElem?_eq_getElem hlt)
    have hk2 : c.T[i].1 = 2 := by unfold isK at h2; rw [ktOf_at (List.getElem?_eq_getElem hlt)] at h2; simpa using h2
    have hr : isName (ktOf c.T) i n = (c.T[i].2.1 == n) := by unfold isName; rw [ktOf_at (List.getElem?_eq_getElem hlt)]; simp [hk2]
    have Hr := Lib.hid hr; clear hr hk2
    generalize c.T[i] = t at *
    obtain ⟨tk, tt, tp⟩ := t
    simp only at c0 c1 c2
    rw [hA] at l0
    have e2 : (0 : Int) ≤ (i : Int) := by omega
    have e3 : (i : Int) < (c.T.length : Int) := by omega
    have e5 : (i : Int) + 1 ≤ 4398046511104 := by omega
    have Hp := Lib.hid (H.out.at_ (i + 1))
    generalize c.T.length = nT at *
    have H2 := Lib.hid h2
    clear hA h2
    by_cases he : tt = n
    · subst he
      go_enter Tryd.func29, Tryd.ntmps29
      go_wp2_with fail
      refine (is_any c 2 i out _ H.out (by omega)).mono ?_
      rintro r w1 ⟨rfl, rfl⟩
      rw [H2.out]
      go_wp2_with fail
      go_ret
      have hy : isName (ktOf c.T) i tt = true := by rw [Hr.out]; simp
      unfold NameP
      rw [hy]
      exact ⟨rfl, Hp.out.1, Hp.out.2⟩
    · have e4 : (tt == n) = false := by simp [he]
      go_enter Tryd.func29, Tryd.ntmps29
      go_wp2_with fail
      refine (is_any c 2 i out _ H.out (by omega)).mono ?_
      rintro r w1 ⟨rfl, rfl⟩
      rw [H2.out]
      go_wp2_with fail
      go_ret
      have hy : isName (ktOf c.T) i n = false := by rw [Hr.out]; simp [he]
      unfold NameP
      rw [hy]
      exact ⟨rfl, H.out, Kp.refl _ _⟩
  · have hr : isName (ktOf c.T) i n = false := by
      unfold isName
      unfold isK at h2
      split
      · rename_i t ht
        rw [ht] at h2
        simp at h2 ⊢
        intro e; exact absurd e h2
      · rfl
    have h3 : isK (ktOf c.T) i 2 = false := by simpa using h2
    have Hr := Lib.hid hr; have H3 := Lib.hid h3
    clear hr h2 h3
    go_enter Tryd.func29, Tryd.ntmps29
    go_wp2_with fail
    refine (is_any c 2 i out _ H.out (by omega)).mono ?_
    rintro r w1 ⟨rfl, rfl⟩
    rw [H3.out]
    go_wp2_with fail
    go_ret
    unfold NameP
    rw [Hr.out]
    exact ⟨rfl, H.out, Kp.refl _ _⟩
end Go.Proofs.YthhmahmclkmjpaaDoor
