/- Proved: covers.Of answers the plain covering, in new memory, or its refusals; for lines of 100000 dots at most together. -/
import Derived.Test.YtkdgibabecpdlaaMake
namespace Go.Proofs.Ytkdgibabecpdlaa
open Go.RowKit

/-- A line as it is handed: where it lies, its room, its dots. -/
abbrev LineV := Option Addr × Nat × List Dot
def lineHead (p : LineV) : Value := .slice p.1 p.2.2.length p.2.1
/-- A slice of lines is read. -/
structure Lns (w : World) (A : Option Addr) (P : List LineV) : Prop where
  rd : Rd w A (P.map lineHead)
  each : ∀ p ∈ P, Rd w p.1 (dotCells p.2.2)
theorem Lns.below {w w' : World} {A : Option Addr} {P : List LineV} (h : Lns w A P) (hb : Below w.heap.size w w') : Lns w' A P := ⟨h.rd.below hb, fun p hp => (h.each p hp).below hb⟩
def edgesL (P : List LineV) : List Edge := P.flatMap fun p => edgesF p.2.2
def farL (P : List LineV) : Bool := P.any fun p => p.2.2.any isFarB
def sizeL (P : List LineV) : Nat := (P.map fun p => p.2.2.length).sum
def bitVs (l : List Nat) : List Value := l.map fun (n : Nat) => .int .u16 (n : Int)
/-- What covers.Of answers: the bits, and how it went. -/
def ofRes (P : List LineV) (even : Bool) (W H : Int) : List Nat × Int :=
  if W < 1 ∨ 256 < W ∨ H < 1 ∨ 256 < H then ([], 1) else if farL P then ([], 8) else (coverE (edgesL P) even W.toNat H.toNat, 0)

theorem Rd.drew {w : World} {A : Option Addr} {cs : List Value} (h : Rd w A cs) : Rd w.drew A cs := h

/-- Behind the call of edges. -/
theorem cov_edges {w2 w4 : World} {S base : Nat} {u v4 : Value} {es : List Edge} {n : Nat} {xs : List Value} (hbase : base ≤ w2.heap.size) (hown : w2.ownsRow base 149 5 u n xs) (hfz : w2.frozen? ⟨S, 0, none⟩ = false) (hc : w2.cell? ⟨S, 0, none⟩ = some u) (ho : w4.ownsRow w2.drew.heap.size 149 5 v4 es.length (edgeCells es)) (hb : Below w2.drew.heap.size w2.drew w4) :
    w4.cell? ⟨S, 0, none⟩ = some u ∧ w4.frozen? ⟨S, 0, none⟩ = false ∧ base ≤ w4.heap.size ∧ w4.ownsRow base 149 5 u n xs ∧ w2.heap.size ≤ w4.heap.size ∧ ∃ A4 p4, v4 = .slice A4 es.length p4 ∧ Hid (w4.ownsRow w2.heap.size 149 5 (.slice A4 es.length p4) es.length (edgeCells es)) ∧ Rd w4 A4 (edgeCells es) ∧ Hid (Below w2.heap.size w2 w4) := by
  obtain ⟨A4, p4, rfl, _, hr, _⟩ := ownsRow_form ho
  have hb' : Below w2.heap.size w2 w4 := ⟨hb.os, hb.tape, hb.output, hb.size, hb.block⟩
  exact ⟨by rw [hb'.cell (World.block_lt_of_cell? w2 _ hc)]; exact hc, by rw [hb'.frozen (World.block_lt_of_cell? w2 _ hc)]; exact hfz, Nat.le_trans hbase hb'.size, ownsRow_below hown hb', hb'.size, A4, p4, rfl, Lib.hid ho, hr, Lib.hid hb'⟩

theorem cov_app {w4 w5 : World} {S base m : Nat} {u v5 : Value} {xs : List Value} (hc : w4.cell? ⟨S, 0, none⟩ = some u) (hf : w4.frozen? ⟨S, 0, none⟩ = false) (hn : u.ownBlock ≠ some S)
    (ho : w5.ownsRow base 149 5 v5 m xs) (hg : w4.grownBy w5 u.ownBlock) : w5.frozen? ⟨S, 0, none⟩ = false ∧ w5.cell? ⟨S, 0, none⟩ = some u ∧ ∃ A5 p5, v5 = .slice A5 m p5 := by
  have hS := World.block_lt_of_cell? w4 _ hc
  refine ⟨?_, ?_, ?_⟩
  · rw [hg.frozen_far ⟨S, 0, none⟩ hS (Ne.symm hn)]; exact hf
  · rw [hg.cell_far ⟨S, 0, none⟩ hS (Ne.symm hn)]; exact hc
  · obtain ⟨A, c, h, _⟩ := ownsRow_form ho
    exact ⟨A, c, h⟩
theorem sizeL_mem {P : List LineV} {p : LineV} (h : p ∈ P) : p.2.2.length ≤ sizeL P := by
  unfold sizeL
  induction P with
  | nil => cases h
  | cons a l ih =>
    rw [List.map_cons, List.sum_cons]
    rcases List.mem_cons.1 h with rfl | h
    · omega
    · have := ih h; omega
theorem edgesL_len (P : List LineV) : (edgesL P).length ≤ sizeL P := by
  unfold sizeL edgesL
  induction P with
  | nil => simp
  | cons a l ih =>
    rw [List.map_cons, List.sum_cons, List.flatMap_cons, List.length_append]
    have := edgesF_len a.2.2; omega
theorem sizeL_take (P : List LineV) (k : Nat) : sizeL (P.take k) ≤ sizeL P := by
  unfold sizeL
  conv => rhs; rw [← List.take_append_drop k P, List.map_append, List.sum_append]
  omega
theorem edgesL_near {P : List LineV} (h : farL P = false) : ∀ e ∈ edgesL P, NearE e := by
  intro e he
  obtain ⟨p, hp, he⟩ := List.mem_flatMap.1 he
  have h1 := List.any_eq_false.1 h p hp
  have h2 : ∀ d ∈ p.2.2, isFarB d = false := fun d hd => by
    cases hf : isFarB d with
    | false => rfl
    | true => exact absurd (List.any_eq_true.2 ⟨d, hd, hf⟩) h1
  obtain ⟨m1, m2, m3, m4⟩ := mem_edgesF he
  exact ⟨h2 _ m1, h2 _ m2, m3, m4⟩

theorem heapInit_scan {S base : Nat} {vw vt : Value} {ws : List Edge} {ts : List Int} {w : World} (hs : ScanS w S base vw (.slice none 0 0) vt ws [] ts) (hl : ws.length ≤ 1000000) (hbase : base ≤ w.heap.size) :
    Calls Try.prog 38 #[.iface 83 (.pointer (some ⟨S, 0, none⟩))] w fun e w' => e = .returned (.tuple #[]) ∧ ScanS w' S base vw (.slice none 0 0) vt (initF ws.length (ws.length / 2) ws) [] ts ∧ Below base w w' := by
  have hc0 := cell_of_row w S 0 _ _ _ hs.blk
  rcases Nat.eq_zero_or_pos ws.length with h0 | hpos
  · obtain ⟨A, c, rfl, -, -, -⟩ := ownsRow_form hs.wa
    rw [h0] at hc0
    have hn : ws = [] := List.length_eq_zero_iff.1 h0
    refine (heapInit_none S A c w hc0).mono ?_
    rintro e w' ⟨rfl, rfl⟩
    subst hn
    exact ⟨rfl, hs, Below.refl _ _⟩
  · obtain ⟨g, c, rfl, hg1, hg2⟩ := row_of hs.wa hpos
    have hgS : S ≠ g := fun e => own_ne hs.wa hs.blk (by decide) (by rw [e]; rfl)
    refine (heapInit_any S base g c ws w hc0 hs.wa hgS hl).mono ?_
    rintro e w' ⟨rfl, hr, hg⟩
    have U : Upd [g] w w' := (Upd.refl _ _).grown hg (fun k hk => .inl (by simpa using hk.symm))
    have hlen := (initF_ok ws).2.length_eq
    refine ⟨rfl, ⟨U.blk (by simpa using hgS) hs.blk, hs.low, ?_, ⟨rfl, .inl ⟨rfl, rfl⟩⟩, U.own hs.tu (fun k hk => ?_), .inr (by simp [Value.ownBlock])⟩, U.toBelow hbase (by simpa using hg1)⟩
    · have : w'.ownsRow base 149 5 (.slice (some ⟨g, 0, none⟩) (initF ws.length (ws.length / 2) ws).length c) _ _ := hr
      rw [hlen] at this ⊢; exact this
    · simp; rintro rfl
      rcases hs.wa.2 with ⟨h, _⟩ | ⟨g', cap', cur, hv, _, h, _⟩
      · cases h
      · injection hv with hv; injection hv with hv; injection hv with hv; subst hv
        exact own_ne hs.tu h (by decide) hk

theorem cov_rel {w wr w2 w4 w5 : World} {S base m : Nat} {vw vt v5 : Value} {ws ws' : List Edge} {ts : List Int} {xs : List Value} (hs : ScanS wr S base vw (.slice none 0 0) vt ws [] ts) (hb : Below base w wr) (hbase : base ≤ w.heap.size)
    (hb2 : Below wr.heap.size wr w2) (hb4 : Below w2.heap.size w2 w4) (hg : w4.grownBy w5 vw.ownBlock) (ho : w5.ownsRow base 149 5 v5 m xs) (hat : v5.ownBlock = vw.ownBlock ∨ v5.ownBlock = some w4.heap.size) (hm : m = ws'.length) (hx : xs = edgeCells ws') :
    ScanS (w5.setCell ⟨S, 0, none⟩ v5) S base v5 (.slice none 0 0) vt ws' [] ts ∧ Below base w (w5.setCell ⟨S, 0, none⟩ v5) := by
  subst hm hx
  have hwS : vw.ownBlock ≠ some S := own_ne hs.wa hs.blk (by decide)
  have U0 : Upd vw.ownBlock.toList wr w4 := (Upd.ofBelow hb2).below hb4
  have U : Upd vw.ownBlock.toList wr w5 := U0.grown hg (fun k hk => .inl (by rw [hk]; simp))
  have hSl : S < w4.heap.size := Nat.lt_of_lt_of_le (Array.getElem?_eq_some_iff.1 hs.blk).1 U0.size
  have hB := U.blk (fun h => by rw [Option.mem_toList] at h; exact hwS h) hs.blk
  have h5S : v5.ownBlock ≠ some S := by rcases hat with h | h <;> rw [h]; exact hwS; intro h; injection h with h; omega
  have U1 : Upd [S] w5 (w5.setCell ⟨S, 0, none⟩ v5) := (Upd.refl _ _).setCell (.inl (by simp)) _
  refine ⟨⟨?_, hs.low, ?_, ⟨rfl, .inl ⟨rfl, rfl⟩⟩, ?_, ?ne⟩, ?_⟩
  case ne => cases h : v5.ownBlock with | none => exact .inl rfl | some x => exact .inr (by simp [Value.ownBlock])
  · exact heap_setCell_same w5 S 0 _ _ v5 hB
  · exact U1.own ho (fun k hk => by simp; rintro rfl; exact h5S hk)
  · refine U1.own (U.own hs.tu (fun k hk => ?_)) (fun k hk => by simp; rintro rfl; exact own_ne hs.tu hs.blk (by decide) hk)
    rw [Option.mem_toList]
    intro e
    rcases hs.wa.2 with ⟨h, _⟩ | ⟨g', cap', cur, hv, _, h, _⟩
    · rw [h] at e; cases e
    · rw [hv] at e; injection e with e; subst e; exact own_ne hs.tu h (by decide) hk
  · have hbl : base ≤ wr.heap.size := Nat.le_trans hbase hb.size
    refine hb.trans (((U.mono (bs' := S :: vw.ownBlock.toList) (by simp +contextual)).trans (U1.mono (by simp))).toBelow hbl (fun x hx => ?_))
    simp only [List.mem_cons, Option.mem_toList] at hx
    rcases hx with rfl | hx
    · exact hs.low
    · exact (hs.wa.lt x hx).1
/-- How far the rows are. -/
def CovR (w wr : World) (S O : Nat) (es : List Edge) (even : Bool) (w0 h0 R : Nat) (vt : Value) : Prop :=
  ∃ vw vm ws ms ts out, ScanS wr S w.heap.size vw vm vt ws ms ts ∧ ts.length = 4 * w0 + 1 ∧ ScanOk es ws ms (64 * (R : Int) - 32) ∧ OutOk es even w0 h0 R 0 out ∧
    wr.heap[O]? = some (.cells (bitVs out).toArray 65 (0, 0)) ∧ Below w.heap.size w wr

theorem cov_start {w w2 : World} {S w0 h0 : Nat} {es : List Edge} {even : Bool} {vw vt : Value} (hs : ScanS w2 S w.heap.size vw (.slice none 0 0) vt (initF es.length (es.length / 2) es) [] (List.replicate (4 * w0 + 1) 0)) (hb : Below w.heap.size w w2) {w3 : World}
    (h3 : w3 = w2.alloc (.cells (List.replicate (w0 * h0) (.int .u16 0)).toArray 65)) : CovR w w3 S w2.heap.size es even w0 h0 0 vt := by
  subst h3
  have hu : Upd [] w2 (w2.alloc (.cells (List.replicate (w0 * h0) (.int .u16 0)).toArray 65)) := (Upd.refl _ _).alloc _
  obtain ⟨h1, h2⟩ := initF_ok es
  have hlen := h2.length_eq
  refine ⟨_, _, _, _, _, _, hs.upd hu, by simp, ⟨⟨[], by simpa using h2, by simp⟩, by rw [hlen]; exact h1, by simp⟩, OutOk.init es even w0 h0, ?_, hb.trans (hu.toBelow hb.size (by simp))⟩
  rw [heap_alloc_new]
  simp [bitVs]
theorem windE_abs {es : List Edge} (h : ∀ e ∈ es, NearE e) (p : Dot) : -(es.length : Int) ≤ windE es p ∧ windE es p ≤ es.length := by
  have := sum_abs (es.map (turnOf p)) (fun x hx => by
    obtain ⟨e, he, rfl⟩ := List.mem_map.1 hx
    have ht := (h e he).2.2.2
    unfold turnOf; split <;> omega)
  simpa [windE] using this
theorem sum_take_succ {l : List Int} {k : Nat} (h : k < l.length) : (l.take (k + 1)).sum = (l.take k).sum + l[k] := by
  rw [List.take_succ_eq_append_getElem h, List.sum_append]; simp

theorem ScanOk.sub {all ws ms : List Edge} {y : Int} (h : ScanOk all ws ms y) : (∀ e ∈ ws ++ ms, e ∈ all) ∧ ws.length + ms.length ≤ all.length := by
  obtain ⟨ds, hp, _⟩ := h.perm
  refine ⟨fun e he => hp.mem_iff.1 (List.mem_append_left _ he), ?_⟩
  have := hp.length_eq
  simp only [List.length_append] at this
  omega

/-- What the scan has laid for row R: the turns, whose sums are the windings. -/
theorem cov_row {es ws ms : List Edge} {w0 R : Nat} {ts : List Int} (hnear : ∀ e ∈ es, NearE e) (hok : ScanOk es ws ms (64 * (R : Int) - 32)) (hl : ts.length = 4 * w0 + 1) :
    ∃ us : List Int, us = tsF (64 * (R : Int) + 32) (ts.length - 1) ((popAll ws.length (64 * (R : Int) + 32) ws ms).2.filter (meetE (64 * (R : Int) + 32))) (List.replicate ts.length 0) ∧ us.length = 4 * w0 + 1 ∧
      ScanOk es (popAll ws.length (64 * (R : Int) + 32) ws ms).1 ((popAll ws.length (64 * (R : Int) + 32) ws ms).2.filter (meetE (64 * (R : Int) + 32))) (64 * ((R + 1 : Nat) : Int) - 32) ∧
      ∀ i, i < 4 * w0 → (us.take (i + 1)).sum = windE es (64 * (i : Int) + 32, 64 * (R : Int) + 32) := by
  obtain ⟨h1, h2⟩ := hok.step (y' := 64 * (R : Int) + 32) (by omega)
  refine ⟨_, rfl, by rw [tsF_len, List.length_replicate, hl], ?_, fun i hi => ?_⟩
  · rw [show 64 * ((R + 1 : Nat) : Int) - 32 = 64 * (R : Int) + 32 by omega]; exact h1
  · rw [h2, tsF_wind (by omega)]
    intro e he
    refine ⟨hnear e ?_, (List.mem_filter.1 he).2⟩
    exact h1.sub.1 e (List.mem_append_right _ he)
theorem made_upd {w w1 : World} {o : Obj} (h : w1 = w.alloc o) : Upd [] w w1 ∧ w1.heap.size = w.heap.size + 1 := by
  subst h; exact ⟨(Upd.refl _ _).alloc _, by simp⟩

set_option maxRecDepth 100000 in
set_option maxHeartbeats 2000000 in
theorem or_shl_u16 (y s : Nat) (hy : y < 65536) (hs : s ≤ 15) : bits .or .u16 (y : Int) (IntKind.u16.wrap (2 ^ s)) = ((y ||| 1 <<< s : Nat) : Int) := by
  have h2 : 2 ^ s < 2 ^ 16 := Nat.pow_lt_pow_right (by decide) (by omega)
  have h1 : IntKind.u16.wrap ((2 : Int) ^ s) = ((2 ^ s : Nat) : Int) := by
    rw [show (2 : Int) ^ s = ((2 ^ s : Nat) : Int) by simp, IntKind.wrap_u16]; generalize 2 ^ s = t at *; omega
  rw [h1, Nat.one_shiftLeft]
  exact (bits_nat .u16 16 (by decide) (fun n h0 h1 => by rw [IntKind.wrap_u16]; omega) y (2 ^ s) hy h2).2
theorem cov_set {w wc : World} {S O q y n c : Nat} {vw vm : Value} {ws ms : List Edge} {ts : List Int} {out : List Nat}
    (hs : ScanS wc S w.heap.size vw vm (.slice (some ⟨w.heap.size, 0, none⟩) n c) ws ms ts) (hO : wc.heap[O]? = some (.cells (bitVs out).toArray 65 (0, 0))) (hb : Below w.heap.size w wc) (hSO : S < O) (hgO : w.heap.size < O) (hq : q < out.length) :
    ScanS (wc.setCell ⟨O, q, none⟩ (.int .u16 (y : Int))).drew S w.heap.size vw vm (.slice (some ⟨w.heap.size, 0, none⟩) n c) ws ms ts ∧
    (wc.setCell ⟨O, q, none⟩ (.int .u16 (y : Int))).drew.heap[O]? = some (.cells (bitVs (out.set q y)).toArray 65 (0, 0)) ∧ Below w.heap.size w (wc.setCell ⟨O, q, none⟩ (.int .u16 (y : Int))).drew := by
  have hu : Upd [O] wc (wc.setCell ⟨O, q, none⟩ (.int .u16 (y : Int))).drew := ((Upd.refl [O] wc).setCell (.inl (by simp)) _).drew
  have hnw := own_ne hs.wa hO (by decide)
  have hnm := own_ne hs.me hO (by decide)
  have hnt := own_ne hs.tu hO (by decide)
  refine ⟨⟨hu.blk (by simp; omega) hs.blk, hs.low, hu.own hs.wa ?_, hu.own hs.me ?_, hu.own hs.tu ?_, hs.ne⟩, ?_, hb.trans (hu.toBelow hb.size (by simp; omega))⟩
  · intro g hg hm
    exact hnw (by rw [hg]; simpa using hm)
  · intro g hg hm
    exact hnm (by rw [hg]; simpa using hm)
  · intro g hg hm
    exact hnt (by rw [hg]; simpa using hm)
  · have h := heap_setCell_same wc O q _ _ (.int .u16 (y : Int)) hO
    have h3 : (wc.setCell ⟨O, q, none⟩ (.int .u16 (y : Int))).drew.heap = (wc.setCell ⟨O, q, none⟩ (.int .u16 (y : Int))).heap := rfl
    rw [h3, h]
    congr 2
    simp [bitVs, Array.setIfInBounds, hq, List.map_set]
set_option maxRecDepth 100000 in
set_option maxHeartbeats 4000000 in
theorem i64_and1 (n : Int) : bits .and .i64 n 1 = n % 2 := by
  have h127 : (BitVec.ofInt 64 1).toNat = 2 ^ 1 - 1 := by decide
  have key : (BitVec.ofInt 64 n &&& BitVec.ofInt 64 1).toNat = (n % ((2 ^ 64 : Nat) : Int)).toNat % 2 ^ 1 := by
    rw [BitVec.toNat_and, BitVec.toNat_ofInt, h127, Nat.and_two_pow_sub_one_eq_mod]
  show IntKind.i64.wrap ((BitVec.ofInt 64 n &&& BitVec.ofInt 64 1).toNat : Nat) = n % 2
  rw [key, IntKind.wrap_i64]
  omega
set_option maxRecDepth 100000 in
set_option maxHeartbeats 4000000 in
theorem coversOf_any (A : Option Addr) (cap : Nat) (P : List LineV) (even : Bool) (W H : Int) (w : World) (hL : Lns w A P) (hn : P.length ≤ 100000) (hs0 : sizeL P ≤ 100000) :
    Calls Try.prog 15 #[.slice A P.length cap, .bool even, .int .i64 W, .int .i64 H] w fun e w' =>
      ∃ v, e = .returned (.tuple #[v, .int .i64 (ofRes P even W H).2]) ∧ w'.ownsRow w.heap.size 65 1 v (ofRes P even W H).1.length (bitVs (ofRes P even W H).1) ∧ Below w.heap.size w w' := by
  by_cases hb1 : W < 1 ∨ 256 < W ∨ H < 1 ∨ 256 < H
  · have hor : ofRes P even W H = ([], 1) := by
      unfold ofRes; rw [if_pos hb1]
    go_enter Try.func15, Try.ntmps15
    have Hor := Lib.hid hor; clear hor
    go_wp2_with fail
    all_goals (first | (exfalso; omega) | (go_ret2; rw [Hor.out]; exact ⟨_, rfl, ⟨rfl, .inl ⟨rfl, rfl⟩⟩, Below.refl _ _⟩))
  have h1 : 1 ≤ W := by omega
  have h2 : W ≤ 256 := by omega
  have h3 : 1 ≤ H := by omega
  have h4 : H ≤ 256 := by omega
  obtain ⟨w0, rfl⟩ : ∃ n : Nat, W = n := ⟨W.toNat, by omega⟩
  obtain ⟨h0, rfl⟩ : ∃ n : Nat, H = n := ⟨H.toNat, by omega⟩
  clear hb1
  have HL := Lib.hid hL; clear hL
  go_enter Try.func15, Try.ntmps15
  go_upto_block 0 with (with_reducible refine at_mk 75 (.tmp 34) (.tmp 34) ?_; refine wpList_mk rfl rfl Try.underlying75 (z := .int .i64 0) (bytes := 8) (by kernel_rfl) rfl w.heap.size (4 * w0 + 1) (X := 4 * (w0 : Int) + 1) (by omega) rfl rfl (by omega) (by simp only [maxLen]; omega) (Nat.le_refl _) ?_; intro w1 hown1 hw1; obtain ⟨hu1, hz1⟩ := made_upd hw1; have Hz1 := Lib.hid hz1; clear hw1 hz1)
  have hb0 : Below w.heap.size w (w1.alloc (.cells #[.slice none 0 0, .slice none 0 0, .slice (some ⟨w.heap.size, 0, none⟩) (4 * w0 + 1) (4 * w0 + 1)] 79)) := (hu1.alloc _).toBelow (Nat.le_refl _) (by simp)
  have hs0 : ScanS (w1.alloc (.cells #[.slice none 0 0, .slice none 0 0, .slice (some ⟨w.heap.size, 0, none⟩) (4 * w0 + 1) (4 * w0 + 1)] 79)) w1.heap.size w.heap.size (.slice none 0 0) (.slice none 0 0) (.slice (some ⟨w.heap.size, 0, none⟩) (4 * w0 + 1) (4 * w0 + 1)) [] [] (List.replicate (4 * w0 + 1) 0) := by
    refine ⟨heap_alloc_new w1 _, hu1.size, ⟨rfl, .inl ⟨rfl, rfl⟩⟩, ⟨rfl, .inl ⟨rfl, rfl⟩⟩, ?_, .inl rfl⟩
    have := ((Upd.refl [] w1).alloc (.cells #[.slice none 0 0, .slice none 0 0, .slice (some ⟨w.heap.size, 0, none⟩) (4 * w0 + 1) (4 * w0 + 1)] 79)).own hown1 (by simp)
    rw [ints_rep, List.length_replicate]; exact this
  have hS : w.heap.size < w1.heap.size := by have := Hz1.out; omega
  have Hb0 := Lib.hid hb0; have Hs0 := Lib.hid hs0
  clear hb0 hs0 hown1 hu1
  generalize hW : w1.alloc (.cells #[.slice none 0 0, .slice none 0 0, .slice (some ⟨w.heap.size, 0, none⟩) (4 * w0 + 1) (4 * w0 + 1)] 79) = W1 at *
  clear hW
  generalize w1.heap.size = S at *
  clear w1
  go_cut [8, 9] from 12 (fun v8 v9 wc => farL P = false ∧ ∃ vw, Below w.heap.size w wc ∧ ScanS wc S w.heap.size vw (.slice none 0 0) (.slice (some ⟨w.heap.size, 0, none⟩) (4 * w0 + 1) (4 * w0 + 1)) (edgesL P) [] (List.replicate (4 * w0 + 1) 0))
  case first =>
    go_wp2_with fail
    go_loopw [40] (fun v40 wr => ∃ (k : Nat) (vw : Value), k ≤ P.length ∧ v40 = .int .i64 k ∧ farL (P.take k) = false ∧ Below w.heap.size w wr ∧
        ScanS wr S w.heap.size vw (.slice none 0 0) (.slice (some ⟨w.heap.size, 0, none⟩) (4 * w0 + 1) (4 * w0 + 1)) (edgesL (P.take k)) [] (List.replicate (4 * w0 + 1) 0)) (fun v40 _ => P.length - (intOf v40).toNat)
    case atStart =>
      exact ⟨0, .slice none 0 0, by omega, rfl, by simp [farL], Hb0.out, Hs0.out⟩
    case round =>
      obtain ⟨k, vw, hk, rfl, hf, hb, hs⟩ := hrel
      by_cases hlt : k < P.length
      · have hLr := HL.out.below hb
        obtain ⟨b, off, hA, hbl, hc⟩ := hLr.rd.at_ (by intro e; have := congrArg List.length e; simp only [List.length_map, List.length_nil] at this; omega)
        have hhd := hc k (lineHead P[k]) (by simp [hlt])
        have hrl := hLr.each P[k] (List.getElem_mem hlt)
        have htk : P.take (k + 1) = P.take k ++ [P[k]] := List.take_succ_eq_append_getElem hlt
        have hlen : P[k].2.2.length ≤ 100000 := Nat.le_trans (sizeL_mem (List.getElem_mem hlt)) hs0
        have hpm : P[k] ∈ P := List.getElem_mem hlt
        generalize P[k] = p at *
        obtain ⟨Ap, cp, l⟩ := p
        simp only [lineHead] at hhd hrl hlen
        clear hc
        have HLr := Lib.hid hLr; have Hs := Lib.hid hs; have Hb := Lib.hid hb; have Htk := Lib.hid htk; have Hf := Lib.hid hf; have Hrl := Lib.hid hrl; have Hpm := Lib.hid hpm
        have hc0 := cell_of_row wr S 0 _ _ _ hs.blk
        have hSl := World.block_lt_of_cell? wr _ hc0
        clear hLr hs hb htk hf hrl hpm
        subst hA
        cases hfar : l.any isFarB
        · go_wp2_with fail
          refine (containsFar_any _ _ _ _ Hrl.out (by simp only [maxLen]; omega)).mono ?_
          rintro e w2 ⟨rfl, hb2⟩
          rw [hfar]
          obtain ⟨hc2, hf2⟩ := bcell hb2
          have hz2 := hb2.size
          have c0 : w2.cell? ⟨S, 0, none⟩ = some vw := by rw [hc2 _ _ hSl]; exact hc0
          have hfz : w2.frozen? ⟨S, 0, none⟩ = false := by rw [hf2 _ _ hSl]; exact frozen_of_row wr _ 0 _ _ Hs.out.blk
          have Hb2 := Lib.hid hb2; have Hfar := Lib.hid hfar
          clear hb2 hc2 hf2 hc0 hfar
          have hSl2 : S < w2.heap.size := by omega
          go_wp2_with fail
          have How2 := Lib.hid (ownsRow_below Hs.out.wa Hb2.out)
          have HnS : Hid (vw.ownBlock ≠ some S) := Lib.hid (own_ne Hs.out.wa Hs.out.blk (by decide))
          have He2 : Hid (((edgesL (P.take k)).length + (edgesF l).length) * 40 ≤ 140737488355328) := Lib.hid (by have h1 := edgesL_len (P.take k); have h2 := sizeL_take P k; have h3 := edgesF_len l; omega)
          have hbw2 : w.heap.size ≤ w2.heap.size := by have := Hb.out.size; omega
          have Hr2 := Lib.hid ((Hrl.out.below Hb2.out).drew)
          go_region_law? (first
            | (refine step_call (edges_any Ap cp l _ Hr2.out (by omega)) rfl rfl rfl (Try.runEdges _) ?_; rintro e w4 ⟨v4, rfl, hown4, hb4⟩; refine ⟨_, rfl, ?_⟩; obtain ⟨c4, f4, g4, Ho4, z4, A4, p4, rfl, hown4, hr4, Hb4⟩ := cov_edges (by omega) How2.out hfz c0 hown4 hb4)
            | (refine step_app2 rfl rfl Try.etWaits Try.underlying76 Ho4 rfl rfl hr4 (edgeCells_len _) edgeCells_one (by have := He2.out; omega) g4 ?_; intro v5 w5 hown5 hgrow hat hbel; obtain ⟨f5, c5, A5, p5, rfl⟩ := cov_app c4 f4 (fun h => HnS.out h) hown5 hgrow))
          all_goals
            go_wp2_with fail
            go_roundw
            case rel =>
              obtain ⟨h1, h2⟩ := cov_rel Hs.out Hb.out (Nat.le_refl _) Hb2.out Hb4.out hgrow hown5 hat (ws' := edgesL (P.take (k + 1))) (by rw [Htk.out]; simp [edgesL]) (by rw [Htk.out]; simp [edgesL, edgeCells])
              refine ⟨k + 1, .slice A5 ((edgesL (P.take k)).length + (edgesF l).length) p5, by omega, by go_num, ?_, ?_, ?_⟩
              · rw [Htk.out]; simp only [farL, List.any_append, List.any_cons, List.any_nil, Bool.or_false, Bool.or_eq_false_iff]; exact ⟨Hf.out, Hfar.out⟩
              · exact h2
              · exact h1
            case measure => simp [intOf]; omega
        · go_wp2_with fail
          refine (containsFar_any _ _ _ _ Hrl.out (by simp only [maxLen]; omega)).mono ?_
          rintro e w2 ⟨rfl, hb2⟩
          rw [hfar]
          go_wp2_with fail
          go_ret2
          have hfl : farL P = true := List.any_eq_true.2 ⟨(Ap, cp, l), Hpm.out, hfar⟩
          have hor : ofRes P even w0 h0 = ([], 8) := by
            unfold ofRes; rw [if_neg (by omega), if_pos hfl]
          rw [hor]
          exact ⟨_, rfl, ⟨rfl, .inl ⟨rfl, rfl⟩⟩, Hb.out.trans (hb2.mono (by have := Hb.out.size; omega))⟩
      · have hkP : k = P.length := by omega
        subst hkP
        rw [List.take_length] at hf hs
        go_wp2_with fail
        go_meet
        case rel => exact ⟨hf, vw, hb, hs⟩
  case rest =>
    obtain ⟨hf, vw, hb, hs⟩ := hcut
    have hor : ofRes P even w0 h0 = (coverE (edgesL P) even w0 h0, 0) := by
      unfold ofRes; rw [if_neg (by omega), if_neg (by rw [hf]; decide)]; rfl
    have hnear := edgesL_near hf
    have hel : (edgesL P).length ≤ 100000 := Nat.le_trans (edgesL_len P) hs0
    generalize edgesL P = es at *
    have Hs := Lib.hid hs; have Hb := Lib.hid hb; have Hnear := Lib.hid hnear; have Hor := Lib.hid hor
    clear hs hb hf hor hnear HL Hs0 Hb0
    have hp1 : (0 : Int) ≤ (w0 : Int) * (h0 : Int) := Int.mul_nonneg (by omega) (by omega)
    have hp2 : (w0 : Int) * (h0 : Int) ≤ 65536 := (mul_bound (A := 256) (B := 256) (by omega) (by omega)).2
    have hp3 : w0 * h0 ≤ 65536 := by have : ((w0 * h0 : Nat) : Int) = (w0 : Int) * (h0 : Int) := by simp
                                     omega
    have hp4 : (w0 : Int) * (h0 : Int) = ((w0 * h0 : Nat) : Int) := by simp
    have Hp4 := Lib.hid hp4; clear hp4
    go_wp2_with fail
    refine (heapInit_scan Hs.out (by omega) Hb.out.size).mono ?_
    rintro e w2 ⟨rfl, hs2, hb2⟩
    have Hs2 := Lib.hid hs2; have Hb2 := Lib.hid (Hb.out.trans hb2)
    have hbw2 : w.heap.size ≤ w2.heap.size := Hb2.out.size
    clear hs2 hb2
    go_wp2_with (with_reducible refine at_mk 28 (.tmp 64) (.tmp 64) ?_; refine wpList_mk rfl rfl Try.underlying28 (z := .int .u16 0) (bytes := 2) (by kernel_rfl) rfl w.heap.size (w0 * h0) (X := (w0 : Int) * (h0 : Int)) Hp4.out rfl rfl (by omega) (by simp only [maxLen]; omega) hbw2 ?_; intro w3 hown3 hw3; have Hown3 := Lib.hid hown3; have Hw3 := Lib.hid hw3; clear hown3 hw3)
    have hcov := cov_start (even := even) (h0 := h0) Hs2.out Hb2.out Hw3.out
    have hO : w.heap.size ≤ w2.heap.size := hbw2
    have hSO : S < w2.heap.size := (Array.getElem?_eq_some_iff.1 Hs2.out.blk).1
    have hgO : w.heap.size < w2.heap.size := by omega
    clear Hs2 Hb2 Hw3 Hown3 hbw2 Hs Hb
    generalize w2.heap.size = O at *
    have Hcov := Lib.hid hcov; clear hcov
    go_loopw [68] (fun v68 wr => ∃ R : Nat, R ≤ 4 * h0 ∧ v68 = .int .i64 R ∧ CovR w wr S O es even w0 h0 R (.slice (some ⟨w.heap.size, 0, none⟩) (4 * w0 + 1) (4 * w0 + 1))) (fun v68 _ => 4 * h0 - (intOf v68).toNat)
    case atStart => exact ⟨0, by omega, rfl, Hcov.out⟩
    case round =>
      obtain ⟨R, hR, rfl, hcov⟩ := hrel
      obtain ⟨vw1, vm1, ws, ms, ts, out, hs, htl, hok, hout, hcells, hb⟩ := hcov
      by_cases hlt : R < 4 * h0
      · have hy1 : (64 : Int) * R + 32 ≤ 65536 := by omega
        have hsub := hok.sub
        have hnw : ∀ e ∈ ws ++ ms, NearE e := fun e he => Hnear.out e (hsub.1 e he)
        obtain ⟨us, hus, hul, hok2, hsum⟩ := cov_row Hnear.out hok htl
        have hbz := hb.size
        have Hs := Lib.hid hs; have Hb := Lib.hid hb; have Hc := Lib.hid hcells; have Hus := Lib.hid hus; have Hok2 := Lib.hid hok2; have Hsum := Lib.hid hsum; have Hnw := Lib.hid hnw; have Hsub := Lib.hid hsub.2; have Hout := Lib.hid hout; have Hbz := Lib.hid hbz; have Htl := Lib.hid htl; have Hul := Lib.hid hul
        clear hbz htl hul hs hb hcells hus hok2 hsum hnw hsub hok hout
        have hltI : (R : Int) < 4 * (h0 : Int) := by omega
        have Hlt := Lib.hid hlt
        clear hlt hR
        go_wp2_with fail
        refine (scanAt_any S w.heap.size vw1 vm1 _ ws ms ts (64 * (R : Int) + 32) _ Hs.out Hbz.out (by have := Hsub.out; omega) Hnw.out (by omega) (by have := Htl.out; omega) O _ Hc.out ⟨_, _, _, rfl⟩).mono ?_
        rintro e w4 ⟨rfl, hb4, hc4, vw2, vm2, hs4⟩
        rw [← Hus.out] at hs4
        generalize (popAll ws.length (64 * (R : Int) + 32) ws ms).1 = ws2 at *
        generalize (popAll ws.length (64 * (R : Int) + 32) ws ms).2.filter (meetE (64 * (R : Int) + 32)) = ms2 at *
        have Hb5 := Lib.hid (Hb.out.trans hb4)
        have Hs4 := Lib.hid hs4; have Hc4 := Lib.hid hc4
        have g2 : w4.cell? ⟨S, 2, none⟩ = some (.slice (some ⟨w.heap.size, 0, none⟩) (4 * w0 + 1) (4 * w0 + 1)) := cell_of_row w4 S 2 _ _ _ hs4.blk
        have hSl4 := World.block_lt_of_cell? w4 _ g2
        clear hb4 hc4 hs4 Hb Hs Hc
        go_wp2_with fail
        go_loopw [15, 84] (fun v15 v84 wr => ∃ (I : Nat) (out : List Nat), I ≤ 4 * w0 ∧ v84 = .int .i64 I ∧ v15 = .int .i64 ((us.take I).sum) ∧ OutOk es even w0 h0 R I out ∧ wr.heap[O]? = some (.cells (bitVs out).toArray 65 (0, 0)) ∧ Below w.heap.size w wr ∧
          ScanS wr S w.heap.size vw2 vm2 (.slice (some ⟨w.heap.size, 0, none⟩) (4 * w0 + 1) (4 * w0 + 1)) ws2 ms2 us) (fun _ v84 _ => 4 * w0 - (intOf v84).toNat)
        case atStart => exact ⟨0, out, by omega, rfl, by simp, Hout.out, Hc4.out, Hb5.out, Hs4.out⟩
        case round =>
          obtain ⟨I, out', hI, rfl, rfl, hout, hcells, hb, hs⟩ := hrel
          by_cases hlt2 : I < 4 * w0
          · have hltI2 : (I : Int) < 4 * (w0 : Int) := by omega
            have Hlt2 := Lib.hid hlt2
            clear hI
            have hiu : I < us.length := by have := Hul.out; omega
            have htc := (hs.cellT hiu).1
            have hN : (us.take I).sum + us[I] = windE es (64 * (I : Int) + 32, 64 * (R : Int) + 32) := by rw [← Hsum.out I Hlt2.out]; exact (sum_take_succ hiu).symm
            have hNb := windE_abs Hnear.out (64 * (I : Int) + 32, 64 * (R : Int) + 32)
            have hnext : (us.take (I + 1)).sum = windE es (64 * (I : Int) + 32, 64 * (R : Int) + 32) := Hsum.out I Hlt2.out
            obtain ⟨hq, hset, hkeep⟩ := hout.step Hlt2.out Hlt.out
            obtain ⟨x, hx⟩ : ∃ x, us[I] = x := ⟨_, rfl⟩
            rw [hx] at htc hN
            obtain ⟨s0, hs0⟩ : ∃ x, (us.take I).sum = x := ⟨_, rfl⟩
            rw [hs0] at hN ⊢
            obtain ⟨N, hNN⟩ : ∃ x, windE es (64 * (I : Int) + 32, 64 * (R : Int) + 32) = x := ⟨_, rfl⟩
            rw [hNN] at hN hNb hset hkeep hnext
            have hNb1 : -100000 ≤ N ∧ N ≤ 100000 := by omega
            have hgl := World.block_lt_of_cell? wr _ htc
            have Hs := Lib.hid hs; have Hb := Lib.hid hb; have Hset := Lib.hid hset; have Hkeep := Lib.hid hkeep; have Hnext := Lib.hid hnext; have Hq := Lib.hid hq; have Hc := Lib.hid hcells; have Hlen := Lib.hid hout.len; have Hout2 := Lib.hid hout
            clear hs hb hset hkeep hnext hq hcells hout hx hs0 hNN hiu hlt2 hNb
            go_upto_region 22 with (fail)
            go_cut [105] from 92 to 125 (fun v105 wc => v105 = .bool (ruledB even N) ∧ wc = wr)
            case first =>
              cases even
              · by_cases hr : N = 0
                · subst hr
                  go_wp2_with fail
                  go_meet
                  case rel => exact ⟨rfl, rfl⟩
                · go_wp2_with fail
                  go_meet
                  case rel => exact ⟨by simp [ruledB, hr], rfl⟩
              · have hbt := i64_and1 N
                obtain ⟨r, hr⟩ : ∃ r, N % 2 = r := ⟨_, rfl⟩
                rw [hr] at hbt
                have Hr := Lib.hid hr; clear hr
                clear hN
                by_cases hr1 : r = 1
                · subst hr1
                  go_wp2_with fail
                  go_meet
                  case rel => exact ⟨by simp [ruledB, Hr.out], rfl⟩
                · go_wp2_with fail
                  go_meet
                  case rel => exact ⟨by simp [ruledB, Hr.out, hr1], rfl⟩
            case rest =>
              obtain ⟨rfl, rfl⟩ := hcut
              cases hru : ruledB even N
              · have hkp := Hkeep.out hru
                have hsum := Hnext.out
                have Hsum2 := Lib.hid hsum; have Hkp := Lib.hid hkp
                clear hsum hkp hru hN
                go_wp2_with fail
                go_roundw
                case rel => exact ⟨I + 1, out', by have := Hlt2.out; omega, by go_num, by rw [Hsum2.out], Hkp.out, Hc.out, Hb.out, Hs.out⟩
                case measure => have := Hlt2.out; simp [intOf]; omega
              · have hset := Hset.out hru
                have hsum := Hnext.out
                have Hsum2 := Lib.hid hsum; have Hst := Lib.hid hset
                clear hsum hset hru hN
                go_upto_region 23 with (fail)
                obtain ⟨a, ha⟩ : ∃ a : Nat, R / 4 = a := ⟨_, rfl⟩
                obtain ⟨c, hc⟩ : ∃ c : Nat, I / 4 = c := ⟨_, rfl⟩
                obtain ⟨rm, hrm⟩ : ∃ rm : Nat, R % 4 = rm := ⟨_, rfl⟩
                obtain ⟨im, him⟩ : ∃ im : Nat, I % 4 = im := ⟨_, rfl⟩
                have Hq2 := Lib.hid Hq.out
                rw [ha, hc] at Hq2
                have e1 : (R : Int) / 4 = (a : Int) := by omega
                have e2 : (I : Int) / 4 = (c : Int) := by omega
                have e3 : (R : Int) % 4 = (rm : Int) := by omega
                have e4 : (I : Int) % 4 = (im : Int) := by omega
                have hrm3 : rm ≤ 3 := by omega
                have him3 : im ≤ 3 := by omega
                have ha3 : a ≤ 256 := by omega
                have hc3 : c ≤ 256 := by omega
                have hlo := Hlen.out
                obtain ⟨p, hp⟩ : ∃ p : Nat, a * w0 = p := ⟨_, rfl⟩
                have e5 : (a : Int) * (w0 : Int) = (p : Int) := by rw [← hp]; simp
                rw [hp] at Hq2
                have hq3 : p + c < w0 * h0 := by have := Hq2.out; omega
                have hy16 : out'[p + c]'Hq2.out < 65536 := Hout2.out.lt _ (List.getElem_mem _)
                obtain ⟨y, hy⟩ : ∃ y, out'[p + c]'Hq2.out = y := ⟨_, rfl⟩
                rw [hy] at hy16
                have hxs : (bitVs out')[p + c]? = some (.int .u16 (y : Int)) := by
                  simp only [bitVs, List.getElem?_map, List.getElem?_eq_getElem Hq2.out, Option.map_some, hy]
                have hcell := cell_of_row wc O (p + c) _ _ _ Hc.out
                rw [List.getElem?_toArray, hxs] at hcell
                have hfr := frozen_of_row wc O (p + c) _ _ Hc.out
                have hOl := World.block_lt_of_cell? wc _ hcell
                have hyD : out'.getD (p + c) 0 = y := by simp [List.getD, List.getElem?_eq_getElem Hq2.out, hy]
                have Hf := Lib.hid (⟨ha, hc, hrm, him, hp, hyD⟩ : R / 4 = a ∧ I / 4 = c ∧ R % 4 = rm ∧ I % 4 = im ∧ a * w0 = p ∧ out'.getD (p + c) 0 = y)
                clear ha hc hrm him hp hy hyD hxs
                have Hlo := Lib.hid hlo; clear hlo
                go_region
                have h15 : 4 * rm + im ≤ 15 := by omega
                have hset := cov_set (y := y ||| 1 <<< (4 * rm + im)) Hs.out Hc.out Hb.out hSO hgO Hq2.out
                rw [or_shl_u16 y (4 * rm + im) hy16 h15]
                generalize (wc.setCell ⟨O, p + c, none⟩ (.int .u16 ((y ||| 1 <<< (4 * rm + im) : Nat) : Int))).drew = wn at *
                have Hset2 := Lib.hid hset; clear hset
                go_wp2_with fail
                go_roundw
                case rel =>
                  obtain ⟨s1, s2, s3⟩ := Hset2.out
                  obtain ⟨ha, hc, hrm, him, hp, hy⟩ := Hf.out
                  have hst := Hst.out
                  rw [ha, hc, hrm, him, hp, hy] at hst
                  exact ⟨I + 1, _, by have := Hlt2.out; omega, by go_num, by rw [Hsum2.out], hst, s2, s3, s1⟩
                case measure => have := Hlt2.out; simp [intOf]; omega
          · have hIe : I = 4 * w0 := by omega
            subst hIe
            have hn2 := hout.next (by omega)
            have Hn2 := Lib.hid hn2; have Hc2 := Lib.hid hcells; have Hb2 := Lib.hid hb; have Hs2 := Lib.hid hs
            clear hn2 hcells hb hs hout hlt2 hI
            go_wp2_with fail
            go_roundw
            case rel =>
              have hok3 := Hok2.out
              have e : (64 : Int) * (R : Int) + 32 = 64 * ((R + 1 : Nat) : Int) - 32 := by omega
              refine ⟨R + 1, by have := Hlt.out; omega, by go_num, _, _, _, _, _, _, Hs2.out, Hul.out, ?_, Hn2.out, Hc2.out, Hb2.out⟩
              first | exact hok3 | (rw [← e]; exact hok3)
            case measure => have := Hlt.out; simp [intOf]; omega
      · have hRe : R = 4 * h0 := by omega
        subst hRe
        have hl := hout.last (by omega)
        have hlen := hout.len
        subst hl
        have Hc2 := Lib.hid hcells; have Hb2 := Lib.hid hb; have Hlen := Lib.hid hlen
        clear hcells hb hs hok hout hlt hR hlen
        go_wp2_with fail
        go_ret2
        rw [Hor.out]
        have hl := Hlen.out
        refine ⟨.slice (some ⟨O, 0, none⟩) (w0 * h0) (w0 * h0), rfl, ?_, Hb2.out⟩
        show wr.ownsRow w.heap.size 65 1 _ (coverE es even w0 h0).length (bitVs (coverE es even w0 h0))
        have hc2 := Hc2.out
        generalize coverE es even w0 h0 = cv at *
        rw [hl]
        exact ⟨by simp [bitVs, hl], .inr ⟨O, _, _, rfl, by omega, hc2, Nat.le_refl _, by simp only [maxLen]; omega, by simp [bitVs, hl], by simp only [Nat.mul_one]; exact List.take_of_length_le (by simp [bitVs, hl])⟩⟩
end Go.Proofs.Ytkdgibabecpdlaa
