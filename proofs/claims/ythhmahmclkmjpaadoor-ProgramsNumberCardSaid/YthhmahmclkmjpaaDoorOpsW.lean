/- Proved: programs.ops makes the map of the operators' names; in every world in which strings.asciiSpace reads as its table. -/
import Derived.Test.YthhmahmclkmjpaaDoorFieldsW
import Derived.Test.YthhmahmclkmjpaaDoorStepLaw
import Derived.Maps.OwnSet
namespace Go.Proofs.YthhmahmclkmjpaaDoor
open Go.RowKit Go.Shelf
attribute [local go_sem] Oper.semAt_some
def cdD (a b : Int) : DataW Unit := .agg [.lit (.int .u8 a), .lit (.int .i32 b)]
/-- How a step reads as a map's element. -/
def cdL : List Value → Option (DataW Unit × List MemPlace)
  | [.int .u8 a, .int .i32 b] => some (cdD a b, [])
  | _ => none
def cdElem : Value → Option (DataW Unit × List MemPlace)
  | .agg cs => cdL cs.toList
  | _ => none
theorem cdElem_mk (a b : Int) : cdElem (.agg #[.int .u8 a, .int .i32 b]) = some (cdD a b, []) := rfl
theorem cdElem_inv {v : Value} {a b : Int} {ps : List MemPlace} (h : cdElem v = some (cdD a b, ps)) : v = .agg #[.int .u8 a, .int .i32 b] := by
  cases v with
  | agg cs =>
    have h1 : cdL cs.toList = some (cdD a b, ps) := h
    obtain ⟨l⟩ := cs
    simp only at h1
    unfold cdL at h1
    split at h1
    · injection h1 with h1
      have h2 := congrArg Prod.fst h1
      simp [cdD] at h2
      rw [h2.1, h2.2]
    · cases h1
  | _ => cases h
/-- The map of the operators, when some of their names have come. -/
def opD0 : DataW Unit := ((DataW.map []).put (.string trueL) (cdD 2 1)).put (.string falseL) (cdD 2 0)
def opD (l : List Bytes) : DataW Unit := (l.zipIdx.foldl (fun D x => D.put (.string x.1) (cdD (5 + x.2 : Nat) 0)) opD0)
theorem opD_snoc (l : List Bytes) (t : Bytes) : opD (l ++ [t]) = (opD l).put (.string t) (cdD (5 + l.length : Nat) 0) := by
  simp [opD, List.zipIdx_append]
/-- A composite literal's entry. -/
theorem wpListIn_insert_own {H : Type} {F : Fence} {nF : Nat} {P : Program} (w : World) {ops : Array Oper} {rest : List Oper} {o : Oper} {a : Act} {Q : Exit → Act → World → Prop}
    (hg : o.guard = none) (m x v : Operand) (t : TypeId) (hop : o.op = Op.insert t m x v)
    (k e : TypeId) (K : Maps.Keyed P k) (ht : P.underlying t = some (.map k e)) (R : Value → Option (DataW H × List MemPlace)) (b n : Nat) (D : DataW H)
    (hm : a.eval m = .map (some b)) (hown : w.ownsMap P k R b n D) (hn : n < maxLen) (key val : Value) (kl : Lit) (hx : a.eval x = key) (hv : a.eval v = val) (hkey : keyOf P k key = some kl)
    (d : DataW H) (ps : List MemPlace) (hval : R val = some (d, ps))
    (hK : ∀ w', w'.ownsMap P k R b (n + 1) (D.put kl d) → w.grownBy w' (some b) → wpListIn F nF P ops Q rest (a.put o.dst undef) w') :
    wpListIn F nF P ops Q (o :: rest) a w := by
  refine wpListIn_plain hg fun K' hK' => ?_
  obtain ⟨w', hrun, r1, r2⟩ := hown.update K ht hn hkey hval
  unfold Oper.wpIn
  refine ⟨by simp [Oper.about, hop], ?_⟩
  rw [Oper.semAt_plain F _ _ (by rw [hop]; intro c hc'; cases hc')]
  simp [execOp, hop, hm, hx, hv, hrun, Result.andThen]
  exact hK' _ _ (hK w' r1 r2)
theorem fieldsSeq_in (F : Fence) (n : Nat) (hf : F.fn 57) (hro : F.round = none) (s : ByteArray) (w : World) :
    CallsIn F n Tryd.prog 57 #[.string s] w fun e w' => e = .returned (.func (.func 82) #[] #[.pointer (some ⟨w.heap.size, 0, none⟩)]) ∧ w' = w.alloc (.cells #[.string s] 9) := by
  refine callsIn_of_wp Tryd.func57 rfl hf ?_ hro
  simp only [Tryd.ntmps57, List.size_toArray, List.length_cons, List.length_nil, Nat.reduceAdd, Nat.reduceSub, Array.replicate_succ, Array.replicate_zero, List.push_toArray, List.append_toArray, List.nil_append, List.cons_append]
  gi_wp2
  go_ret
  exact ⟨rfl, rfl⟩
/-- What the rounds keep. -/
def KpS (Bn : Nat) (A B : World) : Prop := B.heap[Bn]? = A.heap[Bn]? ∧ B.heap[0]? = A.heap[0]?
theorem fields_stops (F : Fence) (n : Nat) (hf : F.fn 82) (hro : F.round = none) (hn : 1 ≤ n) (Bn : Nat) (s : ByteArray) (hs : s.size ≤ 1000) (hascii : ∀ i (h : i < s.size), (s[i]'h).toNat < 128) (w : World) (hBn : Bn < w.heap.size) (h0 : 0 < w.heap.size)
    (hc : w.cell? ⟨Bn, 0, none⟩ = some (.string s)) (hT : SpaceTab w) :
    SeqStopsK F n Tryd.prog 82 #[.pointer (some ⟨Bn, 0, none⟩)] (fun x : Wd => #[Value.string x.1]) (KpS Bn) (fun ys => ys.map Wd.l = wordsF s.data.toList) (fun _ => True) (s.size + 1) w := fun l J Jx W hW _ _ hY hj =>
  fields1_in F n hf hro hn l Bn s hs hascii J Jx hY W ((hW.cell (p := ⟨Bn, 0, none⟩) hBn).trans hc) (fun x hx => (hW.cell (p := ⟨0, x.toNat, none⟩) h0).trans (hT x hx)) hj
/-- The text of the operators' names. -/
def opText : ByteArray := ⟨#[97, 98, 115, 32, 97, 100, 100, 32, 97, 110, 100, 32, 97, 116, 97, 110, 32, 98, 105, 116, 115, 104, 105, 102, 116, 32, 99, 101, 105, 108, 105, 110, 103, 32, 99, 111, 112, 121, 32, 99, 111, 115, 32, 99, 118, 105, 32, 99, 118, 114, 32, 100, 105, 118, 32, 100, 117, 112, 32, 101, 113, 32, 101, 120, 99, 104, 32, 101, 120, 112, 32, 102, 108, 111, 111, 114, 32, 103, 101, 32, 103, 116, 32, 105, 100, 105, 118, 32, 105, 110, 100, 101, 120, 32, 108, 101, 32, 108, 110, 32, 108, 111, 103, 32, 108, 116, 32, 109, 111, 100, 32, 109, 117, 108, 32, 110, 101, 32, 110, 101, 103, 32, 110, 111, 116, 32, 111, 114, 32, 112, 111, 112, 32, 114, 111, 108, 108, 32, 114, 111, 117, 110, 100, 32, 115, 105, 110, 32, 115, 113, 114, 116, 32, 115, 117, 98, 32, 116, 114, 117, 110, 99, 97, 116, 101, 32, 120, 111, 114]⟩
theorem opText_words : wordsF opText.data.toList = opNames := by decide +kernel
theorem opText_size : opText.size ≤ 1000 := by decide +kernel
theorem opText_ascii : ∀ i (h : i < opText.size), (opText[i]'h).toNat < 128 := by
  have : ∀ i : Fin opText.size, (opText[i.1]'i.2).toNat < 128 := by decide +kernel
  exact fun i h => this ⟨i, h⟩
theorem Tryd.key_str : Maps.Keyed Tryd.prog 9 := Maps.string_keyed Tryd.underlying9
set_option maxRecDepth 100000 in
set_option maxHeartbeats 4000000 in
theorem ops_in (w : World) (hT : SpaceTab w) (h0 : 0 < w.heap.size) :
    CallsIn Fence.wide 3 Tryd.prog 30 #[] w fun e w' => ∃ M, e = .returned (.map (some M)) ∧ w.heap.size ≤ M ∧ w'.ownsMap Tryd.prog 9 cdElem M 40 (opD opNames) ∧ Below w.heap.size w w' := by
  have hmm := @run_makeMap Tryd.prog
  have k1 : keyOf Tryd.prog 9 (.string ⟨#[116, 114, 117, 101]⟩) = some (.string trueL) := WideMaps.keyOf_string_mk Tryd.underlying9 (by decide)
  have k2 : keyOf Tryd.prog 9 (.string ⟨#[102, 97, 108, 115, 101]⟩) = some (.string falseL) := WideMaps.keyOf_string_mk Tryd.underlying9 (by decide)
  obtain ⟨w1, hr1, ho1, hg1⟩ := (World.ownsMap_made w Tryd.prog 9 cdElem).update Tryd.key_str Tryd.underlying63 (by decide) k1 (cdElem_mk 2 1)
  obtain ⟨w2, hr2, ho2, hg2⟩ := ho1.update Tryd.key_str Tryd.underlying63 (by decide) k2 (cdElem_mk 2 0)
  have hb2 : Below w.heap.size w w2 := (((Below.refl w.heap.size w).alloc (Nat.le_refl _) (.map #[] 0)).grown hg1 (by simp) (fun k e => by cases e; exact Nat.le_refl _)).grown hg2 (by have := hg1.size; simp at this; omega) (fun k e => by cases e; exact Nat.le_refl _)
  have HO2 := Lib.hid ho2; have HB2 := Lib.hid hb2
  clear ho1 hg1 ho2 hg2 hb2 k1 k2
  refine callsIn_of_wp_marks Tryd.func30 rfl trivial ?_ rfl
  simp only [Tryd.ntmps30, List.size_toArray, List.length_cons, List.length_nil, Nat.reduceAdd, Nat.reduceSub, Array.replicate_succ, Array.replicate_zero, List.push_toArray, List.append_toArray, List.nil_append, List.cons_append]
  gi_wp2_with (refine ⟨trivial, ?_⟩; gi_at_call 57; refine (fieldsSeq_in Fence.wide (3 - 1) trivial rfl _ _).mono ?_; rintro e w' ⟨rfl, rfl⟩)
  have hz2 : w.heap.size < w2.heap.size := HO2.out.lt
  have hS0 : SpaceTab w2 := fun x hx => (HB2.out.cell (p := ⟨0, x.toNat, none⟩) h0).trans (hT x hx)
  have hal : Below w2.heap.size w2 (((w2.alloc (.cells #[.map (some w.heap.size)] 63)).alloc (.cells #[.int .u8 5] 34)).alloc (.cells #[.string opText] 9)) := (((Below.refl _ _).alloc (Nat.le_refl _) _).alloc (by simp) _).alloc (by simp; omega) _
  have b1 := ((Boxed.new w2 63 (.map (some w.heap.size))).alloc (.cells #[.int .u8 5] 34)).alloc (.cells #[.string opText] 9)
  have b2 := (Boxed.new (w2.alloc (.cells #[.map (some w.heap.size)] 63)) 34 (.int .u8 5)).alloc (.cells #[.string opText] 9)
  have b3 := Boxed.new ((w2.alloc (.cells #[.map (some w.heap.size)] 63)).alloc (.cells #[.int .u8 5] 34)) 9 (.string opText)
  have hom := ((HO2.out.alloc (.cells #[.map (some w.heap.size)] 63)).alloc (.cells #[.int .u8 5] 34)).alloc (.cells #[.string opText] 9)
  simp only [World.size_alloc] at b2 b3
  have hBW := HB2.out.trans (hal.mono HB2.out.size)
  have hST : SpaceTab (((w2.alloc (.cells #[.map (some w.heap.size)] 63)).alloc (.cells #[.int .u8 5] 34)).alloc (.cells #[.string opText] 9)) := fun x hx => (hal.cell (p := ⟨0, x.toNat, none⟩) (by show 0 < _; omega)).trans (hS0 x hx)
  have hsz : (((w2.alloc (.cells #[.map (some w.heap.size)] 63)).alloc (.cells #[.int .u8 5] 34)).alloc (.cells #[.string opText] 9)).heap.size = w2.heap.size + 3 := by simp
  change Code.wpIn _ _ _ _ _ _ (((w2.alloc (.cells #[.map (some w.heap.size)] 63)).alloc (.cells #[.int .u8 5] 34)).alloc (.cells #[.string opText] 9))
  generalize ((w2.alloc (.cells #[.map (some w.heap.size)] 63)).alloc (.cells #[.int .u8 5] 34)).alloc (.cells #[.string opText] 9) = W0 at *
  clear hal hr2 HO2 HB2 hS0
  generalize w2.heap.size = z2 at b1 b2 b3 hsz hz2 ⊢
  refine wpIn_rangeFunc_ownG rfl (by omega) (gf := 82) (lb := #[.pointer (some ⟨z2 + 1 + 1, 0, none⟩)]) rfl trivial (enters_of Tryd.func82 (by kernel_rfl) rfl)
    (fields_stops Fence.wide (3 - 1) trivial rfl (by omega) (z2 + 1 + 1) opText opText_size opText_ascii W0 (by omega) (by omega) b3.cell hST)
    (fun h1 h2 => ⟨h2.1.trans h1.1, h2.2.trans h1.2⟩) (fun W l o o' hl ho _ _ => ⟨(belowK_b (w := W0) (n₀ := z2 + 3) (by omega) W l o o' hl ho (by assumption) (by assumption)).block _ (by omega), (belowK_b (w := W0) (n₀ := z2 + 3) (by omega) W l o o' hl ho (by assumption) (by assumption)).block _ (by omega)⟩) (Below.refl _ _) (fun _ => rfl)
    (fun pre W => (W.cell? ⟨z2, 0, none⟩ = some (.map (some w.heap.size)) ∧ W.cell? ⟨z2 + 1, 0, none⟩ = some (.int .u8 (5 + pre.length : Nat)) ∧ W.frozen? ⟨z2 + 1, 0, none⟩ = false ∧ W.ownsMap Tryd.prog 9 cdElem w.heap.size (2 + pre.length) (opD (pre.map Wd.l)) ∧ z2 + 3 ≤ W.heap.size) ∧ Below w.heap.size w W)
    (fun _ _ _ => False)
    (OwnFrom.and (fun s A B row hs hg hr => ⟨cell_kept hs.1 hg (fun r e => (hr r e).2), cell_kept hs.2.1 hg (fun r e => (hr r e).2), (frozen_kept hs.2.1 hg (fun r e => (hr r e).2)).trans hs.2.2.1, hs.2.2.2.1.kept hg (fun e => by have := (hr _ e.symm).1; omega), Nat.le_trans hs.2.2.2.2 hg.size⟩) (ownFrom_below (Nat.le_refl _) (by omega)))
    (fun _ _ _ _ _ hs _ _ => hs)
    ⟨⟨b1.cell, b2.cell, b2.frozen, hom, by omega⟩, hBW⟩
    (fun x => { tmps := #[.map none, .pointer (some ⟨z2, 0, none⟩), .pointer (some ⟨z2 + 1, 0, none⟩), .string x.1, .map (some w.heap.size), .agg #[.int .u8 2, .int .i32 1], .agg #[.int .u8 2, .int .i32 0], .map (some w.heap.size), .func (.func 82) #[] #[.pointer (some ⟨z2 + 1 + 1, 0, none⟩)], .string x.1, undef, undef, undef, undef, undef, undef, undef], defers := [] }) ?assign ?body ?done ?stop
  case assign =>
    intro l x W K hK
    gi_wp2
    exact hK
  case body =>
    rintro l pre x W ⟨⟨hc, hop, hf, hown, hws⟩, hB⟩ hlt
    have hkey : keyOf Tryd.prog 9 (.string x.1) = some (.string x.1.data.toList) := WideMaps.keyOf_string_mk Tryd.underlying9 (by have := x.2; unfold maxLen; omega)
    have hts : opText.size ≤ 200 := by decide +kernel
    have hpl : pre.length < 201 := by omega
    obtain ⟨oc, hoc⟩ : ∃ oc : Nat, 5 + pre.length = oc := ⟨_, rfl⟩
    rw [hoc] at hop
    have hoc2 : (oc : Int) + 1 < 256 := by omega
    have hoc3 : (0 : Int) ≤ (oc : Int) := by omega
    have ⟨es, ck, hh, _⟩ := hown
    have Hown := Lib.hid hown; have Hoc := Lib.hid hoc; have Hh := Lib.hid hh
    clear hown hoc hh
    gi_wp2_with (gi_at_mapUpdate; refine wpListIn_mapUpdate_own _ rfl _ _ _ 63 rfl 9 36 Tryd.key_str Tryd.underlying63 _ w.heap.size (2 + pre.length) _ rfl Hown.out (by unfold maxLen; omega) _ _ _ rfl rfl hkey _ [] (cdElem_mk _ 0) ?_; intro w1 hown1 hgrow1; have hop1 := cell_kept hop hgrow1 (fun r e => by cases e; exact ⟨_, Hh.out, rfl⟩); have hf1 := (frozen_kept hop hgrow1 (fun r e => by cases e; exact ⟨_, Hh.out, rfl⟩)).trans hf; have hc1 := cell_kept hc hgrow1 (fun r e => by cases e; exact ⟨_, Hh.out, rfl⟩); have Hown1 := Lib.hid hown1; have Hgrow1 := Lib.hid hgrow1; clear hown1 hgrow1)
    have hgt := Hgrow1.out.block
    refine ⟨(KeepsFrom.of_grownBy Hgrow1.out (fun j e => by cases e; omega)).trans ((KeepsOthers.setCell _ _ _).from _), ⟨?_, ?_⟩, ⟨?_, ?_, ?_, ?_, ?_⟩, ?_⟩
    · rw [heap_setCell_other _ _ _ _ (by show z2 + 1 + 1 ≠ z2 + 1; omega)]
      exact hgt _ (by omega) (by simp; omega)
    · rw [heap_setCell_other _ _ _ _ (by show 0 ≠ z2 + 1; omega)]
      exact hgt _ (by omega) (by simp; omega)
    · rw [World.cell?_setCell_other _ _ _ _ (by simp)]; exact hc1
    · rw [World.cell?_setCell_same' _ _ _ (by rw [hop1]; rfl)]
      have := Hoc.out
      simp; omega
    · rw [World.frozen?_setCell]; exact hf1
    · have := Hown1.out.setCell (a := ⟨z2 + 1, 0, none⟩) (by show w.heap.size ≠ z2 + 1; omega) (.int .u8 ((oc : Int) + 1))
      rw [List.map_append, List.map_cons, List.map_nil, opD_snoc, List.length_map, List.length_append, Hoc.out]
      exact this
    · have := Hgrow1.out.size; simp; omega
    · exact (hB.grown Hgrow1.out hB.size (fun k e => by cases e; exact Nat.le_refl _)).setCell (by show w.heap.size ≤ z2 + 1; omega) _
  case done =>
    rintro D ys W hD hS ⟨⟨hc, hop, hf, hown, hws⟩, hB⟩ hK
    have Hown := Lib.hid hown; have HB := Lib.hid hB
    clear hown hB
    gi_wp2
    refine ⟨by simp, .inl ⟨_, _, rfl, run_takeDeferred hK, ?_⟩⟩
    have hS' := hS.trans opText_words
    have hlen : ys.length = 38 := by have := congrArg List.length hS'; simpa [opNames] using this
    have hown2 := Hown.out
    rw [hS', hlen] at hown2
    exact ⟨_, results_tmp rfl _ _ _, w.heap.size, rfl, Nat.le_refl _, hown2.kept (grownBy_putObj' _ D _) (fun e => by cases e; omega), HB.out.trans (belowK_b (w := W0) (n₀ := w.heap.size) (by omega) W D _ _ hD hK rfl rfl)⟩
  case stop =>
    rintro D c pre W _ _ h _
    exact h.elim
theorem ops_any (w : World) (hT : SpaceTab w) (h0 : 0 < w.heap.size) :
    Calls Tryd.prog 30 #[] w fun e w' => ∃ M, e = .returned (.map (some M)) ∧ w.heap.size ≤ M ∧ w'.ownsMap Tryd.prog 9 cdElem M 40 (opD opNames) ∧ Below w.heap.size w w' :=
  callsIn_wide.1 (ops_in w hT h0)
end Go.Proofs.YthhmahmclkmjpaaDoor
