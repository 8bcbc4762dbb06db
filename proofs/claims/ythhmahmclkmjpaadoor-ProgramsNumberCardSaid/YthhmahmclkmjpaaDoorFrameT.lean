/- Proved: how a list of tokens that comes in is opened, and what the listed table reads as; for arguments within the form's reach. -/
import Derived.Test.YthhmahmclkmjpaaDoorFrameD
import Derived.Test.YthhmahmclkmjpaaDoorLives17
import Derived.Lib.LaidU8
import Derived.Lib.Space
import Derived.Deep.Slices
import Derived.Deep.SlicePairs
import Derived.SizedLaws
import Derived.ChangeMaps5
namespace Go.Proofs.YthhmahmclkmjpaaDoor
open Go.ChangeShapes Go.WideShapes Go.ChangeAt Go.RowKit
theorem space_data : (Rows.laid_strings_asciiSpace : DataW Unit) = Lib.tabData .u8 Lib.asciiSpaceTab := by kernel_rfl
theorem spaceTab_of {W : World} {l : List (String × DataW Unit)} (hL : laidMet Tryd.prog l W) (hm : ("strings.asciiSpace", (Rows.laid_strings_asciiSpace : DataW Unit)) ∈ l) : SpaceTab W ∧ 0 < W.heap.size := by
  obtain ⟨g, t, cs, fuel, p, hg, hty, hvar, hd⟩ := Lib.laidMet.reads hL hm
  have hg0 : Tryd.prog.globalNamed "strings.asciiSpace" = some 0 := by kernel_rfl
  obtain rfl := Option.some.inj (hg0.symm.trans hg)
  have hty0 : (Tryd.prog.globals[(0 : Nat)]?).map (·.type) = some 117 := by kernel_rfl
  obtain rfl := Option.some.inj (hty0.symm.trans hty)
  rw [space_data] at hd
  have hcs := Lib.cells_of_tab Tryd.underlying117 Tryd.underlying5 (by kernel_rfl) (by kernel_rfl) hd
  have htab : Lib.TabIs Tryd.prog W "strings.asciiSpace" .u8 Lib.asciiSpaceTab := by
    unfold Lib.TabIs
    rw [hvar, ← hcs]
  have hc : ∀ x : UInt8, W.cell? ⟨0, x.toNat, none⟩ = some (.int .u8 (if spB x then 1 else 0)) := fun x => by
    rw [htab.cell hg0 x.toNat (by rw [Lib.asciiSpaceTab_length]; exact x.toNat_lt), Lib.asciiSpaceTab_at _ x.toNat_lt, UInt8.ofNat_toNat]
    rfl
  exact ⟨fun x _ => hc x, World.block_lt_of_cell? W _ (hc 0)⟩
section
variable {H : Type} {enc : TypeId × Value → H}
theorem weightsAll_in {P : Program} {e : TypeId} {d : DataW H} : ∀ {l : List (DataW H)}, d ∈ l → ∀ n ∈ d.weights P e, n ∈ DataW.weightsAll P e l
  | x :: l, hd, n, hn => by
    simp only [DataW.weightsAll, List.mem_append]
    rcases List.mem_cons.1 hd with rfl | h
    · exact Or.inl hn
    · exact Or.inr (weightsAll_in h n hn)
theorem spot3 {w : World} {a : Addr} {v : Value} (h : w.cell? (a.add (0 * 3)) = some v) : a = ⟨a.block, a.off, none⟩ := by
  obtain ⟨b, o, s⟩ := a
  simp only [Nat.zero_mul, Addr.add, if_pos] at h
  cases s with
  | none => rfl
  | some k => simp [World.cell?] at h; split at h <;> simp at h
/-- One token's three cells. -/
structure TkAt (W : World) (a : Addr) (D : DataW H) (x : Tk) : Prop where
  c0 : W.cell? a = some (.int .u8 (x.1 : Int))
  c1 : W.cell? (a.add 1) = some (.string ⟨x.2.1.toArray⟩)
  c2 : W.cell? (a.add 2) = some (.int .i64 x.2.2)
  k : x.1 < 256
  d : D = .agg [.lit (.int .u8 (x.1 : Int)), .lit (.string x.2.1), .lit (.int .i64 x.2.2)]
set_option maxRecDepth 100000 in
theorem open_token {W : World} {sp : Nat → Bool} {b0 fuel : Nat} {a : Addr} {cs : List Value} {x : DataW H × List MemPlace} (hc : W.cells? b0 a 3 = some cs) (h : DataW.trod enc Tryd.prog W b0 sp true fuel 24 cs = some x) : ∃ t : Tk, TkAt W a x.1 t := by
  obtain ⟨_, hlen, hcell⟩ := World.cells?_some hc
  obtain ⟨xs, k, hk, hxy, _, hxl, hf⟩ := DataW.trod_struct Tryd.underlying24 h
  match xs, hxl, cs, hlen with
  | [y0, y1, y2], _, [v0, v1, v2], _ =>
    have g0 := hf 0 _ rfl
    have g1 := hf 1 _ rfl
    have g2 := hf 2 _ rfl
    have o0 : Tryd.prog.cellsOf 22 = 1 := by kernel_rfl
    have o1 : Tryd.prog.cellsOf 9 = 1 := by kernel_rfl
    have o2 : Tryd.prog.cellsOf 3 = 1 := by kernel_rfl
    simp [o0, o1, o2] at g0 g1 g2
    obtain ⟨n0, e0, q0, w0⟩ := DataW.trod_int Tryd.underlying22 g0
    obtain ⟨s1, e1, q1, w1⟩ := DataW.trod_string Tryd.underlying9 g1
    obtain ⟨n2, e2, q2, w2⟩ := DataW.trod_int Tryd.underlying3 g2
    injection e0 with e0 _
    injection e1 with e1 _
    injection e2 with e2 _
    have hw0 : 0 ≤ n0 ∧ n0 ≤ 255 := by simpa [Lit.wf, IntKind.min, IntKind.max, IntKind.bits, IntKind.signed] using w0
    obtain ⟨m0, rfl⟩ : ∃ m : Nat, n0 = m := ⟨n0.toNat, by omega⟩
    have k0 := hcell 0 (by omega)
    have k1 := hcell 1 (by omega)
    have k2 := hcell 2 (by omega)
    refine ⟨(m0, s1.data.toList, n2), ?_, ?_, ?_, by simp only; omega, ?_⟩
    · rw [e0] at k0; simpa [Addr.add] using k0
    · rw [e1] at k1; simpa using k1
    · rw [e2] at k2; simpa using k2
    · have := congrArg Prod.fst hxy
      rw [this, q0, q1, q2]
      rfl
set_option maxRecDepth 100000 in
theorem open_tokens {W : World} {sp : Nat → Bool} {b0 fuel : Nat} {v : Value} {x : DataW H × List MemPlace} (h : DataW.trod enc Tryd.prog W b0 sp true fuel 30 [v] = some x) (hw : ∀ n ∈ x.1.weights Tryd.prog 30, n ≤ reachBytes) :
    ∃ A cap, ∃ T : List Tk, v = .slice A T.length cap ∧ Rd W A (tkCells T) ∧ T.length ≤ 4398046511104 ∧ (∀ t ∈ T, t.2.1.length ≤ 140737488355328) ∧ (∀ t ∈ T, t.1 < 256) ∧ T.length ≤ cap := by
  rcases Deep.open_slice Tryd.underlying30 h with ⟨h0, _⟩ | ⟨a, len, cap, m, n, D, Pl, h0, _, hlc, hcm, hm, hx, hi⟩
  · injection h0 with h0 _
    exact ⟨none, 0, [], h0, Rd.nil _ _, by simp, by simp, by simp, by simp⟩
  · injection h0 with h0 _
    subst h0
    have hc3 : Tryd.prog.cellsOf 24 = 3 := by kernel_rfl
    rw [hc3] at hi
    have hlm : len ≤ m := by rw [hm]; split <;> omega
    have hlen : len ≤ 4398046511104 := by
      have := hw (((List.range len).map D).length + ((List.range (m - len)).map fun j => D (len + j)).length |> (· * Tryd.prog.bytesOf 24)) (by rw [hx]; simp [DataW.weights, Tryd.underlying30])
      have hb : Tryd.prog.bytesOf 24 = 32 := by kernel_rfl
      have hr := reachBytes_lt
      rw [hb] at this
      simp only [List.length_map, List.length_range] at this
      omega
    have each : ∀ i, i < len → ∃ t : Tk, TkAt W (a.add (i * 3)) (D i) t := by
      intro i hi'
      obtain ⟨cs, h1, h2⟩ := hi i (by omega)
      exact open_token h1 h2
    obtain ⟨F, hF⟩ := Deep.choose_lt (α := Tk) (p := fun i t => TkAt W (a.add (i * 3)) (D i) t) each
    have htx : ∀ i, i < len → (F i).2.1.length ≤ 140737488355328 := fun i hi' => by
      have hmem : D i ∈ (List.range len).map D := List.mem_map.2 ⟨i, by simpa using hi', rfl⟩
      have := hw (F i).2.1.length (by
        rw [hx]
        simp only [DataW.weights, Tryd.underlying30, List.mem_cons, List.mem_append]
        refine Or.inr (Or.inl (weightsAll_in hmem _ ?_))
        rw [(hF i hi').d]
        simp [DataW.weights, Tryd.underlying24, DataW.weightsEach])
      have hr := reachBytes_lt
      omega
    refine ⟨some a, cap, (List.range len).map F, by simp, ?_, by simpa using hlen, ?_, ?_, by simpa using hlc⟩
    · by_cases hl : len = 0
      · subst hl; exact Rd.nil _ _
      · have h1 := (hF 0 (by omega)).c0
        have ha := spot3 h1
        obtain ⟨b, o, s⟩ := a
        simp only [Addr.mk.injEq, true_and] at ha
        subst ha
        refine .inr ⟨b, o, rfl, ?_, ?_⟩
        · have := World.block_lt_of_cell? W _ h1; simpa [Addr.add] using this
        · intro j u hj
          have hjl : j < len * 3 := by
            have := (List.getElem?_eq_some_iff.1 hj).1
            rw [tkCells_len] at this; simpa using this
          have hk : j / 3 < len := by omega
          have hT := hF (j / 3) hk
          have hg := flatMap_at tkCell 3 (fun _ => rfl) ((List.range len).map F) (j / 3) (F (j / 3)) (by simp [hk]) (j % 3) (Nat.mod_lt _ (by omega))
          have hjj : j / 3 * 3 + j % 3 = j := by omega
          rw [hjj] at hg
          have hg2 : (tkCell (F (j / 3)))[j % 3]? = some u := by rw [← hg]; exact hj
          have c0 := hT.c0; have c1 := hT.c1; have c2 := hT.c2
          rw [add_plain] at c0 c1 c2
          rw [add_plain] at c1 c2
          have hr : j % 3 = 0 ∨ j % 3 = 1 ∨ j % 3 = 2 := by omega
          rcases hr with hr | hr | hr <;> rw [hr] at hg2
          · have e : u = .int .u8 ((F (j / 3)).1 : Int) := by simpa [tkCell] using hg2.symm
            subst e
            have : j / 3 * 3 = j := by omega
            rw [this] at c0; exact c0
          · have e : u = .string ⟨(F (j / 3)).2.1.toArray⟩ := by simpa [tkCell] using hg2.symm
            subst e
            have : o + j / 3 * 3 + 1 = o + j := by omega
            rw [this] at c1; exact c1
          · have e : u = .int .i64 (F (j / 3)).2.2 := by simpa [tkCell] using hg2.symm
            subst e
            have : o + j / 3 * 3 + 2 = o + j := by omega
            rw [this] at c2; exact c2
    · intro t ht
      obtain ⟨i, hi2, rfl⟩ := List.mem_map.1 ht
      exact htx i (by simpa using hi2)
    · intro t ht
      obtain ⟨i, hi2, rfl⟩ := List.mem_map.1 ht
      exact (hF i (by simpa using hi2)).k
theorem old_of {W : World} {A : Option Addr} {T : List Tk} (h : Rd W A (tkCells T)) : T ≠ [] → ∀ ad, A = some ad → ad.block < W.heap.size := fun hT ad hA => by
  rcases h with e | ⟨b, off, hA', hb, _⟩
  · cases T with
    | nil => exact absurd rfl hT
    | cons t r => simp [tkCells, tkCell] at e
  · rw [hA'] at hA
    injection hA with hA
    subst hA
    exact hb
end
end Go.Proofs.YthhmahmclkmjpaaDoor
