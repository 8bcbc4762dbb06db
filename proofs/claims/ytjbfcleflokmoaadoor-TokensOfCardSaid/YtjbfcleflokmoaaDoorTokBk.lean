/- Proved: fill of one list of tokens writes its mark everywhere; for lists of a million tokens at most. -/
import Derived.Test.YtjbfcleflokmoaaDoorApp3
import Derived.Test.YtjbfcleflokmoaaDoorTokOfW
namespace Go.Proofs.YtjbfcleflokmoaaDoor
open Go.RowKit
/-- The mark of a list of tokens, as cells. -/
def mkTok : List Value := [.int .u8 0, .string ⟨#[]⟩, .int .i64 (-1)]
def marksT (n : Nat) : List Value := (List.range n).flatMap fun _ => mkTok
theorem marksT_len (n : Nat) : (marksT n).length = n * 3 := by
  have := flatMap_len (fun _ : Nat => mkTok) 3 (fun _ => rfl) (List.range n)
  simpa [marksT] using this
theorem marksT_zero : marksT 0 = [] := rfl
theorem marksT_snoc (n : Nat) : marksT (n + 1) = marksT n ++ mkTok := by simp [marksT, List.range_succ]
theorem marksT_at {w : World} {A : Option Addr} {n k : Nat} (h : Rd w A (marksT n)) (hk : k < n) :
    ∃ b off, A = some ⟨b, off, none⟩ ∧ b < w.heap.size ∧ w.cell? ⟨b, off + k * 3, none⟩ = some (.int .u8 0) ∧ w.cell? ⟨b, off + k * 3 + 1, none⟩ = some (.string ⟨#[]⟩) ∧ w.cell? ⟨b, off + k * 3 + 2, none⟩ = some (.int .i64 (-1)) := by
  have e := fun j hj => flatMap_at (fun _ : Nat => mkTok) 3 (fun _ => rfl) (List.range n) k k (by simp [hk]) j hj
  obtain ⟨b, off, hA, hb, hc⟩ := h.at_ (by intro e0; have := congrArg List.length e0; rw [marksT_len, List.length_nil] at this; omega)
  have h0 := hc _ _ ((e 0 (by omega)).trans rfl)
  have h1 := hc _ _ ((e 1 (by omega)).trans rfl)
  have h2 := hc _ _ ((e 2 (by omega)).trans rfl)
  exact ⟨b, off, hA, hb, by simpa using h0, by simpa [Nat.add_assoc] using h1, by simpa [Nat.add_assoc] using h2⟩
theorem marksT_fill (k : Nat) (xs : List Value) :
    (marksT k ++ xs.drop (k * 3)).take (k * 3) ++ mkTok ++ (marksT k ++ xs.drop (k * 3)).drop (k * 3 + 3) = marksT (k + 1) ++ xs.drop ((k + 1) * 3) := by
  have h := marksT_len k
  rw [List.take_append_of_le_length (by omega), List.take_of_length_le (by omega), List.drop_append, List.drop_of_length_le (by omega), marksT_snoc, List.drop_drop, h]
  simp only [List.nil_append]
  congr 2
  omega
/-- The one strip of a book, as cells. -/
def stripT (v u : Value) : List Value := [v, u, .int .u8 0, .string ⟨#[]⟩, .int .i64 (-1)]
def StripT (w : World) (base S cap : Nat) (v u : Value) : Prop := w.ownsRow base 59 5 (.slice (some ⟨S, 0, none⟩) 1 cap) 1 (stripT v u)
theorem StripT.cells {w : World} {base S cap : Nat} {v u : Value} (h : StripT w base S cap v u) :
    S < w.heap.size ∧ w.cell? ⟨S, 0, none⟩ = some v ∧ w.cell? ⟨S, 1, none⟩ = some u ∧ w.cell? ⟨S, 2, none⟩ = some (.int .u8 0) ∧ w.cell? ⟨S, 3, none⟩ = some (.string ⟨#[]⟩) ∧ w.cell? ⟨S, 4, none⟩ = some (.int .i64 (-1)) ∧ (∀ o, w.frozen? ⟨S, o, none⟩ = false) ∧ base ≤ S := by
  obtain ⟨g, c, cur, hv, hbg, hh, _⟩ := own_addr h (by omega)
  injection hv with hv _ _
  injection hv with hv; injection hv with hv
  subst hv
  have hc := fun j u hj => World.ownsRow.cells (g := S) h rfl j u hj
  refine ⟨own_lt h S rfl, ?_, ?_, ?_, ?_, ?_, fun o => frozen_of_row w S o _ _ hh, hbg⟩
  · simpa [add_plain] using hc 0 v rfl
  · simpa [add_plain] using hc 1 u rfl
  · simpa [add_plain] using hc 2 _ rfl
  · simpa [add_plain] using hc 3 _ rfl
  · simpa [add_plain] using hc 4 _ rfl
set_option maxRecDepth 100000 in
set_option maxHeartbeats 4000000 in
theorem fillTok_one (base S cap n c : Nat) (A : Option Addr) (u : Value) (xs : List Value) (w : World) (hS : StripT w base S cap (.slice A n c) u) (ho : w.ownsRow base 47 3 (.slice A n c) n xs) (hn : n ≤ 1000000) :
    Calls Tryd.prog 31 #[.slice (some ⟨S, 0, none⟩) 1 cap] w fun e w' => e = .returned (.tuple #[]) ∧ w'.ownsRow base 47 3 (.slice A n c) n (marksT n) ∧ Upd (Value.slice A n c).ownBlock.toList w w' := by
  have hx : xs.length = n * 3 := ho.1
  have hnS : S ∉ (Value.slice A n c).ownBlock.toList := own_apart hS ho (by decide) S rfl
  have HS := Lib.hid hS; have HO := Lib.hid ho; have HX := Lib.hid hx; have HnS := Lib.hid hnS
  clear hS ho hx hnS
  go_enter Tryd.func31, Tryd.ntmps31
  go_wp2_with fail
  go_loopw [2] (fun v2 wr => (v2 = .int .i64 (0 : Nat) ∧ wr = w) ∨ (v2 = .int .i64 (1 : Nat) ∧ wr.ownsRow base 47 3 (.slice A n c) n (marksT n) ∧ Upd (Value.slice A n c).ownBlock.toList w wr)) (fun v2 _ => 1 - (intOf v2).toNat)
  case atStart => exact .inl ⟨rfl, rfl⟩
  case round =>
    rcases hrel with ⟨rfl, rfl⟩ | ⟨rfl, ho, hu⟩
    · obtain ⟨hS, c0, c1, c2, c3, c4, cf, hbS⟩ := HS.out.cells
      go_wp2_with fail
      go_loopw [3] (fun v3 wq => ∃ k : Nat, k ≤ n ∧ v3 = .int .i64 k ∧ wq.ownsRow base 47 3 (.slice A n c) n (marksT k ++ xs.drop (k * 3)) ∧ Upd (Value.slice A n c).ownBlock.toList wr wq) (fun v3 _ => n - (intOf v3).toNat)
      case atStart => exact ⟨0, by omega, rfl, by simpa [marksT_zero] using HO.out, Upd.refl _ _⟩
      case round =>
        obtain ⟨k, hk, rfl, ho, hu⟩ := hrel
        obtain ⟨wo, rfl⟩ : ∃ wo : World, wo = wr := ⟨_, rfl⟩
        by_cases hlt : k < n
        · obtain ⟨g, c', cur, hv, hbg, hh, hnc, hcm, hcs, htk⟩ := own_addr ho (by omega)
          injection hv with hv1 _ hv3
          subst hv1 hv3
          have hset := own_setCells ho hlt (cs := mkTok) rfl
          rw [marksT_fill] at hset
          have hu2 := hu.setCells (g := g) (.inl (by simp [Value.ownBlock])) (k * 3) mkTok
          have d : ∀ j, j < 3 → ∃ u, wo.cell? ⟨g, k * 3 + j, none⟩ = some u := fun j hj => by
            rw [cell_of_row wo g _ _ _ _ hh]
            exact ⟨_, Array.getElem?_eq_getElem (by omega)⟩
          obtain ⟨u0, d0⟩ := d 0 (by omega); obtain ⟨u1, d1⟩ := d 1 (by omega); obtain ⟨u2, d2⟩ := d 2 (by omega)
          rw [Nat.add_zero] at d0
          have f0 := frozen_of_row wo g (k * 3) _ _ hh; have f1 := frozen_of_row wo g (k * 3 + 1) _ _ hh; have f2 := frozen_of_row wo g (k * 3 + 2) _ _ hh
          have hgS : S ≠ g := fun e => HnS.out (by simp [Value.ownBlock, e])
          have hgl := World.block_lt_of_cell? wo _ d0
          have hSl := Nat.lt_of_lt_of_le hS hu.size
          have e0 := (hu.cell (p := ⟨S, 0, none⟩) hS HnS.out).trans c0; have e2 := (hu.cell (p := ⟨S, 2, none⟩) hS HnS.out).trans c2; have e3 := (hu.cell (p := ⟨S, 3, none⟩) hS HnS.out).trans c3; have e4 := (hu.cell (p := ⟨S, 4, none⟩) hS HnS.out).trans c4
          have Hset := Lib.hid hset; have Hu2 := Lib.hid hu2
          have hki : (k : Int) < (n : Int) := by omega
          have hk0 : (0 : Int) ≤ (k : Int) := by omega
          clear hset hu2 ho hu hh hnc hcm hcs htk c0 c1 c2 c3 c4 cf d
          go_upto_region 6 with (fail)
          go_region
          go_wp2_with fail
          go_roundw
          case rel => exact ⟨k + 1, by omega, by go_num, Hset.out, Hu2.out.drew⟩
          case measure => simp [intOf]; omega
        · obtain rfl : k = n := by omega
          have e0 := (hu.cell (p := ⟨S, 0, none⟩) hS HnS.out).trans c0
          have hd : marksT k ++ xs.drop (k * 3) = marksT k := by rw [List.drop_of_length_le (by rw [HX.out]; omega), List.append_nil]
          rw [hd] at ho
          have Ho := Lib.hid ho; have Hu := Lib.hid hu
          clear ho hu c0 c1 c2 c3 c4 cf hd
          go_wp2_with fail
          go_roundw
          case rel => exact .inr ⟨rfl, Ho.out, Hu.out⟩
          case measure => simp [intOf]
    · go_wp2_with fail
      go_end0
      exact ⟨rfl, ho, hu⟩
end Go.Proofs.YtjbfcleflokmoaaDoor
