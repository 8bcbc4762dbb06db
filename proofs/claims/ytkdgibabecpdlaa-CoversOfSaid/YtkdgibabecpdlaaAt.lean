/- Proved: how a scan lies in memory and what a height's cell holds; for scans in memory of their own. -/
import Derived.Test.YtkdgibabecpdlaaDel
import Derived.Deep.LoopGhost
import Derived.Deep.RegionLaw
import Derived.Deep.RegionHeld3
import Derived.Deep.DeepCutAuto
import Derived.Deep.CutRange
import Derived.Deep.CutBlock
namespace Go.Proofs.Ytkdgibabecpdlaa
open Go.RowKit

def ints (l : List Int) : List Value := l.map (Value.int .i64)

/-- The scan at block S: what waits, what is met, the turns. -/
structure ScanS (w : World) (S base : Nat) (vw vm vt : Value) (ws ms : List Edge) (ts : List Int) : Prop where
  blk : w.heap[S]? = some (.cells #[vw, vm, vt] 79 (0, 0))
  low : base ≤ S
  wa : w.ownsRow base 149 5 vw ws.length (edgeCells ws)
  me : w.ownsRow base 149 5 vm ms.length (edgeCells ms)
  tu : w.ownsRow base 3 1 vt ts.length (ints ts)
  ne : vw.ownBlock = none ∨ vw.ownBlock ≠ vm.ownBlock

theorem own_ne {w : World} {base e size n k : Nat} {v : Value} {xs : List Value} {cs : Array Value} {t : TypeId} {fr : Nat × Nat} (h : w.ownsRow base e size v n xs) (hk : w.heap[k]? = some (.cells cs t fr)) (hne : e ≠ t) : v.ownBlock ≠ some k := by
  rcases h.2 with ⟨rfl, _⟩ | ⟨g, cap, cur, rfl, _, hg, _⟩
  · simp [Value.ownBlock]
  · intro he
    have : g = k := by simpa [Value.ownBlock] using he
    subst this
    rw [hg] at hk; injection hk with hk; injection hk with _ ht; exact hne ht

theorem ScanS.drewN {w : World} {S base : Nat} {vw vm vt : Value} {ws ms : List Edge} {ts : List Int} (h : ScanS w S base vw vm vt ws ms ts) (n : Nat) : ScanS (w.drewN n) S base vw vm vt ws ms ts :=
  ⟨h.blk, h.low, h.wa, h.me, h.tu, h.ne⟩
theorem below_drewN {B : Nat} {a b : World} (h : Below B a b) (n : Nat) : Below B a (b.drewN n) := ⟨h.os, h.tape, h.output, h.size, h.block⟩

def popAll : Nat → Int → List Edge → List Edge → List Edge × List Edge
  | 0, _, ws, ms => (ws, ms)
  | f + 1, y, ws, ms => if 0 < ws.length ∧ keyAt ws 0 ≤ y then popAll f y (popF ws) (ms ++ ws.take 1) else (ws, ms)

theorem popF_len (l : List Edge) : (popF l).length = l.length - 1 := by
  unfold popF; rw [List.length_take, downF_len, swapL_len]; omega

theorem row_of {w : World} {base e size n : Nat} {v : Value} {xs : List Value} (h : w.ownsRow base e size v n xs) (hn : 0 < n) : ∃ g cap, v = .slice (some ⟨g, 0, none⟩) n cap ∧ base ≤ g ∧ g < w.heap.size := h.form hn

/-- What a scan's steps keep: the height's cell, and a row of bits. -/
def Kp (w : World) (Y : Nat) (y : Int) (O : Nat) (cs : Array Value) : Prop := w.heap[Y]? = some (.cells #[.int .i64 y] 2 (0, 0)) ∧ w.heap[O]? = some (.cells cs 65 (0, 0))
theorem Kp.keep {w w' : World} {Y O : Nat} {y : Int} {cs : Array Value} {bs : List Nat} (h : Kp w Y y O cs) (hu : Upd bs w w') (h1 : Y ∉ bs) (h2 : O ∉ bs) : Kp w' Y y O cs := ⟨hu.blk h1 h.1, hu.blk h2 h.2⟩

theorem at_rel {wq wa w1 W0 w2 : World} {S base g cap Y : Nat} {vm vm2 vt : Value} {ws ms : List Edge} {ts : List Int} {e : Edge} {y : Int} {O : Nat} {co : Array Value}
    (hs : ScanS wq S base (.slice (some ⟨g, 0, none⟩) ws.length cap) vm vt ws ms ts) (ha : Upd [] wq wa) (hr1 : RowE w1 base g cap (popF ws))
    (hB1 : w1.heap[S]? = some (.cells #[.slice (some ⟨g, 0, none⟩) (ws.length - 1) cap, vm, vt] 79 (0, 0))) (hu : Upd [S, g] wa w1) (h0 : Upd [] w1 W0)
    (hown : w2.ownsRow base 149 5 vm2 (ms.length + 1) (edgeCells ms ++ edgeCell e)) (hg : W0.grownBy w2 vm.ownBlock) (hat : vm2.ownBlock = vm.ownBlock ∨ vm2.ownBlock = some W0.heap.size)
    (hk : Kp wq Y y O co) (hbase : base ≤ wq.heap.size) :
    ScanS (w2.setCell ⟨S, 1, none⟩ vm2) S base (.slice (some ⟨g, 0, none⟩) (popF ws).length cap) vm2 vt (popF ws) (ms ++ [e]) ts ∧ Below base wq (w2.setCell ⟨S, 1, none⟩ vm2) ∧
      Kp (w2.setCell ⟨S, 1, none⟩ vm2) Y y O co := by
  have hy := hk.1
  have ho := hk.2
  have hgS : g ≠ S := fun e => own_ne hs.wa hs.blk (by decide) (by rw [e]; rfl)
  have hgY : g ≠ Y := fun e => own_ne hs.wa hy (by decide) (by rw [e]; rfl)
  have hSY : S ≠ Y := by rintro rfl; have h1 := hs.blk; rw [hy] at h1; cases h1
  have hgO : g ≠ O := fun e => own_ne hs.wa ho (by decide) (by rw [e]; rfl)
  have hSO : S ≠ O := by rintro rfl; have h1 := hs.blk; rw [ho] at h1; injection h1 with h1; injection h1 with h1 h2; exact absurd h2 (by decide)
  have hmO : vm.ownBlock ≠ some O := own_ne hs.me ho (by decide)
  have hmS : vm.ownBlock ≠ some S := own_ne hs.me hs.blk (by decide)
  have hmY : vm.ownBlock ≠ some Y := own_ne hs.me hy (by decide)
  have hgm : vm.ownBlock ≠ some g := by rcases hs.ne with h | h; cases h; exact fun e => h (by rw [e]; rfl)
  have htS : vt.ownBlock ≠ some S := own_ne hs.tu hs.blk (by decide)
  have hwg := hs.wa
  obtain ⟨cg, hcg⟩ : ∃ cur, wq.heap[g]? = some (.cells cur 149 (0, 0)) := by
    rcases hwg.2 with ⟨h, _⟩ | ⟨g', cap', cur, hv, _, h, _⟩
    · cases h
    · injection hv with h1; injection h1 with h1; injection h1 with h1; subst h1; exact ⟨cur, h⟩
  have htg : vt.ownBlock ≠ some g := own_ne hs.tu hcg (by decide)
  have htm : ∀ k, vm.ownBlock = some k → vt.ownBlock ≠ some k := fun k hk => by
    rcases hs.me.2 with ⟨h, _⟩ | ⟨g', cap', cur, hv, _, h, _⟩
    · rw [h] at hk; cases hk
    · rw [hv] at hk; injection hk with hk; subst hk; exact own_ne hs.tu h (by decide)
  have U1 : Upd [S, g] wq w1 := (ha.mono (by simp)).trans hu
  have U2 : Upd (S :: g :: vm.ownBlock.toList) wq w2 := ((U1.trans (h0.mono (by simp))).mono (by simp +contextual)).grown hg (fun k hk => .inl (by rw [hk]; simp))
  have g2 : Upd vm.ownBlock.toList w1 w2 := (h0.mono (by simp)).grown hg (fun k hk => .inl (by rw [hk]; simp))
  have hbS := hs.low
  have hbg := (hs.wa.lt g rfl).1
  have hSl : S < W0.heap.size := Nat.lt_of_lt_of_le (Array.getElem?_eq_some_iff.1 hB1).1 h0.size
  have hgl : g < W0.heap.size := Nat.lt_of_lt_of_le ((hr1.lt g rfl).2) h0.size
  have hB2 : w2.heap[S]? = some (.cells #[.slice (some ⟨g, 0, none⟩) (ws.length - 1) cap, vm, vt] 79 (0, 0)) := g2.blk (fun h => by rw [Option.mem_toList] at h; exact hmS h) hB1
  have hr2 : RowE w2 base g cap (popF ws) := hr1.upd g2 (fun h => by rw [Option.mem_toList] at h; exact hgm h)
  have hm2S : vm2.ownBlock ≠ some S := by rcases hat with h | h <;> rw [h]; exact hmS; intro h; injection h with h; omega
  have hm2g : vm2.ownBlock ≠ some g := by rcases hat with h | h <;> rw [h]; exact hgm; intro h; injection h with h; omega
  have S2 : Upd [S] w2 (w2.setCell ⟨S, 1, none⟩ vm2) := (Upd.refl _ _).setCell (.inl (by simp)) _
  refine ⟨⟨?_, hs.low, ?_, ?_, ?_, .inr ?_⟩, ?_, ?_⟩
  · have := heap_setCell_same w2 S 1 _ _ vm2 hB2
    rw [this, popF_len]; rfl
  · exact (hr2.upd S2 (by simp [hgS]) : RowE _ _ _ _ _)
  · rw [edgeCells_append, List.length_append]
    have := S2.own hown (fun k hk => by simp; rintro rfl; exact hm2S hk)
    simpa [edgeCells] using this
  · refine S2.own (U2.own hs.tu (fun k hk => ?_)) (fun k hk => by simp; rintro rfl; exact htS hk)
    simp only [List.mem_cons, Option.mem_toList, not_or]
    exact ⟨fun e => htS (by rw [hk, e]), fun e => htg (by rw [hk, e]), fun e => htm k e hk⟩
  · exact fun e => hm2g e.symm
  · refine ((U2.trans (S2.mono (by simp)))).toBelow hbase (fun x hx => ?_)
    simp only [List.mem_cons, Option.mem_toList] at hx
    rcases hx with rfl | rfl | hx
    · exact hbS
    · exact hbg
    · exact (hs.me.lt x hx).1
  · refine (hk.keep U2 ?_ ?_).keep S2 (by simp; exact fun e => hSY e.symm) (by simp; exact fun e => hSO e.symm)
    · simp only [List.mem_cons, Option.mem_toList, not_or]
      exact ⟨fun e => hSY e.symm, fun e => hgY e.symm, hmY⟩
    · simp only [List.mem_cons, Option.mem_toList, not_or]
      exact ⟨fun e => hSO e.symm, fun e => hgO e.symm, hmO⟩

end Go.Proofs.Ytkdgibabecpdlaa
