/- Proved: grow and marked of one list of tokens; for lists of a million tokens at most. -/
import Derived.Test.YtjbfcleflokmoaaDoorTokBk
namespace Go.Proofs.YtjbfcleflokmoaaDoor
open Go.RowKit
theorem Rd.pre {w : World} {A : Option Addr} {xs ys : List Value} (h : Rd w A (xs ++ ys)) : Rd w A xs := by
  by_cases hx : xs = []
  · subst hx; exact Rd.nil _ _
  · obtain ⟨b, off, hA, hb, hc⟩ := h.at_ (by simp [hx])
    exact .inr ⟨b, off, hA, hb, fun j u hj => hc j u (by rw [List.getElem?_append_left (List.getElem?_eq_some_iff.1 hj).1]; exact hj)⟩
theorem marksT_add (n k : Nat) : ∃ ys, marksT (n + k) = marksT n ++ ys := by
  induction k with
  | zero => exact ⟨[], by simp⟩
  | succ k ih =>
    obtain ⟨ys, h⟩ := ih
    exact ⟨ys ++ mkTok, by rw [← Nat.add_assoc, marksT_snoc, h, List.append_assoc]⟩
theorem StripT.setLong {w : World} {base S cap : Nat} {v u : Value} (h : StripT w base S cap v u) (x : Value) : StripT (w.setCell ⟨S, 1, none⟩ x) base S cap v x := by
  obtain ⟨g, c, cur, hv, hbg, hh, hnc, hcm, hcs, htk⟩ := own_addr h (by omega)
  injection hv with h1 h2 h3
  injection h1 with h1; injection h1 with h1
  subst h1 h3
  refine ⟨rfl, .inr ⟨S, cap, cur.setIfInBounds 1 x, rfl, hbg, heap_setCell_same w S 1 _ _ _ hh, hnc, hcm, by simpa using hcs, ?_⟩⟩
  rw [Array.toList_setIfInBounds, List.take_set, htk]
  rfl
/-- A strip in the middle of growing: k marks are appended. -/
structure Gt (wi w : World) (base S cap : Nat) (A : Option Addr) (n c k : Nat) (B : Option Addr) (d : Nat) : Prop where
  row : StripT w base S cap (.slice A n c) (.slice B (n + k) d)
  own : w.ownsRow base 47 3 (.slice B (n + k) d) (n + k) (marksT (n + k))
  old : Rd w A (marksT n)
  blk : (Value.slice B (n + k) d).ownBlock = (Value.slice A n c).ownBlock ∨ ∃ g, (Value.slice B (n + k) d).ownBlock = some g ∧ wi.heap.size ≤ g
  upd : Upd (S :: (Value.slice A n c).ownBlock.toList) wi w
theorem Gt.drew {wi w : World} {base S cap : Nat} {A : Option Addr} {n c k : Nat} {B : Option Addr} {d : Nat} (h : Gt wi w base S cap A n c k B d) : Gt wi w.drew base S cap A n c k B d :=
  ⟨h.row, h.own, h.old, h.blk, h.upd.drew⟩
theorem Gt.step {wi w wa w2 : World} {base S cap : Nat} {A : Option Addr} {n c k : Nat} {B : Option Addr} {d : Nat} {B' : Option Addr} {d' : Nat} (h : Gt wi w base S cap A n c k B d) (hown0 : wi.ownsRow base 47 3 (.slice A n c) n (marksT n)) (hSi : StripT wi base S cap (.slice A n c) (.slice none 0 0))
    (ha : Below w.heap.size w wa) (hown : w2.ownsRow base 47 3 (.slice B' (n + k + 1) d') (n + k + 1) (marksT (n + k) ++ mkTok))
    (hd : ((Value.slice B' (n + k + 1) d').ownBlock = (Value.slice B (n + k) d).ownBlock ∧ Upd (Value.slice B (n + k) d).ownBlock.toList wa w2) ∨ ((Value.slice B' (n + k + 1) d').ownBlock = some wa.heap.size ∧ Upd [] wa w2)) :
    Gt wi (w2.setCell ⟨S, 1, none⟩ (.slice B' (n + (k + 1)) d')) base S cap A n c (k + 1) B' d' := by
  have hu : Upd (Value.slice B (n + k) d).ownBlock.toList wa w2 := by
    rcases hd with ⟨_, h1⟩ | ⟨_, h1⟩
    · exact h1
    · exact h1.mono (by simp)
  have hrowa := ownsRow_below h.row ha
  have howna := ownsRow_below h.own ha
  have hrow2 : StripT w2 base S cap (.slice A n c) (.slice B (n + k) d) := hu.own hrowa (own_apart hrowa howna (by decide))
  have hs : Upd [S] w2 (w2.setCell ⟨S, 1, none⟩ (.slice B' (n + (k + 1)) d')) := (Upd.refl [S] w2).setCell (.inl (by simp)) _
  have hown' : w2.ownsRow base 47 3 (.slice B' (n + (k + 1)) d') (n + (k + 1)) (marksT (n + (k + 1))) := by
    rw [← marksT_snoc] at hown; exact hown
  have hS2 : ∀ g, (Value.slice B' (n + (k + 1)) d').ownBlock = some g → g ∉ [S] := fun g hg hm => by
    have := own_apart hown' hrow2 (by decide) g hg
    have e : g = S := by simpa using hm
    subst e
    simp [Value.ownBlock] at this
  have hA : ∀ ad, A = some ad → ad.block ≠ S ∧ ad.block < wi.heap.size := fun ad e => by
    subst e
    refine ⟨fun e => ?_, own_lt hown0 _ rfl⟩
    have := own_apart hown0 hSi (by decide) ad.block rfl
    rw [e] at this
    simp [Value.ownBlock] at this
  have hwz : wi.heap.size ≤ wa.heap.size := Nat.le_trans h.upd.size ha.size
  have hold2 : Rd w2 A (marksT n) := by
    have hra := h.old.below ha
    by_cases h0 : n = 0
    · subst h0; exact Rd.nil _ _
    rcases hd with ⟨e1, h1⟩ | ⟨_, h1⟩
    · rcases h.blk with e2 | ⟨g, e2, hg⟩
      · obtain ⟨g0, c0, _, hv0, _⟩ := own_addr hown0 (by omega)
        injection hv0 with hv0 _ _
        obtain ⟨g4, c4, cur4, hv4, _⟩ := own_addr hown' (by omega)
        obtain ⟨A5, c5, e5, -, hr5, -⟩ := ownsRow_form hown'
        injection hv4 with hv4 _ _
        injection e5 with e5 _ _
        rw [← e5, hv4] at hr5
        have e3 : g4 = g0 := by
          have := e1.trans e2
          rw [hv4, hv0] at this
          simpa [Value.ownBlock] using this
        subst e3
        rw [hv0]
        obtain ⟨ys, hy⟩ := marksT_add n (k + 1)
        rw [hy] at hr5
        exact hr5.pre
      · exact h1.rd hra (fun ad had hm => by
          have := (hA ad had).2
          rw [e2] at hm
          have : ad.block = g := by simpa using hm
          omega)
    · exact h1.rd hra (by simp)
  refine ⟨hrow2.setLong _, hs.own hown' hS2, hs.rd hold2 (fun ad had hm => (hA ad had).1 (by simpa using hm)), ?_, ?_⟩
  · rcases hd with ⟨e1, _⟩ | ⟨e1, _⟩
    · have e1' : (Value.slice B' (n + (k + 1)) d').ownBlock = (Value.slice B (n + k) d).ownBlock := e1
      rw [e1']; exact h.blk
    · exact .inr ⟨_, e1, hwz⟩
  · have hu2 : Upd (S :: (Value.slice A n c).ownBlock.toList) wi w2 := by
      have h1 := (h.upd.below ha)
      refine ⟨hu.os.trans h1.os, hu.tape.trans h1.tape, hu.output.trans h1.output, Nat.le_trans h1.size hu.size, fun q hq hn => ?_⟩
      rw [hu.block q (Nat.lt_of_lt_of_le hq h1.size) (fun hm => ?_)]
      · exact h1.block q hq hn
      · have e3 : (Value.slice B (n + k) d).ownBlock = some q := by simpa using hm
        rcases h.blk with e2 | ⟨g, e2, hg⟩
        · exact hn (by rw [← e2, e3]; simp)
        · rw [e2] at e3
          injection e3 with e3
          omega
    exact hu2.setCell (.inl (by simp)) _
theorem Gt.start {w : World} {base S cap : Nat} {A : Option Addr} {n c : Nat} (hS : StripT w base S cap (.slice A n c) (.slice none 0 0)) (ho : w.ownsRow base 47 3 (.slice A n c) n (marksT n)) :
    Gt w (w.setCell ⟨S, 1, none⟩ (.slice A n c)) base S cap A n c 0 A c := by
  have hs : Upd [S] w (w.setCell ⟨S, 1, none⟩ (.slice A n c)) := (Upd.refl [S] w).setCell (.inl (by simp)) _
  have hS2 : ∀ g, (Value.slice A n c).ownBlock = some g → g ∉ [S] := fun g hg hm => by
    have := own_apart ho hS (by decide) g hg
    have e : g = S := by simpa using hm
    subst e
    simp [Value.ownBlock] at this
  obtain ⟨A5, c5, e5, -, hr5, -⟩ := ownsRow_form ho
  injection e5 with e5 _ _
  rw [← e5] at hr5
  exact ⟨hS.setLong _, hs.own ho hS2, hs.rd hr5 (fun ad had => hS2 ad.block (by rw [had]; rfl)), .inl rfl, hs.mono (by simp)⟩
set_option maxRecDepth 100000 in
set_option maxHeartbeats 4000000 in
theorem growTok_one (base S cap n c : Nat) (A : Option Addr) (w : World) (hS : StripT w base S cap (.slice A n c) (.slice none 0 0)) (ho : w.ownsRow base 47 3 (.slice A n c) n (marksT n)) (hn : n ≤ 1000000) (hbase : base ≤ w.heap.size) :
    Calls Tryd.prog 44 #[.slice (some ⟨S, 0, none⟩) 1 cap] w fun e w' => e = .returned (.tuple #[]) ∧ ∃ B d, Gt w w' base S cap A n c 24 B d := by
  have HS := Lib.hid hS; have HO := Lib.hid ho; have Hbase := Lib.hid hbase
  clear hS ho hbase
  go_enter Tryd.func44, Tryd.ntmps44
  go_wp2_with fail
  go_loopw [2] (fun v2 wr => (v2 = .int .i64 0 ∧ wr = w) ∨ (v2 = .int .i64 1 ∧ ∃ B d, Gt w wr base S cap A n c 24 B d)) (fun v2 _ => 1 - (intOf v2).toNat)
  case atStart => exact .inl ⟨rfl, rfl⟩
  case round =>
    rcases hrel with ⟨rfl, rfl⟩ | ⟨rfl, hg⟩
    · obtain ⟨hSl, c0, c1, c2, c3, c4, cf, hbS⟩ := HS.out.cells
      have cf1 := cf 1
      have Hst := Lib.hid (Gt.start HS.out HO.out)
      clear cf
      go_wp2_with fail
      go_loopw [3] (fun v3 wq => ∃ (k : Nat) (B : Option Addr) (d : Nat), k ≤ 24 ∧ v3 = .int .i64 k ∧ Gt wr wq base S cap A n c k B d) (fun v3 _ => 24 - (intOf v3).toNat)
      case atStart => exact ⟨0, A, c, by omega, rfl, Hst.out⟩
      case round =>
        obtain ⟨k, B, d, hk, rfl, hg⟩ := hrel
        obtain ⟨wo, rfl⟩ : ∃ wo : World, wo = wr := ⟨_, rfl⟩
        have Hg := Lib.hid hg; clear hg
        by_cases hlt : k < 24
        · clear hSl c0 c1 c2 c3 c4 cf1
          obtain ⟨hSl, c0, c1, c2, c3, c4, cf, hbS⟩ := Hg.out.row.cells
          have cf1 := cf 1
          have hki : (k : Int) < 24 := by omega
          have hown := Hg.out.own
          have hnS : S ∉ (Value.slice B (n + k) d).ownBlock.toList := own_apart Hg.out.row hown (by decide) S rfl
          have hwz : base ≤ wo.heap.size := Nat.le_trans Hbase.out Hg.out.upd.size
          have Hown := Lib.hid hown; have HnS := Lib.hid hnS; have Hwz := Lib.hid hwz
          have hS2 : S < (wo.alloc (.cells #[.int .u8 0, .string ⟨#[]⟩, .int .i64 (-1)] 47)).heap.size := by simp; omega
          have hal := (Below.refl wo.heap.size wo).alloc (Nat.le_refl _) (.cells #[.int .u8 0, .string ⟨#[]⟩, .int .i64 (-1)] 47)
          have Hal := Lib.hid hal; clear hal hown hnS hwz cf
          go_upto_region 7 with (fail)
          go_region_law (refine step_app3 (m := 1) (news := mkTok) rfl rfl Tryd.etTok (Hown.out.alloc _) rfl rfl (Rd.new _ _ _ rfl) rfl (by simp [Value.oneCell', mkTok]) (by omega) (by omega) (by have := Hwz.out; simp; omega) ?_; intro v5 w5 hown5 hb5 hd5; obtain ⟨s1, s2, s3⟩ := dir_keeps hd5 HnS.out hS2 1; have s1 := s1.trans ((Hal.out.cell (p := ⟨S, 1, none⟩) hSl).trans c1); have s2 := s2.trans ((Hal.out.frozen (p := ⟨S, 1, none⟩) hSl).trans cf1); obtain ⟨A5, c5, rfl, -, -, -⟩ := ownsRow_form hown5)
          all_goals
            have HST := Lib.hid (Gt.step Hg.out HO.out HS.out (Hal.out.drew) hown5 hd5)
            clear hown5 hb5 hd5
            go_wp2_with fail
            go_roundw
            case rel => first | exact ⟨k + 1, _, _, by omega, by go_num, HST.out⟩ | exact ⟨k + 1, _, _, by omega, by go_num, HST.out.drew⟩
            case measure => simp [intOf]; omega
        · obtain rfl : k = 24 := by omega
          go_wp2_with fail
          go_roundw
          case rel => exact .inr ⟨rfl, _, _, Hg.out⟩
          case measure => simp [intOf]
    · go_wp2_with fail
      go_end0
      exact ⟨rfl, hg⟩
set_option maxRecDepth 100000 in
set_option maxHeartbeats 4000000 in
theorem markedTok_one (base S cap n c N d : Nat) (A B : Option Addr) (w : World) (hS : StripT w base S cap (.slice A n c) (.slice B N d)) (ha : Rd w A (marksT n)) (hb : Rd w B (marksT N)) (hN : N ≤ 1000024) (hnN : n ≤ N) :
    Calls Tryd.prog 57 #[.slice (some ⟨S, 0, none⟩) 1 cap] w fun e w' => e = .returned (.bool true) ∧ Below w.heap.size w w' := by
  obtain ⟨hSl, c0, c1, c2, c3, c4, -, -⟩ := hS.cells
  have HA := Lib.hid ha; have HB := Lib.hid hb
  have C0 := Lib.hid c0; have C1 := Lib.hid c1; have C2 := Lib.hid c2; have C3 := Lib.hid c3; have C4 := Lib.hid c4
  clear hS ha hb c0 c1 c2 c3 c4
  go_enter Tryd.func57, Tryd.ntmps57
  go_wp2_with fail
  go_loopw [3] (fun v3 wr => (v3 = .int .i64 0 ∨ v3 = .int .i64 1) ∧ Below w.heap.size w wr) (fun v3 _ => 1 - (intOf v3).toNat)
  case atStart => exact ⟨.inl rfl, Below.refl _ _⟩
  case round =>
    obtain ⟨rfl | rfl, hb⟩ := hrel
    · have c0 := (hb.cell (p := ⟨S, 0, none⟩) hSl).trans C0.out
      have c1 := (hb.cell (p := ⟨S, 1, none⟩) hSl).trans C1.out
      have Hb := Lib.hid hb; clear hb
      go_wp2_with fail
      clear c0 c1
      go_loopw [4] (fun v4 wq => ∃ k : Nat, k ≤ N ∧ v4 = .int .i64 k ∧ Below w.heap.size w wq) (fun v4 _ => N - (intOf v4).toNat)
      case atStart => exact ⟨0, by omega, rfl, Hb.out⟩
      case round =>
        obtain ⟨k, hk, rfl, hb⟩ := hrel
        have c0 := (hb.cell (p := ⟨S, 0, none⟩) hSl).trans C0.out
        have c1 := (hb.cell (p := ⟨S, 1, none⟩) hSl).trans C1.out
        have c2 := (hb.cell (p := ⟨S, 2, none⟩) hSl).trans C2.out
        have c3 := (hb.cell (p := ⟨S, 3, none⟩) hSl).trans C3.out
        have c4 := (hb.cell (p := ⟨S, 4, none⟩) hSl).trans C4.out
        have hSz := Nat.lt_of_lt_of_le hSl hb.size
        by_cases hlt2 : k < N
        · obtain ⟨g', o', rfl, hg', k0, k1, k2⟩ := marksT_at (HB.out.below hb) hlt2
          have hki : (k : Int) < (N : Int) := by omega
          have hk0 : (0 : Int) ≤ (k : Int) := by omega
          by_cases hlt3 : k < n
          · obtain ⟨gv, ov, rfl, hgv, l0, l1, l2⟩ := marksT_at (HA.out.below hb) hlt3
            have hkn : (k : Int) < (n : Int) := by omega
            have Hb2 := Lib.hid hb; clear hb
            go_wp2_with (go_quiet (fail))
            go_roundw
            case rel => exact ⟨k + 1, by omega, by go_num, below_drewN Hb2.out _⟩
            case measure => simp [intOf]; omega
          · have hkn : ¬ (k : Int) < (n : Int) := by omega
            have hkd : decide ((k : Int) < (n : Int)) = false := by simp; omega
            have Hb2 := Lib.hid hb; clear hb
            go_wp2_with (go_quiet (fail))
            go_roundw
            case rel => exact ⟨k + 1, by omega, by go_num, below_drewN Hb2.out _⟩
            case measure => simp [intOf]; omega
        · obtain rfl : k = N := by omega
          have Hb2 := Lib.hid hb; clear hb
          go_wp2_with fail
          go_roundw
          case rel => exact ⟨.inr rfl, Hb2.out⟩
          case measure => simp [intOf]
    · go_wp2_with fail
      go_ret
      exact ⟨rfl, hb⟩
end Go.Proofs.YtjbfcleflokmoaaDoor
