/- Proved: slices.DeleteFunc keeps just the edges that meet a height; for rows of edges in memory of their own. -/
import Derived.Test.YtkdgibabecpdlaaScan
import Derived.Test.YtkdgibabecpdlaaCore2
namespace Go.Proofs.Ytkdgibabecpdlaa
open Go.RowKit

theorem filter_take_succ {p : Edge → Bool} {l : List Edge} {j : Nat} (h : j < l.length) : (l.take (j + 1)).filter p = (l.take j).filter p ++ (if p l[j] then [l[j]] else []) := by
  rw [List.take_succ_eq_append_getElem h, List.filter_append]; simp [List.filter_cons]

theorem Try.sizeEdge : (Try.prog.info? 149).map (·.size) = some 5 := by kernel_rfl
theorem Try.zeroEdge : ∀ w, (zeroValue 149).run Try.prog w = .ok (.agg #[.int .i64 0, .int .i64 0, .int .i64 0, .int .i64 0, .int .i64 0]) w := fun _ => by kernel_rfl

theorem set_take_succ {m : List Edge} {i : Nat} (h : i < m.length) (x : Edge) : (m.set i x).take (i + 1) = m.take i ++ [x] := by
  rw [List.set_eq_take_append_cons_drop, if_pos h, List.take_append, List.length_take, Nat.min_eq_left (by omega), List.take_of_length_le (by simp; omega), show i + 1 - i = 1 by omega]; rfl
theorem set_drop {m : List Edge} {i j : Nat} (h : i < j) (x : Edge) : (m.set i x).drop j = m.drop j := by
  rw [List.drop_set]; rw [if_pos h]

theorem RowE.upd {bs : List Nat} {w w' : World} {base g cap : Nat} {l : List Edge} (h : RowE w base g cap l) (hu : Upd bs w w') (hn : g ∉ bs) : RowE w' base g cap l :=
  hu.own h (fun k hk => by simp [Value.ownBlock] at hk; subst hk; exact hn)

theorem RowE.there {w : World} {base g cap : Nat} {l : List Edge} (h : RowE w base g cap l) {o m : Nat} (hm : o + m ≤ cap * 5) : w.there g o m := own_there h hm
theorem Upd.ofBelow {bs : List Nat} {w w' : World} (h : Below w.heap.size w w') : Upd bs w w' := (Upd.refl bs w).below h

set_option maxRecDepth 100000 in
set_option maxHeartbeats 1000000 in
theorem deleteEdge_all (A : Option Addr) (cap : Nat) (l : List Edge) (y : Int) (Y : Nat) (w : World) (h : Rd w A (edgeCells l)) (hy : w.cell? ⟨Y, 0, none⟩ = some (.int .i64 y)) (hl : l.length ≤ 1000000)
    (hall : l.all (meetE y) = true) :
    Calls Try.prog 92 #[.slice A l.length cap, .func (.func 93) #[] #[.pointer (some ⟨Y, 0, none⟩)]] w fun e w' => e = .returned (.slice A l.length cap) ∧ Below w.heap.size w w' := by
  have hi := indexEdge_any A cap l y Y w h hy hl
  clear h hy
  have Hall := Lib.hid hall; clear hall
  go_enter Try.func92, Try.ntmps92
  go_wp2_with fail
  refine hi.mono ?_
  rintro e w1 ⟨hs, hb1⟩
  have he : e = .returned (.int .i64 (-1)) := by
    rcases hs with ⟨he, _⟩ | ⟨k, rfl, hk, _, hd⟩
    · exact he
    · exfalso
      have h3 := List.all_eq_true.1 Hall.out _ (List.getElem_mem hk)
      rw [List.drop_eq_getElem_cons hk] at hd
      have h4 : meetE y l[k] = false := by simpa [hk] using hd
      rw [h4] at h3; cases h3
  subst he
  go_wp2_with fail
  go_ret
  exact ⟨rfl, hb1⟩

set_option maxRecDepth 100000 in
set_option maxHeartbeats 1000000 in
theorem deleteEdge_some (base g cap : Nat) (l : List Edge) (y : Int) (Y : Nat) (w : World) (h : RowE w base g cap l) (hy : w.cell? ⟨Y, 0, none⟩ = some (.int .i64 y)) (hne : Y ≠ g) (hl : l.length ≤ 1000000)
    (hall : l.all (meetE y) = false) :
    Calls Try.prog 92 #[.slice (some ⟨g, 0, none⟩) l.length cap, .func (.func 93) #[] #[.pointer (some ⟨Y, 0, none⟩)]] w fun e w' =>
      e = .returned (.slice (some ⟨g, 0, none⟩) (l.filter (meetE y)).length cap) ∧ RowE w' base g cap (l.filter (meetE y)) ∧ Upd [g] w w' := by
  have hi := indexEdge_any (some ⟨g, 0, none⟩) cap l y Y w h.rd hy hl
  have hYlt := World.block_lt_of_cell? w _ hy
  have Hall := Lib.hid hall; have H := Lib.hid h; have Hy := Lib.hid hy
  clear hall h hy
  go_enter Try.func92, Try.ntmps92
  go_wp2_with fail
  refine hi.mono ?_
  rintro e w1 ⟨hs, hb1⟩
  obtain ⟨k, rfl, hk, hk1, hk2⟩ : ∃ k : Nat, e = .returned (.int .i64 k) ∧ k < l.length ∧ (l.take k).all (meetE y) = true ∧ meetE y l[k]! = false := by
    rcases hs with ⟨_, ha⟩ | ⟨k, rfl, hk, h1, hd⟩
    · rw [Hall.out] at ha; cases ha
    · refine ⟨k, rfl, hk, h1, ?_⟩
      rw [List.drop_eq_getElem_cons hk] at hd
      rw [getElem!_pos l k hk]
      simpa [hk] using hd
  rw [getElem!_pos l k hk] at hk2
  have h0 : (l.take (k + 1)).filter (meetE y) = l.take k := by
    rw [filter_take_succ hk, List.filter_eq_self.2 (fun a ha => List.all_eq_true.1 hk1 a ha)]; simp [hk2]
  have hne1 : ((k : Int) == -1) = false := by rw [beq_eq_false_iff_ne]; omega
  clear hi hs
  have H0 := Lib.hid h0; have Hk1 := Lib.hid hk1; have Hk2 := Lib.hid hk2; have Hb1 := Lib.hid hb1
  clear h0 hk1 hk2 hb1
  go_wp2_with fail
  go_loopw [5, 6] (fun v5 v6 wr => ∃ (i j : Nat) (m : List Edge), v5 = .int .i64 i ∧ v6 = .int .i64 j ∧ i < j ∧ j ≤ l.length ∧ m.length = l.length ∧ RowE wr base g cap m ∧ m.take i = (l.take j).filter (meetE y) ∧ m.drop j = l.drop j ∧ Upd [g] w wr) (fun _ v6 _ => l.length - (intOf v6).toNat)
  case atStart => exact ⟨k, k + 1, l, rfl, by go_num, by omega, by omega, rfl, H.out.upd (Upd.ofBelow (bs := []) Hb1.out) (by simp), by rw [H0.out], rfl, Upd.ofBelow Hb1.out⟩
  case round =>
    obtain ⟨i, j, m, rfl, rfl, hij, hj, hm, hr, ht, hd, hu⟩ := hrel
    have Hr := Lib.hid hr; have Ht := Lib.hid ht; have Hd := Lib.hid hd; have Hu := Lib.hid hu; have Hm := Lib.hid hm
    clear hr ht hd hu hm
    by_cases hlt : j < l.length
    · have hjm : j < m.length := by rw [Hm.out]; exact hlt
      obtain ⟨b, off, e, hbl, c0, c1, c2, c3, c4⟩ := (Hr.out.rd).edge (List.getElem?_eq_getElem hjm)
      injection e with e; injection e with e1 e2; subst e1 e2
      simp only [Nat.zero_add] at *
      have hml : m[j] = l[j] := by
        have h1 := Hd.out
        rw [List.drop_eq_getElem_cons hjm, List.drop_eq_getElem_cons hlt] at h1
        injection h1
      have hd' : m.drop (j + 1) = l.drop (j + 1) := by
        have h1 := Hd.out
        rw [List.drop_eq_getElem_cons hjm, List.drop_eq_getElem_cons hlt] at h1
        injection h1
      have hfs := filter_take_succ (p := meetE y) hlt
      rw [hml] at c0 c1 c2 c3 c4
      generalize l[j] = d at *
      obtain ⟨⟨ax, ay⟩, ⟨bx, by'⟩, t⟩ := d
      have hYr : wr.cell? ⟨Y, 0, none⟩ = some (.int .i64 y) := (Hu.out.cell (p := ⟨Y, 0, none⟩) hYlt (by simpa using hne)).trans Hy.out
      have hth := own_there (o := i * 5) (m := 5) Hr.out (by have := (own_cap Hr.out).1; have := Hm.out; omega)
      have hYlt' := World.block_lt_of_cell? wr _ hYr
      have Hd' := Lib.hid hd'; have Hfs := Lib.hid hfs; have Hth := Lib.hid hth; have Hjm := Lib.hid hjm
      clear hml hd' hfs hth
      clear hjm
      have hi0 : (0 : Int) ≤ (i : Int) := by omega
      have hil : (i : Int) < (l.length : Int) := by omega
      by_cases hf : meetsB ay by' y = true
      · go_wp2_with fail
        refine (at1_any _ _ _ _ _ y Y _ (by simpa [go_sem, hYlt'] using hYr)).mono ?_
        rintro e w2 ⟨rfl, hb2⟩
        obtain ⟨hc2, hf2⟩ := bcell hb2
        have hz2 := hb2.size; rw [World.size_alloc] at hz2; have hz2' : wr.heap.size < w2.heap.size := hz2
        have Hb2 := Lib.hid hb2; clear hb2
        have U2 : Hid (Upd [g] w w2) := Lib.hid ((Hu.out.alloc _).below Hb2.out)
        have R2 : Hid (RowE w2 base g cap m) := Lib.hid ((Hr.out.upd ((Upd.refl [] wr).alloc _) (by simp)).upd (Upd.ofBelow (bs := []) Hb2.out) (by simp))
        have Hth2 := Lib.hid (own_there (o := i * 5) (m := 5) R2.out (by have := (own_cap R2.out).1; have := Hm.out; omega))
        go_wp2_with (with_reducible refine at_store 149 (.tmp 33) (.tmp 32) ?_; refine wpList_store_in rfl rfl Try.sizeEdge (b := g) (o := i * 5) Hth2.out (cs := edgeCell ((ax, ay), (bx, by'), t)) rfl (by simp [edgeCell, Value.oneCell']) rfl rfl ?_)
        go_roundw
        case rel =>
          refine ⟨i + 1, j + 1, m.set i ((ax, ay), (bx, by'), t), by go_num, by go_num, by omega, by omega, by simp [Hm.out], R2.out.set (k := i) (by rw [Hm.out]; omega) ((ax, ay), (bx, by'), t), ?_, ?_, U2.out.setCells (.inl (by simp)) _ _⟩
          · rw [set_take_succ (by rw [Hm.out]; omega), Ht.out, Hfs.out]; simp [meetE, hf]
          · rw [set_drop (by omega), Hd'.out]
        case measure => simp [intOf]; omega
      · have hf' : meetsB ay by' y = false := by simpa using hf
        clear hf
        go_wp2_with fail
        refine (at1_any _ _ _ _ _ y Y _ (by simpa [go_sem, hYlt'] using hYr)).mono ?_
        rintro e w2 ⟨rfl, hb2⟩
        have Hb2 := Lib.hid hb2; clear hb2
        have U2 : Hid (Upd [g] w w2) := Lib.hid ((Hu.out.alloc _).below Hb2.out)
        have R2 : Hid (RowE w2 base g cap m) := Lib.hid ((Hr.out.upd ((Upd.refl [] wr).alloc _) (by simp)).upd (Upd.ofBelow (bs := []) Hb2.out) (by simp))
        go_wp2_with fail
        go_roundw
        case rel =>
          refine ⟨i, j + 1, m, rfl, by go_num, by omega, by omega, Hm.out, R2.out, ?_, Hd'.out, U2.out⟩
          rw [Ht.out, Hfs.out]; simp [meetE, hf']
        case measure => simp [intOf]; omega
    · have hjl : j = l.length := by omega
      have hfl : m.take i = l.filter (meetE y) := by rw [Ht.out, hjl, List.take_length]
      have hlen : (l.filter (meetE y)).length = i := by rw [← hfl, List.length_take, Hm.out]; omega
      have hcap := own_cap Hr.out
      rw [Hm.out] at hcap
      obtain ⟨hcap1, hcap2⟩ := hcap
      unfold maxLen at hcap2
      have Hfl := Lib.hid hfl; have Hlen := Lib.hid hlen
      clear hfl hlen
      have hi0 : (0 : Int) ≤ (i : Int) := by omega
      have hil : (i : Int) ≤ (l.length : Int) := by omega
      have hcl : (l.length : Int) ≤ (cap : Int) := by omega
      have hic : ¬ cap = i := by omega
      go_wp2_with (with_reducible refine at_bi .clear #[.tmp 38] ?_; refine wpList_clr rfl rfl Try.underlying76 Try.zeroEdge (size := 5) rfl (l.length - i) (fun v hv => by have := zeroCells_mem hv (by decide); simp [Value.cells] at this; subst this; simp [Value.oneCell']) rfl (fun hp => ⟨g, i * 5, rfl, Hr.out.there (by omega)⟩) ?_; intro w2 hw2; have Hw2 := Lib.hid hw2; clear hw2)
      go_ret
      have hu2 : Upd [g] w w2 ∧ RowE w2 base g cap (m.take i) := by
        rcases Hw2.out with ⟨h0, rfl⟩ | ⟨b, o, vs, hA, hp, rfl, hv, _⟩
        · exact ⟨Hu.out, Hr.out.take (by have := Hm.out; omega)⟩
        · injection hA with hA; injection hA with e1 e2; subst e1 e2
          refine ⟨Hu.out.setCells (.inl (by simp)) _ _, ?_⟩
          have h3 := own_clear (k := i) (vs := vs) Hr.out (by have := Hm.out; omega) (by have := (own_cap Hr.out).1; have := Hm.out; omega)
          have h4 := Hr.out.take (k := i) (by have := Hm.out; omega)
          have hlen : (m.take i).length = i := by rw [List.length_take, Hm.out]; omega
          have he : (edgeCells m).take (i * 5) = edgeCells (m.take i) := by
            have e : edgeCells m = edgeCells (m.take i) ++ edgeCells (m.drop i) := by rw [← edgeCells_append, List.take_append_drop]
            have e2 : (edgeCells (m.take i)).length = i * 5 := by rw [edgeCells_len, hlen]
            rw [e, ← e2, List.take_left]
          unfold RowE
          rw [hlen, ← he]; exact h3
      rw [Hfl.out] at hu2
      exact ⟨by rw [Hlen.out]; rfl, hu2.2, hu2.1⟩
end Go.Proofs.Ytkdgibabecpdlaa
