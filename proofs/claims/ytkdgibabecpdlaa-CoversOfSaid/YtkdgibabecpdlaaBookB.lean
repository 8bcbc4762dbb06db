/- Contracts and plain laws that the claims of this seat use (BookB), for all arguments that their hypotheses name. -/
import Derived.Test.YtkdgibabecpdlaaBookA
import Derived.Deep.RegionHeld3
namespace Go.Proofs.Ytkdgibabecpdlaa
open Go.RowKit
/-- Strip j, when i strips and k numbers of the next one are filled. -/
def fillAt (i k j : Nat) (s : St) : St := { s with vals := if j < i then List.replicate s.n s.m else if j = i then List.replicate (min k s.n) s.m ++ s.vals.drop k else s.vals }
def fillL (i k : Nat) (L : List St) : List St := L.mapIdx (fillAt i k)
theorem fillL_len (i k : Nat) (L : List St) : (fillL i k L).length = L.length := by simp [fillL]
theorem fillL_at (i k : Nat) (L : List St) (j : Nat) (hj : j < (fillL i k L).length) : (fillL i k L)[j] = fillAt i k j (L[j]'(by rw [fillL_len] at hj; exact hj)) := by simp [fillL]
theorem fillL_zero (L : List St) : fillL 0 0 L = L := by
  apply List.ext_getElem
  · rw [fillL_len]
  · intro j h1 h2
    rw [fillL_at]
    by_cases h : j = 0
    · simp [fillAt, h]
    · simp [fillAt, h]
theorem fillL_step (L : List St) (i k : Nat) (hi : i < L.length) (hk : k < L[i].n) (hl : L[i].vals.length = L[i].n) :
    fillL i (k + 1) L = (fillL i k L).set i { (fillL i k L)[i]'(by rw [fillL_len]; exact hi) with vals := ((fillL i k L)[i]'(by rw [fillL_len]; exact hi)).vals.set k L[i].m } := by
  apply List.ext_getElem
  · simp [fillL_len]
  · intro j h1 h2
    rw [fillL_len] at h1
    rw [List.getElem_set]
    by_cases h : i = j
    · subst h
      rw [if_pos rfl]
      simp only [fillL_at, fillAt, Nat.lt_irrefl, if_false, if_true]
      congr 1
      have e1 : min (k + 1) L[i].n = k + 1 := by omega
      have e2 : min k L[i].n = k := by omega
      rw [e1, e2]
      have e3 : L[i].vals.drop k = L[i].vals[k]'(by omega) :: L[i].vals.drop (k + 1) := List.drop_eq_getElem_cons (by omega)
      rw [e3, List.set_append_right _ _ (by simp), List.length_replicate, Nat.sub_self, List.set_cons_zero, List.replicate_succ']
      simp
    · rw [if_neg h]
      simp only [fillL_at, fillAt]
      have : ¬ j = i := fun e => h e.symm
      simp [this]
theorem fillL_next (L : List St) (i : Nat) (hl : ∀ s ∈ L, s.vals.length = s.n) (hi : i < L.length) : fillL i L[i].n L = fillL (i + 1) 0 L := by
  apply List.ext_getElem
  · simp [fillL_len]
  · intro j h1 h2
    rw [fillL_len] at h1 h2
    simp only [fillL_at, fillAt]
    have hlj := hl L[j] (List.getElem_mem h1)
    by_cases h : j < i
    · simp [h, Nat.lt_succ_of_lt h]
    · by_cases h3 : j = i
      · subst h3
        simp [hlj]
      · have h4 : ¬ j < i + 1 := by omega
        by_cases h5 : j = i + 1
        · subst h5
          have e1 : ¬ (i + 1 < i) := by omega
          simp [e1]
        · simp [h, h3, h4, h5]
theorem Sts.drew {w : World} {base S cap : Nat} {L : List St} (h : Sts w base S cap L) : Sts w.drew base S cap L := ⟨h.row, h.own, h.apart, h.lens⟩
set_option maxRecDepth 100000 in
set_option maxHeartbeats 4000000 in
theorem fillU16_any (base S cap : Nat) (L : List St) (w : World) (h : Sts w base S cap L) (hL : L.length ≤ 1000) (hn : ∀ s ∈ L, s.n ≤ 1000000) (K : Nat) (co : Array Value) (hK : w.heap[K]? = some (.cells co 46 (0, 0))) :
    Calls Try.prog 44 #[.slice (some ⟨S, 0, none⟩) L.length cap] w fun e w' => e = .returned (.tuple #[]) ∧ Sts w' base S cap (fillL L.length 0 L) ∧ Below base w w' ∧ w'.heap[K]? = some (.cells co 46 (0, 0)) := by
  have hlens := h.lens
  have H := Lib.hid h; have HN := Lib.hid hn; have HLE := Lib.hid hlens; have HK := Lib.hid hK; clear h hn hlens hK
  go_enter Try.func44, Try.ntmps44
  go_wp2_with fail
  go_loopw [2] (fun v2 wr => ∃ i : Nat, i ≤ L.length ∧ v2 = .int .i64 i ∧ Sts wr base S cap (fillL i 0 L) ∧ Below base w wr ∧ wr.heap[K]? = some (.cells co 46 (0, 0))) (fun v2 _ => L.length - (intOf v2).toNat)
  case atStart => exact ⟨0, by omega, rfl, by rw [fillL_zero]; exact H.out, Below.refl _ _, HK.out⟩
  case round =>
    obtain ⟨i, hi, rfl, hst, hb, hk0⟩ := hrel
    by_cases hlt : i < L.length
    · have Hst := Lib.hid hst; have Hb := Lib.hid hb; have Hk0 := Lib.hid hk0; clear hst hb hk0
      go_wp2_with fail
      go_loopw [3] (fun v3 wq => ∃ k : Nat, k ≤ L[i].n ∧ v3 = .int .i64 k ∧ Sts wq base S cap (fillL i k L) ∧ Below base w wq ∧ wq.heap[K]? = some (.cells co 46 (0, 0))) (fun v3 _ => L[i].n - (intOf v3).toNat)
      case atStart => exact ⟨0, by omega, rfl, Hst.out, Hb.out, Hk0.out⟩
      case round =>
        obtain ⟨k, hk, rfl, hst, hb, hk0⟩ := hrel
        have Hk1 := Lib.hid hk0; clear hk0
        have hil : i < (fillL i k L).length := by rw [fillL_len]; exact hlt
        obtain ⟨hS, c0, c1, c2⟩ := hst.cells hil
        have hown := hst.own (fillL i k L)[i] (List.getElem_mem hil)
        have hen : (fillL i k L)[i].n = L[i].n ∧ (fillL i k L)[i].v = L[i].v ∧ (fillL i k L)[i].m = L[i].m := by rw [fillL_at]; exact ⟨rfl, rfl, rfl⟩
        rw [hen.2.1] at c0
        rw [hen.2.2] at c2
        rw [hen.1, hen.2.1] at hown
        have hlen := HLE.out L[i] (List.getElem_mem hlt)
        have hstep := fillL_step L i k hlt
        obtain ⟨A0, cc0, hv0, -, -, -⟩ := ownsRow_form hown
        rw [hv0] at c0
        have hii : (i : Int) < (L.length : Int) := by omega
        have hi0 : (0 : Int) ≤ (i : Int) := by omega
        by_cases hlt2 : k < L[i].n
        · obtain ⟨g, c, cur, hv, hbg, hh, hnc, hcm, hcs, htk⟩ := own_addr hown (by omega)
          rw [hv] at hv0
          injection hv0 with hv1 hv2 hv3
          subst hv1 hv3
          have hset := hst.setVal hil (k := k) (g := g) (c := c) (by rw [hen.1]; exact hlt2) (by rw [hen.1, hen.2.1]; exact hv) L[i].m
          rw [← hstep hlt2 hlen] at hset
          have hcell : ∃ u, wr.cell? ⟨g, k, none⟩ = some u := by
            rw [cell_of_row wr g k _ _ _ hh]
            exact ⟨_, Array.getElem?_eq_getElem (by omega)⟩
          obtain ⟨u, hcell⟩ := hcell
          have hfr := frozen_of_row wr g k _ _ hh
          have hgl := World.block_lt_of_cell? wr _ hcell
          have Hset := Lib.hid hset; have Hb := Lib.hid hb
          obtain ⟨n0, hn0⟩ : ∃ n0, L[i].n = n0 := ⟨_, rfl⟩
          obtain ⟨m0, hm0⟩ : ∃ m0, L[i].m = m0 := ⟨_, rfl⟩
          have hgK : K ≠ g := by
            intro e
            subst e
            have e2 := Hk1.out
            rw [hh] at e2
            injection e2 with e2
            injection e2 with _ e2 _
            exact absurd e2 (by decide)
          have HgK := Lib.hid hgK
          clear hgK
          have hgS : g ≠ S := by
            intro e
            subst e
            have := own_apart hown hst.row (by decide) g (by rw [hv]; rfl)
            simp [Value.ownBlock] at this
          clear hst hown hset hb hstep hlen hen hv hh hcs htk c1 hil
          have Hlt2 := Lib.hid hlt2
          have hnb := HN.out L[i] (List.getElem_mem hlt)
          rw [hn0] at c0 hlt2 hk hnb
          rw [hm0] at c2
          have Hn0 := Lib.hid hn0
          have hki : (k : Int) < (n0 : Int) := by omega
          go_upto_region 6 with (fail)
          go_region
          rw [hm0] at Hset
          go_wp2_with fail
          go_roundw
          case rel => exact ⟨k + 1, by have := Hlt2.out; omega, by go_num, Hset.out.1.drew, (Hb.out.trans Hset.out.2).drew, (heap_setCell_other _ _ _ _ HgK.out).trans Hk1.out⟩
          case measure => have := Hlt2.out; simp [intOf]; omega
        · have hke : k = L[i].n := by omega
          subst hke
          have hnx : Sts wr base S cap (fillL (i + 1) 0 L) := by rw [← fillL_next L i HLE.out hlt]; exact hst
          have Hnx := Lib.hid hnx; have Hb := Lib.hid hb
          obtain ⟨n0, hn0⟩ : ∃ n0, L[i].n = n0 := ⟨_, rfl⟩
          clear hst hown hb hstep hlen hen hv0 hnx c1 hil
          rw [hn0] at c0 ⊢
          go_wp2_with fail
          go_roundw
          case rel => exact ⟨i + 1, by omega, by go_num, Hnx.out, Hb.out, Hk1.out⟩
          case measure => simp [intOf]; omega
    · have hil : i = L.length := by omega
      subst hil
      go_wp2_with fail
      go_end0
      exact ⟨rfl, hst, hb, hk0⟩
end Go.Proofs.Ytkdgibabecpdlaa
