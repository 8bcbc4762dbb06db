/- Contracts and plain laws that the claims of this seat use (BookD), for all arguments that their hypotheses name. -/
import Derived.Test.YtkdgibabecpdlaaBookC
namespace Go.Proofs.Ytkdgibabecpdlaa
open Go.RowKit
theorem row_cells {w : World} {base S cap N : Nat} {M : List St} (h : w.ownsRow base 88 3 (.slice (some ⟨S, 0, none⟩) N cap) N (stCells M)) {i : Nat} {s : St} (hs : M[i]? = some s) :
    S < w.heap.size ∧ w.cell? ⟨S, i * 3, none⟩ = some s.v ∧ w.cell? ⟨S, i * 3 + 1, none⟩ = some s.long ∧ w.cell? ⟨S, i * 3 + 2, none⟩ = some (.int .u16 (s.m : Int)) ∧ ∀ o, w.frozen? ⟨S, o, none⟩ = false := by
  have hx := fun j hj => flatMap_at stCell 3 (fun _ => rfl) M i s hs j hj
  obtain ⟨A, c, e, -, hr, -⟩ := ownsRow_form h
  injection e with e1 _ _
  subst e1
  obtain ⟨b, off, hA, hb, hc⟩ := hr.at_ (by intro e0; have := hx 0 (by omega); unfold stCells at e0; rw [e0] at this; simp [stCell] at this)
  injection hA with hA
  injection hA with h1 h2
  subst h1 h2
  refine ⟨hb, ?_, ?_, ?_, ?_⟩
  · have := hc (i * 3 + 0) _ (hx 0 (by omega)); simpa using this
  · have := hc (i * 3 + 1) _ (hx 1 (by omega)); simpa using this
  · have := hc (i * 3 + 2) _ (hx 2 (by omega)); simpa using this
  · intro o
    rcases h.2 with ⟨h0, _⟩ | ⟨g, cap', cur, hv, _, hg, _⟩
    · cases h0
    · injection hv with hv _ _
      injection hv with hv; injection hv with hv
      subst hv
      exact frozen_of_row w S o _ _ hg
theorem Gi.drew {wi w : World} {base S cap : Nat} {L : List St} {i : Nat} {hi : i < L.length} {lv : Nat → Value} {k : Nat} {lk : Value} (h : Gi wi w base S cap L i hi lv k lk) : Gi wi w.drew base S cap L i hi lv k lk :=
  ⟨h.row, h.own, h.old, h.blk, h.upd.drew, h.below.drew⟩
theorem dir_keeps {wa w5 : World} {S : Nat} {lk lk' : Value} (hd : (lk'.ownBlock = lk.ownBlock ∧ Upd lk.ownBlock.toList wa w5) ∨ (lk'.ownBlock = some wa.heap.size ∧ Upd [] wa w5)) (hn : S ∉ lk.ownBlock.toList) (hS : S < wa.heap.size) (o : Nat) :
    w5.cell? ⟨S, o, none⟩ = wa.cell? ⟨S, o, none⟩ ∧ w5.frozen? ⟨S, o, none⟩ = wa.frozen? ⟨S, o, none⟩ ∧ S < w5.heap.size := by
  have hu : Upd lk.ownBlock.toList wa w5 := by
    rcases hd with ⟨_, h1⟩ | ⟨_, h1⟩
    · exact h1
    · exact h1.mono (by simp)
  have hb := hu.block S hS hn
  exact ⟨World.cell?_of_block (w := wa) hb, World.frozen?_of_block (w := wa) hb, Nat.lt_of_lt_of_le hS hu.size⟩
set_option maxRecDepth 100000 in
set_option maxHeartbeats 4000000 in
theorem growU16_any (base S cap : Nat) (L : List St) (w : World) (h : Sts w base S cap L) (hf : ∀ s ∈ L, s.vals = List.replicate s.n s.m) (hL : L.length ≤ 1000) (hn : ∀ s ∈ L, s.n ≤ 1000000) (hbase : base ≤ w.heap.size) (K : Nat) (co : Array Value) (hK : w.heap[K]? = some (.cells co 46 (0, 0))) :
    Calls Try.prog 57 #[.slice (some ⟨S, 0, none⟩) L.length cap] w fun e w' => e = .returned (.tuple #[]) ∧ (∃ lv, Gs w w' base S cap L L.length lv) ∧ w'.heap[K]? = some (.cells co 46 (0, 0)) := by
  have hown0 : ∀ s ∈ L, w.ownsRow base 65 1 s.v s.n (bitVs (List.replicate s.n s.m)) := fun s hs => by rw [← hf s hs]; exact h.own s hs
  have hS0 : ∀ s ∈ L, ∀ g, s.v.ownBlock = some g → g ≠ S := fun s hs g hg e => by
    have := own_apart (hown0 s hs) h.row (by decide) g hg
    subst e
    simp [Value.ownBlock] at this
  have hSz := own_lt h.row S rfl
  have HA := Lib.hid h.apart; have HO := Lib.hid hown0; have HS0 := Lib.hid hS0; have HN := Lib.hid hn; have HSz := Lib.hid hSz
  have hstart : Gs w w base S cap L 0 (fun _ => .slice none 0 0) := ⟨by rw [gL_zero]; exact h.row, fun j hj _ => hown0 _ (List.getElem_mem hj), fun j hj hh => by omega, Below.refl _ _⟩
  have Hst := Lib.hid hstart
  have hKn : ∀ s ∈ L, K ∉ S :: s.v.ownBlock.toList := fun s hs hm => by
    rcases List.mem_cons.1 hm with e | hm
    · rcases h.row.2 with ⟨h0, _⟩ | ⟨g, c', cur, hv, _, hg, _⟩
      · cases h0
      · injection hv with hv _ _
        injection hv with hv; injection hv with hv
        subst hv e
        rw [hK] at hg
        injection hg with hg
        injection hg with _ e2 _
        exact absurd e2 (by decide)
    · have e : s.v.ownBlock = some K := by simpa using hm
      rcases (hown0 s hs).2 with ⟨h0, _⟩ | ⟨g, c', cur, hv, _, hg, _⟩
      · rw [h0] at e; simp [Value.ownBlock] at e
      · rw [hv] at e
        have e : g = K := by simpa [Value.ownBlock] using e
        subst e
        rw [hK] at hg
        injection hg with hg
        injection hg with _ e2 _
        exact absurd e2 (by decide)
  have HKn := Lib.hid hKn; have HK := Lib.hid hK
  clear h hf hown0 hS0 hn hSz hstart hKn hK
  go_enter Try.func57, Try.ntmps57
  go_wp2_with fail
  go_loopw [2] (fun v2 wr => ∃ (i : Nat) (lv : Nat → Value), i ≤ L.length ∧ v2 = .int .i64 i ∧ Gs w wr base S cap L i lv ∧ wr.heap[K]? = some (.cells co 46 (0, 0))) (fun v2 _ => L.length - (intOf v2).toNat)
  case atStart => exact ⟨0, _, by omega, rfl, Hst.out, HK.out⟩
  case round =>
    obtain ⟨i, lv, hi, rfl, hgs, hk0⟩ := hrel
    have Hk0 := Lib.hid hk0; clear hk0
    by_cases hlt : i < L.length
    · have hgat : (gL i lv L)[i]? = some L[i] := by
        rw [List.getElem?_eq_getElem (by rw [gL_len]; exact hlt), gL_at]; simp [gAt]
      obtain ⟨hS, c0, c1, c2, cf⟩ := row_cells hgs.row hgat
      have cf1 := cf (i * 3 + 1)
      have hgi0 := Gi.start hgs hlt
      obtain ⟨A0, cc0, hv0, -, -, -⟩ := ownsRow_form (hgs.own i hlt (Nat.le_refl _))
      have hgi : Gi wr (wr.setCell ⟨S, i * 3 + 1, none⟩ (.slice A0 L[i].n cc0)) base S cap L i hlt lv 0 (.slice A0 L[i].n cc0) := by rw [← hv0]; exact hgi0
      rw [hv0] at c0
      obtain ⟨n0, hn0⟩ : ∃ n0, L[i].n = n0 := ⟨_, rfl⟩
      obtain ⟨m0, hm0⟩ : ∃ m0, L[i].m = m0 := ⟨_, rfl⟩
      rw [hn0] at c0 hgi
      rw [hm0] at c2
      have hbw : base ≤ wr.heap.size := Nat.le_trans hbase hgs.below.size
      have Hgs := Lib.hid hgs; have Hgi := Lib.hid hgi; have Hbw := Lib.hid hbw
      have hii : (i : Int) < (L.length : Int) := by omega
      have hi0 : (0 : Int) ≤ (i : Int) := by omega
      have hnb := HN.out L[i] (List.getElem_mem hlt)
      rw [hn0] at hnb
      have Hn0 := Lib.hid hn0; have Hm0 := Lib.hid hm0
      have hlong : ∃ u, wr.cell? ⟨S, i * 3 + 1, none⟩ = some u := ⟨_, c1⟩
      obtain ⟨u1, c1'⟩ := hlong
      clear hgs hgi hgi0 hgat cf hbw hv0 hn0 hm0 c1
      go_wp2_with fail
      generalize hWI : wr.setCell ⟨S, i * 3 + 1, none⟩ (.slice A0 n0 cc0) = w1 at *
      clear hWI c0 c1' c2 cf1 hS
      go_loopw [3] (fun v3 wq => ∃ (k : Nat) (lk : Value), k ≤ 24 ∧ v3 = .int .i64 k ∧ Gi wr wq base S cap L i hlt lv k lk) (fun v3 _ => 24 - (intOf v3).toNat)
      case atStart => exact ⟨0, _, by omega, rfl, Hgi.out⟩
      case round =>
        obtain ⟨k, lk, hk, rfl, hgi⟩ := hrel
        have hgat : ((gL i lv L).set i { L[i] with long := lk })[i]? = some { L[i] with long := lk } := by
          rw [List.getElem?_eq_getElem (by rw [List.length_set, gL_len]; exact hlt)]; simp
        obtain ⟨hS, c0, c1, c2, cf⟩ := row_cells hgi.row hgat
        simp only at c0 c1 c2
        have cf1 := cf (i * 3 + 1)
        obtain ⟨Ak, ck, hlk, -, -, -⟩ := ownsRow_form hgi.own
        rw [Hn0.out] at hlk
        rw [Hm0.out] at c2
        subst hlk
        have HGi := Lib.hid hgi
        clear hgi hgat cf c0
        by_cases hlt2 : k < 24
        · have hk2 : (k : Int) < 24 := by omega
          have hown := HGi.out.own
          have hrow := HGi.out.row
          have hnS : S ∉ (Value.slice Ak (n0 + k) ck).ownBlock.toList := own_apart hrow hown (by decide) S rfl
          rw [Hn0.out, Hm0.out] at hown
          have hwz : base ≤ wr.heap.size := Nat.le_trans Hbw.out HGi.out.upd.size
          have Hown := Lib.hid hown; have HnS := Lib.hid hnS; have Hwz := Lib.hid hwz
          clear hown hrow hnS hwz
          have hS2 : S < (wr.alloc (.cells #[.int .u16 (m0 : Int)] 65)).heap.size := by simp; omega
          have hal := (Below.refl wr.heap.size wr).alloc (Nat.le_refl _) (.cells #[.int .u16 (m0 : Int)] 65)
          have Hal := Lib.hid hal; clear hal
          go_upto_region 7 with (fail)
          go_region_law (refine step_app3 (m := 1) (news := [.int .u16 (m0 : Int)]) rfl rfl Try.etBits (Hown.out.alloc _) rfl rfl (Rd.new _ _ _ rfl) rfl (by simp [Value.oneCell']) (by omega) (by omega) (by have := Hwz.out; simp; omega) ?_; intro v5 w5 hown5 hb5 hd5; obtain ⟨s1, s2, s3⟩ := dir_keeps hd5 HnS.out hS2 (i * 3 + 1); have s1 := s1.trans ((Hal.out.cell (p := ⟨S, i * 3 + 1, none⟩) hS).trans c1); have s2 := s2.trans ((Hal.out.frozen (p := ⟨S, i * 3 + 1, none⟩) hS).trans cf1); obtain ⟨A5, c5, rfl, -, -, -⟩ := ownsRow_form hown5)
          all_goals
            have HST := Lib.hid (Gi.step HGi.out Hbw.out (Hal.out.drew) (by rw [Hn0.out, Hm0.out]; exact hown5) hb5 hd5)
            clear hown5 hb5 hd5
            go_wp2_with fail
            go_roundw
            case rel => first | exact ⟨k + 1, _, by omega, by go_num, HST.out⟩ | exact ⟨k + 1, _, by omega, by go_num, HST.out.drew⟩
            case measure => simp [intOf]; omega
        · have hk24 : k = 24 := by omega
          subst hk24
          go_wp2_with fail
          go_roundw
          case rel => exact ⟨i + 1, _, by omega, by go_num, Gi.finish HGi.out Hgs.out HA.out HO.out HS0.out HSz.out, HGi.out.upd.blk (HKn.out _ (List.getElem_mem hlt)) Hk0.out⟩
          case measure => simp [intOf]; omega
    · have hil : i = L.length := by omega
      subst hil
      go_wp2_with fail
      go_end0
      exact ⟨rfl, ⟨lv, hgs⟩, Hk0.out⟩
end Go.Proofs.Ytkdgibabecpdlaa
