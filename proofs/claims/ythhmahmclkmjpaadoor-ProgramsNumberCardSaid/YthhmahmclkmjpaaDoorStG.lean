/- Proved: programs.Of answers the plain steps, in new memory, or where it is none; for tokens whose texts are within the reach. -/
import Derived.Test.YthhmahmclkmjpaaDoorStF
import Derived.Defers
import Derived.Recover
import Derived.Laws.EntriesVeiled
namespace Go.Proofs.YthhmahmclkmjpaaDoor
open Go.RowKit
theorem block_all (c : Cx) : ∀ (f deep i : Nat) (out : List Cd) (w : World), PE c w i out → out.length ≤ i + 1 → c.T.length - (i + 1) < f → 1 ≤ deep → deep ≤ 17 →
    Calls Tryd.prog 34 (capBlock c deep) w (ResP c w (blockF (ktOf c.T) (itemsF (ktOf c.T) f) deep ⟨i, out⟩)) := by
  intro f
  induction f using Nat.strongRecOn with
  | ind f ih =>
    intro deep i out w h hl hf hd0 hd
    refine block_any c f deep i out w h hl hf hd0 hd (fun f' j out' w' hf' hpe hlj hd16 hij hfj => ?_)
    refine item_any c (itemsF (ktOf c.T) f') deep j out' w' hpe hlj hd16 (fun h3 w2 hpe2 => ?_)
    have hj := isK_lt h3
    rw [ktOf_len] at hj
    exact choice_any c f' (deep + 1) j out' w2 hpe2 hlj (by omega) (by omega) (by omega) (fun j2 out2 w3 hpe3 hl3 hij3 => ih f' hf' (deep + 1) j2 out2 w3 hpe3 hl3 (by omega) (by omega) (by omega))
theorem Tryd.assertErrno (x : Int) (w : World) : (Instr.typeAssert (.iface 25 (.int .i64 x)) 20 25 true).run Tryd.prog w = .ok (.tuple #[.int .i64 x, .bool true]) w := by kernel_rfl
set_option maxRecDepth 100000 in
set_option maxHeartbeats 1000000 in
theorem catch_panicking (p q : Addr) (v0 : Value) (x0 e : Int) (older : List PanicEntry) (w : World) (hc : w.cell? p = some v0) (hf : w.frozen? p = false) (hd : w.cell? q = some (.int .i64 x0)) (hg : w.frozen? q = false) (hp : ∃ b o, p = ⟨b, o, none⟩) (hq : ∃ b o, q = ⟨b, o, none⟩) (hne : p ≠ q) :
    CallsD Tryd.prog 26 #[.pointer (some p), .pointer (some q)] (.panicking ({ v := .iface 25 (.int .i64 e), recovered := false } :: older)) w fun r u' w' =>
      r = .returned (.tuple #[]) ∧ u' = .panicking ({ v := .iface 25 (.int .i64 e), recovered := true } :: older) ∧ w' = (w.setCell p (.slice none 0 0)).setCell q (.int .i64 e) := by
  refine callsD_of_wpS Tryd.func26 rfl fun c₀ cs hu => ?_
  apply wpS_seq
  apply wpS_region
  simp [wpOpsS, go_sem, recoverD, hu, Tryd.ntmps26, Exit.thenS]
  have HU := Lib.hid hu; clear hu
  refine wpS_of_wp ?_
  obtain ⟨pb, po, rfl⟩ := hp
  obtain ⟨qb, qo, rfl⟩ := hq
  refine wp_mono (Q := fun e_1 a' w' => e_1 = .normal ∧ a'.defers = [] ∧ w' = (w.setCell ⟨pb, po, none⟩ (.slice none 0 0)).setCell ⟨qb, qo, none⟩ (.int .i64 e)) ?_ ?_
  · change Code.wp _ _ _ { tmps := #[.pointer (some ⟨pb, po, none⟩), .pointer (some ⟨qb, qo, none⟩), undef, undef, undef, .iface 25 (.int .i64 e), undef, undef, undef, undef, undef, undef], defers := [] } w
    have hta := Tryd.assertErrno e w
    go_wp2
  · rintro e1 a' w' ⟨rfl, h1, rfl⟩
    exact ⟨h1, _, rfl, .tuple #[], results_none rfl _ _ _, rfl, rfl, rfl⟩
set_option maxRecDepth 100000 in
set_option maxHeartbeats 1000000 in
theorem catch_idle (p q : Addr) (w : World) :
    CallsD Tryd.prog 26 #[.pointer (some p), .pointer (some q)] .returning w fun r u' w' => r = .returned (.tuple #[]) ∧ u' = .returning ∧ w' = w := by
  refine callsD_of_wpS Tryd.func26 rfl fun c₀ cs hu => ?_
  apply wpS_seq
  apply wpS_region
  simp [wpOpsS, go_sem, recoverD, hu, Tryd.ntmps26, Exit.thenS]
  have HU := Lib.hid hu; clear hu
  refine wpS_of_wp ?_
  refine wp_mono (Q := fun e_1 a' w' => e_1 = .normal ∧ a'.defers = [] ∧ w' = w) ?_ ?_
  · change Code.wp _ _ _ { tmps := #[.pointer (some p), .pointer (some q), undef, undef, undef, .nilIface, undef, undef, undef, undef, undef, undef], defers := [] } w
    go_wp2
  · rintro e1 a' w' ⟨rfl, h1, rfl⟩
    exact ⟨h1, .returning, by have := HU.out; cases c₀; simp_all, .tuple #[], results_none rfl _ _ _, rfl, rfl, rfl⟩
theorem al_old {w : World} {k : Nat} {x : Obj} (h : w.heap[k]? = some x) (o : Obj) : (w.alloc o).heap[k]? = some x := by
  rw [Below.heap_alloc _ _ _ (Array.getElem?_eq_some_iff.1 h).1]; exact h
theorem al_new {w : World} {k : Nat} (h : k = w.heap.size) (o : Obj) : (w.alloc o).heap[k]? = some o := by
  subst h; exact heap_alloc_new w o
theorem chain7 (w : World) (o0 o1 o2 o3 o4 o5 o6 : Obj) : ∀ W, W = ((((((w.alloc o0).alloc o1).alloc o2).alloc o3).alloc o4).alloc o5).alloc o6 →
    W.heap[w.heap.size]? = some o0 ∧ W.heap[w.heap.size + 1]? = some o1 ∧ W.heap[w.heap.size + 2]? = some o2 ∧ W.heap[w.heap.size + 3]? = some o3 ∧ W.heap[w.heap.size + 4]? = some o4 ∧ W.heap[w.heap.size + 5]? = some o5 ∧ W.heap[w.heap.size + 6]? = some o6 ∧ W.heap.size = w.heap.size + 7 ∧ Below w.heap.size w W := by
  rintro W rfl
  refine ⟨?_, ?_, ?_, ?_, ?_, ?_, ?_, by simp, (((((((Below.refl _ w).alloc (Nat.le_refl _) _).alloc (by simp) _).alloc (by simp; omega) _).alloc (by simp; omega) _).alloc (by simp; omega) _).alloc (by simp; omega) _).alloc (by simp; omega) _⟩
  · exact al_old (al_old (al_old (al_old (al_old (al_old (al_new (by simp) _) _) _) _) _) _) _
  · exact al_old (al_old (al_old (al_old (al_old (al_new (by simp) _) _) _) _) _) _
  · exact al_old (al_old (al_old (al_old (al_new (by simp) _) _) _) _) _
  · exact al_old (al_old (al_old (al_new (by simp) _) _) _) _
  · exact al_old (al_old (al_new (by simp) _) _) _
  · exact al_old (al_new (by simp) _) _
  · exact al_new (by simp) _
theorem chain5 (w : World) (o0 o1 o2 o3 o4 : Obj) : ∀ W, W = ((((w.alloc o0).alloc o1).alloc o2).alloc o3).alloc o4 →
    W.heap[w.heap.size]? = some o0 ∧ W.heap[w.heap.size + 1]? = some o1 ∧ W.heap[w.heap.size + 2]? = some o2 ∧ W.heap[w.heap.size + 3]? = some o3 ∧ W.heap[w.heap.size + 4]? = some o4 ∧ W.heap.size = w.heap.size + 5 ∧ Below w.heap.size w W := by
  rintro W rfl
  refine ⟨?_, ?_, ?_, ?_, ?_, by simp, (((((Below.refl _ w).alloc (Nat.le_refl _) _).alloc (by simp) _).alloc (by simp; omega) _).alloc (by simp; omega) _).alloc (by simp; omega) _⟩
  · exact al_old (al_old (al_old (al_old (al_new (by simp) _) _) _) _) _
  · exact al_old (al_old (al_old (al_new (by simp) _) _) _) _
  · exact al_old (al_old (al_new (by simp) _) _) _
  · exact al_old (al_new (by simp) _) _
  · exact al_new (by simp) _
/-- The results' cells when a program returns what they hold already. -/
theorem ret3 {w : World} {b base k z cap : Nat} {A : Option Addr} {xs : List Value} (h1 : w.heap[b + 1]? = some (.cells #[.slice A z cap] 31 (0, 0))) (h2 : w.heap[b + 2]? = some (.cells #[.int .i64 (k : Int)] 3 (0, 0))) (h3 : w.heap[b + 3]? = some (.cells #[.int .i64 0] 25 (0, 0)))
    (ho : w.ownsRow base 36 2 (.slice A z cap) z xs) (hb : base ≤ b) : ∀ W, W = (((w.setCell ⟨b + 1, 0, none⟩ (.slice A z cap)).setCell ⟨b + 1 + 1, 0, none⟩ (.int .i64 (k : Int))).setCell ⟨b + 1 + 1 + 1, 0, none⟩ (.int .i64 0)).drew →
    W.cell? ⟨b + 1, 0, none⟩ = some (.slice A z cap) ∧ W.cell? ⟨b + 1 + 1, 0, none⟩ = some (.int .i64 (k : Int)) ∧ W.cell? ⟨b + 1 + 1 + 1, 0, none⟩ = some (.int .i64 0) ∧ W.ownsRow base 36 2 (.slice A z cap) z xs ∧ Below base w W := by
  rintro W rfl
  obtain ⟨c1, -, -⟩ := cell1 h1
  obtain ⟨c2, -, -⟩ := cell1 h2
  obtain ⟨c3, -, -⟩ := cell1 h3
  have hu : Upd [b + 1, b + 2, b + 3] w (((w.setCell ⟨b + 1, 0, none⟩ (.slice A z cap)).setCell ⟨b + 1 + 1, 0, none⟩ (.int .i64 (k : Int))).setCell ⟨b + 1 + 1 + 1, 0, none⟩ (.int .i64 0)).drew :=
    (((((Upd.refl _ w).setCell (.inl (by simp)) _).setCell (.inl (by simp)) _).setCell (.inl (by simp)) _)).drew
  refine ⟨?_, ?_, ?_, hu.own ho (fun g hg hm => ?_), ?_⟩
  · show ((((w.setCell _ _).setCell _ _).setCell _ _)).cell? _ = _
    rw [World.cell?_setCell_other _ _ _ _ (by simp), World.cell?_setCell_other _ _ _ _ (by simp)]
    exact World.cell?_setCell_same' _ _ _ (by rw [c1]; rfl)
  · show ((((w.setCell _ _).setCell _ _).setCell _ _)).cell? _ = _
    rw [World.cell?_setCell_other _ _ _ _ (by simp)]
    apply World.cell?_setCell_same'
    rw [World.cell?_setCell_other _ _ _ _ (by simp), c2]; rfl
  · show ((((w.setCell _ _).setCell _ _).setCell _ _)).cell? _ = _
    apply World.cell?_setCell_same'
    rw [World.cell?_setCell_other _ _ _ _ (by simp), World.cell?_setCell_other _ _ _ _ (by simp), c3]; rfl
  · have n1 := own_not ho h1 (by decide)
    have n2 := own_not ho h2 (by decide)
    have n3 := own_not ho h3 (by decide)
    rw [hg] at n1 n2 n3
    simp only [List.mem_cons, List.not_mem_nil, or_false] at hm
    rcases hm with rfl | rfl | rfl
    · exact n1 (by simp)
    · exact n2 (by simp)
    · exact n3 (by simp)
  · exact (((((Below.refl base w).setCell (by simp; omega) _).setCell (by simp; omega) _).setCell (by simp; omega) _)).drew
def OfP (R : List Cd × Nat × Nat) (w : World) (r : Ending) (w' : World) : Prop :=
  ∃ A cap, r = .returned (.tuple #[.slice A R.1.length cap, .int .i64 (R.2.1 : Int), .int .i64 (R.2.2 : Int)]) ∧ w'.ownsRow w.heap.size 36 2 (.slice A R.1.length cap) R.1.length (cdCells R.1) ∧ Below w.heap.size w w'
set_option maxRecDepth 100000 in
set_option maxHeartbeats 8000000 in
theorem progOf_any (T : List Tk) (A : Option Addr) (cl : Nat) (w : World) (hr : Rd w A (tkCells T)) (hold : T ≠ [] → ∀ ad, A = some ad → ad.block < w.heap.size) (hT : SpaceTab w) (h0 : 0 < w.heap.size) (htl : T.length ≤ 4398046511104) (htx : ∀ x ∈ T, x.2.1.length ≤ 140737488355328) :
    Calls Tryd.prog 10 #[.slice A T.length cl] w (OfP (progF (ktOf T)) w) := by
  have hmf : ∀ (fn : Fn) (first cap : Array Value) (w : World), (Instr.makeFunc fn first cap).run Tryd.prog w = .ok (.func fn first cap) w := fun _ _ _ _ => rfl
  go_enter_defers Tryd.func10, Tryd.ntmps10
  obtain ⟨n, hn⟩ : ∃ n, T.length = n := ⟨_, rfl⟩
  have Hn := Lib.hid hn
  have Hr := Lib.hid hr; have Ho := Lib.hid hold; have HT := Lib.hid hT; have Htl := Lib.hid htl; have Htx := Lib.hid htx
  clear hr hold hT htl htx
  rw [hn]
  clear hn
  go_wp2_with fail
  have hC := chain7 w (.cells #[.slice A n cl] 30) (.cells #[.slice none 0 0] 31) (.cells #[.int .i64 0] 3) (.cells #[.int .i64 0] 25) (.cells #[.func (.func 27) #[] #[pt (w.heap.size + 2), pt w.heap.size]] 60) (.cells #[.func (.func 28) #[] #[]] 61) (.cells #[.func (.func 29) #[] #[pt (w.heap.size + 4), pt w.heap.size, pt (w.heap.size + 2)]] 62) _ rfl
  have HC := Lib.hid hC
  clear hC
  refine (ops_any _ (fun x hx => (HC.out.2.2.2.2.2.2.2.2.cell (p := ⟨0, x.toNat, none⟩) h0).trans (HT.out x hx)) (by simp)).mono ?_
  rintro e w1 ⟨M, rfl, hM, hom, hb1⟩
  have HB1 := Lib.hid hb1; have Hom := Lib.hid hom; have HM := Lib.hid hM
  clear hM hom hb1
  go_wp2_with fail
  obtain ⟨W5, hW5⟩ : ∃ W5, W5 = ((((w1.alloc (.cells #[.map (some M)] 63)).alloc (.cells #[.func (.func 31) #[] #[pt (w.heap.size + 1)]] 65)).alloc (.cells #[.func (.func 34) #[] #[pt (w.heap.size + 5), pt (w.heap.size + 4), pt (w.heap.size + 2), pt (w1.heap.size + 4)]] 66)).alloc
    (.cells #[.func (.func 32) #[] #[pt (w1.heap.size + 1), pt (w1.heap.size + 2), pt (w.heap.size + 6), pt (w.heap.size + 5), pt (w.heap.size + 4), pt (w.heap.size + 1)]] 66)).alloc (.cells #[.func (.func 33) #[] #[pt (w.heap.size + 5), pt (w.heap.size + 2), pt w.heap.size, pt (w1.heap.size + 3), pt (w1.heap.size + 1), pt w1.heap.size]] 66) := ⟨_, rfl⟩
  have hD := chain5 w1 (.cells #[.map (some M)] 63) (.cells #[.func (.func 31) #[] #[pt (w.heap.size + 1)]] 65) (.cells #[.func (.func 34) #[] #[pt (w.heap.size + 5), pt (w.heap.size + 4), pt (w.heap.size + 2), pt (w1.heap.size + 4)]] 66) (.cells #[.func (.func 32) #[] #[pt (w1.heap.size + 1), pt (w1.heap.size + 2), pt (w.heap.size + 6), pt (w.heap.size + 5), pt (w.heap.size + 4), pt (w.heap.size + 1)]] 66) (.cells #[.func (.func 33) #[] #[pt (w.heap.size + 5), pt (w.heap.size + 2), pt w.heap.size, pt (w1.heap.size + 3), pt (w1.heap.size + 1), pt w1.heap.size]] 66) W5 hW5
  obtain ⟨C0, C1, C2, C3, C4, C5, C6, Cz, Cb⟩ := HC.out
  obtain ⟨D0, D1, D2, D3, D4, Dz, Db⟩ := hD
  have hz7 := HB1.out.size
  have hb1 := HB1.out
  have hx : ∀ k o, k < w.heap.size + 7 → (((((((w.alloc (.cells #[.slice A n cl] 30)).alloc (.cells #[.slice none 0 0] 31)).alloc (.cells #[.int .i64 0] 3)).alloc (.cells #[.int .i64 0] 25)).alloc (.cells #[.func (.func 27) #[] #[pt (w.heap.size + 2), pt w.heap.size]] 60)).alloc (.cells #[.func (.func 28) #[] #[]] 61)).alloc (.cells #[.func (.func 29) #[] #[pt (w.heap.size + 4), pt w.heap.size, pt (w.heap.size + 2)]] 62)).heap[k]? = some o → W5.heap[k]? = some o := fun k o hk h => by
    rw [Db.block k (by have := HB1.out.size; rw [Cz] at this; omega), hb1.block k (by rw [Cz]; exact hk)]; exact h
  have hpe : PE ⟨w.heap.size, w1.heap.size, M, A, cl, T, w.heap.size⟩ W5 0 [] := by
    refine ⟨⟨?_, hx _ _ (Nat.add_lt_add_left (by decide) _) C3, hx _ _ (Nat.add_lt_add_left (by decide) _) C4, hx _ _ (Nat.add_lt_add_left (by decide) _) C5, hx _ _ (Nat.add_lt_add_left (by decide) _) C6, D0, D1, D2, D3, D4, by rw [hW5]; exact ((((Hom.out.alloc _).alloc _).alloc _).alloc _).alloc _, ?_, Ho.out, Nat.le_refl _, by show w.heap.size + 7 ≤ w1.heap.size; rw [Cz] at hz7; exact hz7, by show w.heap.size + 7 ≤ M; have := HM.out; rw [Cz] at this; exact this, Htl.out, Htx.out⟩, hx _ _ (Nat.add_lt_add_left (by decide) _) C2, none, 0, hx _ _ (Nat.add_lt_add_left (by decide) _) C1, World.ownsRow_nil _ _ _ _⟩
    · have := hx _ _ (by omega) C0
      rw [← Hn.out] at this; exact this
    · exact ((Hr.out.below Cb).below hb1).below Db
  have hbw := (Cb.trans (hb1.mono (by rw [Cz]; omega))).trans (Db.mono (by rw [Cz] at hz7; omega))
  have HPE := Lib.hid hpe; have HBW := Lib.hid hbw
  clear hpe hbw C0 C1 C2 C3 C4 C5 C6 Cz Cb D0 D1 D2 D3 D4 Dz Db hx hz7 hb1 HC
  subst hW5
  refine (block_all ⟨w.heap.size, w1.heap.size, M, A, cl, T, w.heap.size⟩ ((ktOf T).length + 1) 1 0 [] _ HPE.out (by simp) (by rw [ktOf_len]; show T.length - 1 < T.length + 1; omega) (by omega) (by omega)).mono ?_
  rintro e w2 hres
  have hpr : progF (ktOf T) = _ := rfl
  conv at hpr => rhs; unfold progF
  cases hc : blockF (ktOf T) (itemsF (ktOf T) ((ktOf T).length + 1)) 1 ⟨0, []⟩ with
  | fail er k =>
    simp only [hc] at hres hpr
    obtain ⟨rfl, ⟨o3, hp2⟩, hk2⟩ := hres
    have HP2 := Lib.hid hp2; have Hpr := Lib.hid hpr; have HK2 := Lib.hid hk2
    clear hp2 hpr hc hk2
    go_wp2_with fail
    obtain ⟨oA, ocap, oh, -⟩ := HP2.out.hout
    obtain ⟨q0, q1, qf⟩ := cell1 oh
    obtain ⟨r0, r1, rf⟩ := cell1 HP2.out.k.herr
    obtain ⟨a0, a1, af⟩ := cell1 HP2.out.hat
    refine leaves_cons (f := 26) (args := #[pt (w.heap.size + 1), pt (w.heap.size + 3)]) (by simp) (by simp [go_sem]) ?_
    refine (catch_panicking ⟨w.heap.size + 1, 0, none⟩ ⟨w.heap.size + 3, 0, none⟩ _ 0 er [] _ q0 qf r0 rf ⟨_, _, rfl⟩ ⟨_, _, rfl⟩ (by simp)).mono ?_
    have g1 : ((w2.setCell ⟨w.heap.size + 1, 0, none⟩ (.slice none 0 0)).setCell ⟨w.heap.size + 3, 0, none⟩ (.int .i64 (er : Int))).cell? ⟨w.heap.size + 1, 0, none⟩ = some (.slice none 0 0) := by
      rw [World.cell?_setCell_other _ _ _ _ (by simp)]; exact World.cell?_setCell_same' _ _ _ (by rw [q0]; rfl)
    have g2 : ((w2.setCell ⟨w.heap.size + 1, 0, none⟩ (.slice none 0 0)).setCell ⟨w.heap.size + 3, 0, none⟩ (.int .i64 (er : Int))).cell? ⟨w.heap.size + 1 + 1, 0, none⟩ = some (.int .i64 (k : Int)) := by
      rw [World.cell?_setCell_other _ _ _ _ (by simp), World.cell?_setCell_other _ _ _ _ (by simp)]; exact a0
    have g3 : ((w2.setCell ⟨w.heap.size + 1, 0, none⟩ (.slice none 0 0)).setCell ⟨w.heap.size + 3, 0, none⟩ (.int .i64 (er : Int))).cell? ⟨w.heap.size + 1 + 1 + 1, 0, none⟩ = some (.int .i64 (er : Int)) := by
      apply World.cell?_setCell_same'
      rw [World.cell?_setCell_other _ _ _ _ (by simp), r0]; rfl
    have hbl : Below w.heap.size w ((w2.setCell ⟨w.heap.size + 1, 0, none⟩ (.slice none 0 0)).setCell ⟨w.heap.size + 3, 0, none⟩ (.int .i64 (er : Int))) :=
      ((HBW.out.trans (HK2.out.toBelow (Nat.le_refl _) HBW.out.size)).setCell (by simp) _).setCell (by simp) _
    generalize (w2.setCell ⟨w.heap.size + 1, 0, none⟩ (.slice none 0 0)).setCell ⟨w.heap.size + 3, 0, none⟩ (.int .i64 (er : Int)) = W9 at g1 g2 g3 hbl ⊢
    rintro e u' w3 ⟨rfl, rfl, rfl⟩
    simp [Leaves, settle, results, Tryd.results10, go_sem, g1, g2, g3]
    rw [Hpr.out]
    exact ⟨none, 0, rfl, World.ownsRow_nil _ _ _ _, hbl⟩
  | ok s =>
    obtain ⟨k, out⟩ := s
    simp only [hc] at hres hpr
    obtain ⟨rfl, hp2, hk2⟩ := hres
    simp only [ktOf_len] at hpr
    have HP2 := Lib.hid hp2; have HK2 := Lib.hid hk2
    clear hc hk2
    obtain ⟨m0, m1, -⟩ := cell1 hp2.k.hmust
    obtain ⟨a0, a1, af⟩ := cell1 hp2.hat
    obtain ⟨l0, l1, -⟩ := cell1 hp2.k.hl
    simp only at m0 m1 a0 a1 af l0 l1
    rw [Hn.out] at l0
    clear hp2
    by_cases hkn : k = T.length
    · rw [if_pos hkn] at hpr
      have t1 : ((k : Int) == (n : Int)) = true := by rw [hkn, Hn.out]; simp
      have t2 : (k == n) = true := by rw [hkn, Hn.out]; simp
      have Hkn := Lib.hid hkn; have Hpr0 := Lib.hid hpr
      clear hkn hpr
      go_wp2_with fail
      refine (must_yes 13 _).mono ?_
      rintro e w3 ⟨rfl, rfl⟩
      obtain ⟨oA, ocap, oh, oo⟩ := HP2.out.hout
      have hpl := HP2.out.len
      obtain ⟨o0, o1, of⟩ := cell1 oh
      simp only at o0 o1 of
      have Hoo := Lib.hid oo; have Hoh := Lib.hid oh
      clear oo oh
      obtain ⟨z, hz⟩ : ∃ z, out.length = z := ⟨_, rfl⟩
      have hpr := Hpr0.out
      rw [hz] at o0 hpr
      have Hz := Lib.hid hz
      clear hz hpl
      by_cases hz2 : z ≤ 1024
      · rw [if_pos hz2] at hpr
        have d1 : decide ((z : Int) ≤ 1024) = true := by simp; omega
        have Hpr := Lib.hid hpr
        clear hz2 hpr
        go_wp2_with fail
        refine (must_yes 3 _).mono ?_
        rintro e w4 ⟨rfl, rfl⟩
        obtain ⟨r0, r1, rf⟩ := cell1 HP2.out.k.herr
        simp only at r0 r1 rf
        go_wp2_with fail
        go_region
        go_wp2_with fail
        have hoo := Hoo.out
        rw [Hz.out] at hoo
        have hoh := Hoh.out
        rw [Hz.out] at hoh
        have hG := ret3 hoh HP2.out.hat HP2.out.k.herr hoo (Nat.le_refl _) _ rfl
        have HG := Lib.hid hG
        clear hG hoo hoh
        refine leaves_cons (f := 26) (args := #[pt (w.heap.size + 1), pt (w.heap.size + 3)]) (by simp) (by simp [go_sem]) ?_
        refine (catch_idle _ _ _).mono ?_
        obtain ⟨g1, g2, g3, g4, g5⟩ := HG.out
        have hbl := (HBW.out.trans (HK2.out.toBelow (Nat.le_refl _) HBW.out.size)).trans g5
        generalize (((w4.setCell ⟨w.heap.size + 1, 0, none⟩ (.slice oA z ocap)).setCell ⟨w.heap.size + 1 + 1, 0, none⟩ (.int .i64 (k : Int))).setCell ⟨w.heap.size + 1 + 1 + 1, 0, none⟩ (.int .i64 0)).drew = W9 at g1 g2 g3 g4 hbl ⊢
        rintro e u' w5 ⟨rfl, rfl, rfl⟩
        simp [Leaves, settle, results, Tryd.results10, go_sem, g1, g2, g3]
        rw [Hpr.out]
        refine ⟨oA, ocap, ?_, ?_, hbl⟩
        · rw [Hz.out]; rfl
        · rw [Hz.out]; exact g4
      · rw [if_neg hz2] at hpr
        have d1 : decide ((z : Int) ≤ 1024) = false := by simp; omega
        have Hpr := Lib.hid hpr
        clear hz2 hpr
        go_wp2_with fail
        refine (must_no 3 _).mono ?_
        rintro e w4 ⟨rfl, rfl⟩
        clear m0 m1 a0 a1 af l0 l1 o0 o1 of
        go_wp2_with fail
        obtain ⟨oA, ocap, oh, -⟩ := HP2.out.hout
        obtain ⟨q0, q1, qf⟩ := cell1 oh
        obtain ⟨r0, r1, rf⟩ := cell1 HP2.out.k.herr
        obtain ⟨a0, a1, af⟩ := cell1 HP2.out.hat
        refine leaves_cons (f := 26) (args := #[pt (w.heap.size + 1), pt (w.heap.size + 3)]) (by simp) (by simp [go_sem]) ?_
        refine (catch_panicking ⟨w.heap.size + 1, 0, none⟩ ⟨w.heap.size + 3, 0, none⟩ _ 0 3 [] _ q0 qf r0 rf ⟨_, _, rfl⟩ ⟨_, _, rfl⟩ (by simp)).mono ?_
        have g1 : ((w4.setCell ⟨w.heap.size + 1, 0, none⟩ (.slice none 0 0)).setCell ⟨w.heap.size + 3, 0, none⟩ (.int .i64 (3 : Int))).cell? ⟨w.heap.size + 1, 0, none⟩ = some (.slice none 0 0) := by
          rw [World.cell?_setCell_other _ _ _ _ (by simp)]; exact World.cell?_setCell_same' _ _ _ (by rw [q0]; rfl)
        have g2 : ((w4.setCell ⟨w.heap.size + 1, 0, none⟩ (.slice none 0 0)).setCell ⟨w.heap.size + 3, 0, none⟩ (.int .i64 (3 : Int))).cell? ⟨w.heap.size + 1 + 1, 0, none⟩ = some (.int .i64 (k : Int)) := by
          rw [World.cell?_setCell_other _ _ _ _ (by simp), World.cell?_setCell_other _ _ _ _ (by simp)]; exact a0
        have g3 : ((w4.setCell ⟨w.heap.size + 1, 0, none⟩ (.slice none 0 0)).setCell ⟨w.heap.size + 3, 0, none⟩ (.int .i64 (3 : Int))).cell? ⟨w.heap.size + 1 + 1 + 1, 0, none⟩ = some (.int .i64 (3 : Int)) := by
          apply World.cell?_setCell_same'
          rw [World.cell?_setCell_other _ _ _ _ (by simp), r0]; rfl
        have hbl : Below w.heap.size w ((w4.setCell ⟨w.heap.size + 1, 0, none⟩ (.slice none 0 0)).setCell ⟨w.heap.size + 3, 0, none⟩ (.int .i64 (3 : Int))) :=
          ((HBW.out.trans (HK2.out.toBelow (Nat.le_refl _) HBW.out.size)).setCell (by simp) _).setCell (by simp) _
        generalize (w4.setCell ⟨w.heap.size + 1, 0, none⟩ (.slice none 0 0)).setCell ⟨w.heap.size + 3, 0, none⟩ (.int .i64 (3 : Int)) = W9 at g1 g2 g3 hbl ⊢
        rintro e u' w5 ⟨rfl, rfl, rfl⟩
        simp [Leaves, settle, results, Tryd.results10, go_sem, g1, g2, g3]
        rw [Hpr.out]
        exact ⟨none, 0, rfl, World.ownsRow_nil _ _ _ _, hbl⟩
    · rw [if_neg hkn] at hpr
      have t1 : ((k : Int) == (n : Int)) = false := by have := Hn.out; simp; omega
      have t2 : (k == n) = false := by have := Hn.out; simp; omega
      have Hpr := Lib.hid hpr
      clear hkn hpr
      go_wp2_with fail
      refine (must_no 13 _).mono ?_
      rintro e w3 ⟨rfl, rfl⟩
      clear m0 m1 a0 a1 af l0 l1
      go_wp2_with fail
      obtain ⟨oA, ocap, oh, -⟩ := HP2.out.hout
      obtain ⟨q0, q1, qf⟩ := cell1 oh
      obtain ⟨r0, r1, rf⟩ := cell1 HP2.out.k.herr
      obtain ⟨a0, a1, af⟩ := cell1 HP2.out.hat
      refine leaves_cons (f := 26) (args := #[pt (w.heap.size + 1), pt (w.heap.size + 3)]) (by simp) (by simp [go_sem]) ?_
      refine (catch_panicking ⟨w.heap.size + 1, 0, none⟩ ⟨w.heap.size + 3, 0, none⟩ _ 0 13 [] _ q0 qf r0 rf ⟨_, _, rfl⟩ ⟨_, _, rfl⟩ (by simp)).mono ?_
      have g1 : ((w3.setCell ⟨w.heap.size + 1, 0, none⟩ (.slice none 0 0)).setCell ⟨w.heap.size + 3, 0, none⟩ (.int .i64 (13 : Int))).cell? ⟨w.heap.size + 1, 0, none⟩ = some (.slice none 0 0) := by
        rw [World.cell?_setCell_other _ _ _ _ (by simp)]; exact World.cell?_setCell_same' _ _ _ (by rw [q0]; rfl)
      have g2 : ((w3.setCell ⟨w.heap.size + 1, 0, none⟩ (.slice none 0 0)).setCell ⟨w.heap.size + 3, 0, none⟩ (.int .i64 (13 : Int))).cell? ⟨w.heap.size + 1 + 1, 0, none⟩ = some (.int .i64 (k : Int)) := by
        rw [World.cell?_setCell_other _ _ _ _ (by simp), World.cell?_setCell_other _ _ _ _ (by simp)]; exact a0
      have g3 : ((w3.setCell ⟨w.heap.size + 1, 0, none⟩ (.slice none 0 0)).setCell ⟨w.heap.size + 3, 0, none⟩ (.int .i64 (13 : Int))).cell? ⟨w.heap.size + 1 + 1 + 1, 0, none⟩ = some (.int .i64 (13 : Int)) := by
        apply World.cell?_setCell_same'
        rw [World.cell?_setCell_other _ _ _ _ (by simp), r0]; rfl
      have hbl : Below w.heap.size w ((w3.setCell ⟨w.heap.size + 1, 0, none⟩ (.slice none 0 0)).setCell ⟨w.heap.size + 3, 0, none⟩ (.int .i64 (13 : Int))) :=
        ((HBW.out.trans (HK2.out.toBelow (Nat.le_refl _) HBW.out.size)).setCell (by simp) _).setCell (by simp) _
      generalize (w3.setCell ⟨w.heap.size + 1, 0, none⟩ (.slice none 0 0)).setCell ⟨w.heap.size + 3, 0, none⟩ (.int .i64 (13 : Int)) = W9 at g1 g2 g3 hbl ⊢
      rintro e u' w4 ⟨rfl, rfl, rfl⟩
      simp [Leaves, settle, results, Tryd.results10, go_sem, g1, g2, g3]
      rw [Hpr.out]
      exact ⟨none, 0, rfl, World.ownsRow_nil _ _ _ _, hbl⟩
end Go.Proofs.YthhmahmclkmjpaaDoor
