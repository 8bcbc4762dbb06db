/- Proved: (*scan).at takes from what waits, keeps what is met, and lays the row's turns; for scans in memory of their own and heights that may be. -/
import Derived.Test.YtkdgibabecpdlaaTurns
import Derived.Test.YtkdgibabecpdlaaHeapLaw
import Derived.Lib.MinMax
namespace Go.Proofs.Ytkdgibabecpdlaa
open Go.RowKit

/-- What an edge weighs at a scanned height stays small. -/
theorem scan_bound {e : Edge} (he : NearE e) {y : Int} (hm : meetE y e = true) :
    -4611686018427387904 ≤ overN e.1.1 e.1.2 e.2.1.1 e.2.1.2 32 y ∧ overN e.1.1 e.1.2 e.2.1.1 e.2.1.2 32 y ≤ 4611686018427387904 := by
  obtain ⟨h1, h2, h3, -⟩ := he
  rw [near_iff] at h1 h2
  simp only [meetE, meetsB, Bool.and_eq_true, decide_eq_true_eq] at hm
  have a1 := mul_bound (a := e.2.1.1) (b := y - e.1.2) (A := 1073741824) (B := y - e.1.2) (by omega) (by omega)
  have a2 := mul_bound (a := e.1.1) (b := e.2.1.2 - y) (A := 1073741824) (B := e.2.1.2 - y) (by omega) (by omega)
  have : overN e.1.1 e.1.2 e.2.1.1 e.2.1.2 32 y = e.2.1.1 * (y - e.1.2) + e.1.1 * (e.2.1.2 - y) - 32 * (e.2.1.2 - e.1.2) := by
    unfold overN; simp only [Int.mul_sub, Int.sub_mul]; omega
  rw [this]
  omega

theorem tsF_abs {y : Int} {last n : Nat} : ∀ (es : List Edge), (∀ e ∈ es, NearE e) → ∀ x ∈ tsF y last es (List.replicate n 0), -(2 * (es.length : Int)) ≤ x ∧ x ≤ 2 * es.length := by
  intro es
  induction h : es.length generalizing es with
  | zero =>
    intro _ x hx
    have : es = [] := List.length_eq_zero_iff.1 h
    subst this
    rw [tsF, List.foldl_nil] at hx
    have := List.eq_of_mem_replicate hx
    omega
  | succ m ih =>
    intro he x hx
    have hne : es ≠ [] := by intro e; subst e; simp at h
    rw [← List.dropLast_concat_getLast hne, tsF_snoc] at hx
    have := tsAdd_abs (he _ (List.getLast_mem hne)) (ih es.dropLast (by simp; omega) (fun e h => he e ((List.dropLast_sublist es).subset h))) (by omega) x hx
    omega

theorem manyE_le (y : Int) (last : Nat) (e : Edge) : manyE y last e ≤ last := by
  unfold manyE; split
  · omega
  · exact Nat.min_le_left _ _

/-- What stays when one of the turns is stored. -/
theorem turn_rel {w4 w0 : World} {S base gt n c Y y6 : Nat} {vw vm : Value} {ws ms : List Edge} {ts : List Int} {y t : Int} {O : Nat} {co : Array Value}
    (h : ScanS w4 S base vw vm (.slice (some ⟨gt, 0, none⟩) n c) ws ms ts) (hk4 : Kp w4 Y y O co) (hb : Below base w0 w4) {k : Nat} (hk : k < ts.length) (x : Int)
    (hg : w4.cell? ⟨y6, 4, none⟩ = some (.int .i64 t)) (h6 : gt ≠ y6) :
    Hid (ScanS (w4.setCell ⟨gt, k, none⟩ (.int .i64 x)) S base vw vm (.slice (some ⟨gt, 0, none⟩) n c) ws ms (ts.set k x)) ∧ Hid (Kp (w4.setCell ⟨gt, k, none⟩ (.int .i64 x)) Y y O co) ∧
      Hid (Below base w0 (w4.setCell ⟨gt, k, none⟩ (.int .i64 x))) ∧ (w4.setCell ⟨gt, k, none⟩ (.int .i64 x)).cell? ⟨y6, 4, none⟩ = some (.int .i64 t) ∧
      (w4.setCell ⟨gt, k, none⟩ (.int .i64 x)).cell? ⟨S, 2, none⟩ = some (.slice (some ⟨gt, 0, none⟩) n c) := by
  have hgY : gt ≠ Y := fun e => own_ne h.tu hk4.1 (by decide) (by rw [e]; rfl)
  have hgO : gt ≠ O := fun e => own_ne h.tu hk4.2 (by decide) (by rw [e]; rfl)
  have hU : Upd [gt] w4 (w4.setCell ⟨gt, k, none⟩ (.int .i64 x)) := (Upd.refl _ _).setCell (.inl (by simp)) _
  have H := h.setT hk x
  refine ⟨Lib.hid H, Lib.hid (hk4.keep hU (by simp; exact fun e => hgY e.symm) (by simp; exact fun e => hgO e.symm)), Lib.hid ?_, ?_, cell_of_row _ S 2 _ _ _ H.blk⟩
  · have hbg := (h.tu.lt gt rfl).1
    exact Below.setCell hb hbg _
  · rw [hU.cell (World.block_lt_of_cell? w4 _ hg) (by simp; exact fun e => h6 e.symm)]; exact hg

theorem ScanS.drew {w : World} {S base : Nat} {vw vm vt : Value} {ws ms : List Edge} {ts : List Int} (h : ScanS w S base vw vm vt ws ms ts) : ScanS w.drew S base vw vm vt ws ms ts :=
  ⟨h.blk, h.low, h.wa, h.me, h.tu, h.ne⟩
theorem below_drew {B : Nat} {a b : World} (h : Below B a b) : Below B a b.drew := ⟨h.os, h.tape, h.output, h.size, h.block⟩
theorem popF_sub {l : List Edge} {e : Edge} (h : e ∈ popF l) : e ∈ l := by
  unfold popF at h
  have h1 := List.mem_of_mem_take h
  by_cases h0 : 0 < l.length
  · by_cases h2 : 0 < l.length - 1
    · exact (swapL_perm h0 (by omega)).mem_iff.1 ((downF_perm _ _ _ _ (by rw [swapL_len]; omega) (by omega)).mem_iff.1 h1)
    · have : (popF l).length = 0 := by rw [popF_len]; omega
      have h3 : popF l = [] := List.length_eq_zero_iff.1 this
      unfold popF at h3; rw [h3] at h; cases h
  · have : l = [] := List.length_eq_zero_iff.1 (by omega)
    subst this
    rw [show (([] : List Edge).length - 1) = 0 from rfl, List.take_zero] at h; cases h
theorem popAll_sub : ∀ (f : Nat) (y : Int) (ws ms : List Edge), (∀ e ∈ (popAll f y ws ms).2, e ∈ ws ++ ms) ∧ (popAll f y ws ms).1.length + (popAll f y ws ms).2.length = ws.length + ms.length
  | 0, _, _, _ => ⟨fun e h => List.mem_append_right _ h, rfl⟩
  | f + 1, y, ws, ms => by
    rw [popAll]
    split
    · rename_i hc
      obtain ⟨h1, h2⟩ := popAll_sub f y (popF ws) (ms ++ ws.take 1)
      refine ⟨fun e he => ?_, ?_⟩
      · have := h1 e he
        simp only [List.mem_append] at this ⊢
        rcases this with h | h | h
        · exact .inl (popF_sub h)
        · exact .inr h
        · exact .inl (List.mem_of_mem_take h)
      · rw [h2, popF_len, List.length_append, List.length_take]; omega
    · exact ⟨fun e h => List.mem_append_right _ h, rfl⟩
theorem ScanS.upd {w w' : World} {S base : Nat} {vw vm vt : Value} {ws ms : List Edge} {ts : List Int} (h : ScanS w S base vw vm vt ws ms ts) (hu : Upd [] w w') : ScanS w' S base vw vm vt ws ms ts :=
  ⟨hu.blk (by simp) h.blk, h.low, hu.own h.wa (by simp), hu.own h.me (by simp), hu.own h.tu (by simp), h.ne⟩

theorem ints_rep (n : Nat) : ints (List.replicate n 0) = List.replicate n (Value.int .i64 0) := by simp [ints]

theorem Try.zeroInt : ∀ w, (zeroValue 3).run Try.prog w = .ok (.int .i64 0) w := fun _ => by kernel_rfl
/-- The scan once what it has met is thinned and its turns are cleared. -/
theorem clear_rel {wc w1 : World} {S base gt n c : Nat} {vw vm vm1 : Value} {ws ms ms1 : List Edge} {ts : List Int} {Y : Nat} {y : Int} {O : Nat} {co : Array Value}
    (hs : ScanS wc S base vw vm (.slice (some ⟨gt, 0, none⟩) n c) ws ms ts) (hr : w1.ownsRow base 149 5 vm1 ms1.length (edgeCells ms1)) (hu : Upd vm.ownBlock.toList wc w1) (ho : vm1.ownBlock = vm.ownBlock)
    (hk0 : Kp wc Y y O co) (hbase : base ≤ wc.heap.size) :
    ScanS ((w1.setCell ⟨S, 1, none⟩ vm1).setCells gt 0 (List.replicate ts.length (.int .i64 0))) S base vw vm1 (.slice (some ⟨gt, 0, none⟩) n c) ws ms1 (List.replicate ts.length 0) ∧
      Below base wc ((w1.setCell ⟨S, 1, none⟩ vm1).setCells gt 0 (List.replicate ts.length (.int .i64 0))) ∧
      Kp ((w1.setCell ⟨S, 1, none⟩ vm1).setCells gt 0 (List.replicate ts.length (.int .i64 0))) Y y O co := by
  have hy := hk0.1
  have hO := hk0.2
  have hgS : gt ≠ S := fun e => own_ne hs.tu hs.blk (by decide) (by rw [e]; rfl)
  have hgY : gt ≠ Y := fun e => own_ne hs.tu hy (by decide) (by rw [e]; rfl)
  have hSY : S ≠ Y := by rintro rfl; have h1 := hs.blk; rw [hy] at h1; cases h1
  have hgO : gt ≠ O := fun e => own_ne hs.tu hO (by decide) (by rw [e]; rfl)
  have hSO : S ≠ O := by rintro rfl; have h1 := hs.blk; rw [hO] at h1; injection h1 with h1; injection h1 with h1 h2; exact absurd h2 (by decide)
  have hmO : vm.ownBlock ≠ some O := own_ne hs.me hO (by decide)
  have hn : n = ts.length := by
    obtain ⟨A, c', e, _⟩ := ownsRow_form hs.tu
    injection e
  subst hn
  have hmS : vm.ownBlock ≠ some S := own_ne hs.me hs.blk (by decide)
  have hmY : vm.ownBlock ≠ some Y := own_ne hs.me hy (by decide)
  obtain ⟨cg, hcg⟩ : ∃ cur, wc.heap[gt]? = some (.cells cur 3 (0, 0)) := by
    rcases hs.tu.2 with ⟨h, _⟩ | ⟨g', cap', cur, hv, _, h, _⟩
    · cases h
    · injection hv with h1; injection h1 with h1; injection h1 with h1; subst h1; exact ⟨cur, h⟩
  have hwg : vw.ownBlock ≠ some gt := own_ne hs.wa hcg (by decide)
  have hmg : vm.ownBlock ≠ some gt := own_ne hs.me hcg (by decide)
  have hwS : vw.ownBlock ≠ some S := own_ne hs.wa hs.blk (by decide)
  have hB1 := hu.blk (fun h => by rw [Option.mem_toList] at h; exact hmS h) hs.blk
  have hB2 := heap_setCell_same w1 S 1 _ _ vm1 hB1
  have U1 : Upd [S] w1 (w1.setCell ⟨S, 1, none⟩ vm1) := (Upd.refl _ _).setCell (.inl (by simp)) _
  have U2 : Upd [gt] (w1.setCell ⟨S, 1, none⟩ vm1) ((w1.setCell ⟨S, 1, none⟩ vm1).setCells gt 0 (List.replicate ts.length (.int .i64 0))) := (Upd.refl _ _).setCells (.inl (by simp)) _ _
  have U : Upd (S :: gt :: vm.ownBlock.toList) wc ((w1.setCell ⟨S, 1, none⟩ vm1).setCells gt 0 (List.replicate ts.length (.int .i64 0))) :=
    ((hu.mono (by simp +contextual)).trans (U1.mono (by simp))).trans (U2.mono (by simp))
  have hbg := (hs.tu.lt gt rfl).1
  refine ⟨⟨U2.blk (by simp; exact fun e => hgS e.symm) hB2, hs.low, ?_, ?_, ?_, ?_⟩, U.toBelow hbase (fun x hx => ?_), hk0.keep U ?_ ?_⟩
  · refine U.own hs.wa (fun k hk => ?_)
    simp only [List.mem_cons, Option.mem_toList, not_or]
    refine ⟨fun e => hwS (by rw [hk, e]), fun e => hwg (by rw [hk, e]), fun e => ?_⟩
    rcases hs.ne with h | h
    · rw [h] at hk; cases hk
    · exact h (by rw [hk, e])
  · refine U2.own (U1.own hr (fun k hk => ?_)) (fun k hk => ?_)
    · simp; rintro rfl; rw [ho] at hk; exact hmS hk
    · simp; rintro rfl; rw [ho] at hk; exact hmg hk
  · have h1 := U1.own (hu.own hs.tu (fun k hk => by
      rw [Option.mem_toList]; intro e
      rcases hs.me.2 with ⟨h, _⟩ | ⟨g', cap', cur, hv, _, h, _⟩
      · rw [h] at e; cases e
      · rw [hv] at e; injection e with e; subst e; exact own_ne hs.tu h (by decide) hk)) (fun k hk => by
      injection hk with hk; subst hk; simpa using hgS)
    have h2 := own_fill h1 (vs := List.replicate ts.length (.int .i64 0)) (by simp)
    rw [ints_rep, List.length_replicate]; exact h2
  · rw [ho]; exact hs.ne
  · simp only [List.mem_cons, Option.mem_toList] at hx
    rcases hx with rfl | rfl | hx
    · exact hs.low
    · exact hbg
    · exact (hs.me.lt x hx).1
  · simp only [List.mem_cons, Option.mem_toList, not_or]
    exact ⟨fun e => hSY e.symm, fun e => hgY e.symm, hmY⟩
  · simp only [List.mem_cons, Option.mem_toList, not_or]
    exact ⟨fun e => hSO e.symm, fun e => hgO e.symm, hmO⟩

theorem clear_all {wc w1 w2 : World} {S base gt n c : Nat} {vw vm vm1 : Value} {ws ms ms1 : List Edge} {ts : List Int} {Y : Nat} {y : Int} {A : Option Addr} {O : Nat} {co : Array Value}
    (hs : ScanS wc S base vw vm (.slice A n c) ws ms ts) (hA : A = some ⟨gt, 0, none⟩) (hr : w1.ownsRow base 149 5 vm1 ms1.length (edgeCells ms1)) (hu : Upd vm.ownBlock.toList wc w1) (ho : vm1.ownBlock = vm.ownBlock)
    (hy : Kp wc Y y O co) (hbase : base ≤ wc.heap.size) (hn : n = ts.length) (h0 : 0 < ts.length)
    (h : (n = 0 ∧ w2 = w1.setCell ⟨S, 1, none⟩ vm1) ∨ ∃ b o vs, A = some ⟨b, o, none⟩ ∧ 0 < n ∧ w2 = (w1.setCell ⟨S, 1, none⟩ vm1).setCells b o vs ∧ vs.length = n * 1 ∧ vs = (Builtin.zeroCells (Value.int .i64 0).cells n).toList) :
    w2.cell? ⟨S, 1, none⟩ = some vm1 ∧ S < w2.heap.size ∧ Hid (ScanS w2 S base vw vm1 (.slice (some ⟨gt, 0, none⟩) n c) ws ms1 (List.replicate ts.length 0)) ∧ Hid (Below base wc w2) ∧ Hid (Kp w2 Y y O co) := by
  subst hA hn
  have hw2 : w2 = (w1.setCell ⟨S, 1, none⟩ vm1).setCells gt 0 (List.replicate ts.length (.int .i64 0)) := by
    rcases h with ⟨h0, _⟩ | ⟨b, o, vs, hA, _, h2, _, h3⟩
    · omega
    · injection hA with hA; injection hA with e1 e2; subst e1 e2
      rw [h2, h3]; congr 1
      exact zeroCells_one _ _
  obtain ⟨H1, H2, H3⟩ := clear_rel hs hr hu ho hy hbase
  rw [← hw2] at H1 H2 H3
  have c1 := cell_of_row w2 S 1 _ _ _ H1.blk
  exact ⟨c1, World.block_lt_of_cell? w2 _ c1, Lib.hid H1, Lib.hid H2, Lib.hid H3⟩

set_option maxRecDepth 100000 in
set_option maxHeartbeats 4000000 in
theorem scanAt_any (S base : Nat) (vw vm vt : Value) (ws ms : List Edge) (ts : List Int) (y : Int) (w : World) (h : ScanS w S base vw vm vt ws ms ts) (hbase : base ≤ w.heap.size) (hl : ws.length + ms.length ≤ 1000000)
    (hnw : ∀ e ∈ ws ++ ms, NearE e) (hy0 : 0 ≤ y ∧ y ≤ 65536) (hts : 2 ≤ ts.length ∧ ts.length ≤ 1025) (O : Nat) (co : Array Value) (hO : w.heap[O]? = some (.cells co 65 (0, 0))) (hvt : ∃ gt n c, vt = .slice (some ⟨gt, 0, none⟩) n c) :
    Calls Try.prog 39 #[.pointer (some ⟨S, 0, none⟩), .int .i64 y] w fun e w' => e = .returned (.tuple #[]) ∧ Below base w w' ∧ w'.heap[O]? = some (.cells co 65 (0, 0)) ∧ ∃ vw' vm', ScanS w' S base vw' vm' vt (popAll ws.length y ws ms).1 ((popAll ws.length y ws ms).2.filter (meetE y)) (tsF y (ts.length - 1) ((popAll ws.length y ws ms).2.filter (meetE y)) (List.replicate ts.length 0)) := by
  have hS : S < w.heap.size := (Array.getElem?_eq_some_iff.1 h.blk).1
  have H := Lib.hid h; clear h
  go_enter Try.func39, Try.ntmps39
  go_upto_block 0 with (fail)
  go_cut [] from 10 (fun wc => ∃ vw' vm', ScanS wc S base vw' vm' vt (popAll ws.length y ws ms).1 (popAll ws.length y ws ms).2 ts ∧ Below base w wc ∧ Kp wc w.heap.size y O co)
  case rest =>
    rename_i wc hcut
    obtain ⟨vw', vm', hs, hb, hy⟩ := hcut
    have hlm : (popAll ws.length y ws ms).2.length ≤ 1000000 := by have := (popAll_sub ws.length y ws ms).2; omega
    have hnm : ∀ e ∈ (popAll ws.length y ws ms).2, NearE e := fun e h => hnw e ((popAll_sub ws.length y ws ms).1 e h)
    generalize hp1 : (popAll ws.length y ws ms).1 = ws1 at *
    generalize hp2 : (popAll ws.length y ws ms).2 = ms1 at *
    have Hp1 := Lib.hid hp1; have Hp2 := Lib.hid hp2; clear hp1 hp2
    obtain ⟨gt, nt, ct, rfl⟩ := hvt
    have c1 : wc.cell? ⟨S, 1, none⟩ = some vm' := (cell_of_row wc S 1 _ _ _ hs.blk)
    have hfz : wc.frozen? ⟨S, 1, none⟩ = false := frozen_of_row wc S 1 _ _ hs.blk
    have hSl : S < wc.heap.size := World.block_lt_of_cell? wc _ c1
    have hme := hs.me
    have Hs := Lib.hid hs; have Hb := Lib.hid hb; have Hy := Lib.hid hy
    clear hs hb hy H
    go_wp2_with fail
    refine (deleteEdge_any ms1 y w.heap.size _ hme Hy.out.1 hlm).mono ?_
    rintro e w1 ⟨A1, n1, p1, rfl, hr1, hu1, ho1⟩
    clear hme
    have hn1 : n1 = (ms1.filter (meetE y)).length := by
      obtain ⟨A, c', e, _⟩ := ownsRow_form hr1
      injection e
    subst hn1
    have hmS : vm'.ownBlock ≠ some S := own_ne Hs.out.me Hs.out.blk (by decide)
    have hB1 := hu1.blk (fun h => by rw [Option.mem_toList] at h; exact hmS h) Hs.out.blk
    have hfz1 : w1.frozen? ⟨S, 1, none⟩ = false := frozen_of_row w1 S 1 _ _ hB1
    have d1 : w1.cell? ⟨S, 1, none⟩ = some vm' := (cell_of_row w1 S 1 _ _ _ hB1)
    have Hr1 := Lib.hid hr1; have HB1 := Lib.hid hB1; have Hu1 := Lib.hid hu1; have Ho1 := Lib.hid ho1; have HmS := Lib.hid hmS
    clear hr1 hu1 hB1 ho1 hmS
    have hw1 := Hu1.out.size
    have d2 : w1.cell? ⟨S, 2, none⟩ = some (.slice (some ⟨gt, 0, none⟩) nt ct) := cell_of_row w1 S 2 _ _ _ HB1.out
    obtain ⟨hnt, hbgt⟩ : nt = ts.length ∧ (w1.setCell ⟨S, 1, none⟩ (.slice A1 (ms1.filter (meetE y)).length p1)).there gt 0 (nt * 1) := by
      have hot : w1.ownsRow base 3 1 (.slice (some ⟨gt, 0, none⟩) nt ct) ts.length (ints ts) := Hu1.out.own Hs.out.tu (fun k hk => by
        rw [Option.mem_toList]; intro e
        rcases Hs.out.me.2 with ⟨h, _⟩ | ⟨g', cap', cur, hv, _, h, _⟩
        · rw [h] at e; cases e
        · rw [hv] at e; injection e with e; subst e; exact own_ne Hs.out.tu h (by decide) hk)
      have hgS : gt ≠ S := fun e => own_ne Hs.out.tu Hs.out.blk (by decide) (by rw [e]; rfl)
      have U1 : Upd [S] w1 (w1.setCell ⟨S, 1, none⟩ (.slice A1 (ms1.filter (meetE y)).length p1)) := (Upd.refl _ _).setCell (.inl (by simp)) _
      replace hot := U1.own hot (fun k hk => by injection hk with hk; subst hk; simpa using hgS)
      obtain ⟨A, c', e, hc, _⟩ := ownsRow_form hot
      injection e with e1 e2 e3
      subst e2 e3
      exact ⟨rfl, own_there hot (by omega)⟩
    subst hnt
    go_wp2_with (with_reducible refine at_bi .clear #[.tmp 61] ?_; refine wpList_clr rfl rfl Try.underlying75 Try.zeroInt (size := 1) rfl ts.length (fun v hv => by have := zeroCells_mem hv (by decide); simp [Value.cells] at this; subst this; simp [Value.oneCell']) rfl (fun hp => ⟨gt, 0, rfl, hbgt⟩) ?_; intro w2 hw2; obtain ⟨c1', hSl2, H1, H2, H3⟩ := clear_all Hs.out rfl Hr1.out Hu1.out Ho1.out Hy.out (by have := Hb.out.size; omega) rfl (by omega) hw2; clear hw2)
    have hnm2 : ∀ e ∈ ms1.filter (meetE y), NearE e ∧ meetE y e = true := fun e he => ⟨hnm e (List.mem_filter.1 he).1, (List.mem_filter.1 he).2⟩
    have hl2 : (ms1.filter (meetE y)).length ≤ 1000000 := Nat.le_trans (List.length_filter_le _ _) hlm
    replace H2 := Lib.hid (Hb.out.trans H2.out)
    generalize hp3 : ms1.filter (meetE y) = ms2 at *
    have Hp3 := Lib.hid hp3; clear hp3
    clear Hs Hb Hy Hr1 HB1 Hu1 Ho1 HmS hw1 d2 d1 hfz1 hbgt hfz c1
    go_loopw [67] (fun v67 wr => ∃ k : Nat, k ≤ ms2.length ∧ v67 = .int .i64 k ∧ Below base w wr ∧ Kp wr w.heap.size y O co ∧
      ScanS wr S base vw' (.slice A1 ms2.length p1) (.slice (some ⟨gt, 0, none⟩) ts.length ct) ws1 ms2 (tsF y (ts.length - 1) (ms2.take k) (List.replicate ts.length 0))) (fun v67 _ => ms2.length - (intOf v67).toNat)
    case atStart => exact ⟨0, by omega, rfl, H2.out, H3.out, H1.out⟩
    case round =>
      obtain ⟨k, hk, rfl, hb, hy, hs⟩ := hrel
      have hsl := tsF_len y (ts.length - 1) (ms2.take k) (List.replicate ts.length 0)
      have hc1 := cell_of_row wr S 1 _ _ _ hs.blk
      have hcy : wr.cell? ⟨w.heap.size, 0, none⟩ = some (.int .i64 y) := (cell_of_row wr _ 0 _ _ _ hy.1)
      have hSl3 := World.block_lt_of_cell? wr _ hc1
      have hwl3 := World.block_lt_of_cell? wr _ hcy
      by_cases hlt : k < ms2.length
      · obtain ⟨A', c', e, _, hrd, _⟩ := ownsRow_form hs.me
        injection e with e1 _ e2; subst e1 e2
        obtain ⟨b, off, rfl, hbl, d0, d1, d2, d3, d4⟩ := hrd.edge (List.getElem?_eq_getElem hlt)
        obtain ⟨hnear, hmeet⟩ := hnm2 _ (List.getElem_mem hlt)
        have htk : ms2.take (k + 1) = ms2.take k ++ [ms2[k]] := List.take_succ_eq_append_getElem hlt
        generalize ms2[k] = d at *
        have hov := scan_bound hnear hmeet
        obtain ⟨⟨ax, ay⟩, ⟨bx, by'⟩, t⟩ := d
        have hn0 := (near_iff _).1 hnear.1
        have hn1 := (near_iff _).1 hnear.2.1
        obtain ⟨-, -, hn2, hn3⟩ := hnear
        simp only at d0 d1 d2 d3 d4 hov hn0 hn1 hn2 hn3
        have ho := wrap64_id (overN ax ay bx by' 32 y) (by omega)
        obtain ⟨ht1, ht2⟩ : -1 ≤ t ∧ t ≤ 1 := by omega
        have Hs := Lib.hid hs; have Hb := Lib.hid hb; have Hy := Lib.hid hy; have Htk := Lib.hid htk; have Hn3 := Lib.hid hn3; have Hmeet := Lib.hid hmeet
        clear hs hb hy htk hn3 hrd hc1 hmeet
        go_wp2_with fail
        refine (over_any _ _ _ _ _ _ _ _).mono ?_
        rintro e w4 ⟨rfl, hb4⟩
        have hu4 : Upd [] wr w4 := ((Upd.refl _ _).alloc _).trans (Upd.ofBelow hb4)
        have hg2 : w4.cell? ⟨wr.heap.size, 2, none⟩ = some (.int .i64 bx) := by rw [hb4.cell (by simp)]; simp [go_sem]
        have hg4 : w4.cell? ⟨wr.heap.size, 4, none⟩ = some (.int .i64 t) := by rw [hb4.cell (by simp)]; simp [go_sem]
        have hb5 : Below base w w4 := Hb.out.trans (hu4.toBelow (by have := Hb.out.size; omega) (by simp))
        have Hb5 := Lib.hid hb5; have Hs5 := Lib.hid (Hs.out.upd hu4); have Hy5 := Lib.hid (Hy.out.keep hu4 (by simp) (by simp))
        have hz4 := hb4.size
        rw [World.size_alloc] at hz4
        have hgS : S ≠ wr.heap.size := by omega
        have hgt6 : gt < wr.heap.size := (Hs.out.tu.lt gt rfl).2
        have hg6 : gt ≠ wr.heap.size := by omega
        generalize wr.heap.size = g6 at *
        clear Hb Hs Hy hb4 hu4 hb5 d0 d1 d2 d3 d4 hcy hbl hg2
        have e2 : w4.cell? ⟨S, 2, none⟩ = some (.slice (some ⟨gt, 0, none⟩) ts.length ct) := cell_of_row w4 S 2 _ _ _ Hs5.out.blk
        have hSl4 := World.block_lt_of_cell? w4 _ e2
        have hll : ((ts.length : Int)) ≤ 1025 := by omega
        have hll2 : (2 : Int) ≤ ((ts.length : Int)) := by omega
        have hmany : manyE y (ts.length - 1) ((ax, ay), (bx, by'), t) = if overN ax ay bx by' 32 y ≤ 0 then 0 else min (ts.length - 1) ((overN ax ay bx by' 32 y + 64 * (by' - ay) - 1) / (64 * (by' - ay))).toNat := rfl
        have Hm0 := Lib.hid hmany; clear hmany
        generalize overN ax ay bx by' 32 y = n at *
        have hD : 1 ≤ by' - ay ∧ by' - ay ≤ 2147483648 := by omega
        generalize by' - ay = D at *
        have hw1 := wrap64_id D (by omega)
        have hw2 := wrap64_id (64 * D) (by omega)
        have hw3 := wrap64_id (n + 64 * D) (by omega)
        have hw4 := wrap64_id (n + 64 * D - 1) (by omega)
        have hw5 : ¬ 64 * D = 0 := by omega
        have hw6 : ¬ 64 * D = -1 := by omega
        have hw7 : wrap64 ((ts.length : Int) - 1) = (ts.length : Int) - 1 := wrap64_id _ (by omega)
        have hml := manyE_le y (ts.length - 1) ((ax, ay), (bx, by'), t)
        have hab := tsF_abs (y := y) (last := ts.length - 1) (n := ts.length) (ms2.take k) (fun e he => (hnm2 e (List.mem_of_mem_take he)).1)
        have hab2 : ∀ x ∈ tsF y (ts.length - 1) (ms2.take k) (List.replicate ts.length 0), -2000000 ≤ x ∧ x ≤ 2000000 := fun x hx => by
          have := hab x hx; have h2 := List.length_take_le k ms2; omega
        have hsn := tsF_snoc y (ts.length - 1) (ms2.take k) ((ax, ay), (bx, by'), t) (List.replicate ts.length 0)
        rw [← Htk.out] at hsn
        have Hsn := Lib.hid hsn; clear hsn hab
        rw [List.length_replicate] at hsl
        generalize tsF y (ts.length - 1) (ms2.take k) (List.replicate ts.length 0) = us at *
        have hus : (us : List Int).length = ts.length := hsl
        have t0 := Hs5.out.cellT (k := 0) (by omega)
        have ha0 := hab2 _ (List.getElem_mem (show 0 < us.length by omega))
        have hgtl := World.block_lt_of_cell? w4 _ t0.1
        have hw8 := wrap64_id (us[0] + t) (by omega)
        have hi0 : (0 : Int) < (ts.length : Int) := by omega
        by_cases hpos : n ≤ 0
        · obtain ⟨M, hM⟩ : ∃ M, M = manyE y (ts.length - 1) ((ax, ay), (bx, by'), t) := ⟨_, rfl⟩
          have hM0 := Hm0.out
          rw [if_pos hpos, ← hM] at hM0
          have HM := Lib.hid hM.symm; clear hM
          subst hM0
          go_wp2_with fail
          go_region
          go_wp2_with fail
          go_region
          obtain ⟨H1', H2', H3', k1, k2⟩ := turn_rel Hs5.out Hy5.out Hb5.out (k := 0) (by omega) (us[0] + t) hg4 hg6
          have hadd : ∃ us1 : List Int, us1 = us.set 0 (us[0] + t) ∧ ∃ h : 0 < us1.length, -2000001 ≤ us1[0] ∧ us1[0] ≤ 2000001 ∧ us1.length = ts.length ∧ Hid (tsAdd y (ts.length - 1) us ((ax, ay), (bx, by'), t) = us1.set 0 (us1[0] - t)) := by
            have hl : 0 < (us.set 0 (us[0] + t)).length := by rw [List.length_set, hus]; omega
            refine ⟨_, rfl, hl, ?_, ?_, by rw [List.length_set, hus], Lib.hid ?_⟩
            · rcases List.mem_or_eq_of_mem_set (List.getElem_mem hl) with h | h
              · have := hab2 _ h; omega
              · omega
            · rcases List.mem_or_eq_of_mem_set (List.getElem_mem hl) with h | h
              · have := hab2 _ h; omega
              · omega
            · unfold tsAdd
              rw [HM.out]
              simp only [List.getD, List.getElem?_eq_getElem (show 0 < us.length by omega), List.getElem?_eq_getElem hl, Option.getD_some]
          obtain ⟨us1, hU1, hl1, ha1, ha2, hus1, Hadd⟩ := hadd
          rw [← hU1] at H1'
          have t1 := H1'.out.cellT (k := 0) hl1
          clear hU1
          obtain ⟨x, hx⟩ : ∃ x, us1[0] = x := ⟨_, rfl⟩
          rw [hx] at t1 ha1 ha2 Hadd
          clear hx
          generalize w4.setCell ⟨gt, 0, none⟩ (.int .i64 (us[0] + t)) = w5 at *
          have hw9 := wrap64_id (x - t) (by omega)
          have hgtl5 := World.block_lt_of_cell? w5 _ t1.1
          have hSl5 := World.block_lt_of_cell? w5 _ k2
          have hi0b : (0 : Int) ≤ (0 : Int) := by omega
          have hi0b2 : (0 : Int) < (ts.length : Int) := by omega
          clear t0 e2 hSl4 hg4 hgtl
          go_wp2_with fail
          go_region
          obtain ⟨J1, J2, J3, -, -⟩ := turn_rel H1'.out H2'.out H3'.out (k := 0) (by omega) (x - t) k1 hg6
          go_wp2_with fail
          go_roundw
          case rel =>
            refine ⟨k + 1, by omega, by go_num, below_drew (below_drew (below_drew J3.out)), J2.out, ?_⟩
            rw [Hsn.out, Hadd.out]
            exact J1.out.drew.drew.drew
          case measure => simp [intOf]; omega
        · obtain ⟨M, hM⟩ : ∃ M, M = manyE y (ts.length - 1) ((ax, ay), (bx, by'), t) := ⟨_, rfl⟩
          have hM0 := Hm0.out
          rw [if_neg hpos, ← hM] at hM0
          have hMl : M < ts.length := by omega
          have HM := Lib.hid hM.symm; clear hM
          have hq : max 0 (min ((ts.length : Int) - 1) ((n + 64 * D - 1) / (64 * D))) = (M : Int) := by
            have : 0 ≤ (n + 64 * D - 1) / (64 * D) := Int.ediv_nonneg (by omega) (by omega)
            omega
          have Hq := Lib.hid hq; clear hq hM0
          go_wp2_with fail
          go_region
          rw [Hq.out]
          go_wp2_with fail
          go_region
          obtain ⟨H1', H2', H3', k1, k2⟩ := turn_rel Hs5.out Hy5.out Hb5.out (k := 0) (by omega) (us[0] + t) hg4 hg6
          have hadd : ∃ us1 : List Int, us1 = us.set 0 (us[0] + t) ∧ ∃ h : M < us1.length, -2000001 ≤ us1[M] ∧ us1[M] ≤ 2000001 ∧ us1.length = ts.length ∧ Hid (tsAdd y (ts.length - 1) us ((ax, ay), (bx, by'), t) = us1.set M (us1[M] - t)) := by
            have hl : M < (us.set 0 (us[0] + t)).length := by rw [List.length_set, hus]; omega
            refine ⟨_, rfl, hl, ?_, ?_, by rw [List.length_set, hus], Lib.hid ?_⟩
            · rcases List.mem_or_eq_of_mem_set (List.getElem_mem hl) with h | h
              · have := hab2 _ h; omega
              · omega
            · rcases List.mem_or_eq_of_mem_set (List.getElem_mem hl) with h | h
              · have := hab2 _ h; omega
              · omega
            · unfold tsAdd
              rw [HM.out]
              simp only [List.getD, List.getElem?_eq_getElem (show 0 < us.length by omega), List.getElem?_eq_getElem hl, Option.getD_some]
          obtain ⟨us1, hU1, hl1, ha1, ha2, hus1, Hadd⟩ := hadd
          rw [← hU1] at H1'
          have t1 := H1'.out.cellT (k := M) hl1
          clear hU1
          obtain ⟨x, hx⟩ : ∃ x, us1[M] = x := ⟨_, rfl⟩
          rw [hx] at t1 ha1 ha2 Hadd
          clear hx
          generalize w4.setCell ⟨gt, 0, none⟩ (.int .i64 (us[0] + t)) = w5 at *
          have hw9 := wrap64_id (x - t) (by omega)
          have hgtl5 := World.block_lt_of_cell? w5 _ t1.1
          have hSl5 := World.block_lt_of_cell? w5 _ k2
          have hiM : (0 : Int) ≤ (M : Int) := by omega
          have hiM2 : (M : Int) < (ts.length : Int) := by omega
          clear t0 e2 hSl4 hg4 hgtl
          go_wp2_with fail
          go_region
          obtain ⟨J1, J2, J3, -, -⟩ := turn_rel H1'.out H2'.out H3'.out (k := M) (by omega) (x - t) k1 hg6
          go_wp2_with fail
          go_roundw
          case rel =>
            refine ⟨k + 1, by omega, by go_num, below_drew (below_drew (below_drew J3.out)), J2.out, ?_⟩
            rw [Hsn.out, Hadd.out]
            exact J1.out.drew.drew.drew
          case measure => simp [intOf]; omega
      · have hkl : k = ms2.length := by omega
        subst hkl
        rw [List.take_length] at hs
        have Hs := Lib.hid hs; have Hb := Lib.hid hb; have Hk := Lib.hid hy; clear hs hb hy
        go_wp2
        go_end0
        rw [Hp1.out, Hp2.out, Hp3.out]
        exact ⟨rfl, Hb.out, Hk.out.2, _, _, Hs.out⟩
  case first =>
  go_wp2_with fail
  go_loopg [] ws.length (fun n wr => ∃ vw' vm' ws' ms', n = ws'.length ∧ ws'.length + ms'.length ≤ 1000000 ∧ ScanS wr S base vw' vm' vt ws' ms' ts ∧ Below base w wr ∧ Kp wr w.heap.size y O co ∧ popAll ws.length y ws ms = popAll ws'.length y ws' ms')
  case atStart =>
    refine ⟨vw, vm, ws, ms, rfl, hl, ⟨?_, H.out.low, H.out.wa.alloc _, H.out.me.alloc _, H.out.tu.alloc _, H.out.ne⟩, (Below.refl _ _).alloc hbase _, ⟨heap_alloc_new w _, by rw [Below.heap_alloc _ _ _ (Array.getElem?_eq_some_iff.1 hO).1]; exact hO⟩, rfl⟩
    rw [Below.heap_alloc _ _ _ hS]; exact H.out.blk
  case round =>
    obtain ⟨vw', vm', ws', ms', rfl, hl', hs, hb, hy, hp⟩ := hrel
    have hc0 : wr.cell? ⟨S, 0, none⟩ = some vw' := (cell_of_row wr S 0 _ _ _ hs.blk)
    have hc1 : wr.cell? ⟨S, 1, none⟩ = some vm' := (cell_of_row wr S 1 _ _ _ hs.blk)
    have hcy : wr.cell? ⟨w.heap.size, 0, none⟩ = some (.int .i64 y) := (cell_of_row wr _ 0 _ _ _ hy.1)
    have Hs := Lib.hid hs; have Hb := Lib.hid hb; have Hy := Lib.hid hy; have Hp := Lib.hid hp
    clear hs hb hy hp
    rcases Nat.eq_zero_or_pos ws'.length with h0 | hpos
    · obtain ⟨A, cap, rfl, -, -, -⟩ := ownsRow_form Hs.out.wa
      rw [h0] at hc0
      have hd : decide ((0 : Int) < 0) = false := by decide
      go_wp2_with fail
      go_quiet (fail)
      go_wp2_with fail
      go_meet
      case rel =>
        refine ⟨.slice A ws'.length cap, vm', ?_, below_drewN Hb.out nq, Hy.out⟩
        have hn : popAll ws.length y ws ms = (ws', ms') := by rw [Hp.out, h0, popAll]
        rw [hn]
        exact Hs.out.drewN nq
    · obtain ⟨g, cap, rfl, hg1, hg2⟩ := row_of Hs.out.wa hpos
      have hrd : RowE wr base g cap ws' := Hs.out.wa
      obtain ⟨b, off, e, -, c0, c1, c2, c3, c4⟩ := hrd.rd.edge (List.getElem?_eq_getElem hpos)
      injection e with e; injection e with e1 e2; subst e1 e2
      simp only [Nat.zero_add, Nat.zero_mul] at c0 c1 c2 c3 c4
      have hk : keyAt ws' 0 = ws'[0].1.2 := by simp [keyAt, List.getD, hpos]
      have hd0 : ws'.take 1 = [ws'[0]] := by
        cases ws' with
        | nil => simp at hpos
        | cons a l => simp
      generalize ws'[0] = d at *
      have Hd0 := Lib.hid hd0; clear hd0
      obtain ⟨⟨ax, ay⟩, ⟨bx, by'⟩, t⟩ := d
      have Hk := Lib.hid hk; have Hrd := Lib.hid hrd
      clear hk hrd
      have hpi : (0 : Int) < (ws'.length : Int) := by omega
      by_cases hle : ay ≤ y
      · go_wp2_with fail
        go_quiet (fail)
        have Hs2 := Lib.hid (Hs.out.drewN nq); have Hb2 := Lib.hid (below_drewN Hb.out nq)
        have Hy2 : Hid (Kp (wr.drewN nq) w.heap.size y O co) := Lib.hid Hy.out
        have Hrd2 := Lib.hid (Hrd.out.drewN nq)
        have d0 : (wr.drewN nq).cell? ⟨g, 0, none⟩ = some (.int .i64 ax) := c0
        have d1 : (wr.drewN nq).cell? ⟨g, 1, none⟩ = some (.int .i64 ay) := c1
        have d2 : (wr.drewN nq).cell? ⟨g, 2, none⟩ = some (.int .i64 bx) := c2
        have d3 : (wr.drewN nq).cell? ⟨g, 3, none⟩ = some (.int .i64 by') := c3
        have d4 : (wr.drewN nq).cell? ⟨g, 4, none⟩ = some (.int .i64 t) := c4
        have e0 : (wr.drewN nq).cell? ⟨S, 0, none⟩ = some (.slice (some ⟨g, 0, none⟩) ws'.length cap) := hc0
        have e1 : (wr.drewN nq).cell? ⟨S, 1, none⟩ = some vm' := hc1
        clear Hs Hb Hy Hrd c0 c1 c2 c3 c4 hc0 hc1 hcy hg2
        generalize wr.drewN nq = wq at *
        clear wr
        have hgl := World.block_lt_of_cell? wq _ d0
        have hSl := World.block_lt_of_cell? wq _ e0
        go_wp2_with fail
        have hS1 : ((wq.alloc (.cells #[.int .i64 ax, .int .i64 ay, .int .i64 bx, .int .i64 by', .int .i64 t] 149)).heap[S]? = some (.cells #[.slice (some ⟨g, 0, none⟩) ws'.length cap, vm', vt] 79 (0, 0))) := by
          rw [Below.heap_alloc _ _ _ hSl]; exact Hs2.out.blk
        refine (heapPop_any S base g cap ws' _ 79 _ hS1 rfl (Hrd2.out.alloc _) (fun e => own_ne Hs2.out.wa Hs2.out.blk (by decide) (by rw [e]; rfl)) hpos (by omega)).mono ?_
        rintro e w1 ⟨⟨v1, rfl⟩, hr1, hb1, hu1⟩
        have Hr1 := Lib.hid hr1; have HB1 := Lib.hid hb1; have Hu1 := Lib.hid hu1
        clear hr1 hb1 hu1 hS1
        have hq : wq.heap.size ≠ S := by omega
        have hq2 : wq.heap.size ≠ g := by omega
        have hqn : (wq.heap.size : Nat) ∉ [S, g] := by simp [hq, hq2]
        have hB1 := HB1.out
        have f1 : w1.cell? ⟨S, 1, none⟩ = some vm' := (cell_of_row w1 S 1 _ _ _ hB1)
        have b0 := Hu1.out.blk hqn (heap_alloc_new wq _)
        have g0 : w1.cell? ⟨wq.heap.size, 0, none⟩ = some (.int .i64 ax) := cell_of_row w1 _ 0 _ _ _ b0
        have g1 : w1.cell? ⟨wq.heap.size, 1, none⟩ = some (.int .i64 ay) := cell_of_row w1 _ 1 _ _ _ b0
        have g2 : w1.cell? ⟨wq.heap.size, 2, none⟩ = some (.int .i64 bx) := cell_of_row w1 _ 2 _ _ _ b0
        have g3 : w1.cell? ⟨wq.heap.size, 3, none⟩ = some (.int .i64 by') := cell_of_row w1 _ 3 _ _ _ b0
        have g4 : w1.cell? ⟨wq.heap.size, 4, none⟩ = some (.int .i64 t) := cell_of_row w1 _ 4 _ _ _ b0
        have hfz : w1.frozen? ⟨S, 1, none⟩ = false := frozen_of_row w1 S 1 _ _ hB1
        have hme1 : w1.ownsRow base 149 5 vm' ms'.length (edgeCells ms') := by
          refine Hu1.out.own (Hs2.out.me.alloc _) (fun k hk => ?_)
          have h1 := own_ne Hs2.out.me Hs2.out.blk (by decide)
          have h2 := Hs2.out.ne
          simp only [List.mem_cons, List.not_mem_nil, or_false, not_or]
          refine ⟨fun e => h1 (by rw [hk, e]), fun e => ?_⟩
          rcases h2 with h2 | h2
          · cases h2
          · exact h2 (by rw [hk, e]; rfl)
        have hvb : ∀ k, vm'.ownBlock = some k → k < wq.heap.size := fun k hk => (Hs2.out.me.lt k hk).2
        have hvS : vm'.ownBlock ≠ some S := own_ne Hs2.out.me Hs2.out.blk (by decide)
        have hvq : vm'.ownBlock ≠ some wq.heap.size := fun e => by have := hvb _ e; omega
        have Hme1 := Lib.hid hme1; have Hvb := Lib.hid hvb; have HvS := Lib.hid hvS; have Hvq := Lib.hid hvq; have HB0 := Lib.hid b0
        have Hz := Lib.hid Hu1.out.size
        clear hme1 hvb hvS hvq hB1 b0 d0 d1 d2 d3 d4 e0 e1 hqn
        go_wp2_with fail
        have hSl1 : S < w1.heap.size := World.block_lt_of_cell? w1 _ f1
        have hql1 : wq.heap.size < w1.heap.size := World.block_lt_of_cell? w1 _ g0
        have hbw1 : base ≤ w1.heap.size := by have := Hb2.out.size; omega
        go_region_law (refine step_app rfl rfl Try.etEdges ((Hme1.out.drew).alloc _) rfl rfl (Rd.new _ _ _ rfl) (m := 1) (by simp) (by simp [Value.oneCell']) (by omega) (by simp; omega) ?_; intro v2 w2 hown2 hgrow hat hbel; have hfz2 : w2.frozen? ⟨S, 1, none⟩ = false := (by rw [hgrow.frozen_far ⟨S, 1, none⟩ (by simp; omega) (Ne.symm HvS.out)]; simp [go_sem, hSl1, hfz]); have hc2 : w2.cell? ⟨S, 1, none⟩ = some vm' := (by rw [hgrow.cell_far ⟨S, 1, none⟩ (by simp; omega) (Ne.symm HvS.out)]; simp [go_sem, hSl1, f1]); obtain ⟨A2, c2, rfl, hcc2, hr2, hA2⟩ := ownsRow_form hown2)
        all_goals
          go_wp2_with fail
          go_roundg (popF ws').length
          case rel =>
            obtain ⟨h1, h2, h3⟩ := at_rel (e := ((ax, ay), (bx, by'), t)) Hs2.out ((Upd.refl [] wq).alloc _) Hr1.out HB1.out Hu1.out (((Upd.refl [] w1).drew).alloc _) hown2 hgrow hat Hy2.out (by have := Hb2.out.size; omega)
            refine ⟨_, _, popF ws', ms' ++ [((ax, ay), (bx, by'), t)], rfl, by simp [popF_len]; omega, h1, Hb2.out.trans h2, h3, ?_⟩
            rw [Hp.out]
            obtain ⟨k, hk⟩ : ∃ k, ws'.length = k + 1 := ⟨ws'.length - 1, by omega⟩
            rw [hk, popAll, if_pos ⟨hpos, by rw [Hk.out]; exact hle⟩, popF_len, hk]
            rw [Hd0.out]; rfl
          case measure => rw [popF_len]; omega
      · go_wp2_with fail
        go_quiet (fail)
        go_wp2_with fail
        go_meet
        case rel =>
          refine ⟨.slice (some ⟨g, 0, none⟩) ws'.length cap, vm', ?_, below_drewN Hb.out nq, Hy.out⟩
          have hn : popAll ws.length y ws ms = (ws', ms') := by
            rw [Hp.out]
            obtain ⟨k, hk⟩ : ∃ k, ws'.length = k + 1 := ⟨ws'.length - 1, by omega⟩
            rw [hk, popAll, if_neg (fun h => by have := h.2; rw [Hk.out] at this; omega)]
          rw [hn]
          exact Hs.out.drewN nq
end Go.Proofs.Ytkdgibabecpdlaa
