/- Proved: TwinDots makes a marked copy, and LeftDots finds it as it was; for lists of 100000 dots at most. -/
import Derived.Test.YtkdgibabecpdlaaSameD
import Derived.Test.YtkdgibabecpdlaaPointsW0
import Derived.Deep.RegionHeld3
namespace Go.Proofs.Ytkdgibabecpdlaa
open Go.RowKit
theorem Rd.app {w : World} {b off : Nat} {xs ys : List Value} (h : Rd w (some ⟨b, off, none⟩) (xs ++ ys)) : Rd w (some ⟨b, off + xs.length, none⟩) ys := by
  rcases h with h | ⟨b', off', e, hb, hc⟩
  · have := List.append_eq_nil_iff.1 h; rw [this.2]; exact Rd.nil _ _
  · injection e with e; injection e with e1 e2; subst e1 e2
    refine .inr ⟨b, off + xs.length, rfl, hb, fun j u hj => ?_⟩
    rw [Nat.add_assoc]
    exact hc _ _ (by rw [List.getElem?_append_right (by omega)]; simpa using hj)
theorem Rd.pre {w : World} {A : Option Addr} {xs ys : List Value} (h : Rd w A (xs ++ ys)) : Rd w A xs := by
  rcases h with h | ⟨b', off', e, hb, hc⟩
  · have := List.append_eq_nil_iff.1 h; rw [this.1]; exact Rd.nil _ _
  · exact .inr ⟨b', off', e, hb, fun j u hj => hc _ _ (by rw [List.getElem?_append_left (List.getElem?_eq_some_iff.1 hj).1]; exact hj)⟩
/-- make of an empty slice with room. -/
theorem wpList_mk0 {P : Program} {w : World} {ops : Array Oper} {rest : List Oper} {o : Oper} {a : Act} {Q : Exit → Act → World → Prop} (hgd : o.guard = none) {x y : Operand} {t e : TypeId} {size bytes : Nat}
    (ho : o.op = .makeSlice t x y) (E : ET P t e size bytes) (base c : Nat) {kl kc : IntKind} {X : Int} (hX : X = (c : Int)) (hx : a.eval x = .int kl 0) (hy : a.eval y = .int kc X) (hb : bytes * c ≤ 281474976710656) (h63 : c ≤ maxLen) (hbase : base ≤ w.heap.size)
    (h : ∀ w', w'.ownsRow base e size (.slice (some ⟨w.heap.size, 0, none⟩) 0 c) 0 [] → Below w.heap.size w w' → w.heap.size < w'.heap.size → wpList P ops Q rest (a.put o.dst (.slice (some ⟨w.heap.size, 0, none⟩) 0 c)) w') :
    wpList P ops Q (o :: rest) a w :=
  wpList_plain hgd fun K hK => by
    subst hX
    obtain ⟨ht, ⟨i, z, hi, hz, hs, hbt, hzs⟩, hp, hpb⟩ := E
    obtain ⟨w', hrun, hown, hg⟩ := run_make_own w base t e i z size ht hi hz hs kl kc c (by rw [hbt]; exact hb) h63 hbase
    unfold Oper.wp execOp
    simp only [ho, Sem.run_bind, Sem.run_pure, Result.andThen_ok, hx, hy, hrun]
    refine hK _ _ (h _ hown ((Below.refl _ _).grown hg (Nat.le_refl _) (by simp)) ?_)
    rcases hown.2 with ⟨h0, _⟩ | ⟨g, cap', cur, hv, _, hgg, _⟩
    · cases h0
    · injection hv with hv1 _ _
      injection hv1 with hv1
      injection hv1 with hv1
      rw [hv1]
      exact (Array.getElem?_eq_some_iff.1 hgg).1
theorem run_fit {P : Program} (w : World) {t ty e : TypeId} {size bytes : Nat} (E : ET P t e size bytes)
    {base g n cap : Nat} {xs : List Value} (hown : w.ownsRow base e size (.slice (some ⟨g, 0, none⟩) n cap) n xs)
    {A : Option Addr} {m c : Nat} {news : List Value} (hr : Rd w A news) (hl : news.length = m * size) (h1 : ∀ u ∈ news, u.oneCell' = true) (hroom : n + m ≤ cap) (hbase : base ≤ w.heap.size) :
    ∃ w', (Builtin.append_ #[t, t] ty #[.slice (some ⟨g, 0, none⟩) n cap, .slice A m c]).run P w = .ok (.slice (some ⟨g, 0, none⟩) (n + m) cap) w' ∧ w'.ownsRow base e size (.slice (some ⟨g, 0, none⟩) (n + m) cap) (n + m) (xs ++ news) ∧ Below base w w' ∧ Upd [g] w w' := by
  have E' := E
  obtain ⟨ht, ⟨i, z, hi, hz, hs, hb, hzs⟩, hp, hpb⟩ := E
  rcases Nat.eq_zero_or_pos m with h0 | hm
  · subst h0
    have hn : news = [] := List.eq_nil_of_length_eq_zero (by simpa using hl)
    subst hn
    exact ⟨w, run_append_nil0 w base t ty e i size ht hi _ n xs hown A c, by simpa using hown, Below.refl _ _, Upd.refl _ _⟩
  · obtain ⟨b, off, rfl, _, hc⟩ := hr.at_ (by intro e0; rw [e0] at hl; have := Nat.mul_pos hm hp; simp only [List.length_nil] at hl; omega)
    obtain ⟨w', hrun, h2, h3⟩ := run_append_fits (P := P) w base t ty e i size ht hi hs g n cap xs hown ⟨b, off, none⟩ m c news hl (fun j u hu => by rw [add_plain]; exact hc j u hu) h1 hroom
    exact ⟨w', hrun, h2, below_grown hown h3 hbase, (Upd.refl _ _).grown h3 (by intro k hk; injection hk with hk; left; simp [hk])⟩
/-- append where there is room, at a step of a region that draws. -/
theorem step_fit {P : Program} {w : World} {ops : Array Oper} {o : Oper} {a : Act} {K : Act → World → Prop} {Q : Exit → Act → World → Prop} {F : Prop} (hgd : o.guard = none) {s x : Operand} {t : TypeId}
    (ho : o.op = .call { callee := .builtin .append, args := #[s, x], argTypes := #[t, t] })
    {e : TypeId} {size bytes : Nat} (E : ET P t e size bytes)
    {base g n cap : Nat} {xs : List Value} (hown : w.ownsRow base e size (.slice (some ⟨g, 0, none⟩) n cap) n xs) (hs : a.eval s = .slice (some ⟨g, 0, none⟩) n cap)
    {A : Option Addr} {m c : Nat} {news : List Value} (hx : a.eval x = .slice A m c) (hr : Rd w A news) (hl : news.length = m * size) (h1 : ∀ u ∈ news, u.oneCell' = true) (hroom : n + m ≤ cap) (hbase : base ≤ w.heap.size)
    (h : ∀ w', w'.ownsRow base e size (.slice (some ⟨g, 0, none⟩) (n + m) cap) (n + m) (xs ++ news) → Below base w w' → Upd [g] w w' → K (a.put o.dst (.slice (some ⟨g, 0, none⟩) (n + m) cap)) w') :
    if Region.wanted o (yielded ops a.tmps) = true then Oper.wp P o a w K Q else F := by
  have hw : Region.wanted o (yielded ops a.tmps) = true := by simp [Region.wanted, hgd]
  rw [if_pos hw]
  obtain ⟨w', hrun, h2, h3, h4⟩ := run_fit (P := P) w (ty := o.type) E hown hr (c := c) hl h1 hroom hbase
  unfold Oper.wp execOp
  simp only [ho, resolve, invoke, builtin, Sem.run_bind, Sem.run_pure, Result.andThen_ok, List.map_toArray, List.map_cons, List.map_nil, hs, hx, hrun]
  exact h w' h2 h3 h4
set_option maxRecDepth 100000 in
set_option maxHeartbeats 4000000 in
theorem twinDotO_any (A : Option Addr) (cap : Nat) (l : List Dot) (mx my : Int) (w : World) (h : Rd w A (dotCells l)) (hl : l.length ≤ 100000) :
    Calls Try.prog 82 #[.slice A l.length cap, .agg #[.int .i64 mx, .int .i64 my]] w fun e w' => ∃ g, e = .returned (.slice (some ⟨g, 0, none⟩) l.length (l.length + 3)) ∧ w.heap.size ≤ g ∧
      w'.ownsRow w.heap.size 53 2 (.slice (some ⟨g, 0, none⟩) (l.length + 3) (l.length + 3)) (l.length + 3) (dotCells (l ++ [(mx, my), (mx, my), (mx, my)])) ∧ Rd w' (some ⟨g, 0, none⟩) (dotCells (l ++ [(mx, my), (mx, my), (mx, my)])) ∧ Below w.heap.size w w' := by
  have H := Lib.hid h; clear h
  go_enter Try.func82, Try.ntmps82
  go_upto_block 0 with (with_reducible refine at_mk 51 (.const (.int .i64 0)) (.tmp 8) ?_; refine wpList_mk0 rfl rfl Try.etDots (w.heap.size + 1) (l.length + 3) (X := (l.length : Int) + 3) (by simp) rfl rfl (by omega) (by simp only [maxLen]; omega) (by simp) ?_; intro w1 hown1 hb1 hz1; have Hown1 := Lib.hid hown1; have Hb1 := Lib.hid hb1; clear hown1 hb1)
  have hB0 : Below w.heap.size w (w.alloc (.cells #[.int .i64 mx, .int .i64 my] 53)) := (Below.refl _ _).alloc (Nat.le_refl _) _
  have hw1 : w1.heap.size ≥ w.heap.size + 2 := by simp at hz1; omega
  obtain ⟨k0, k1, -⟩ := box_cells Hb1.out
  have HB1 := Lib.hid (belowMore hB0 Hb1.out)
  have Hl := Lib.hid ((H.out.below HB1.out).drew)
  clear hB0 hz1
  have hGe : (w.alloc (.cells #[.int .i64 mx, .int .i64 my] 53)).heap.size = w.heap.size + 1 := by simp
  have Hown := Hown1.out
  rw [hGe] at Hown
  have Hown2 := Lib.hid Hown
  clear Hown Hown1 Hb1 hGe
  have hlen3 : (l.length : Int) ≤ (l.length : Int) + 3 := by omega
  go_region_held3 (fun w' => w'.cell? ⟨w.heap.size, 0, none⟩ = some (.int .i64 mx) ∧ w'.cell? ⟨w.heap.size, 1, none⟩ = some (.int .i64 my)) (first | exact ⟨m0, m1⟩ | exact ⟨k0, k1⟩ | go_keep)
    (first
      | (refine step_fit (m := l.length) rfl rfl Try.etDots (base := w.heap.size + 1) Hown2.out rfl rfl Hl.out (dotCells_len _) dotCells_one (by omega) (by simp; omega) ?_; intro w2 hown2 hb2 hu2; rw [Nat.zero_add] at hown2 ⊢; have m0 := (hb2.cell (p := ⟨w.heap.size, 0, none⟩) (by simp)).trans k0; have m1 := (hb2.cell (p := ⟨w.heap.size, 1, none⟩) (by simp)).trans k1)
      | (refine step_fit (m := l.length) rfl rfl Try.etDots (base := w.heap.size + 1) (Hown2.out.alloc _) rfl rfl (Hl.out.below ((Below.refl _ _).alloc (Nat.le_refl _) _)) (dotCells_len _) dotCells_one (by omega) (by simp; omega) ?_; intro w2 hown2 hb2 hu2; rw [Nat.zero_add] at hown2 ⊢; have m0 : w2.cell? ⟨w.heap.size, 0, none⟩ = some (.int .i64 mx) := by
            rw [hb2.cell (p := ⟨w.heap.size, 0, none⟩) (by simp)]; exact (((Below.refl w1.heap.size w1).alloc (Nat.le_refl _) _).cell (p := ⟨w.heap.size, 0, none⟩) (by simp; omega)).trans k0
         have m1 : w2.cell? ⟨w.heap.size, 1, none⟩ = some (.int .i64 my) := by
            rw [hb2.cell (p := ⟨w.heap.size, 1, none⟩) (by simp)]; exact (((Below.refl w1.heap.size w1).alloc (Nat.le_refl _) _).cell (p := ⟨w.heap.size, 1, none⟩) (by simp; omega)).trans k1
         have hb2 := ((Below.refl (w.heap.size + 1) w1).drew.alloc (by show _ ≤ w1.heap.size; omega) _).trans hb2)
      | (refine step_fit (m := 3) (news := dotCells [(mx, my), (mx, my), (mx, my)]) rfl rfl Try.etDots (base := w.heap.size + 1) (hown2.alloc _) rfl rfl (Rd.new _ _ _ rfl) rfl dotCells_one (by omega) (by have := hb2.size; (try simp at this); (try simp); omega) ?_; intro w3 hown3 hb3 hu3; have hbx := hb2.trans (((Below.refl _ _).alloc (by have := hb2.size; (try simp at this); omega) _).trans hb3); have m0 := (hbx.cell (p := ⟨w.heap.size, 0, none⟩) (by simp)).trans k0; have m1 := (hbx.cell (p := ⟨w.heap.size, 1, none⟩) (by simp)).trans k1)
      | (refine step_fit (m := 3) (news := dotCells [(mx, my), (mx, my), (mx, my)]) rfl rfl Try.etDots (base := w.heap.size + 1) hown2 rfl rfl (hu2.rd (Rd.new _ _ _ rfl) (by intro ad had; injection had with had; subst had; simp; omega)) rfl dotCells_one (by omega) (by have := hb2.size; (try simp at this); omega) ?_; intro w3 hown3 hb3 hu3; have hbx := hb2.trans hb3; have m0 := (hb3.cell (p := ⟨w.heap.size, 0, none⟩) (by simp)).trans m0; have m1 := (hb3.cell (p := ⟨w.heap.size, 1, none⟩) (by simp)).trans m1))
  all_goals
    have HR : Hid (Rd w3 (some ⟨w.heap.size + 1, 0, none⟩) (dotCells (l ++ [(mx, my), (mx, my), (mx, my)]))) := Lib.hid (by
      obtain ⟨A', c', e', _, hr', _⟩ := ownsRow_form hown3
      injection e' with e1 _ _
      rw [e1]
      simpa [dotCells] using hr')
    have HOw : Hid (w3.ownsRow (w.heap.size + 1) 53 2 (.slice (some ⟨w.heap.size + 1, 0, none⟩) (l.length + 3) (l.length + 3)) (l.length + 3) (dotCells (l ++ [(mx, my), (mx, my), (mx, my)]))) := Lib.hid (by simpa [dotCells] using hown3)
    have HBx := Lib.hid hbx
    have hle : (l.length : Int) ≤ ((l.length + 3 : Nat) : Int) := by omega
    clear hbx hb3 hu3 hown3 hown2 hb2 hu2 m0 m1 k0 k1
    go_wp2_with fail
    go_ret
    refine ⟨w.heap.size + 1, rfl, by omega, ownsRow_mono HOw.out (by omega), HR.out, ?_⟩
    first | exact HB1.out.trans (HBx.out.mono (Nat.le_succ w.heap.size)) | exact (HB1.out.drew).trans (HBx.out.mono (Nat.le_succ w.heap.size))
theorem twinDotsO_any (A : Option Addr) (cap : Nat) (l : List Dot) (w : World) (h : Rd w A (dotCells l)) (hl : l.length ≤ 100000) :
    Calls Try.prog 21 #[.slice A l.length cap] w fun e w' => ∃ g, e = .returned (.slice (some ⟨g, 0, none⟩) l.length (l.length + 3)) ∧ w.heap.size ≤ g ∧
      w'.ownsRow w.heap.size 53 2 (.slice (some ⟨g, 0, none⟩) (l.length + 3) (l.length + 3)) (l.length + 3) (dotCells (l ++ [(1152921504606846976, 0), (1152921504606846976, 0), (1152921504606846976, 0)])) ∧ Rd w' (some ⟨g, 0, none⟩) (dotCells (l ++ [(1152921504606846976, 0), (1152921504606846976, 0), (1152921504606846976, 0)])) ∧ Below w.heap.size w w' := by
  have H := Lib.hid (twinDotO_any A cap l 1152921504606846976 0 w h hl)
  clear h
  go_enter Try.func21, Try.ntmps21
  go_wp2_with fail
  refine H.out.mono ?_
  rintro e w1 ⟨g, rfl, hg, ho, hr, hb⟩
  go_wp2_with fail
  go_ret
  exact ⟨g, rfl, hg, ho, hr, hb⟩
theorem twinDots_any (A : Option Addr) (cap : Nat) (l : List Dot) (w : World) (h : Rd w A (dotCells l)) (hl : l.length ≤ 100000) :
    Calls Try.prog 21 #[.slice A l.length cap] w fun e w' => ∃ g, e = .returned (.slice (some ⟨g, 0, none⟩) l.length (l.length + 3)) ∧ w.heap.size ≤ g ∧
      Rd w' (some ⟨g, 0, none⟩) (dotCells (l ++ [(1152921504606846976, 0), (1152921504606846976, 0), (1152921504606846976, 0)])) ∧ Below w.heap.size w w' :=
  (twinDotsO_any A cap l w h hl).mono fun _ _ ⟨g, h1, h2, _, h4, h5⟩ => ⟨g, h1, h2, h4, h5⟩
set_option maxRecDepth 100000 in
set_option maxHeartbeats 4000000 in
/-- A twin with its marks, and what it is a twin of. -/
theorem leftDot_any (A : Option Addr) (cap g : Nat) (l : List Dot) (mx my : Int) (w : World) (h : Rd w A (dotCells l)) (hl : l.length ≤ 100000) (ht : Rd w (some ⟨g, 0, none⟩) (dotCells (l ++ [(mx, my), (mx, my), (mx, my)]))) :
    Calls Try.prog 85 #[.slice (some ⟨g, 0, none⟩) l.length (l.length + 3), .slice A l.length cap, .agg #[.int .i64 mx, .int .i64 my]] w fun e w' => e = .returned (.bool true) ∧ Below w.heap.size w w' := by
  have H := Lib.hid h; have HT := Lib.hid ht; clear h ht
  go_enter Try.func85, Try.ntmps85
  have hB0 : Below w.heap.size w (w.alloc (.cells #[.int .i64 mx, .int .i64 my] 53)) := (Below.refl _ _).alloc (Nat.le_refl _) _
  have hpre : Rd w (some ⟨g, 0, none⟩) (dotCells l) := by
    have := HT.out
    rw [dotCells, List.flatMap_append] at this
    exact this.pre
  have Hpre := Lib.hid (hpre.below hB0); clear hpre
  go_wp2_with fail
  refine (sameDot_any (some ⟨g, 0, none⟩) A _ cap _ _ l l _ Hpre.out (H.out.below hB0) rfl rfl (by simp only [maxLen]; omega) (by simp only [maxLen]; omega)).mono ?_
  rintro e w1 ⟨rfl, hb1⟩
  rw [decide_eq_true rfl]
  obtain ⟨k0, k1, kz⟩ := box_cells hb1
  have HB1 := Lib.hid (belowMore hB0 hb1)
  have hsuf : Rd w (some ⟨g, l.length * 2, none⟩) (dotCells [(mx, my), (mx, my), (mx, my)]) := by
    have := HT.out
    rw [dotCells, List.flatMap_append] at this
    have h2 := this.app
    rw [← dotCells, dotCells_len] at h2
    simpa [dotCells] using h2
  have Hsuf := Lib.hid (((hsuf.below HB1.out).drew).below ((Below.refl _ _).alloc (Nat.le_refl _) (.cells #[.int .i64 mx, .int .i64 my, .int .i64 mx, .int .i64 my, .int .i64 mx, .int .i64 my] 53)))
  clear hb1 hB0 hsuf
  have hle1 : (l.length : Int) ≤ (l.length : Int) + 3 := by omega
  have hle0 : (0 : Int) ≤ (l.length : Int) := by omega
  have hle3 : (0 : Int) ≤ (l.length : Int) + 3 := by omega
  have htn : ((l.length : Int) + 3).toNat = l.length + 3 := by omega
  have hle2 : l.length ≤ l.length + 3 := by omega
  have hne : l.length + 3 ≠ l.length := by omega
  have hsub : l.length + 3 - l.length = 3 := by omega
  go_upto_region 3 with (fail)
  go_region_held3 (fun w' => w'.cell? ⟨w.heap.size, 0, none⟩ = some (.int .i64 mx) ∧ w'.cell? ⟨w.heap.size, 1, none⟩ = some (.int .i64 my)) (first | exact ⟨m0, m1⟩ | exact ⟨k0, k1⟩ | go_keep)
    (first
      | (go_at_call 94; refine (sameDot_any (some ⟨g, l.length * 2, none⟩) _ _ _ 3 3 [(mx, my), (mx, my), (mx, my)] [(mx, my), (mx, my), (mx, my)] _ Hsuf.out (Rd.new _ _ _ rfl) rfl rfl (by simp [maxLen]) (by simp [maxLen])).mono ?_; rintro e w3 ⟨rfl, hb3⟩; have hbx := ((Below.refl w1.heap.size w1).drew.alloc (Nat.le_refl _) (.cells #[.int .i64 mx, .int .i64 my, .int .i64 mx, .int .i64 my, .int .i64 mx, .int .i64 my] 53)).trans (hb3.mono (by simp)); have m0 := (hbx.cell (p := ⟨w.heap.size, 0, none⟩) kz).trans k0; have m1 := (hbx.cell (p := ⟨w.heap.size, 1, none⟩) kz).trans k1))
  all_goals
    have HBx := Lib.hid (belowMore HB1.out hbx)
    clear hbx hb3 m0 m1 k0 k1
    go_wp2_with fail
    go_ret
    exact ⟨by simp, HBx.out⟩
theorem leftDots_any (A : Option Addr) (cap g : Nat) (l : List Dot) (w : World) (h : Rd w A (dotCells l)) (hl : l.length ≤ 100000) (ht : Rd w (some ⟨g, 0, none⟩) (dotCells (l ++ [(1152921504606846976, 0), (1152921504606846976, 0), (1152921504606846976, 0)]))) :
    Calls Try.prog 24 #[.slice (some ⟨g, 0, none⟩) l.length (l.length + 3), .slice A l.length cap] w fun e w' => e = .returned (.bool true) ∧ Below w.heap.size w w' := by
  have H := Lib.hid (leftDot_any A cap g l 1152921504606846976 0 w h hl ht)
  clear h ht
  go_enter Try.func24, Try.ntmps24
  go_wp2_with fail
  refine H.out.mono ?_
  rintro e w1 ⟨rfl, hb⟩
  go_wp2_with fail
  go_ret
  exact ⟨rfl, hb⟩
end Go.Proofs.Ytkdgibabecpdlaa
