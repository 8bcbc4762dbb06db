/- Contracts and plain laws that the claims of this seat use (TwinU), for all arguments that their hypotheses name. -/
import Derived.Test.YtkdgibabecpdlaaBookQ
import Derived.Test.YtkdgibabecpdlaaTwinD
namespace Go.Proofs.Ytkdgibabecpdlaa
open Go.RowKit
theorem own_take {w : World} {base e size g n cap k : Nat} {xs : List Value} (h : w.ownsRow base e size (.slice (some ⟨g, 0, none⟩) n cap) n xs) (hk : k ≤ n) : w.ownsRow base e size (.slice (some ⟨g, 0, none⟩) k cap) k (xs.take (k * size)) := by
  obtain ⟨hl, h2⟩ := h
  rcases h2 with ⟨h0, _⟩ | ⟨g', cap', cur, hv, hb, hg, hnc, hm, hs, ht⟩
  · cases h0
  · injection hv with h1 h2 h3
    injection h1 with h1; injection h1 with h1
    subst h1 h3
    have hks : k * size ≤ n * size := Nat.mul_le_mul_right _ hk
    refine ⟨by rw [List.length_take, hl]; omega, .inr ⟨g, cap, cur, rfl, hb, hg, by omega, hm, hs, ?_⟩⟩
    rw [← ht, List.take_take, Nat.min_eq_left hks]
/-- append where there is room, in a list of operations. -/
theorem wpList_fit {P : Program} {w : World} {ops : Array Oper} {rest : List Oper} {o : Oper} {a : Act} {Q : Exit → Act → World → Prop} (hgd : o.guard = none) {s x : Operand} {t : TypeId}
    (ho : o.op = .call { callee := .builtin .append, args := #[s, x], argTypes := #[t, t] })
    {e : TypeId} {size bytes : Nat} (E : ET P t e size bytes)
    {base g n cap : Nat} {xs : List Value} (hown : w.ownsRow base e size (.slice (some ⟨g, 0, none⟩) n cap) n xs) (hs : a.eval s = .slice (some ⟨g, 0, none⟩) n cap)
    {A : Option Addr} {m c : Nat} {news : List Value} (hx : a.eval x = .slice A m c) (hr : Rd w A news) (hl : news.length = m * size) (h1 : ∀ u ∈ news, u.oneCell' = true) (hroom : n + m ≤ cap) (hbase : base ≤ w.heap.size)
    (h : ∀ w', w'.ownsRow base e size (.slice (some ⟨g, 0, none⟩) (n + m) cap) (n + m) (xs ++ news) → Below base w w' → Upd [g] w w' → wpList P ops Q rest (a.put o.dst (.slice (some ⟨g, 0, none⟩) (n + m) cap)) w') : wpList P ops Q (o :: rest) a w :=
  wpList_plain hgd fun K hK => by
    obtain ⟨w', hrun, h2, h3, h4⟩ := run_fit (P := P) w (ty := o.type) E hown hr (c := c) hl h1 hroom hbase
    unfold Oper.wp execOp
    simp only [ho, resolve, invoke, builtin, Sem.run_bind, Sem.run_pure, Result.andThen_ok, List.map_toArray, List.map_cons, List.map_nil, hs, hx, hrun]
    exact hK _ _ (h w' h2 h3 h4)
theorem sameBits_n2 (A B : Option Addr) (ca cb n m : Nat) (a b : List Nat) (w : World) (ha : Rd w A (bitVs a)) (hb : Rd w B (bitVs b)) (hn : a.length = n) (hm : b.length = m) (hal : a.length ≤ maxLen) (hbl : b.length ≤ maxLen) :
    Calls Try.prog 42 #[.slice A n ca, .slice B m cb] w fun e w' => e = .returned (.bool (decide (a = b))) ∧ Below w.heap.size w w' := by
  subst hn hm; exact sameU16_any A B ca cb a b w ha hb hal hbl
abbrev mk3 : List Nat := [43690, 43690, 43690]
set_option maxRecDepth 100000 in
set_option maxHeartbeats 4000000 in
theorem twinU16_any (A : Option Addr) (cap : Nat) (l : List Nat) (w : World) (h : Rd w A (bitVs l)) (hl : l.length ≤ 100000) :
    Calls Try.prog 86 #[.slice A l.length cap, .int .u16 43690] w fun e w' => ∃ g, e = .returned (.slice (some ⟨g, 0, none⟩) l.length (l.length + 3)) ∧ w.heap.size ≤ g ∧
      w'.ownsRow w.heap.size 65 1 (.slice (some ⟨g, 0, none⟩) l.length (l.length + 3)) l.length (bitVs l) ∧ Rd w' (some ⟨g, 0, none⟩) (bitVs (l ++ mk3)) ∧ Below w.heap.size w w' := by
  have H := Lib.hid h; clear h
  go_enter Try.func86, Try.ntmps86
  have hle : (l.length : Int) ≤ (l.length : Int) + 3 := by omega
  go_wp2_with (first
    | (with_reducible refine at_mk 28 (.const (.int .i64 0)) (.tmp 8) ?_; refine wpList_mk0 rfl rfl Try.etBits w.heap.size (l.length + 3) (X := (l.length : Int) + 3) (by simp) rfl rfl (by omega) (by simp only [maxLen]; omega) (Nat.le_refl _) ?_; intro w1 hown1 hb1 hz1; have Hown1 := Lib.hid hown1; have Hb1 := Lib.hid hb1; have H1 := Lib.hid (H.out.below hb1); have Hz1 := Lib.hid hz1; clear hown1 hb1 hz1 H)
    | (with_reducible refine at_bi .append #[.tmp 10, .tmp 11] ?_; refine wpList_fit rfl rfl Try.etBits Hown1.out rfl rfl H1.out (m := l.length) (by simp [bitVs]) bitVs_one (by omega) (by have := Hz1.out; omega) ?_; intro w2 hown2 hb2 hu2; rw [Nat.zero_add] at hown2 ⊢; rw [List.nil_append] at hown2; have Hown2 := Lib.hid hown2; have Hb2 := Lib.hid hb2; have Hz2 := Lib.hid (Nat.lt_of_lt_of_le Hz1.out hu2.size); clear hown2 hb2 hu2)
    | (with_reducible refine at_bi .append #[.tmp 12, .tmp 16] ?_; refine wpList_fit rfl rfl Try.etBits (Hown2.out.alloc _) rfl rfl (Rd.new _ _ _ rfl) (m := 3) (news := bitVs mk3) rfl bitVs_one (by omega) (by have := Hz2.out; simp; omega) ?_; intro w3 hown3 hb3 hu3; have Hown3 := Lib.hid hown3; have Hb3 := Lib.hid hb3; clear hown3 hb3 hu3))
  go_ret
  have hB : Below w.heap.size w w3 := Hb1.out.trans (Hb2.out.trans (((Below.refl w2.heap.size w2).alloc (Nat.le_refl _) _).mono (Nat.le_of_lt Hz2.out) |>.trans Hb3.out))
  refine ⟨w.heap.size, rfl, Nat.le_refl _, ?_, ?_, hB⟩
  · have := own_take Hown3.out (k := l.length) (by omega)
    rw [Nat.mul_one, List.take_left' (by simp [bitVs])] at this
    exact this
  · obtain ⟨A', c', e', -, hr', -⟩ := ownsRow_form Hown3.out
    injection e' with e1 _ _
    rw [e1]
    have : bitVs (l ++ mk3) = bitVs l ++ bitVs mk3 := by simp [bitVs]
    rw [this]; exact hr'
theorem twinBits_any (A : Option Addr) (cap : Nat) (l : List Nat) (w : World) (h : Rd w A (bitVs l)) (hl : l.length ≤ 100000) :
    Calls Try.prog 29 #[.slice A l.length cap] w fun e w' => ∃ g, e = .returned (.slice (some ⟨g, 0, none⟩) l.length (l.length + 3)) ∧ w.heap.size ≤ g ∧
      w'.ownsRow w.heap.size 65 1 (.slice (some ⟨g, 0, none⟩) l.length (l.length + 3)) l.length (bitVs l) ∧ Rd w' (some ⟨g, 0, none⟩) (bitVs (l ++ mk3)) ∧ Below w.heap.size w w' := by
  have H := Lib.hid (twinU16_any A cap l w h hl)
  clear h
  go_enter Try.func29, Try.ntmps29
  go_wp2_with fail
  refine H.out.mono ?_
  rintro e w1 ⟨g, rfl, hg, ho, hr, hb⟩
  go_wp2_with fail
  go_ret
  exact ⟨g, rfl, hg, ho, hr, hb⟩
set_option maxRecDepth 100000 in
set_option maxHeartbeats 4000000 in
theorem leftU16_any (A : Option Addr) (cap g : Nat) (l : List Nat) (w : World) (h : Rd w A (bitVs l)) (hl : l.length ≤ 100000) (ht : Rd w (some ⟨g, 0, none⟩) (bitVs (l ++ mk3))) :
    Calls Try.prog 87 #[.slice (some ⟨g, 0, none⟩) l.length (l.length + 3), .slice A l.length cap, .int .u16 43690] w fun e w' => e = .returned (.bool true) ∧ Below w.heap.size w w' := by
  have e3 : bitVs (l ++ mk3) = bitVs l ++ bitVs mk3 := by simp [bitVs]
  rw [e3] at ht
  have hpre := ht.pre
  have hsuf := ht.app
  have hbl : (bitVs l).length = l.length := by simp [bitVs]
  rw [hbl, Nat.zero_add] at hsuf
  have H := Lib.hid h; have HP := Lib.hid hpre; have HS := Lib.hid hsuf
  clear h ht hpre hsuf e3 hbl
  go_enter Try.func87, Try.ntmps87
  go_wp2_with fail
  refine (sameU16_any (some ⟨g, 0, none⟩) A _ cap l l _ HP.out H.out (by simp only [maxLen]; omega) (by simp only [maxLen]; omega)).mono ?_
  rintro e w1 ⟨rfl, hb1⟩
  rw [decide_eq_true rfl]
  have hle1 : (l.length : Int) ≤ (l.length : Int) + 3 := by omega
  have hle0 : (0 : Int) ≤ (l.length : Int) := by omega
  have hne : l.length + 3 ≠ l.length := by omega
  have hsub : l.length + 3 - l.length = 3 := by omega
  go_wp2_with fail
  refine (sameBits_n2 (some ⟨g, l.length, none⟩) _ 3 3 3 3 mk3 mk3 _ ((HS.out.below hb1).below ((Below.refl _ _).alloc (Nat.le_refl _) _)) (Rd.new _ _ _ rfl) rfl rfl (by simp [maxLen]) (by simp [maxLen])).mono ?_
  rintro e w2 ⟨rfl, hb2⟩
  go_wp2_with fail
  go_ret
  exact ⟨by simp, (belowMore hb1 ((Below.refl _ _).alloc (Nat.le_refl _) _)).trans (hb2.mono (by have := hb1.size; simp; omega))⟩
theorem leftBits_any (A : Option Addr) (cap g : Nat) (l : List Nat) (w : World) (h : Rd w A (bitVs l)) (hl : l.length ≤ 100000) (ht : Rd w (some ⟨g, 0, none⟩) (bitVs (l ++ mk3))) :
    Calls Try.prog 32 #[.slice (some ⟨g, 0, none⟩) l.length (l.length + 3), .slice A l.length cap] w fun e w' => e = .returned (.bool true) ∧ Below w.heap.size w w' := by
  have H := Lib.hid (leftU16_any A cap g l w h hl ht)
  clear h ht
  go_enter Try.func32, Try.ntmps32
  go_wp2_with fail
  refine H.out.mono ?_
  rintro e w1 ⟨rfl, hb⟩
  go_wp2_with fail
  go_ret
  exact ⟨rfl, hb⟩
end Go.Proofs.Ytkdgibabecpdlaa
