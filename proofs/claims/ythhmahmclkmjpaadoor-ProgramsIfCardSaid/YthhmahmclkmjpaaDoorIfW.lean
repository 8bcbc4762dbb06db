/- Contracts and plain laws that the claims of this seat use (IfW), for all arguments that their hypotheses name. -/
import Derived.Test.YthhmahmclkmjpaaDoorMv17
import Derived.Test.YthhmahmclkmjpaaDoorLives17
namespace Go.Proofs.YthhmahmclkmjpaaDoor
open Go.RowKit
def oneT (T : List Tk) : List Tk := (3, [123], 0) :: (2, trueL, 0) :: (T ++ [(2, ifL, 0), (4, [125], 0)])
def twoT (T : List Tk) : List Tk := (3, [123], 0) :: (2, trueL, 0) :: (T ++ (T ++ [(2, ifelseL, 0), (4, [125], 0)]))
theorem kt_oneT (T : List Tk) : ktOf (oneT T) = oneL (ktOf T) := by simp [ktOf, oneT, oneL]
theorem kt_twoT (T : List Tk) : ktOf (twoT T) = twoL (ktOf T) := by simp [ktOf, twoT, twoL]
theorem tkCells_one {T : List Tk} : ∀ u ∈ tkCells T, u.oneCell' = true := by
  intro u hu
  unfold tkCells at hu
  rw [List.mem_flatMap] at hu
  obtain ⟨x, -, h⟩ := hu
  simp only [tkCell, List.mem_cons, List.not_mem_nil, or_false] at h
  rcases h with rfl | rfl | rfl <;> rfl
theorem tkCells_app (a b : List Tk) : tkCells (a ++ b) = tkCells a ++ tkCells b := by simp [tkCells]
def cOpen : Obj := .cells #[.int .u8 3, .string ⟨#[123]⟩, .int .i64 0] 24
def cShut : Obj := .cells #[.int .u8 4, .string ⟨#[125]⟩, .int .i64 0] 24
def cYes : Obj := .cells #[.int .u8 2, .string ⟨#[116, 114, 117, 101]⟩, .int .i64 0] 24
/-- The world in which the three words are laid. -/
structure W3 (w1 wq : World) (k : Nat) : Prop where
  b : Below w1.heap.size w1 wq
  lt : k + 2 < wq.heap.size
  o : wq.heap[k]? = some cOpen
  s : wq.heap[k + 1]? = some cShut
  y : wq.heap[k + 1 + 1]? = some cYes
theorem W3.mk3 (w1 : World) : W3 w1 (((w1.alloc cOpen).alloc cShut).alloc cYes) w1.heap.size := by
  refine ⟨(((Below.refl _ _).alloc (Nat.le_refl _) _).alloc (by simp) _).alloc (by simp; omega) _, by simp, ?_, ?_, ?_⟩
  · exact al_old (al_old (al_new rfl _) _) _
  · exact al_old (al_new (by simp) _) _
  · exact al_new (by simp) _
theorem cell3 {w : World} {k : Nat} {a b c : Value} {t : TypeId} (h : w.heap[k]? = some (.cells #[a, b, c] t)) : w.cell? ⟨k, 0, none⟩ = some a ∧ w.cell? ⟨k, 1, none⟩ = some b ∧ w.cell? ⟨k, 2, none⟩ = some c :=
  ⟨by rw [cell_of_row w k 0 _ _ _ h]; rfl, by rw [cell_of_row w k 1 _ _ _ h]; rfl, by rw [cell_of_row w k 2 _ _ _ h]; rfl⟩
theorem W3.below {w1 wq w2 : World} {k : Nat} (h : W3 w1 wq k) (hb : Below wq.heap.size wq w2) (hk : w1.heap.size ≤ wq.heap.size) : W3 w1 w2 k := by
  have hz := h.lt
  exact ⟨h.b.trans (hb.mono hk), Nat.lt_of_lt_of_le h.lt hb.size, (hb.block k (by omega)).trans h.o, (hb.block (k + 1) (by omega)).trans h.s, (hb.block (k + 1 + 1) (by omega)).trans h.y⟩
theorem apart_own {w u : World} {b e s e' s' n m : Nat} {v v' : Value} {xs ys : List Value} (h : w.ownsRow u.heap.size e s v n xs) (h' : u.ownsRow b e' s' v' m ys) : v.ownBlock = none ∨ v.ownBlock ≠ v'.ownBlock := by
  cases hx : v.ownBlock with
  | none => exact .inl rfl
  | some g =>
    refine .inr fun e => ?_
    have h1 := (h.lt g hx).1
    have h2 := own_lt h' g e.symm
    omega
theorem apart_two {w u x : World} {b e s e' s' n m : Nat} {v v' v9 : Value} {xs ys : List Value} (h : w.ownsRow u.heap.size e s v n xs) (h' : u.ownsRow b e' s' v' m ys) (h9 : v9.ownBlock = v'.ownBlock ∨ v9.ownBlock = some x.heap.size) (hx : w.heap.size ≤ x.heap.size) : v9.ownBlock = none ∨ v9.ownBlock ≠ v.ownBlock := by
  rcases h9 with h9 | h9
  · cases hy : v'.ownBlock with
    | none => exact .inl (h9.trans hy)
    | some g =>
      refine .inr fun e => ?_
      have h1 := (h.lt g (e.symm.trans (h9.trans hy))).1
      have h2 := own_lt h' g hy
      omega
  · refine .inr fun e => ?_
    have := own_lt h x.heap.size (e.symm.trans h9)
    omega
def T1 (T : List Tk) : List Tk := (3, [123], 0) :: (2, trueL, 0) :: T
theorem tk_two (T : List Tk) : (#[.int .u8 3, .string ⟨#[123]⟩, .int .i64 0, .int .u8 2, .string ⟨#[116, 114, 117, 101]⟩, .int .i64 0] : Array Value).toList ++ tkCells T = tkCells (T1 T) := rfl
theorem tk_one (T : List Tk) : tkCells (T1 T) ++ (#[.int .u8 2, .string ⟨#[105, 102]⟩, .int .i64 0, .int .u8 4, .string ⟨#[125]⟩, .int .i64 0] : Array Value).toList = tkCells (oneT T) := by
  rw [show (#[.int .u8 2, .string ⟨#[105, 102]⟩, .int .i64 0, .int .u8 4, .string ⟨#[125]⟩, .int .i64 0] : Array Value).toList = tkCells [(2, ifL, 0), (4, [125], 0)] from rfl, ← tkCells_app]; rfl
theorem tk_both (T : List Tk) : tkCells (T1 T ++ T) ++ (#[.int .u8 2, .string ⟨#[105, 102, 101, 108, 115, 101]⟩, .int .i64 0, .int .u8 4, .string ⟨#[125]⟩, .int .i64 0] : Array Value).toList = tkCells (twoT T) := by
  rw [show (#[.int .u8 2, .string ⟨#[105, 102, 101, 108, 115, 101]⟩, .int .i64 0, .int .u8 4, .string ⟨#[125]⟩, .int .i64 0] : Array Value).toList = tkCells [(2, ifelseL, 0), (4, [125], 0)] from rfl, ← tkCells_app]
  simp [twoT, T1]
theorem oneT_tx {T : List Tk} (h : ∀ x ∈ T, x.2.1.length ≤ 140737488355328) : ∀ x ∈ oneT T, x.2.1.length ≤ 140737488355328 := by
  intro x hx
  simp only [oneT, List.mem_cons, List.mem_append, List.not_mem_nil, or_false] at hx
  rcases hx with rfl | rfl | hx | rfl | rfl
  · decide
  · decide
  · exact h x hx
  · decide
  · decide
theorem twoT_tx {T : List Tk} (h : ∀ x ∈ T, x.2.1.length ≤ 140737488355328) : ∀ x ∈ twoT T, x.2.1.length ≤ 140737488355328 := by
  intro x hx
  simp only [twoT, List.mem_cons, List.mem_append, List.not_mem_nil, or_false] at hx
  rcases hx with rfl | rfl | hx | hx | rfl | rfl
  · decide
  · decide
  · exact h x hx
  · exact h x hx
  · decide
  · decide
theorem cdCells_one {T : List Cd} : ∀ u ∈ cdCells T, u.oneCell' = true := by
  intro u hu
  unfold cdCells at hu
  rw [List.mem_flatMap] at hu
  obtain ⟨x, -, h⟩ := hu
  simp only [cdCell, List.mem_cons, List.not_mem_nil, or_false] at h
  rcases h with rfl | rfl <;> rfl
theorem cdCells_app (a b : List Cd) : cdCells (a ++ b) = cdCells a ++ cdCells b := by simp [cdCells]
theorem cd_lit (x : Nat) (y : Int) (hy : y = (x : Int)) (C : List Cd) : [Value.int .u8 2, .int .i32 1, .int .u8 4, .int .i32 y] ++ cdCells C = cdCells ((2, 1) :: (4, (x : Int)) :: C) := by
  subst hy; rfl
theorem cd_jump (a C : List Cd) (x : Nat) (y : Int) (hy : y = (x : Int)) : (cdCells a ++ [Value.int .u8 3, .int .i32 y]) ++ cdCells C = cdCells (a ++ (3, (x : Int)) :: C) := by
  subst hy
  rw [List.append_assoc, show [Value.int .u8 3, .int .i32 (x : Int)] ++ cdCells C = cdCells ((3, (x : Int)) :: C) from rfl, ← cdCells_app]
set_option maxRecDepth 100000 in
set_option maxHeartbeats 8000000 in
theorem if_walk (T : List Tk) (A : Option Addr) (cl : Nat) (w : World) (hr : Rd w A (tkCells T)) (hold : T ≠ [] → ∀ ad, A = some ad → ad.block < w.heap.size) (hT : SpaceTab w) (h0 : 0 < w.heap.size) (htl : T.length ≤ 4398046511104) (htx : ∀ x ∈ T, x.2.1.length ≤ 140737488355328) :
    Calls Tryd.prog 5 #[.slice A T.length cl] w fun e w' => e = .returned (.bool true) ∧ Below w.heap.size w w' := by
  obtain ⟨n, hn⟩ : ∃ n, n = T.length := ⟨_, rfl⟩
  have Hr := Lib.hid hr; have Ho := Lib.hid hold; have HT := Lib.hid hT; have H0 := Lib.hid h0; have Htx := Lib.hid htx
  have hcall := progOf_any T A cl w hr hold hT h0 htl htx
  have hn0 : (n : Int) ≤ 4398046511104 := by omega
  rw [← hn] at hcall ⊢
  have Hn := Lib.hid hn; have Hcall := Lib.hid hcall
  have Hlaw := Lib.hid (@if_law (ktOf T)); have Hfw := Lib.hid (@forward_ok (ktOf T))
  clear hr hold hT h0 htl htx hcall hn
  go_enter Tryd.func5, Tryd.ntmps5
  go_wp2_with fail
  refine Hcall.out.mono ?_
  rintro e w1 ⟨B, cap, rfl, hown, hb⟩
  have HO := Lib.hid hown; have HB := Lib.hid hb
  have HT1 := Lib.hid (HT.out.below H0.out H0.out hb); have H01 := Lib.hid (Nat.lt_of_lt_of_le H0.out hb.size)
  clear hown hb
  generalize progF (ktOf T) = R at *
  obtain ⟨C, pl, er⟩ := R
  simp only at HO Hlaw Hfw ⊢
  obtain ⟨z, hz⟩ : ∃ z, z = C.length := ⟨_, rfl⟩
  have HZ := Lib.hid hz
  rw [← hz]
  clear hz
  by_cases hbad : 1000 < n ∨ er ≠ 0 ∨ 400 < z
  · have hd : (decide ((1000 : Int) < (n : Int)) = true) ∨ (decide ((1000 : Int) < (n : Int)) = false ∧ ((er : Int) != 0) = true) ∨ (decide ((1000 : Int) < (n : Int)) = false ∧ ((er : Int) != 0) = false ∧ decide ((400 : Int) < (z : Int)) = true) := by
      simp; omega
    clear hbad
    rcases hd with d1 | ⟨d1, d2⟩ | ⟨d1, d2, d3⟩
    all_goals
      go_wp2_with fail
      refine (lives17_any w1 HT1.out H01.out).mono ?_
      rintro e w2 ⟨rfl, hb⟩
      have HF := Lib.hid (HB.out.trans (hb.mono HB.out.size))
      clear hb
      go_wp2_with fail
      go_ret
      exact ⟨rfl, HF.out⟩
  · obtain ⟨h1, h2, h3⟩ : n ≤ 1000 ∧ er = 0 ∧ z ≤ 400 := by omega
    subst h2
    have d1 : decide ((1000 : Int) < (n : Int)) = false := by simp; omega
    have d3 : decide ((400 : Int) < (z : Int)) = false := by simp; omega
    have Hn1 := Lib.hid h1; have Hz3 := Lib.hid h3
    have hlaw := Hlaw.out (by rw [ktOf_len, ← Hn.out]; exact h1) rfl (by rw [← HZ.out]; exact h3)
    have Hlaw2 := Lib.hid hlaw
    have hjx : ∀ c ∈ C, jumpB c = true → 0 ≤ c.2 ∧ c.2 ≤ 100000 := fun c hc hj => by
      obtain ⟨j, hj2⟩ := List.getElem?_of_mem hc
      have h5 := (Hfw.out (by rw [ktOf_len, ← Hn.out]; omega) rfl).2.2.2.2 j c hj2 hj
      have h6 := HZ.out
      omega
    have Hjx := Lib.hid hjx
    clear hjx Hfw
    clear hbad h1 h3 hlaw Hlaw
    go_upto_region 7 with (fail)
    have hw := W3.mk3 w1
    have hw1 : Below w.heap.size w w1 := HB.out
    obtain ⟨k, hk⟩ : ∃ k, k = w1.heap.size := ⟨_, rfl⟩
    rw [← hk] at hw
    rw [← hk]
    have Hk := Lib.hid hk
    clear hk
    unfold cOpen cShut cYes at hw
    generalize ((w1.alloc (.cells #[.int .u8 3, .string ⟨#[123]⟩, .int .i64 0] 24)).alloc (.cells #[.int .u8 4, .string ⟨#[125]⟩, .int .i64 0] 24)).alloc (.cells #[.int .u8 2, .string ⟨#[116, 114, 117, 101]⟩, .int .i64 0] 24) = wq at *
    have HW := Lib.hid hw
    have HBq := Lib.hid (hw1.trans (hw.b.mono hw1.size))
    obtain ⟨o0, o1, o2⟩ := cell3 hw.o
    obtain ⟨y0, y1, y2⟩ := cell3 hw.y
    clear hw hw1
    have hbq : w.heap.size ≤ wq.heap.size := HBq.out.size
    go_upto_region 8 with (at_builtin; refine wpList_app rfl rfl Tryd.etTok (World.ownsRow_lit wq #[.int .u8 3, .string ⟨#[123]⟩, .int .i64 0, .int .u8 2, .string ⟨#[116, 114, 117, 101]⟩, .int .i64 0] 2 (Nat.le_refl _) (by decide) rfl) rfl rfl ((Hr.out.below HBq.out).below ((Below.refl _ _).alloc (Nat.le_refl _) _)) (m := n) (by rw [tkCells_len, Hn.out]) tkCells_one (by have := Hn1.out; omega) (by simp) ?_; intro v5 w5 hown5 hg5 _ hb5)
    rw [tk_two] at hown5
    obtain ⟨A5, c5, rfl, -, -, -⟩ := ownsRow_form hown5
    have HO5 := Lib.hid hown5
    have HB5 := Lib.hid (((Below.refl wq.heap.size wq).alloc (Nat.le_refl _) _).trans hb5)
    have HR5 := Lib.hid (((Hr.out.below HBq.out).below HB5.out))
    have Hbq := Lib.hid hbq
    clear hown5 hg5 hb5 o0 o1 o2 y0 y1 y2 hbq
    go_upto_region 9 with (first | (at_builtin; refine wpList_app rfl rfl Tryd.etTok (World.ownsRow_nil w5 w5.heap.size _ _) rfl rfl (rd_of HO5.out) (m := 2 + n) (by rw [tkCells_len]; simp [T1, Hn.out]; omega) tkCells_one (by have := Hn1.out; omega) (Nat.le_refl _) ?_; intro v6 w6 hown6 hg6 _ hb6; rw [Nat.zero_add, List.nil_append] at hown6) | (at_builtin; refine wpList_app rfl rfl Tryd.etTok hown6 rfl rfl (HR5.out.below hb6) (m := n) (by rw [tkCells_len, Hn.out]) tkCells_one (by have := Hn1.out; omega) hb6.size ?_; intro v7 w7 hown7 hg7 _ hb7))
    rw [← tkCells_app] at hown7
    obtain ⟨A7, c7, rfl, -, -, -⟩ := ownsRow_form hown7
    have HO7 := Lib.hid hown7
    have HB7 := Lib.hid (hb6.trans hb7)
    have HO57 := Lib.hid (ownsRow_below HO5.out HB7.out)
    have HB7q := Lib.hid (HB5.out.trans (HB7.out.mono HB5.out.size))
    obtain ⟨s0, s1, s2⟩ := cell3 ((HB7q.out.block (k + 1) (by have := HW.out.lt; omega)).trans HW.out.s)
    have hq7 : wq.heap.size ≤ w7.heap.size := HB7q.out.size
    clear hown6 hg6 hb6 hown7 hg7 hb7
    go_upto_region 10 with (at_builtin; refine wpList_app rfl rfl Tryd.etTok (HO57.out.alloc _) rfl rfl (Rd.new _ _ _ rfl) (m := 2) rfl (by simp [Value.oneCell']) (by have := Hn1.out; omega) (by simp; omega) ?_; intro v9 w9 hown9 hg9 ho9 hb9)
    rw [tk_one] at hown9
    obtain ⟨A9, c9, rfl, -, -, -⟩ := ownsRow_form hown9
    have HO9 := Lib.hid hown9
    have HO79 := Lib.hid ((HO7.out.alloc _).kept hg9 (apart_own HO7.out HO5.out))
    have Hap := Lib.hid (apart_two HO7.out HO5.out ho9 (by simp))
    have HB97 := Lib.hid hb9; have HB9 := Lib.hid (HB7q.out.trans (((Below.refl wq.heap.size w7).alloc hq7 _).trans hb9))
    clear hown9 hg9 ho9 hb9 s0 s1 s2 hq7
    obtain ⟨s0, s1, s2⟩ := cell3 ((HB9.out.block (k + 1) (by have := HW.out.lt; omega)).trans HW.out.s)
    have hq9 : wq.heap.size ≤ w9.heap.size := HB9.out.size
    have hq5 : w5.heap.size ≤ w9.heap.size := Nat.le_trans HB7.out.size (Nat.le_trans (by simp) HB97.out.size)
    go_upto_region 11 with (at_builtin; refine wpList_app rfl rfl Tryd.etTok (HO79.out.alloc _) rfl rfl (Rd.new _ _ _ rfl) (m := 2) rfl (by simp [Value.oneCell']) (by have := Hn1.out; omega) (by simp; omega) ?_; intro v10 w10 hown10 hg10 ho10 hb10)
    rw [tk_both] at hown10
    obtain ⟨A10, c10, rfl, -, -, hlt10⟩ := ownsRow_form hown10
    have HR10 := Lib.hid (rd_of hown10)
    have hk9 := ((HO9.out.alloc _).kept hg10 Hap.out)
    obtain ⟨A9', c9', e9, -, HR9, hlt9⟩ := ownsRow_form hk9
    injection e9 with e9 e9' e9''
    subst e9 e9''
    have HB10 := Lib.hid (HB9.out.trans (((Below.refl wq.heap.size w9).alloc hq9 _).trans (hb10.mono (Nat.le_trans HB5.out.size (Nat.le_refl _)))))
    have Hwz : Hid (w.heap.size ≤ w10.heap.size) := Lib.hid (Nat.le_trans Hbq.out HB10.out.size)
    have HBw := Lib.hid (HBq.out.trans (HB10.out.mono Hbq.out))
    have hT10 := HT.out.below H0.out H0.out HBw.out
    have h010 := Nat.lt_of_lt_of_le H0.out Hwz.out
    have hl1 : (oneT T).length = 2 + n + 2 := by simp [oneT, Hn.out]; omega
    have hl2 : (twoT T).length = 2 + n + n + 2 := by simp [twoT, Hn.out]; omega
    have hcall9 := progOf_any (oneT T) A9 c9 w10 HR9 (fun _ ad h => (hlt9 ad h).2) hT10 h010 (by have := Hn1.out; omega) (oneT_tx Htx.out)
    have hcall10 := fun w11 hr ho hT h0 => progOf_any (twoT T) A10 c10 w11 hr ho hT h0 (by have := Hn1.out; omega) (twoT_tx Htx.out)
    rw [hl1, kt_oneT] at hcall9
    rw [hl2, kt_twoT] at hcall10
    have hlaw := Hlaw2.out
    generalize progF (oneL (ktOf T)) = R1 at *
    generalize progF (twoL (ktOf T)) = R2 at *
    obtain ⟨C1, q1, e1⟩ := R1
    obtain ⟨C2, q2, e2⟩ := R2
    obtain ⟨z1, hz1⟩ : ∃ z1, z1 = C1.length := ⟨_, rfl⟩
    obtain ⟨z2, hz2⟩ : ∃ z2, z2 = C2.length := ⟨_, rfl⟩
    unfold OfP at hcall9 hcall10
    simp only [← hz1] at hcall9
    simp only [← hz2] at hcall10
    have Hz1 := Lib.hid hz1; have Hz2 := Lib.hid hz2
    have Hcall9 := Lib.hid hcall9; have Hcall10 := Lib.hid hcall10
    have Hold10 : Hid (∀ ad, A10 = some ad → ad.block < w10.heap.size) := Lib.hid (fun ad h => (hlt10 ad h).2)
    have HT10 := Lib.hid hT10; have H010 := Lib.hid h010
    have Hlaw3 := Lib.hid hlaw
    clear hown10 hg10 ho10 hb10 hk9 HR9 hlt9 hlt10 hT10 h010 hl1 hl2 hcall9 hcall10 s0 s1 s2 hq9 hq5 e9' hz1 hz2 hlaw Hlaw2
    go_wp2_with fail
    refine Hcall9.out.mono ?_
    rintro e w11 ⟨B1, d1, rfl, hownb1, hbb1⟩
    have HOb1 := Lib.hid hownb1; have HBb1 := Lib.hid hbb1
    have hr10 := HR10.out.below hbb1
    have HT11 := Lib.hid (HT10.out.below H010.out H010.out hbb1); have H011 := Lib.hid (Nat.lt_of_lt_of_le H010.out hbb1.size)
    have Hc10 := Lib.hid (Hcall10.out w11 hr10 (fun _ ad h => Nat.lt_of_lt_of_le (Hold10.out ad h) hbb1.size) HT11.out H011.out)
    clear hownb1 hbb1 hr10
    go_wp2_with fail
    refine Hc10.out.mono ?_
    rintro e w12 ⟨B2, d2, rfl, hownb2, hbb2⟩
    have HOb2 := Lib.hid hownb2; have HBb2 := Lib.hid (HBb1.out.trans (hbb2.mono HBb1.out.size))
    have HT12 := Lib.hid (HT11.out.below H011.out H011.out hbb2); have H012 := Lib.hid (Nat.lt_of_lt_of_le H011.out hbb2.size)
    have HBw12 := Lib.hid (HBw.out.trans (HBb2.out.mono Hwz.out))
    have HOb1' := Lib.hid (ownsRow_below HOb1.out hbb2)
    clear hownb2 hbb2
    rcases Hlaw3.out with ⟨k1, k2⟩ | ⟨k1, k2⟩
    · subst k1 k2
      clear Hlaw3
      go_wp2_with fail
      refine (lives17_any w12 HT12.out H012.out).mono ?_
      rintro e w13 ⟨rfl, hb⟩
      have HF := Lib.hid (HBw12.out.trans (hb.mono HBw12.out.size))
      clear hb
      go_wp2_with fail
      go_ret
      exact ⟨rfl, HF.out⟩
    · injection k1 with k1 k1'
      injection k1' with k1' k1''
      injection k2 with k2 k2'
      injection k2' with k2' k2''
      subst k1'' k2''
      clear Hlaw3 k1' k2'
      have K1 := Lib.hid k1; have K2 := Lib.hid k2
      clear k1 k2
      obtain rfl : z1 = 2 + z := by rw [Hz1.out, K1.out]; simp [HZ.out]; omega
      obtain rfl : z2 = 2 + z + 1 + z := by rw [Hz2.out, K2.out]; simp [HZ.out]; omega
      have hzi : (z : Int) ≤ 400 := by have := Hz3.out; omega
      have hz0 : (0 : Int) ≤ (z : Int) := by omega
      have wz : IntKind.i32.wrap (z : Int) = (z : Int) := by rw [IntKind.wrap_i32]; omega
      have w2 : IntKind.i32.wrap ((z : Int) + 2) = (z : Int) + 2 := by rw [IntKind.wrap_i32]; omega
      have w2' : wrap32 ((z : Int) + 2) = (z : Int) + 2 := by unfold wrap32; omega
      have w3 : IntKind.i32.wrap ((z : Int) + 3) = (z : Int) + 3 := by rw [IntKind.wrap_i32]; omega
      have w3' : wrap32 ((z : Int) + 3) = (z : Int) + 3 := by unfold wrap32; omega
      have HRC := Lib.hid ((((rd_of HO.out).below HW.out.b).below HB10.out).below HBb2.out)
      have wC : C.length = z := HZ.out.symm
      have HZ' := Lib.hid wC
      clear wC
      have hbn : (2 + z) * 8 ≤ 140737488355328 := by have := Hz3.out; omega
      have Hbn := Lib.hid hbn
      have wm : (2 * (z : Int) + 3) ≤ 803 := by omega
      have w4 : IntKind.i32.wrap (2 * (z : Int)) = 2 * (z : Int) := by rw [IntKind.wrap_i32]; omega
      have w4' : wrap32 (2 * (z : Int)) = 2 * (z : Int) := by unfold wrap32; omega
      have w5q : IntKind.i32.wrap (2 * (z : Int) + 3) = 2 * (z : Int) + 3 := by rw [IntKind.wrap_i32]; omega
      have w5q' : wrap32 (2 * (z : Int) + 3) = 2 * (z : Int) + 3 := by unfold wrap32; omega
      clear hbn
      go_wp2_with fail
      refine (moved17_any C B cap 2 z _ (HRC.out.below ((Below.refl _ _).alloc (Nat.le_refl _) _)) HZ'.out (by have := Hz3.out; omega) Hjx.out (by decide)).mono ?_
      rintro e w13 ⟨D3, f3, rfl, hown, hb⟩
      have hO := ownsRow_below (World.ownsRow_lit (base := w12.heap.size) (e := 36) (size := 2) w12 #[.int .u8 2, .int .i32 1, .int .u8 4, .int .i32 ((z : Int) + 2)] 2 (Nat.le_refl _) (by decide) rfl) hb
      have HO13 := Lib.hid hO
      have HB13 := Lib.hid (((Below.refl w12.heap.size w12).alloc (Nat.le_refl _) _).trans (hb.mono (by simp)))
      have HR13 := Lib.hid (rd_of hown)
      clear hO hown hb
      go_upto_region 17 with (at_builtin; refine wpList_app rfl rfl Tryd.etCode HO13.out rfl rfl HR13.out (m := z) (by rw [cdCells_len, List.length_map, HZ'.out]) cdCells_one Hbn.out HB13.out.size ?_; intro v14 w14 hown14 hg14 _ hb14)
      rw [cd_lit (z + 2) ((z : Int) + 2) rfl] at hown14
      obtain ⟨A14, c14, rfl, -, -, -⟩ := ownsRow_form hown14
      have HR14 := Lib.hid (rd_of hown14)
      have HB14 := Lib.hid (HB13.out.trans hb14)
      have HRC14 := Lib.hid (HRC.out.below HB14.out)
      have hq14 : w12.heap.size ≤ w14.heap.size := HB14.out.size
      clear hown14 hg14 hb14
      go_wp2_with fail
      refine (moved17_any C B cap 2 z _ (HRC14.out.below ((Below.refl _ _).alloc (Nat.le_refl _) _)) HZ'.out (by have := Hz3.out; omega) Hjx.out (by decide)).mono ?_
      rintro e w15 ⟨D5, f5, rfl, hown, hb⟩
      have hO := ownsRow_below (World.ownsRow_lit (base := w14.heap.size) (e := 36) (size := 2) w14 #[.int .u8 2, .int .i32 1, .int .u8 4, .int .i32 ((z : Int) + 3)] 2 (Nat.le_refl _) (by decide) rfl) hb
      have HO15 := Lib.hid hO
      have HB15 := Lib.hid (((Below.refl w14.heap.size w14).alloc (Nat.le_refl _) _).trans (hb.mono (by simp)))
      have HR15 := Lib.hid (rd_of hown)
      clear hO hown hb
      go_upto_region 18 with (at_builtin; refine wpList_app rfl rfl Tryd.etCode HO15.out rfl rfl HR15.out (m := z) (by rw [cdCells_len, List.length_map, HZ'.out]) cdCells_one Hbn.out HB15.out.size ?_; intro v16 w16 hown16 hg16 _ hb16)
      rw [cd_lit (z + 3) ((z : Int) + 3) rfl] at hown16
      have HO16 := Lib.hid hown16
      have HB16 := Lib.hid (HB15.out.trans hb16)
      have HRC16 := Lib.hid (HRC14.out.below HB16.out)
      have hq16 : w14.heap.size ≤ w16.heap.size := HB16.out.size
      clear hown16 hg16 hb16
      go_wp2_with (at_builtin; refine wpList_app rfl rfl Tryd.etCode (HO16.out.alloc _) rfl rfl (Rd.new _ _ _ rfl) (m := 1) rfl (by simp [Value.oneCell']) (by have := Hz3.out; omega) (by simp; omega) ?_; intro v17 w17 hown17 hg17 _ hb17)
      have HO17 := Lib.hid hown17
      have HB17 := Lib.hid (((Below.refl w14.heap.size w16).alloc hq16 _).trans hb17)
      have HB17t := Lib.hid (HB16.out.trans HB17.out)
      have HRC17 := Lib.hid (HRC14.out.below HB17t.out)
      have hm := moved17_any C B cap (z + 3) z w17 HRC17.out HZ'.out (by have := Hz3.out; omega) Hjx.out (by have := Hz3.out; omega)
      rw [show ((z + 3 : Nat) : Int) = (z : Int) + 3 from rfl] at hm
      have Hm := Lib.hid hm
      have hq17 : w14.heap.size ≤ w17.heap.size := HB17t.out.size
      clear hown17 hg17 hb17 hm
      go_wp2_with fail
      refine Hm.out.mono ?_
      rintro e w18 ⟨D8, f8, rfl, hown, hb⟩
      have HO18 := Lib.hid (ownsRow_below HO17.out hb)
      have HB18 := Lib.hid (HB17t.out.trans (hb.mono hq17))
      have HR18 := Lib.hid (rd_of hown)
      clear hown hb
      go_upto_region 19 with (at_builtin; refine wpList_app rfl rfl Tryd.etCode HO18.out rfl rfl HR18.out (m := z) (by rw [cdCells_len, List.length_map, HZ'.out]) cdCells_one (by have := Hz3.out; omega) HB18.out.size ?_; intro v19 w19 hown19 hg19 _ hb19)
      have hO19 : w19.ownsRow w14.heap.size 36 2 v19 (2 + z + 1 + z) (cdCells ((2, 1) :: (4, ((z + 3 : Nat) : Int)) :: (C.map (up 2) ++ (3, ((2 * z + 3 : Nat) : Int)) :: C.map (up (z + 3))))) := by
        have e := cd_jump ((2, 1) :: (4, ((z + 3 : Nat) : Int)) :: C.map (up 2)) (C.map (up (z + 3))) (2 * z + 3) (2 * (z : Int) + 3) (by omega)
        simp only [List.cons_append] at e
        rw [← e]
        exact hown19
      clear hown19
      have hown19 := hO19
      clear hO19
      obtain ⟨A19, c19, rfl, -, -, -⟩ := ownsRow_form hown19
      have HR19 := Lib.hid (rd_of hown19)
      have HB19 := Lib.hid (HB18.out.trans hb19)
      have HB19w := Lib.hid (HB14.out.trans (HB19.out.mono hq14))
      clear hown19 hg19 hb19
      have HRa := Lib.hid ((rd_of HOb1'.out).below HB19w.out)
      have HRb := Lib.hid ((rd_of HOb2.out).below HB19w.out)
      have HRw := Lib.hid (HR14.out.below HB19.out)
      have hra := HRa.out
      rw [K1.out, HZ'.out] at hra
      have hrb := HRb.out
      rw [K2.out, HZ'.out] at hrb
      have HC1 := Lib.hid (sameCodes_eq B1 A14 d1 c14 (2 + z) _ w19 hra HRw.out (by simp [HZ'.out]; omega) (by have := Hz3.out; omega))
      have HC2 := Lib.hid (fun w20 (hb : Below w19.heap.size w19 w20) => sameCodes_eq B2 A19 d2 c19 (2 + z + 1 + z) _ w20 (hrb.below hb) (HR19.out.below hb) (by simp [HZ'.out]; omega) (by have := Hz3.out; omega))
      have HT19 := Lib.hid (HT12.out.below H012.out H012.out HB19w.out); have H019 := Lib.hid (Nat.lt_of_lt_of_le H012.out HB19w.out.size)
      clear hra hrb
      go_wp2_with fail
      refine HC1.out.mono ?_
      rintro e w20 ⟨rfl, hb⟩
      have HB20 := Lib.hid hb
      have HC2' := Lib.hid (HC2.out w20 hb)
      clear hb
      go_wp2_with fail
      refine HC2'.out.mono ?_
      rintro e w21 ⟨rfl, hb⟩
      have HB21 := Lib.hid (HB20.out.trans (hb.mono HB20.out.size))
      have HT21 := Lib.hid (HT19.out.below H019.out H019.out HB21.out); have H021 := Lib.hid (Nat.lt_of_lt_of_le H019.out HB21.out.size)
      clear hb
      go_wp2_with fail
      refine (lives17_any w21 HT21.out H021.out).mono ?_
      rintro e w22 ⟨rfl, hb⟩
      have HF := Lib.hid (HB21.out.trans (hb.mono HB21.out.size))
      have HG := Lib.hid (HB19w.out.trans (HF.out.mono HB19w.out.size))
      clear hb
      go_wp2_with fail
      go_ret
      exact ⟨rfl, HBw12.out.trans (HG.out.mono HBw12.out.size)⟩
end Go.Proofs.YthhmahmclkmjpaaDoor
