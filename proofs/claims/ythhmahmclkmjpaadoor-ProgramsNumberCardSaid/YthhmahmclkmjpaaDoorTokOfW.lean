/- Proved: tokens.Of answers the plain tokens, in new memory; for every text. -/
import Derived.Test.YthhmahmclkmjpaaDoorTokS
import Derived.ScopeJumps
namespace Go.Proofs.YthhmahmclkmjpaaDoor
open Go.RowKit
theorem wp_scope_back {P : Program} {a : Act} {w : World} {Q : Exit → Act → World → Prop} {c rest : Code} (l : Nat) (J : Act → World → Prop) (μ : Act → World → Nat) (hf : findLabel c l = some (.seq .skip rest))
    (first : (∀ a w, J a w → rest.wp P (Exit.jump l J Q) a w) → c.wp P (Exit.jump l J Q) a w)
    (pass : ∀ a w, J a w → rest.wp P (Exit.jump l (fun a' w' => J a' w' ∧ μ a' w' < μ a w) Q) a w) : (Code.scope c).wp P Q a w :=
  wp_scope_jumps l J μ hf (first fun a w h => wp_mono (pass a w h) fun e a' w' hq => by
    cases e <;> first | exact hq | exact ⟨hq.1, hq.2.1⟩) fun a w h => wp_seq (wp_skip (pass a w h))
def tokCell (t : Tok) : List Value := [.int .u8 (t.k : Int), .string ⟨t.t.toArray⟩, .int .i64 (t.pos : Int)]
def tokCells (l : List Tok) : List Value := l.flatMap tokCell
theorem tokCells_len (l : List Tok) : (tokCells l).length = l.length * 3 := flatMap_len tokCell 3 (fun _ => rfl) l
theorem tokCells_snoc (l : List Tok) (t : Tok) : tokCells (l ++ [t]) = tokCells l ++ [.int .u8 (t.k : Int), .string ⟨t.t.toArray⟩, .int .i64 (t.pos : Int)] := by simp [tokCells, tokCell]
theorem Tryd.etTok : ET Tryd.prog 30 24 3 32 := ET.mk' (z := .agg #[.int .u8 0, .string ⟨#[]⟩, .int .i64 0]) (by kernel_rfl) (by kernel_rfl) rfl (by decide) (by decide)
def TokP (w : World) (R : List Tok × Nat × Nat) (e : Ending) (w' : World) : Prop :=
  ∃ v, e = .returned (.tuple #[v, .int .i64 (R.2.1 : Int), .int .i64 (R.2.2 : Int)]) ∧ w'.ownsRow w.heap.size 24 3 v R.1.length (tokCells R.1) ∧ Below w.heap.size w w'
theorem lx_skip {l : Bytes} {i n : Nat} {acc : List Tok} (h : lexS l 0 = (acc ++ (lexS (l.drop i) i).1, (lexS (l.drop i) i).2)) (hx : lex1 (l.drop i) = .skip n) (h0 : i < l.length) :
    lexS l 0 = (acc ++ (lexS (l.drop (i + n)) (i + n)).1, (lexS (l.drop (i + n)) (i + n)).2) ∧ 1 ≤ n ∧ i + n ≤ l.length := by
  have hne : l.drop i ≠ [] := fun e => by have := congrArg List.length e; simp at this; omega
  have hb : 1 ≤ n ∧ n ≤ (l.drop i).length := by
    cases hd : l.drop i with
    | nil => exact absurd hd hne
    | cons c t => rw [hd] at hx; exact lex1_skip hx
  rw [lexS_skip hx hne, List.drop_drop] at h
  rw [List.length_drop] at hb
  exact ⟨h, hb.1, by omega⟩
theorem lx_tok {l : Bytes} {i k n : Nat} {acc : List Tok} (h : lexS l 0 = (acc ++ (lexS (l.drop i) i).1, (lexS (l.drop i) i).2)) (hx : lex1 (l.drop i) = .tok k n) (h0 : i < l.length) :
    lexS l 0 = ((acc ++ [⟨k, (l.drop i).take n, i⟩]) ++ (lexS (l.drop (i + n)) (i + n)).1, (lexS (l.drop (i + n)) (i + n)).2) ∧ 1 ≤ n ∧ i + n ≤ l.length := by
  have hne : l.drop i ≠ [] := fun e => by have := congrArg List.length e; simp at this; omega
  have hb : 1 ≤ n ∧ n ≤ (l.drop i).length := by
    cases hd : l.drop i with
    | nil => exact absurd hd hne
    | cons c t => rw [hd] at hx; exact lex1_tok hx
  rw [lexS_tok hx, List.drop_drop] at h
  rw [List.length_drop] at hb
  exact ⟨by rw [h]; simp, hb.1, by omega⟩
theorem lex1_37 {c : UInt8} {t : Bytes} (h : c = 37) : lex1 (c :: t) = .skip (spanN eolB (c :: t)) := by simp only [lex1]; rw [if_pos h]
theorem lex1_white {c : UInt8} {t : Bytes} (h : c ≠ 37) (h2 : whtB c = true) : lex1 (c :: t) = .skip 1 := by simp only [lex1]; rw [if_neg h, if_pos h2]
theorem lex1_125 {c : UInt8} {t : Bytes} (h : c = 125) : lex1 (c :: t) = .tok 4 1 := by
  subst h; simp only [lex1, if_true]; rw [if_neg (by decide), if_neg (by decide)]
theorem lex1_123 {c : UInt8} {t : Bytes} (h : c = 123) : lex1 (c :: t) = .tok 3 1 := by
  subst h; simp only [lex1, if_true]; rw [if_neg (by decide), if_neg (by decide), if_neg (by decide)]
theorem lex1_word {c : UInt8} {t : Bytes} (h1 : c ≠ 37) (h2 : whtB c = false) (h3 : c ≠ 125) (h4 : c ≠ 123) :
    lex1 (c :: t) = match kindF ((c :: t).take (spanN stopB (c :: t))) with | some k => .tok k (spanN stopB (c :: t)) | none => .bad := by
  simp only [lex1]; rw [if_neg h1, if_neg (by rw [h2]; decide), if_neg h3, if_neg h4]; rfl
theorem ixWhite (x : UInt8) (w : World) : Calls Tryd.prog 54 #[.string ⟨#[0, 9, 10, 12, 13, 32]⟩, .int .u8 x.toNat] w fun e w' => e = .returned (.int .i64 (Lib.indexByte whiteL x)) ∧ w = w' :=
  (Tryd.strings_IndexByte ⟨#[0, 9, 10, 12, 13, 32]⟩ x.toNat w).mono fun _ _ h2 => ⟨by rw [h2.1]; simp [whiteL], h2.2.symm⟩
theorem ixWhite_ge (x : UInt8) : decide ((0 : Int) ≤ Lib.indexByte whiteL x) = whtB x := by
  rw [← white_has, Lib.contains_iff_indexByte]
theorem range79 (g : Nat → Value) : ((List.range 79).map g).toArray = #[g 0, g 1, g 2, g 3, g 4, g 5, g 6, g 7, g 8, g 9, g 10, g 11, g 12, g 13, g 14, g 15, g 16, g 17, g 18, g 19, g 20, g 21, g 22, g 23, g 24, g 25, g 26, g 27, g 28, g 29, g 30, g 31, g 32, g 33, g 34, g 35, g 36, g 37, g 38, g 39, g 40, g 41, g 42, g 43, g 44, g 45, g 46, g 47, g 48, g 49, g 50, g 51, g 52, g 53, g 54, g 55, g 56, g 57, g 58, g 59, g 60, g 61, g 62, g 63, g 64, g 65, g 66, g 67, g 68, g 69, g 70, g 71, g 72, g 73, g 74, g 75, g 76, g 77, g 78] := by kernel_rfl
set_option maxHeartbeats 2000000 in
set_option maxRecDepth 100000 in
theorem frame79 {a : Act} {x0 x2 x3 x4 : Value} (h1 : a.defers = []) (h2 : a.tmps.size = 79) (g0 : a.tmps.getD 0 undef = x0) (g2 : a.tmps.getD 2 undef = x2) (g3 : a.tmps.getD 3 undef = x3) (g4 : a.tmps.getD 4 undef = x4) :
    ∃ us : Nat → Value, a = { tmps := #[x0, us 1, x2, x3, x4, us 5, us 6, us 7, us 8, us 9, us 10, us 11, us 12, us 13, us 14, us 15, us 16, us 17, us 18, us 19, us 20, us 21, us 22, us 23, us 24, us 25, us 26, us 27, us 28, us 29, us 30, us 31, us 32, us 33, us 34, us 35, us 36, us 37, us 38, us 39, us 40, us 41, us 42, us 43, us 44, us 45, us 46, us 47, us 48, us 49, us 50, us 51, us 52, us 53, us 54, us 55, us 56, us 57, us 58, us 59, us 60, us 61, us 62, us 63, us 64, us 65, us 66, us 67, us 68, us 69, us 70, us 71, us 72, us 73, us 74, us 75, us 76, us 77, us 78], defers := [] } ∧ True ∧ True ∧ True ∧ True := by
  refine ⟨fun j => a.tmps.getD j undef, ?_, trivial, trivial, trivial, trivial⟩
  have e : a.tmps = ((List.range 79).map (fun j => a.tmps.getD j undef)).toArray := by
    apply Array.ext
    · simp [h2]
    · intro j hj hj2
      simp [hj]
  rw [range79 (fun j => a.tmps.getD j undef)] at e
  simp only [g0, g2, g3, g4] at e
  obtain ⟨t, d⟩ := a
  simp only at h1 e ⊢
  subst h1
  exact congrArg (fun t => ({ tmps := t, defers := [] } : Act)) e
theorem extract_take (s : ByteArray) (i n : Nat) : s.extract i (i + n) = ⟨((s.data.toList.drop i).take n).toArray⟩ :=
  bytes_eq (by rw [Lib.extract_data, Nat.add_sub_cancel_left])
theorem own_snoc {s : ByteArray} {w5 : World} {B T i n k m : Nat} {v5 : Value} {acc : List Tok} (hm : acc.length + 1 = m) (h : w5.ownsRow B T 3 v5 m (tokCells acc ++ [.int .u8 (k : Int), .string (s.extract i (i + n)), .int .i64 (i : Int)])) :
    w5.ownsRow B T 3 v5 (acc ++ [(⟨k, (s.data.toList.drop i).take n, i⟩ : Tok)]).length (tokCells (acc ++ [(⟨k, (s.data.toList.drop i).take n, i⟩ : Tok)])) := by
  subst hm
  rw [tokCells_snoc, List.length_append]
  rw [extract_take] at h
  exact h
/-- What holds at each jump to the loop's head. -/
def TokJ (s : ByteArray) (w : World) (i : Nat) (a' : Act) (w' : World) : Prop :=
  ∃ (acc : List Tok) (v : Value), i ≤ s.size ∧ acc.length ≤ i ∧ (a'.defers = [] ∧ a'.tmps.size = 79 ∧ a'.tmps.getD 0 undef = .string s ∧ a'.tmps.getD 2 undef = v ∧ a'.tmps.getD 3 undef = .int .i64 (i : Int) ∧ a'.tmps.getD 4 undef = .int .i64 0) ∧
    w'.ownsRow w.heap.size 24 3 v acc.length (tokCells acc) ∧ Below w.heap.size w w' ∧ lexS s.data.toList 0 = (acc ++ (lexS (s.data.toList.drop i) i).1, (lexS (s.data.toList.drop i) i).2)
set_option maxRecDepth 100000 in
set_option maxHeartbeats 4000000 in
theorem tokOf_any (s : ByteArray) (w : World) (hs : s.size ≤ 140737488355328) :
    Calls Tryd.prog 25 #[.string s] w fun e w' => TokP w (tokRes s.data.toList) e w' := by
  by_cases hbig : 4096 < s.size
  · have hr : tokRes s.data.toList = ([], 0, 3) := by
      unfold tokRes; rw [if_pos (by rw [← Lib.size_eq]; exact hbig)]
    have HR := Lib.hid hr; clear hr
    have e1 : (4096 : Int) < (s.size : Int) := by omega
    go_enter Tryd.func25, Tryd.ntmps25
    go_wp2_with fail
    go_step3
    go_wp2_with fail
    rw [Exit.noGoto_ret]
    go_ret3
    rw [HR.out]
    exact ⟨_, rfl, World.ownsRow_nil _ _ _ _, Below.refl _ _⟩
  · go_enter Tryd.func25, Tryd.ntmps25
    go_wp2_with fail
    refine wp_scope_back 0 (fun a' w' => ∃ i, TokJ s w i a' w') (fun a' _ => s.size - (intOf (a'.tmps.getD 3 undef)).toNat) rfl ?_ ?_
    · intro hp
      have Hp : Hid _ := Lib.hid hp
      clear hp
      go_wp2_with fail
      go_step3
      rename_i Kx hKx
      apply hKx
      apply Hp.out
      refine ⟨0, [], .slice none 0 0, by omega, by simp, ⟨rfl, rfl, rfl, rfl, rfl, rfl⟩, World.ownsRow_nil _ _ _ _, Below.refl _ _, ?_⟩
      simp
    · rintro a' w' ⟨i, acc, v, hi, hai, ⟨f1, f2, f3, f4, f5, f6⟩, hown, hb, hlx⟩
      obtain ⟨us, rfl, -, -, -, -⟩ := frame79 f1 f2 f3 f4 f5 f6
      clear f1 f2 f3 f4 f5 f6
      have Hown := Lib.hid hown; have HB := Lib.hid hb; have HLX := Lib.hid hlx
      clear hown hb hlx
      obtain ⟨A, cap, rfl, -, -, -⟩ := ownsRow_form Hown.out
      have hsl : s.data.toList.length = s.size := (Lib.size_eq s).symm
      by_cases hie : i < s.size
      · obtain ⟨x, hx⟩ : ∃ x : UInt8, s[i]'hie = x := ⟨_, rfl⟩
        obtain ⟨rest, hrest⟩ : ∃ rest, s.data.toList.drop i = x :: rest := ⟨s.data.toList.drop (i + 1), by
          rw [List.drop_eq_getElem_cons (by omega), ← hx]; rfl⟩
        have hex : (s.extract i s.size).data.toList = x :: rest := by rw [Lib.extract_to_end, hrest]
        have HX := Lib.hid hrest; have HE := Lib.hid hex; have HSL := Lib.hid hsl
        clear hrest hex hsl
        by_cases h37 : x = 37
        · have hl1 := lex1_37 (t := rest) h37
          rw [← HX.out] at hl1
          obtain ⟨hlx, hn1, hn2⟩ := lx_skip HLX.out hl1 (by rw [HSL.out]; exact hie)
          have t1 : ((x.toNat : Int) == 37) = true := by rw [h37]; rfl
          have hne : spanN eolB (s.extract i s.size).data.toList = spanN eolB (s.data.toList.drop i) := by rw [HE.out, HX.out]
          rw [HSL.out] at hn2
          have HN := Lib.hid hne; have HL := Lib.hid hlx
          clear hl1 hlx hne h37
          go_wp2_with fail
          refine (remark_any _ w' (by simp; omega)).mono ?_
          rintro e w2 ⟨rfl, hb2⟩
          rw [HN.out]
          generalize spanN eolB (s.data.toList.drop i) = n at *
          have HO2 := Lib.hid (ownsRow_below Hown.out hb2); have HB2 := Lib.hid (belowMore HB.out hb2)
          clear hb2
          go_wp2_with fail
          go_step3
          simp only [Exit.then, Exit.inBlock, Exit.jump]
          refine ⟨by trivial, ⟨i + n, acc, _, hn2, by omega, ⟨rfl, rfl, rfl, rfl, rfl, rfl⟩, HO2.out, HB2.out, HL.out⟩, ?_⟩
          simp [intOf]; omega
        have n37 : ((x.toNat : Int) == 37) = false := by rw [beq_eq_false_iff_ne]; intro e; exact h37 (UInt8.toNat_inj.1 (by simp; omega))
        by_cases hw : whtB x = true
        · have hl1 := lex1_white (t := rest) h37 hw
          rw [← HX.out] at hl1
          obtain ⟨hlx, hn1, hn2⟩ := lx_skip HLX.out hl1 (by rw [HSL.out]; exact hie)
          rw [HSL.out] at hn2
          have hge := ixWhite_ge x
          rw [hw] at hge
          have hge := of_decide_eq_true hge
          have HL := Lib.hid hlx
          clear hl1 hlx h37 hw
          go_wp2_with fail
          refine (ixWhite x w').mono ?_
          rintro e w2 ⟨rfl, rfl⟩
          generalize Lib.indexByte whiteL x = q at *
          go_wp2_with fail
          go_step3
          simp only [Exit.then, Exit.inBlock, Exit.jump]
          refine ⟨by trivial, ⟨i + 1, acc, _, hn2, by omega, ⟨rfl, rfl, rfl, rfl, rfl, rfl⟩, Hown.out, HB.out, HL.out⟩, ?_⟩
          simp [intOf]; omega
        have hw' : whtB x = false := by simpa using hw
        have hlt0 : ¬ ((0 : Int) ≤ Lib.indexByte whiteL x) := of_decide_eq_false (by rw [ixWhite_ge, hw'])
        have hbz : w.heap.size ≤ w'.heap.size := HB.out.size
        have hcb : acc.length ≤ 4096 := by omega
        by_cases h125 : x = 125
        · have hl1 := lex1_125 (t := rest) h125
          rw [← HX.out] at hl1
          obtain ⟨hlx, hn1, hn2⟩ := lx_tok HLX.out hl1 (by rw [HSL.out]; exact hie)
          rw [HSL.out] at hn2
          have HL := Lib.hid hlx
          have t1 : ((x.toNat : Int) == 125) = true := by rw [h125]; rfl
          clear hl1 hlx h37 hw h125 hw'
          go_wp2_with fail
          refine (ixWhite x w').mono ?_
          rintro e w2 ⟨rfl, rfl⟩
          generalize Lib.indexByte whiteL x = q at *
          go_wp2_with (at_builtin; refine wpList_app rfl rfl Tryd.etTok (Hown.out.alloc _) rfl rfl (Rd.new _ _ _ rfl) (m := 1) rfl (by simp [Value.oneCell']) (by omega) (by simp; omega) ?_; intro v5 w5 hown5 hg5 _ hb5)
          have HO5 := Lib.hid (own_snoc (k := 4) (n := 1) rfl hown5); have HB5 := Lib.hid (HB.out.trans (((Below.refl _ _).alloc hbz _).trans hb5))
          clear hown5 hg5 hb5
          go_wp2_with fail
          go_step3
          refine ⟨by trivial, ⟨i + 1, _, _, hn2, ?_, ⟨rfl, rfl, rfl, rfl, rfl, rfl⟩, HO5.out, HB5.out, HL.out⟩, ?_⟩
          · simp; omega
          · simp [intOf]; omega
        have n125 : ((x.toNat : Int) == 125) = false := by rw [beq_eq_false_iff_ne]; intro e; exact h125 (UInt8.toNat_inj.1 (by simp; omega))
        by_cases h123 : x = 123
        · have hl1 := lex1_123 (t := rest) h123
          rw [← HX.out] at hl1
          obtain ⟨hlx, hn1, hn2⟩ := lx_tok HLX.out hl1 (by rw [HSL.out]; exact hie)
          rw [HSL.out] at hn2
          have HL := Lib.hid hlx
          have t1 : ((x.toNat : Int) != 123) = false := by rw [h123]; rfl
          clear hl1 hlx h37 hw h125 h123 hw'
          go_wp2_with fail
          refine (ixWhite x w').mono ?_
          rintro e w2 ⟨rfl, rfl⟩
          generalize Lib.indexByte whiteL x = q at *
          go_wp2_with (at_builtin; refine wpList_app rfl rfl Tryd.etTok (Hown.out.alloc _) rfl rfl (Rd.new _ _ _ rfl) (m := 1) rfl (by simp [Value.oneCell']) (by omega) (by simp; omega) ?_; intro v5 w5 hown5 hg5 _ hb5)
          have HO5 := Lib.hid (own_snoc (k := 3) (n := 1) rfl hown5); have HB5 := Lib.hid (HB.out.trans (((Below.refl _ _).alloc hbz _).trans hb5))
          clear hown5 hg5 hb5
          go_wp2_with fail
          go_step3
          refine ⟨by trivial, ⟨i + 1, _, _, hn2, ?_, ⟨rfl, rfl, rfl, rfl, rfl, rfl⟩, HO5.out, HB5.out, HL.out⟩, ?_⟩
          · simp; omega
          · simp [intOf]; omega
        have n123 : ((x.toNat : Int) != 123) = true := by
          rw [bne_iff_ne]; intro e; exact h123 (UInt8.toNat_inj.1 (by simp; omega))
        have hl1 := lex1_word (t := rest) h37 hw' h125 h123
        have hsp := span_stop_pos (t := rest) h37 hw' h125 h123
        have hsl := spanN_le stopB (x :: rest)
        have hix := indexAny_span stopL stopB stop_has (x :: rest)
        have hll : (x :: rest).length = s.size - i := by rw [← HX.out, List.length_drop, HSL.out]
        obtain ⟨n, hn⟩ : ∃ n, spanN stopB (x :: rest) = n := ⟨_, rfl⟩
        rw [hn] at hl1 hsp hsl hix
        rw [hll] at hsl hix
        rw [← HX.out] at hl1
        have hkl : (s.extract i (i + n)).data.toList = (s.data.toList.drop i).take n := by rw [Lib.extract_data, Nat.add_sub_cancel_left]
        have hks : (s.extract i (i + n)).size = n := by simp; omega
        have HL1 := Lib.hid hl1; have HIX := Lib.hid hix; have HKL := Lib.hid hkl; have HKS := Lib.hid hks
        clear hl1 hn hll hkl hks h37 hw h125 h123 hw' hix
        by_cases hnl : n < s.size - i
        · have hix := HIX.out
          rw [if_pos hnl] at hix
          have HI2 := Lib.hid hix; clear hix
          go_wp2_with fail
          refine (ixWhite x w').mono ?_
          rintro e w2 ⟨rfl, rfl⟩
          generalize Lib.indexByte whiteL x = q at *
          go_wp2_with fail
          refine (indexAny_any _ ⟨#[0, 9, 10, 12, 13, 32, 37, 123, 125]⟩ w' (by decide) (by decide) (by simp; omega) (plain_of_all (l := stopL) (by decide))).mono ?_
          rintro e w2 ⟨rfl, hb2⟩
          rw [show Lib.indexAny (s.extract i s.size).data.toList (⟨#[0, 9, 10, 12, 13, 32, 37, 123, 125]⟩ : ByteArray).data.toList = (n : Int) from by rw [HE.out]; exact HI2.out]
          have HO2 := Lib.hid (ownsRow_below Hown.out hb2); have HB2 := Lib.hid (belowMore HB.out hb2)
          clear hb2
          go_wp2_with fail
          refine (kind_any _ w2 (by rw [HKS.out]; omega) (by rw [HKS.out]; exact hsp)).mono ?_
          rintro e w3 ⟨k, b, rfl, hkf, hb3⟩
          rw [HKL.out] at hkf
          have HKF := Lib.hid hkf
          have HO3 := Lib.hid (ownsRow_below HO2.out hb3); have HB3 := Lib.hid (belowMore HB2.out hb3)
          clear hkf hb3
          cases b with
          | false =>
            have hl1 := HL1.out
            have hkf := HKF.out
            rw [hkf] at hl1
            have hbad := lexS_bad (l := s.data.toList.drop i) hl1 i
            have hr : tokRes s.data.toList = ([], i, 13) := by
              unfold tokRes
              rw [if_neg (by rw [HSL.out]; omega), HLX.out, hbad, if_neg Bool.false_ne_true]
            have HR := Lib.hid hr
            clear hl1 hkf hbad hr
            go_wp2_with fail
            simp only [Exit.then, Exit.inBlock, Exit.jump]
            go_ret3
            rw [HR.out]
            exact ⟨_, rfl, World.ownsRow_nil _ _ _ _, HB3.out⟩
          | true =>
            have hl1 := HL1.out
            have hkf := HKF.out
            rw [hkf] at hl1
            obtain ⟨hlx, hn1, hn2⟩ := lx_tok (k := k) HLX.out hl1 (by rw [HSL.out]; exact hie)
            rw [HSL.out] at hn2
            have HL := Lib.hid hlx
            have hbz : w.heap.size ≤ w3.heap.size := HB3.out.size
            clear hl1 hlx hkf
            go_wp2_with (at_builtin; refine wpList_app rfl rfl Tryd.etTok (HO3.out.alloc _) rfl rfl (Rd.new _ _ _ rfl) (m := 1) rfl (by simp [Value.oneCell']) (by omega) (by simp; omega) ?_; intro v5 w5 hown5 hg5 _ hb5)
            have HO5 := Lib.hid (own_snoc (k := k) (n := n) rfl hown5); have HB5 := Lib.hid (HB3.out.trans (((Below.refl _ _).alloc hbz _).trans hb5))
            clear hown5 hg5 hb5
            go_wp2_with fail
            go_step3
            refine ⟨by trivial, ⟨i + n, _, _, hn2, ?_, ⟨rfl, rfl, rfl, rfl, rfl, rfl⟩, HO5.out, HB5.out, HL.out⟩, ?_⟩
            · simp; omega
            · simp [intOf]; omega
        · obtain rfl : n = s.size - i := by omega
          have hix := HIX.out
          rw [if_neg hnl] at hix
          have hni : (s.size : Int) - (i : Int) = ((s.size - i : Nat) : Int) := by omega
          have HI2 := Lib.hid hix; clear hix
          go_wp2_with fail
          refine (ixWhite x w').mono ?_
          rintro e w2 ⟨rfl, rfl⟩
          generalize Lib.indexByte whiteL x = q at *
          go_wp2_with fail
          refine (indexAny_any _ ⟨#[0, 9, 10, 12, 13, 32, 37, 123, 125]⟩ w' (by decide) (by decide) (by simp; omega) (plain_of_all (l := stopL) (by decide))).mono ?_
          rintro e w2 ⟨rfl, hb2⟩
          rw [show Lib.indexAny (s.extract i s.size).data.toList (⟨#[0, 9, 10, 12, 13, 32, 37, 123, 125]⟩ : ByteArray).data.toList = -1 from by rw [HE.out]; exact HI2.out]
          have HO2 := Lib.hid (ownsRow_below Hown.out hb2); have HB2 := Lib.hid (belowMore HB.out hb2)
          clear hb2
          generalize s.size - i = n at *
          go_wp2_with fail
          refine (kind_any _ w2 (by rw [HKS.out]; omega) (by rw [HKS.out]; exact hsp)).mono ?_
          rintro e w3 ⟨k, b, rfl, hkf, hb3⟩
          rw [HKL.out] at hkf
          have HKF := Lib.hid hkf
          have HO3 := Lib.hid (ownsRow_below HO2.out hb3); have HB3 := Lib.hid (belowMore HB2.out hb3)
          clear hkf hb3
          cases b with
          | false =>
            have hl1 := HL1.out
            have hkf := HKF.out
            rw [hkf] at hl1
            have hbad := lexS_bad (l := s.data.toList.drop i) hl1 i
            have hr : tokRes s.data.toList = ([], i, 13) := by
              unfold tokRes
              rw [if_neg (by rw [HSL.out]; omega), HLX.out, hbad, if_neg Bool.false_ne_true]
            have HR := Lib.hid hr
            clear hl1 hkf hbad hr
            go_wp2_with fail
            simp only [Exit.then, Exit.inBlock, Exit.jump]
            go_ret3
            rw [HR.out]
            exact ⟨_, rfl, World.ownsRow_nil _ _ _ _, HB3.out⟩
          | true =>
            have hl1 := HL1.out
            have hkf := HKF.out
            rw [hkf] at hl1
            obtain ⟨hlx, hn1, hn2⟩ := lx_tok (k := k) HLX.out hl1 (by rw [HSL.out]; exact hie)
            rw [HSL.out] at hn2
            have HL := Lib.hid hlx
            have hbz : w.heap.size ≤ w3.heap.size := HB3.out.size
            clear hl1 hlx hkf
            go_wp2_with (at_builtin; refine wpList_app rfl rfl Tryd.etTok (HO3.out.alloc _) rfl rfl (Rd.new _ _ _ rfl) (m := 1) rfl (by simp [Value.oneCell']) (by omega) (by simp; omega) ?_; intro v5 w5 hown5 hg5 _ hb5)
            have HO5 := Lib.hid (own_snoc (k := k) (n := n) rfl hown5); have HB5 := Lib.hid (HB3.out.trans (((Below.refl _ _).alloc hbz _).trans hb5))
            clear hown5 hg5 hb5
            go_wp2_with fail
            go_step3
            refine ⟨by trivial, ⟨i + n, _, _, hn2, ?_, ⟨rfl, rfl, rfl, rfl, rfl, rfl⟩, HO5.out, HB5.out, HL.out⟩, ?_⟩
            · simp; omega
            · simp [intOf]; omega
      · obtain rfl : i = s.size := by omega
        have hr : tokRes s.data.toList = (acc, s.size, 0) := by
          have h0 : s.data.toList.drop s.size = [] := List.drop_eq_nil_of_le (by omega)
          have h1 := HLX.out
          rw [h0, lexS_nil, List.append_nil] at h1
          unfold tokRes
          rw [if_neg (by omega), h1, if_pos rfl]
        have HR := Lib.hid hr; clear hr
        go_wp2_with fail
        simp only [Exit.jump]
        go_ret3
        rw [HR.out]
        exact ⟨_, rfl, Hown.out, HB.out⟩
end Go.Proofs.YthhmahmclkmjpaaDoor
