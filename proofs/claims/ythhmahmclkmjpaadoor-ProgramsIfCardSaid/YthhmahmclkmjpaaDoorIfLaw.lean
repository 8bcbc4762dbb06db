/- Contracts and plain laws that the claims of this seat use (IfLaw), for all arguments that their hypotheses name. -/
import Derived.Test.YthhmahmclkmjpaaDoorForLaw
namespace Go.Proofs.YthhmahmclkmjpaaDoor
open Go
/-! A program within another one: its steps stand farther behind, one block deeper. -/
def up (q : Nat) (c : Cd) : Cd := if jumpB c then (c.1, c.2 + (q : Int)) else c
def Emb (L L1 : List KT) (p : Nat) : Prop := ∀ i, i < L.length → L1[i + p]? = L[i]?
theorem Emb.isK {L L1 : List KT} {p : Nat} (h : Emb L L1 p) {i : Nat} (hi : i < L.length) (k : Nat) : isK L1 (i + p) k = isK L i k := by
  unfold Go.Proofs.YthhmahmclkmjpaaDoor.isK; rw [h i hi]
theorem Emb.isName {L L1 : List KT} {p : Nat} (h : Emb L L1 p) {i : Nat} (hi : i < L.length) (n : Bytes) : isName L1 (i + p) n = isName L i n := by
  unfold Go.Proofs.YthhmahmclkmjpaaDoor.isName; rw [h i hi]
theorem up_flat {q : Nat} {c : Cd} (h : c.1 ≠ 3 ∧ c.1 ≠ 4) : up q c = c := by
  have : jumpB c = false := by unfold jumpB; simp; omega
  unfold up; rw [this]; rfl
theorem up_jump {q : Nat} {k : Nat} {x : Int} (h : k = 3 ∨ k = 4) : up q (k, x) = (k, x + (q : Int)) := by
  have : jumpB (k, x) = true := by unfold jumpB; simpa using h
  unfold up; rw [this]; rfl
theorem ok_eq {i j : Nat} {a b : List Cd} (h : i = j) (h' : a = b) : PR.ok ⟨i, a⟩ = PR.ok ⟨j, b⟩ := by rw [h, h']
theorem setN_at_app {a b : List Cd} {n k : Nat} {y x : Int} (h : a.length = n) : setN (a ++ (k, y) :: b) n x = a ++ (k, x) :: b := by
  subst h
  unfold setN
  simp
theorem setN_app (a b : List Cd) (k : Nat) (y x : Int) : setN (a ++ (k, y) :: b) a.length x = a ++ (k, x) :: b := by
  unfold setN
  simp
/-- What a run within another program comes to. -/
def Ext (L : List KT) (G : List KT → Nat → Nat → PS → PR) (f d : Nat) (s s' : PS) : Prop :=
  ∃ (N : List Cd) (b : Bool), s'.out = s.out ++ N ∧ ∀ p q L1 f1 o1, Emb L L1 p → f ≤ f1 → o1.length = s.out.length + q → q ≤ 1000000 →
    (if b = true then G L1 f1 (d + 1) ⟨s.at_ + p, o1⟩ = .ok ⟨s'.at_ + p, o1 ++ N.map (up q)⟩ else ∃ i, G L1 f1 (d + 1) ⟨s.at_ + p, o1⟩ = .fail 14 i)
def GI : List KT → Nat → Nat → PS → PR := fun L f d s => itemsF L f d s
def GB : List KT → Nat → Nat → PS → PR := fun L f d s => blockF L (itemsF L f) d s
def GC : List KT → Nat → Nat → PS → PR := fun L f d s => choiceF L (itemsF L f) d s
def GO : List KT → Nat → Nat → PS → PR := fun L f d s => itemF L (itemsF L f) d s
section
variable {L : List KT} {f : Nat} (hL : L.length ≤ 1000000) (hi : ∀ d s s', s.out.length ≤ s.at_ → itemsF L f d s = .ok s' → Ext L GI f d s s')
include hi
theorem blockF_ext {d : Nat} {s s' : PS} (h0 : s.out.length ≤ s.at_ + 1) (hb : blockF L (itemsF L f) d s = .ok s') : Ext L GB f d s s' := by
  unfold blockF at hb
  split at hb
  · rename_i hk
    have hlt := isK_lt hk
    split at hb
    · rename_i hd
      obtain ⟨N, b, hN, hall⟩ := hi d ⟨s.at_ + 1, s.out⟩ s' (by simp only; omega) hb
      by_cases hd1 : d + 1 ≤ 16
      · refine ⟨N, b, hN, fun p q L1 f1 o1 he hf ho hq => ?_⟩
        have := hall p q L1 f1 o1 he hf ho hq
        unfold GB blockF
        simp only
        rw [he.isK hlt, if_pos hk, if_pos hd1]
        simpa only [GI, show s.at_ + 1 + p = s.at_ + p + 1 by omega] using this
      · refine ⟨N, false, hN, fun p q L1 f1 o1 he hf ho hq => ?_⟩
        rw [if_neg (by decide)]
        unfold GB blockF
        simp only
        rw [he.isK hlt, if_pos hk, if_neg hd1]
        exact ⟨_, rfl⟩
    · cases hb
  · cases hb
include hL
theorem choiceF_ext {d : Nat} {s s' : PS} (h0 : s.out.length ≤ s.at_) (hb : choiceF L (itemsF L f) d s = .ok s') : Ext L GC f d s s' := by
  unfold choiceF at hb
  split at hb
  · cases hb
  · rename_i s1 h1
    have f1 := blockF_fwd (itemsF_fwd f) h1
    obtain ⟨N1, b1, hN1, all1⟩ := blockF_ext hi (by simp; omega) h1
    simp only [List.length_append, List.length_singleton] at all1
    unfold Fwd at f1
    simp only [List.length_append, List.length_singleton] at f1
    have hl1 : s1.out.length = s.out.length + 1 + N1.length := by rw [hN1]; simp only [List.length_append, List.length_singleton]
    simp only [List.append_assoc, List.singleton_append] at hN1
    split at hb
    · rename_i hn
      have hlt := isName_lt hn
      injection hb with hb
      subst hb
      refine ⟨(4, w32 s1.out.length) :: N1, b1, by simp only; rw [hN1, setN_app], fun p q L1 f1 o1 he hf ho hq => ?_⟩
      have hh := all1 p q L1 f1 (o1 ++ [(4, 0)]) he hf (by simp; omega) hq
      cases b1
      · rw [if_neg (by decide)] at hh ⊢
        obtain ⟨i, hh⟩ := hh
        unfold GB at hh
        unfold GC choiceF
        simp only
        rw [hh]
        exact ⟨i, rfl⟩
      · rw [if_pos rfl] at hh ⊢
        unfold GB at hh
        unfold GC choiceF
        simp only
        rw [hh]
        simp only
        rw [he.isName hlt, if_pos hn]
        simp only [List.append_assoc, List.singleton_append, setN_app, List.map_cons]
        have e1 : w32 s1.out.length = (s1.out.length : Int) := w32_id (by omega)
        have e2 : w32 (o1 ++ (4, 0) :: N1.map (up q)).length = ((s1.out.length + q : Nat) : Int) := by
          have : (o1 ++ (4, 0) :: N1.map (up q)).length = s1.out.length + q := by simp only [List.length_append, List.length_cons, List.length_map]; omega
          rw [this]; exact w32_id (by omega)
        rw [up_jump (.inr rfl), e1, e2]
        exact ok_eq (by omega) (by rw [Int.natCast_add])
    · rename_i hnn
      split at hb
      · rename_i hk3
        have hlt3 := isK_lt hk3
        split at hb
        · cases hb
        · rename_i s2 h2
          have f2 := blockF_fwd (itemsF_fwd f) h2
          unfold Fwd at f2
          simp only [setN_len, List.length_append, List.length_singleton] at f2
          have hmid : setN (s1.out ++ [(3, 0)]) s.out.length (w32 (s1.out.length + 1)) = s.out ++ (4, w32 (s1.out.length + 1)) :: (N1 ++ [(3, 0)]) := by
            rw [hN1]
            simp only [List.append_assoc, List.cons_append]
            rw [setN_app]
          obtain ⟨N2, b2, hN2, all2⟩ := blockF_ext hi (by simp only [setN_len, List.length_append, List.length_singleton]; omega) h2
          simp only at hN2
          rw [hmid] at hN2
          simp only [setN_len, List.length_append, List.length_singleton] at all2
          have hl2 : s2.out.length = s1.out.length + 1 + N2.length := by rw [hN2, hl1]; simp only [List.length_append, List.length_cons, List.length_nil]; omega
          split at hb
          · rename_i hn
            have hlt := isName_lt hn
            injection hb with hb
            subst hb
            have hs2 : s2.out = (s.out ++ (4, w32 (s1.out.length + 1)) :: N1) ++ (3, 0) :: N2 := by
              rw [hN2]; simp
            have hl1' : s1.out.length = (s.out ++ (4, w32 (s1.out.length + 1)) :: N1).length := by rw [hl1]; simp; omega
            have hend : setN s2.out s1.out.length (w32 s2.out.length) = s.out ++ (4, w32 (s1.out.length + 1)) :: (N1 ++ (3, w32 s2.out.length) :: N2) := by
              generalize w32 s2.out.length = x
              rw [hs2, setN_at_app hl1'.symm]
              simp
            refine ⟨(4, w32 (s1.out.length + 1)) :: (N1 ++ (3, w32 s2.out.length) :: N2), b1 && b2, hend, fun p q L1 f1 o1 he hf ho hq => ?_⟩
            have hh := all1 p q L1 f1 (o1 ++ [(4, 0)]) he hf (by simp; omega) hq
            cases b1
            · rw [Bool.false_and, if_neg (by decide)]
              rw [if_neg (by decide)] at hh
              obtain ⟨i, hh⟩ := hh
              unfold GB at hh
              unfold GC choiceF
              simp only
              rw [hh]
              exact ⟨i, rfl⟩
            · rw [if_pos rfl] at hh
              unfold GB at hh
              obtain ⟨o2, ho2⟩ : ∃ o2, o2 = setN (o1 ++ [(4, 0)] ++ N1.map (up q) ++ [(3, 0)]) o1.length (w32 ((o1 ++ [(4, 0)] ++ N1.map (up q)).length + 1)) := ⟨_, rfl⟩
              have ho2l : o2.length = s1.out.length + 1 + q := by rw [ho2, setN_len]; simp only [List.length_append, List.length_singleton, List.length_map]; omega
              have hh2 := all2 p q L1 f1 o2 he hf ho2l hq
              unfold GC choiceF
              simp only
              rw [hh]
              simp only
              have hnn' : ¬ isName L1 (s1.at_ + p) ifL = true := by rw [he.isName hlt3]; exact hnn
              rw [if_neg hnn', he.isK hlt3, if_pos hk3, ← ho2]
              unfold GB at hh2
              cases b2
              · rw [Bool.and_false, if_neg (by decide)]
                rw [if_neg (by decide)] at hh2
                obtain ⟨i, hh2⟩ := hh2
                rw [hh2]
                exact ⟨i, rfl⟩
              · rw [Bool.and_true, if_pos rfl]
                rw [if_pos rfl] at hh2
                rw [hh2]
                simp only
                rw [he.isName hlt, if_pos hn]
                have hla : (o1 ++ [(4, 0)] ++ N1.map (up q)).length = s1.out.length + q := by simp only [List.length_append, List.length_singleton, List.length_map]; omega
                have ho2' : o2 = (o1 ++ (4, ((s1.out.length + q + 1 : Nat) : Int)) :: N1.map (up q)) ++ [(3, 0)] := by
                  rw [ho2, hla, w32_id (by omega)]
                  have : o1 ++ [(4, 0)] ++ N1.map (up q) ++ [(3, 0)] = o1 ++ (4, 0) :: (N1.map (up q) ++ [(3, 0)]) := by simp
                  rw [this, setN_app]
                  simp
                rw [hla]
                have hll : (o2 ++ N2.map (up q)).length = s2.out.length + q := by simp only [List.length_append, List.length_map]; omega
                rw [hll, ho2', List.append_assoc, List.singleton_append, setN_at_app (by simp only [List.length_append, List.length_cons, List.length_map]; omega)]
                rw [List.map_cons, List.map_append, List.map_cons, up_jump (.inr rfl), up_jump (.inl rfl), w32_id (n := s1.out.length + 1) (by omega), w32_id (n := s2.out.length) (by omega), w32_id (n := s2.out.length + q) (by omega)]
                refine ok_eq (by omega) ?_
                have g1 : ((s1.out.length + q + 1 : Nat) : Int) = ((s1.out.length + 1 : Nat) : Int) + (q : Int) := by omega
                have g2 : ((s2.out.length + q : Nat) : Int) = (s2.out.length : Int) + (q : Int) := by omega
                rw [g1, g2]
                simp only [List.append_assoc, List.cons_append]
          · cases hb
      · cases hb
theorem itemF_ext {d : Nat} {s s' : PS} (h0 : s.out.length ≤ s.at_) (hb : itemF L (itemsF L f) d s = .ok s') : Ext L GO f d s s' := by
  unfold itemF at hb
  split at hb
  · cases hb
  · rename_i t ht
    have hlt := (List.getElem?_eq_some_iff.1 ht).1
    split at hb
    · rename_i h3
      obtain ⟨N, b, hN, hall⟩ := choiceF_ext hL hi h0 hb
      refine ⟨N, b, hN, fun p q L1 f1 o1 he hf ho hq => ?_⟩
      have := hall p q L1 f1 o1 he hf ho hq
      unfold GO itemF
      simp only
      rw [he _ hlt, ht]
      simp only
      rw [if_pos h3]
      exact this
    · rename_i h3
      split at hb
      · rename_i h1
        split at hb
        · rename_i n hn
          injection hb with hb
          subst hb
          refine ⟨[(t.1, n)], true, rfl, fun p q L1 f1 o1 he hf ho hq => ?_⟩
          rw [if_pos rfl]
          unfold GO itemF
          simp only
          rw [he _ hlt, ht]
          simp only
          rw [if_neg h3, if_pos h1, hn]
          simp only [List.map_cons, List.map_nil]
          rw [up_flat (by simp only; omega)]
          congr 2; omega
        · cases hb
      · rename_i h1
        split at hb
        · rename_i c hc
          split at hb
          · rename_i h2
            injection hb with hb
            subst hb
            refine ⟨[c], true, rfl, fun p q L1 f1 o1 he hf ho hq => ?_⟩
            rw [if_pos rfl]
            unfold GO itemF
            simp only
            rw [he _ hlt, ht]
            simp only
            rw [if_neg h3, if_neg h1, hc]
            simp only
            rw [if_pos h2]
            simp only [List.map_cons, List.map_nil]
            rw [up_flat (opF_op hc)]
            congr 2; omega
          · cases hb
        · cases hb
end
theorem itemsF_ext {L : List KT} (hL : L.length ≤ 1000000) : ∀ (f d : Nat) (s s' : PS), s.out.length ≤ s.at_ → itemsF L f d s = .ok s' → Ext L GI f d s s'
  | 0, _, _, _, _, h => by cases h
  | f + 1, d, s, s', h0, h => by
    unfold itemsF at h
    split at h
    · rename_i hk
      have hlt := isK_lt hk
      injection h with h
      subst h
      refine ⟨[], true, by simp, fun p q L1 f1 o1 he hf ho hq => ?_⟩
      rw [if_pos rfl]
      obtain ⟨g, rfl⟩ : ∃ g, f1 = g + 1 := ⟨f1 - 1, by omega⟩
      unfold GI itemsF
      simp only
      rw [he.isK hlt, if_pos hk]
      simp
      omega
    · rename_i hk
      split at h
      · cases h
      · rename_i s1 h1
        have f1 := itemF_fwd (itemsF_fwd f) h1
        unfold Fwd at f1
        have hlt : s.at_ < L.length := by omega
        obtain ⟨N1, b1, hN1, all1⟩ := itemF_ext hL (itemsF_ext hL f) h0 h1
        obtain ⟨N2, b2, hN2, all2⟩ := itemsF_ext hL f d s1 s' (by omega) h
        refine ⟨N1 ++ N2, b1 && b2, by rw [hN2, hN1]; simp, fun p q L1 f1 o1 he hf ho hq => ?_⟩
        obtain ⟨g, rfl⟩ : ∃ g, f1 = g + 1 := ⟨f1 - 1, by omega⟩
        have hh := all1 p q L1 g o1 he (by omega) ho hq
        have hh2 := all2 p q L1 g (o1 ++ N1.map (up q)) he (by omega) (by rw [hN1]; simp; omega) hq
        have hk' : ¬ isK L1 (s.at_ + p) 4 = true := by rw [he.isK hlt]; exact hk
        unfold GI itemsF
        simp only
        rw [if_neg hk']
        unfold GO at hh
        unfold GI at hh2
        cases b1
        · rw [Bool.false_and, if_neg (by decide)]
          rw [if_neg (by decide)] at hh
          obtain ⟨i, hh⟩ := hh
          rw [hh]
          exact ⟨i, rfl⟩
        · rw [if_pos rfl] at hh
          rw [hh]
          simp only
          cases b2
          · rw [Bool.and_false, if_neg (by decide)]
            rw [if_neg (by decide)] at hh2
            exact hh2
          · rw [Bool.and_true, if_pos rfl]
            rw [if_pos rfl] at hh2
            rw [hh2, List.map_append, List.append_assoc]
/-- The two programs that a program stands within. -/
def oneL (T : List KT) : List KT := (3, [123]) :: (2, trueL) :: (T ++ [(2, ifL), (4, [125])])
def twoL (T : List KT) : List KT := (3, [123]) :: (2, trueL) :: (T ++ (T ++ [(2, ifelseL), (4, [125])]))
theorem wrap_run {L1 : List KT} {m : Nat} (hl : L1.length = m + 1) (h0 : isK L1 0 3 = true) (h1 : L1[1]? = some (2, trueL)) (h2 : isK L1 2 3 = true) :
    progF L1 = match choiceF L1 (itemsF L1 m) 2 ⟨2, [(2, 1)]⟩ with
      | .fail e i => ([], i, e)
      | .ok s => match itemsF L1 m 1 s with
        | .fail e i => ([], i, e)
        | .ok s => if s.at_ = L1.length then (if s.out.length ≤ 1024 then (s.out, s.at_, 0) else ([], s.at_, 3)) else ([], s.at_, 13) := by
  have k1 : isK L1 1 4 = false := by unfold isK; rw [h1]; rfl
  obtain ⟨t, ht, ht3⟩ : ∃ t, L1[2]? = some t ∧ t.1 = 3 := by
    unfold isK at h2
    split at h2
    · rename_i t ht; exact ⟨t, ht, by simpa using h2⟩
    · cases h2
  have k2 : isK L1 2 4 = false := by unfold isK; rw [ht]; simp [ht3]
  have i1 : itemF L1 (itemsF L1 (m + 1)) 1 ⟨1, []⟩ = .ok ⟨2, [(2, 1)]⟩ := by
    unfold itemF
    simp only
    rw [h1]
    simp only
    rw [if_neg (by decide), if_neg (by decide), show opF trueL = some (2, 1) from rfl]
    rfl
  have i2 : itemF L1 (itemsF L1 m) 1 ⟨2, [(2, 1)]⟩ = choiceF L1 (itemsF L1 m) 2 ⟨2, [(2, 1)]⟩ := by
    unfold itemF
    simp only
    rw [ht]
    simp only
    rw [if_pos ht3]
  have e : itemsF L1 (L1.length + 1) 1 ⟨0 + 1, []⟩ = match choiceF L1 (itemsF L1 m) 2 ⟨2, [(2, 1)]⟩ with
      | .fail e i => .fail e i
      | .ok s => itemsF L1 m 1 s := by
    rw [hl]
    rw [itemsF]
    simp only [Nat.zero_add]
    rw [k1, if_neg (by decide), i1]
    simp only
    rw [itemsF]
    simp only
    rw [k2, if_neg (by decide), i2]
    cases choiceF L1 (itemsF L1 m) 2 ⟨2, [(2, 1)]⟩ <;> rfl
  unfold progF blockF
  simp only
  rw [h0, if_pos rfl, if_pos (by decide), e]
  generalize choiceF L1 (itemsF L1 m) 2 ⟨2, [(2, 1)]⟩ = R
  cases R <;> rfl
theorem wrap_end {L1 : List KT} {m : Nat} (hl : L1.length = m + 2) (hk : isK L1 (m + 1) 4 = true) (out : List Cd) (ho : out.length ≤ 1024) :
    (match itemsF L1 (m + 1) 1 ⟨m + 1, out⟩ with
        | .fail e i => ([], i, e)
        | .ok s => if s.at_ = L1.length then (if s.out.length ≤ 1024 then (s.out, s.at_, 0) else ([], s.at_, 3)) else ([], s.at_, 13)) = (out, L1.length, 0) := by
  rw [itemsF]
  simp only
  rw [hk, if_pos rfl]
  simp only
  rw [if_pos (by omega), if_pos ho, hl]
/-- A program as a block behind a word, and if; and as both blocks of ifelse. -/
theorem if_law {T : List KT} (hL : T.length ≤ 1000) (he : (progF T).2.2 = 0) (hc : (progF T).1.length ≤ 400) :
    ((progF (oneL T)).2.2 = 14 ∧ (progF (twoL T)).2.2 = 14) ∨
    (progF (oneL T) = ((2, 1) :: (4, (((progF T).1.length + 2 : Nat) : Int)) :: (progF T).1.map (up 2), T.length + 4, 0) ∧
     progF (twoL T) = ((2, 1) :: (4, (((progF T).1.length + 3 : Nat) : Int)) :: ((progF T).1.map (up 2) ++ (3, ((2 * (progF T).1.length + 3 : Nat) : Int)) :: (progF T).1.map (up ((progF T).1.length + 3))), 2 * T.length + 4, 0)) := by
  obtain ⟨s, hb, hat, hout⟩ : ∃ s, blockF T (itemsF T (T.length + 1)) 1 ⟨0, []⟩ = .ok s ∧ s.at_ = T.length ∧ (progF T).1 = s.out := by
    unfold progF at he ⊢
    split at he
    · rename_i e i h
      simp only at he
      subst he
      exfalso
      unfold blockF at h
      split at h
      · rename_i hk
        have := isK_lt hk
        split at h
        · exact (fail_at _ _ ⟨0 + 1, []⟩ 0 i (by simp only at this ⊢; omega) h).1 rfl
        · injection h with h1 h2; cases h1
      · injection h with h1 h2; cases h1
    · rename_i s h
      refine ⟨s, h, ?_⟩
      split at he
      · rename_i h1
        split at he
        · rename_i h2
          exact ⟨h1, by rw [if_pos h1, if_pos h2]⟩
        · cases he
      · cases he
  rw [hout] at hc ⊢
  have hk3 : isK T 0 3 = true := by
    unfold blockF at hb
    split at hb
    · assumption
    · cases hb
  have hlt := isK_lt hk3
  obtain ⟨N, b, hN, hall⟩ := blockF_ext (fun d s s' h0 h => itemsF_ext (by omega : T.length ≤ 1000000) _ d s s' h0 h) (by simp) hb
  simp only [List.nil_append] at hN
  subst hN
  generalize hcc : s.out = c at *
  unfold GB at hall
  -- the first one
  have e1 : Emb T (oneL T) 2 := fun i hi => by
    unfold oneL
    rw [show i + 2 = (i + 1) + 1 from rfl, List.getElem?_cons_succ, List.getElem?_cons_succ, List.getElem?_append_left hi]
  have e2 : Emb T (twoL T) 2 := fun i hi => by
    unfold twoL
    rw [show i + 2 = (i + 1) + 1 from rfl, List.getElem?_cons_succ, List.getElem?_cons_succ, List.getElem?_append_left hi]
  have e3 : Emb T (twoL T) (T.length + 2) := fun i hi => by
    unfold twoL
    rw [show i + (T.length + 2) = (i + T.length + 1) + 1 by omega, List.getElem?_cons_succ, List.getElem?_cons_succ, List.getElem?_append_right (by omega), show i + T.length - T.length = i by omega, List.getElem?_append_left hi]
  have l1 : (oneL T).length = T.length + 4 := by simp [oneL]
  have l2 : (twoL T).length = 2 * T.length + 4 := by simp [twoL]; omega
  have w1 := wrap_run (L1 := oneL T) (m := T.length + 3) l1 rfl rfl (by rw [show (2 : Nat) = 0 + 2 from rfl, e1.isK hlt]; exact hk3)
  have w2 := wrap_run (L1 := twoL T) (m := 2 * T.length + 3) l2 rfl rfl (by rw [show (2 : Nat) = 0 + 2 from rfl, e2.isK hlt]; exact hk3)
  have r1 := hall 2 2 (oneL T) (T.length + 3) [(2, 1), (4, 0)] e1 (by omega) rfl (by omega)
  have r2 := hall 2 2 (twoL T) (2 * T.length + 3) [(2, 1), (4, 0)] e2 (by omega) rfl (by omega)
  simp only [Nat.zero_add] at r1 r2
  cases b
  · left
    rw [if_neg (by decide)] at r1 r2
    obtain ⟨i1, r1⟩ := r1
    obtain ⟨i2, r2⟩ := r2
    rw [w1, w2]
    unfold choiceF
    simp only [List.singleton_append]
    rw [r1, r2]
    exact ⟨rfl, rfl⟩
  · right
    rw [if_pos rfl] at r1 r2
    constructor
    · have n1 : isName (oneL T) (T.length + 2) ifL = true := by
        unfold isName oneL
        rw [show T.length + 2 = (T.length + 1) + 1 from rfl, List.getElem?_cons_succ, List.getElem?_cons_succ, List.getElem?_append_right (Nat.le_refl _), Nat.sub_self]
        rfl
      have n2 : isK (oneL T) (T.length + 3) 4 = true := by
        unfold isK oneL
        rw [show T.length + 3 = (T.length + 2) + 1 from rfl, List.getElem?_cons_succ, List.getElem?_cons_succ, List.getElem?_append_right (by omega), show T.length + 1 - T.length = 1 by omega]
        rfl
      have ch : choiceF (oneL T) (itemsF (oneL T) (T.length + 3)) 2 ⟨2, [(2, 1)]⟩ = .ok ⟨T.length + 3, (2, 1) :: (4, ((c.length + 2 : Nat) : Int)) :: c.map (up 2)⟩ := by
        unfold choiceF
        simp only [List.singleton_append]
        rw [r1]
        simp only
        rw [hat, n1, if_pos rfl]
        have : ([(2, 1), (4, 0)] : List Cd) ++ c.map (up 2) = [(2, 1)] ++ (4, 0) :: c.map (up 2) := rfl
        rw [this, setN_app, w32_id (by simp; omega)]
        congr 2
        simp
        omega
      rw [w1, ch]
      simp only
      rw [wrap_end (m := T.length + 2) l1 n2 _ (by simp; omega), l1]
    · have n0 : isName (twoL T) (T.length + 2) ifL = false := by
        have : T.length + 2 = 0 + (T.length + 2) := by omega
        rw [this, e3.isName hlt]
        unfold isK at hk3
        unfold isName
        split at hk3
        · rename_i t ht
          have : t.1 = 3 := by simpa using hk3
          simp [this]
        · cases hk3
      have n3 : isK (twoL T) (T.length + 2) 3 = true := by
        have : T.length + 2 = 0 + (T.length + 2) := by omega
        rw [this, e3.isK hlt]; exact hk3
      have n1 : isName (twoL T) (2 * T.length + 2) ifelseL = true := by
        unfold isName twoL
        rw [show 2 * T.length + 2 = (2 * T.length + 1) + 1 from rfl, List.getElem?_cons_succ, List.getElem?_cons_succ, List.getElem?_append_right (by omega), List.getElem?_append_right (by omega), show 2 * T.length - T.length - T.length = 0 by omega]
        rfl
      have n2 : isK (twoL T) (2 * T.length + 3) 4 = true := by
        unfold isK twoL
        rw [show 2 * T.length + 3 = (2 * T.length + 2) + 1 from rfl, List.getElem?_cons_succ, List.getElem?_cons_succ, List.getElem?_append_right (by omega), List.getElem?_append_right (by omega), show 2 * T.length + 1 - T.length - T.length = 1 by omega]
        rfl
      have ch : choiceF (twoL T) (itemsF (twoL T) (2 * T.length + 3)) 2 ⟨2, [(2, 1)]⟩ = .ok ⟨2 * T.length + 3, (2, 1) :: (4, ((c.length + 3 : Nat) : Int)) :: (c.map (up 2) ++ (3, ((2 * c.length + 3 : Nat) : Int)) :: c.map (up (c.length + 3)))⟩ := by
        obtain ⟨o2, ho2⟩ : ∃ o2 : List Cd, o2 = ((2, 1) :: (4, ((c.length + 3 : Nat) : Int)) :: c.map (up 2)) ++ [(3, 0)] := ⟨_, rfl⟩
        have r3 := hall (T.length + 2) (c.length + 3) (twoL T) (2 * T.length + 3) o2 e3 (by omega) (by rw [ho2]; simp) (by omega)
        rw [if_pos rfl] at r3
        simp only [Nat.zero_add] at r3
        unfold choiceF
        simp only [List.singleton_append]
        rw [r2]
        simp only
        rw [hat, n0, if_neg (by decide), n3, if_pos rfl]
        have h1 : setN (([(2, 1), (4, 0)] : List Cd) ++ c.map (up 2) ++ [(3, 0)]) [((2, 1) : Cd)].length (w32 ((([(2, 1), (4, 0)] : List Cd) ++ c.map (up 2)).length + 1)) = o2 := by
          have : ([(2, 1), (4, 0)] : List Cd) ++ c.map (up 2) ++ [(3, 0)] = [(2, 1)] ++ (4, 0) :: (c.map (up 2) ++ [(3, 0)]) := rfl
          rw [this, setN_app, w32_id (by simp; omega), ho2]
          simp
          omega
        rw [h1, r3]
        simp only
        rw [hat, show T.length + (T.length + 2) = 2 * T.length + 2 by omega, n1, if_pos rfl]
        have h2 : (([(2, 1), (4, 0)] : List Cd) ++ c.map (up 2)).length = ((2, 1) :: (4, ((c.length + 3 : Nat) : Int)) :: c.map (up 2) : List Cd).length := by simp
        have h3 : (o2 ++ c.map (up (c.length + 3))).length = 2 * c.length + 3 := by rw [ho2]; simp; omega
        rw [h2, h3, ho2, List.append_assoc, List.singleton_append, setN_app, w32_id (by omega)]
        rfl
      rw [w2, ch]
      simp only
      rw [wrap_end (m := 2 * T.length + 2) l2 n2 _ (by simp; omega), l2]
end Go.Proofs.YthhmahmclkmjpaaDoor
