/- Proved: the bits set point by point are those of the plain covering; for rasters of sides above 0. -/
import Derived.Test.YtkdgibabecpdlaaScanLaw
namespace Go.Proofs.Ytkdgibabecpdlaa

/-- Does the rule count a winding? -/
def ruledB (even : Bool) (n : Int) : Bool := if even then decide (n % 2 = 1) else decide (n ≠ 0)
/-- The point of bit k of pixel q. -/
def cDot (w q k : Nat) : Dot := (64 * ((4 * (q % w) + k % 4 : Nat) : Int) + 32, 64 * ((4 * (q / w) + k / 4 : Nat) : Int) + 32)
def bitsN (f : Nat → Bool) : Nat → Nat
  | 0 => 0
  | m + 1 => bitsN f m ||| (if f m then 1 <<< m else 0)
theorem bit_one (m k : Nat) : (1 <<< m).testBit k = decide (k = m) := by
  rw [Nat.one_shiftLeft, Nat.testBit_two_pow]; simp [eq_comm]
theorem bitsN_bit (f : Nat → Bool) (k : Nat) : ∀ m, (bitsN f m).testBit k = (decide (k < m) && f k)
  | 0 => by simp [bitsN]
  | m + 1 => by
    rw [bitsN, Nat.testBit_or, bitsN_bit f k m]
    by_cases hf : f m
    · rw [if_pos hf, bit_one]
      by_cases hk : k = m
      · subst hk; simp [hf]
      · have h2 : decide (k < m + 1) = decide (k < m) := by simp; omega
        rw [h2]; simp [hk]
    · rw [if_neg hf]
      by_cases hk : k = m
      · subst hk; simp [hf]
      · have h2 : decide (k < m + 1) = decide (k < m) := by simp; omega
        rw [h2]; simp
theorem bitsN_lt (f : Nat → Bool) (m : Nat) : bitsN f m < 2 ^ m := Nat.lt_pow_two_of_testBit _ (fun k hk => by rw [bitsN_bit]; simp; omega)

/-- Does bit k of pixel q stand, all edges taken? -/
def cBit (all : List Edge) (even : Bool) (w q k : Nat) : Bool := ruledB even (windE all (cDot w q k))
def coverE (all : List Edge) (even : Bool) (w h : Nat) : List Nat := (List.range (w * h)).map fun q => bitsN (cBit all even w q) 16

/-- The bits as they stand once R rows, and I points of the next one, are done. -/
structure OutOk (all : List Edge) (even : Bool) (w h R I : Nat) (out : List Nat) : Prop where
  len : out.length = w * h
  bit : ∀ q (hq : q < out.length) k, (out[q]).testBit k = (decide (k < 16) && (decide (4 * (q / w) + k / 4 < R ∨ 4 * (q / w) + k / 4 = R ∧ 4 * (q % w) + k % 4 < I) && cBit all even w q k))

theorem OutOk.init (all : List Edge) (even : Bool) (w h : Nat) : OutOk all even w h 0 0 (List.replicate (w * h) 0) :=
  ⟨by simp, fun q hq k => by simp⟩
theorem OutOk.lt {all : List Edge} {even : Bool} {w h R I : Nat} {out : List Nat} (H : OutOk all even w h R I out) : ∀ x ∈ out, x < 65536 := by
  intro x hx
  obtain ⟨q, hq, rfl⟩ := List.getElem_of_mem hx
  exact Nat.lt_pow_two_of_testBit (n := 16) _ (fun k hk => by rw [H.bit q hq k]; simp; omega)
theorem OutOk.next {all : List Edge} {even : Bool} {w h R : Nat} {out : List Nat} (hw : 0 < w) (H : OutOk all even w h R (4 * w) out) : OutOk all even w h (R + 1) 0 out :=
  ⟨H.len, fun q hq k => by
    rw [H.bit q hq k]
    have : q % w < w := Nat.mod_lt _ hw
    by_cases hk : k < 16
    · congr 2
      apply decide_eq_decide.2
      generalize q % w = a at *
      generalize q / w = b at *
      omega
    · simp [hk]⟩
theorem OutOk.last {all : List Edge} {even : Bool} {w h : Nat} {out : List Nat} (hw : 0 < w) (H : OutOk all even w h (4 * h) 0 out) : out = coverE all even w h := by
  apply List.ext_getElem
  · simp [H.len, coverE]
  · intro q h1 h2
    simp only [coverE, List.getElem_map, List.getElem_range]
    apply Nat.eq_of_testBit_eq
    intro k
    rw [H.bit q h1 k, bitsN_bit]
    have : q / w < h := by rw [Nat.div_lt_iff_lt_mul hw, Nat.mul_comm]; have := H.len; omega
    by_cases hk : k < 16
    · have : 4 * (q / w) + k / 4 < 4 * h := by omega
      simp [this]
    · simp [hk]

/-- One point more: its bit is set, or not. -/
theorem OutOk.step {all : List Edge} {even : Bool} {w h R I : Nat} {out : List Nat} (hI : I < 4 * w) (hR : R < 4 * h) (H : OutOk all even w h R I out) :
    R / 4 * w + I / 4 < out.length ∧
    (ruledB even (windE all (64 * (I : Int) + 32, 64 * (R : Int) + 32)) = true → OutOk all even w h R (I + 1) (out.set (R / 4 * w + I / 4) (out.getD (R / 4 * w + I / 4) 0 ||| 1 <<< (4 * (R % 4) + I % 4)))) ∧
    (ruledB even (windE all (64 * (I : Int) + 32, 64 * (R : Int) + 32)) = false → OutOk all even w h R (I + 1) out) := by
  have hw : 0 < w := by omega
  have hi4 : I / 4 < w := by omega
  have hq0 : R / 4 * w + I / 4 < out.length := by
    rw [H.len]
    have : R / 4 + 1 ≤ h := by omega
    calc R / 4 * w + I / 4 < R / 4 * w + w := by omega
      _ = (R / 4 + 1) * w := by rw [Nat.add_mul, Nat.one_mul]
      _ ≤ h * w := Nat.mul_le_mul_right _ this
      _ = w * h := Nat.mul_comm _ _
  have hd : (R / 4 * w + I / 4) / w = R / 4 := by
    rw [Nat.add_comm, Nat.add_mul_div_right _ _ hw, Nat.div_eq_of_lt hi4]; omega
  have hm : (R / 4 * w + I / 4) % w = I / 4 := by
    rw [Nat.add_comm, Nat.add_mul_mod_self_right, Nat.mod_eq_of_lt hi4]
  have key : ∀ q k, k < 16 → (4 * (q / w) + k / 4 = R ∧ 4 * (q % w) + k % 4 = I) → q = R / 4 * w + I / 4 ∧ k = 4 * (R % 4) + I % 4 := by
    intro q k hk ⟨h1, h2⟩
    have h3 : q / w = R / 4 := by omega
    have h4 : q % w = I / 4 := by omega
    have := Nat.div_add_mod q w
    rw [h3, h4, Nat.mul_comm] at this
    refine ⟨this.symm, ?_⟩
    generalize q % w = a at *
    generalize q / w = b at *
    omega
  have hc : cDot w (R / 4 * w + I / 4) (4 * (R % 4) + I % 4) = (64 * (I : Int) + 32, 64 * (R : Int) + 32) := by
    unfold cDot
    rw [hd, hm]
    congr 1 <;> omega
  refine ⟨hq0, fun hr => ⟨by rw [List.length_set, H.len], fun q hq k => ?_⟩, fun hr => ⟨H.len, fun q hq k => ?_⟩⟩
  · rw [List.length_set] at hq
    have hg : out.getD (R / 4 * w + I / 4) 0 = out[R / 4 * w + I / 4] := by simp [List.getD, hq0]
    simp only [List.getElem_set, hg]
    by_cases hq1 : R / 4 * w + I / 4 = q
    · subst hq1
      rw [if_pos rfl, Nat.testBit_or, H.bit _ hq0 k, hd, hm]
      by_cases hk : k < 16
      · by_cases hk1 : k = 4 * (R % 4) + I % 4
        · subst hk1
          have e1 : (1 <<< (4 * (R % 4) + I % 4)).testBit (4 * (R % 4) + I % 4) = true := by rw [bit_one]; simp
          rw [e1, Bool.or_true]
          have e2 : cBit all even w (R / 4 * w + I / 4) (4 * (R % 4) + I % 4) = true := by unfold cBit; rw [hc]; exact hr
          have e3 : (4 * (R / 4) + (4 * (R % 4) + I % 4) / 4 < R ∨ 4 * (R / 4) + (4 * (R % 4) + I % 4) / 4 = R ∧ 4 * (I / 4) + (4 * (R % 4) + I % 4) % 4 < I + 1) := by omega
          rw [e2, decide_eq_true e3, decide_eq_true hk]; rfl
        · have e1 : (1 <<< (4 * (R % 4) + I % 4)).testBit k = false := by
            rw [bit_one, decide_eq_false_iff_not]; omega
          rw [e1, Bool.or_false]
          congr 2
          apply decide_eq_decide.2
          omega
      · have e1 : (1 <<< (4 * (R % 4) + I % 4)).testBit k = false := by
          rw [bit_one, decide_eq_false_iff_not]; omega
        rw [e1]; simp [hk]
    · rw [if_neg hq1, H.bit q hq k]
      by_cases hk : k < 16
      · congr 2
        apply decide_eq_decide.2
        have := key q k hk
        constructor
        · intro h; omega
        · intro h
          by_cases h2 : 4 * (q / w) + k / 4 = R ∧ 4 * (q % w) + k % 4 = I
          · exact absurd (this h2).1.symm hq1
          · omega
      · simp [hk]
  · rw [H.bit q hq k]
    by_cases hk : k < 16
    · by_cases h2 : 4 * (q / w) + k / 4 = R ∧ 4 * (q % w) + k % 4 = I
      · obtain ⟨rfl, rfl⟩ := key q k hk h2
        have e2 : cBit all even w (R / 4 * w + I / 4) (4 * (R % 4) + I % 4) = false := by unfold cBit; rw [hc]; exact hr
        rw [e2]; simp
      · congr 2
        apply decide_eq_decide.2
        omega
    · simp [hk]
end Go.Proofs.Ytkdgibabecpdlaa
