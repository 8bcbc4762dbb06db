/- Proved: the turns that an edge adds along a row; for edges that are not far. -/
import Derived.Test.YtkdgibabecpdlaaAt
namespace Go.Proofs.Ytkdgibabecpdlaa
open Go.RowKit

theorem deleteEdge_any {base : Nat} {v : Value} (l : List Edge) (y : Int) (Y : Nat) (w : World) (h : w.ownsRow base 149 5 v l.length (edgeCells l)) (hy : w.heap[Y]? = some (.cells #[.int .i64 y] 2 (0, 0))) (hl : l.length ≤ 1000000) :
    Calls Try.prog 92 #[v, .func (.func 93) #[] #[.pointer (some ⟨Y, 0, none⟩)]] w fun e w' =>
      ∃ A n c, e = .returned (.slice A n c) ∧ w'.ownsRow base 149 5 (.slice A n c) (l.filter (meetE y)).length (edgeCells (l.filter (meetE y))) ∧ Upd v.ownBlock.toList w w' ∧ (Value.slice A n c).ownBlock = v.ownBlock := by
  have hyc : w.cell? ⟨Y, 0, none⟩ = some (.int .i64 y) := cell_of_row w Y 0 _ _ _ hy
  cases hall : l.all (meetE y) with
  | true =>
    obtain ⟨A, c, rfl, _, hr, _⟩ := ownsRow_form h
    have hf : l.filter (meetE y) = l := List.filter_eq_self.2 (fun a ha => List.all_eq_true.1 hall a ha)
    refine (deleteEdge_all A c l y Y w hr hyc hl hall).mono ?_
    rintro e w' ⟨rfl, hb⟩
    rw [hf]
    exact ⟨A, _, c, rfl, ownsRow_below h hb, Upd.ofBelow hb, rfl⟩
  | false =>
    have hp : 0 < l.length := by cases l with | nil => simp at hall | cons a l => simp
    obtain ⟨g, c, rfl, _, _⟩ := h.form hp
    have hne : Y ≠ g := fun e => own_ne h hy (by decide) (by rw [e]; rfl)
    refine (deleteEdge_some base g c l y Y w h hyc hne hl hall).mono ?_
    rintro e w' ⟨rfl, hr, hu⟩
    exact ⟨_, _, _, rfl, hr, hu, rfl⟩

theorem own_fill {w : World} {base e size g n cap : Nat} {xs vs : List Value} (h : w.ownsRow base e size (.slice (some ⟨g, 0, none⟩) n cap) n xs) (hv : vs.length = n * size) :
    (w.setCells g 0 vs).ownsRow base e size (.slice (some ⟨g, 0, none⟩) n cap) n vs := by
  obtain ⟨hl, h2⟩ := h
  rcases h2 with ⟨h0, _⟩ | ⟨g', cap', cur, hv', hb, hg, hnc, hm, hs, ht⟩
  · cases h0
  injection hv' with hv1 hv2 hv3
  injection hv1 with hv1; injection hv1 with hv1
  subst hv1 hv3
  have hnc' := Nat.mul_le_mul_right size hnc
  refine ⟨hv, .inr ⟨g, cap, _, rfl, hb, setCells_heap g e vs 0 w cur hg (by omega), by omega, hm, ?_, ?_⟩⟩
  · simp only [List.size_toArray, List.length_append, List.length_take, List.length_drop, Array.length_toList]; omega
  · simp only [List.take_zero, List.nil_append]
    rw [← hv, List.take_left]

theorem ints_len (l : List Int) : (ints l).length = l.length := by simp [ints]
theorem ints_at {l : List Int} {k : Nat} (h : k < l.length) : (ints l)[k]? = some (.int .i64 l[k]) := by simp [ints, h]

/-- What a scan keeps when one of its turns is stored. -/
theorem ScanS.setT {w : World} {S base g n c : Nat} {vw vm : Value} {ws ms : List Edge} {ts : List Int} (h : ScanS w S base vw vm (.slice (some ⟨g, 0, none⟩) n c) ws ms ts) {k : Nat} (hk : k < ts.length) (x : Int) :
    ScanS (w.setCell ⟨g, k, none⟩ (.int .i64 x)) S base vw vm (.slice (some ⟨g, 0, none⟩) n c) ws ms (ts.set k x) := by
  have hgS : g ≠ S := fun e => own_ne h.tu h.blk (by decide) (by rw [e]; rfl)
  have hn : n = ts.length := by
    obtain ⟨A, c', e, _⟩ := ownsRow_form h.tu
    injection e
  have hU : Upd [g] w (w.setCell ⟨g, k, none⟩ (.int .i64 x)) := (Upd.refl _ _).setCell (.inl (by simp)) _
  obtain ⟨cg, hcg⟩ : ∃ cur, w.heap[g]? = some (.cells cur 3 (0, 0)) := by
    rcases h.tu.2 with ⟨h, _⟩ | ⟨g', cap', cur, hv, _, h, _⟩
    · cases h
    · injection hv with h1; injection h1 with h1; injection h1 with h1; subst h1; exact ⟨cur, h⟩
  refine ⟨hU.blk (by simp; exact fun e => hgS e.symm) h.blk, h.low, hU.own h.wa (fun k hk => ?_), hU.own h.me (fun k hk => ?_), ?_, h.ne⟩
  · simp; rintro rfl; exact own_ne h.wa hcg (by decide) hk
  · simp; rintro rfl; exact own_ne h.me hcg (by decide) hk
  · subst hn
    have := own_setCells h.tu hk (cs := [.int .i64 x]) rfl
    rw [List.length_set]
    have e : (ints ts).take (k * 1) ++ [.int .i64 x] ++ (ints ts).drop (k * 1 + 1) = ints (ts.set k x) := by
      simp only [ints, List.map_set, Nat.mul_one]
      rw [List.set_eq_take_append_cons_drop, if_pos (by simpa using hk)]; simp
    rw [e, Nat.mul_one] at this
    exact this

theorem ScanS.cellT {w : World} {S base g n c : Nat} {vw vm : Value} {ws ms : List Edge} {ts : List Int} (h : ScanS w S base vw vm (.slice (some ⟨g, 0, none⟩) n c) ws ms ts) {k : Nat} (hk : k < ts.length) :
    w.cell? ⟨g, k, none⟩ = some (.int .i64 ts[k]) ∧ w.frozen? ⟨g, k, none⟩ = false := by
  obtain ⟨A, c', e, _, hr, _⟩ := ownsRow_form h.tu
  injection e with e1 e2 e3; subst e1 e2
  rcases hr with hr | ⟨b, off, e, _, hc⟩
  · have := congrArg List.length hr; rw [ints_len] at this; simp only [List.length_nil] at this; omega
  · injection e with e; injection e with e1 e2; subst e1 e2
    have := hc k _ (ints_at hk)
    rw [Nat.zero_add] at this
    refine ⟨this, ?_⟩
    rcases h.tu.2 with ⟨h, _⟩ | ⟨g', cap', cur, hv, _, h, _⟩
    · cases h
    · injection hv with h1; injection h1 with h1; injection h1 with h1; subst h1; exact frozen_of_row w g k cur _ h

/-- How many points lie left of where an edge crosses. -/
def manyE (y : Int) (last : Nat) (e : Edge) : Nat :=
  if overN e.1.1 e.1.2 e.2.1.1 e.2.1.2 32 y ≤ 0 then 0 else min last ((overN e.1.1 e.1.2 e.2.1.1 e.2.1.2 32 y + 64 * (e.2.1.2 - e.1.2) - 1) / (64 * (e.2.1.2 - e.1.2))).toNat

def tsAdd (y : Int) (last : Nat) (ts : List Int) (e : Edge) : List Int :=
  let ts1 := ts.set 0 (ts.getD 0 0 + e.2.2)
  ts1.set (manyE y last e) (ts1.getD (manyE y last e) 0 - e.2.2)
def tsF (y : Int) (last : Nat) (es : List Edge) (ts : List Int) : List Int := es.foldl (tsAdd y last) ts
theorem tsAdd_len (y : Int) (last : Nat) (ts : List Int) (e : Edge) : (tsAdd y last ts e).length = ts.length := by simp [tsAdd]
theorem tsF_len (y : Int) (last : Nat) : ∀ (es : List Edge) (ts : List Int), (tsF y last es ts).length = ts.length
  | [], _ => rfl
  | e :: es, ts => by rw [tsF, List.foldl_cons]; exact (tsF_len y last es _).trans (tsAdd_len _ _ _ _)
theorem tsF_snoc (y : Int) (last : Nat) (es : List Edge) (e : Edge) (ts : List Int) : tsF y last (es ++ [e]) ts = tsAdd y last (tsF y last es ts) e := by simp [tsF]

/-- An edge as they come of lines that are not far. -/
def NearE (e : Edge) : Prop := isFarB e.1 = false ∧ isFarB e.2.1 = false ∧ e.1.2 < e.2.1.2 ∧ (e.2.2 = 1 ∨ e.2.2 = -1)

theorem tsAdd_abs {y : Int} {last : Nat} {ts : List Int} {e : Edge} (he : NearE e) {B : Int} (hB : ∀ x ∈ ts, -B ≤ x ∧ x ≤ B) (h0 : 0 ≤ B) : ∀ x ∈ tsAdd y last ts e, -(B + 2) ≤ x ∧ x ≤ B + 2 := by
  intro x hx
  have hg : ∀ (l : List Int) (C : Int), 0 ≤ C → (∀ x ∈ l, -C ≤ x ∧ x ≤ C) → ∀ k, -C ≤ l.getD k 0 ∧ l.getD k 0 ≤ C := fun l C hC hl k => by
    rw [List.getD]
    cases hk : l[k]? with
    | none => simp; omega
    | some z => exact hl z (List.mem_of_getElem? hk)
  have ht := he.2.2.2
  unfold tsAdd at hx
  simp only at hx
  have h1 : ∀ z ∈ ts.set 0 (ts.getD 0 0 + e.2.2), -(B + 1) ≤ z ∧ z ≤ B + 1 := fun z hz => by
    rcases List.mem_or_eq_of_mem_set hz with h | h
    · have := hB z h; omega
    · have := hg ts B h0 hB 0; omega
  rcases List.mem_or_eq_of_mem_set hx with h | h
  · have := h1 x h; omega
  · have := hg _ (B + 1) (by omega) h1 (manyE y last e); omega
end Go.Proofs.Ytkdgibabecpdlaa
