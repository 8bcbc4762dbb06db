/- Proved: the edges of a closed line, in new memory, and the plain winding; for every line of a million dots at most. -/
import Derived.Test.YtkdgibabecpdlaaLeaf
namespace Go.Proofs.Ytkdgibabecpdlaa
open Go.RowKit

set_option maxHeartbeats 400000 in
theorem containsFar_any (A : Option Addr) (cap : Nat) (l : List Dot) (w : World) (h : Rd w A (dotCells l)) (hl : l.length ≤ maxLen) :
    Calls Try.prog 35 #[.slice A l.length cap, .func (.func 36) #[] #[]] w fun e w' => e = .returned (.bool (l.any isFarB)) ∧ Below w.heap.size w w' := by
  have hc := indexFar_any A cap l w h hl
  clear h hl
  go_enter Try.func35, Try.ntmps35
  go_wp2_with (go_at_call 89; refine hc.mono ?_; rintro e w1 ⟨⟨n, rfl, hn⟩, hb1⟩)
  go_ret
  exact ⟨ret_bool (by simpa using hn), hb1⟩

/-- An edge: from lower y to greater y, and its turn. -/
abbrev Edge := Dot × Dot × Int
def edgeCell (e : Edge) : List Value := [.int .i64 e.1.1, .int .i64 e.1.2, .int .i64 e.2.1.1, .int .i64 e.2.1.2, .int .i64 e.2.2]
def edgeCells (l : List Edge) : List Value := l.flatMap edgeCell
theorem edgeCells_len (l : List Edge) : (edgeCells l).length = l.length * 5 := flatMap_len _ 5 (fun _ => rfl) l
def edgeF (a b : Dot) : List Edge := if a.2 < b.2 then [(a, b, 1)] else if b.2 < a.2 then [(b, a, -1)] else []
def edgesTo (l : List Dot) (k : Nat) : List Edge := (List.range k).flatMap fun i => edgeF (l.getD i (0, 0)) (l.getD ((i + 1) % l.length) (0, 0))
def edgesF (l : List Dot) : List Edge := edgesTo l l.length
theorem edgesTo_succ (l : List Dot) (k : Nat) : edgesTo l (k + 1) = edgesTo l k ++ edgeF (l.getD k (0, 0)) (l.getD ((k + 1) % l.length) (0, 0)) := by
  simp [edgesTo, List.range_succ]
theorem edgeF_len (a b : Dot) : (edgeF a b).length ≤ 1 := by unfold edgeF; split <;> (try split) <;> simp
theorem edgesTo_len (l : List Dot) : ∀ k, (edgesTo l k).length ≤ k
  | 0 => by simp [edgesTo]
  | k + 1 => by rw [edgesTo_succ, List.length_append]; have := edgesTo_len l k; have := edgeF_len (l.getD k (0, 0)) (l.getD ((k + 1) % l.length) (0, 0)); omega

theorem Try.etEdges : ET Try.prog 76 149 5 40 := ET.mk' (z := .agg #[.int .i64 0, .int .i64 0, .int .i64 0, .int .i64 0, .int .i64 0]) (by kernel_rfl) (by kernel_rfl) rfl (by decide) (by decide)

theorem edgeCells_append (l m : List Edge) : edgeCells (l ++ m) = edgeCells l ++ edgeCells m := by simp [edgeCells]

set_option maxRecDepth 100000 in
set_option maxHeartbeats 1000000 in
theorem edges_any (A : Option Addr) (cap : Nat) (l : List Dot) (w : World) (h : Rd w A (dotCells l)) (hl : l.length ≤ 1000000) :
    Calls Try.prog 37 #[.slice A l.length cap] w fun e w' => ∃ v, e = .returned v ∧ w'.ownsRow w.heap.size 149 5 v (edgesF l).length (edgeCells (edgesF l)) ∧ Below w.heap.size w w' := by
  go_enter Try.func37, Try.ntmps37
  go_wp2
  go_loopw [2, 8] (fun v2 v8 wr => ∃ k : Nat, k ≤ l.length ∧ v8 = .int .i64 k ∧ Below w.heap.size w wr ∧ wr.ownsRow w.heap.size 149 5 v2 (edgesTo l k).length (edgeCells (edgesTo l k))) (fun _ v8 _ => l.length - (intOf v8).toNat)
  case atStart => exact ⟨0, by omega, rfl, Below.refl _ _, World.ownsRow_nil _ _ _ _⟩
  case round =>
    obtain ⟨k, hk, rfl, hb, hown⟩ := hrel
    by_cases hlt : k < l.length
    · obtain ⟨b, off, rfl, hbl, c0, c1⟩ := h.dot (List.getElem?_eq_getElem hlt)
      have hlm : (k + 1) % l.length < l.length := Nat.mod_lt _ (by omega)
      obtain ⟨b', off', e', _, d0, d1⟩ := h.dot (List.getElem?_eq_getElem hlm)
      injection e' with e'; injection e' with e1 e2; subst e1 e2
      have hmod : ((k : Int) + 1) % (l.length : Int) = (((k + 1) % l.length : Nat) : Int) := by simp
      have hlen := edgesTo_len l k
      have hsucc := edgesTo_succ l k
      have hg0 : l.getD k (0, 0) = l[k] := by simp [List.getD, hlt]
      have hg1 : l.getD ((k + 1) % l.length) (0, 0) = l[(k + 1) % l.length] := by simp [List.getD, List.getElem?_eq_getElem hlm]
      rw [hg0, hg1] at hsucc
      clear hg0 hg1
      generalize l[(k + 1) % l.length] = q at *
      generalize (k + 1) % l.length = m at *
      generalize l[k] = p at *
      obtain ⟨px, py⟩ := p
      obtain ⟨qx, qy⟩ := q
      rw [← hb.cell (p := ⟨b, off + k * 2, none⟩) hbl] at c0
      rw [← hb.cell (p := ⟨b, off + k * 2 + 1, none⟩) hbl] at c1
      rw [← hb.cell (p := ⟨b, off + m * 2, none⟩) hbl] at d0
      rw [← hb.cell (p := ⟨b, off + m * 2 + 1, none⟩) hbl] at d1
      have hbl' : b < wr.heap.size := Nat.lt_of_lt_of_le hbl hb.size
      have Hs := Lib.hid hsucc; clear hsucc
      have Hh := Lib.hid h; clear h
      have Hw := Lib.hid hb; clear hb
      by_cases h1 : py < qy
      · have he : edgeF (px, py) (qx, qy) = [((px, py), (qx, qy), 1)] := by simp [edgeF, h1]
        rw [he] at Hs
        clear he
        go_wp2_with (at_builtin; refine wpList_app rfl rfl Try.etEdges ((hown.alloc _).alloc _ |>.alloc _) rfl rfl (Rd.new _ _ _ (by simp)) (m := 1) (by simp) (by simp [Value.oneCell']) (by omega) (by have := Hw.out.size; simp; omega) ?_; intro v' w1 hown1 hg1 _ hb1; clear hown)
        go_roundw
        case rel =>
          refine ⟨k + 1, by omega, by go_num, ?_, ?_⟩
          · exact (((Hw.out.alloc Hw.out.size _).alloc (by have := Hw.out.size; simp; omega) _).alloc (by have := Hw.out.size; simp; omega) _).trans hb1
          · rw [Hs.out, edgeCells_append, List.length_append]
            simpa [edgeCells, edgeCell] using hown1
        case measure => simp [intOf]; omega
      · by_cases h2 : qy < py
        · have he : edgeF (px, py) (qx, qy) = [((qx, qy), (px, py), -1)] := by simp [edgeF, h1, h2]
          rw [he] at Hs
          clear he
          go_wp2_with (at_builtin; refine wpList_app rfl rfl Try.etEdges ((hown.alloc _).alloc _ |>.alloc _) rfl rfl (Rd.new _ _ _ (by simp)) (m := 1) (by simp) (by simp [Value.oneCell']) (by omega) (by have := Hw.out.size; simp; omega) ?_; intro v' w1 hown1 hg1 _ hb1; clear hown)
          go_roundw
          case rel =>
            refine ⟨k + 1, by omega, by go_num, ?_, ?_⟩
            · exact (((Hw.out.alloc Hw.out.size _).alloc (by have := Hw.out.size; simp; omega) _).alloc (by have := Hw.out.size; simp; omega) _).trans hb1
            · rw [Hs.out, edgeCells_append, List.length_append]
              simpa [edgeCells, edgeCell] using hown1
          case measure => simp [intOf]; omega
        · have he : edgeF (px, py) (qx, qy) = [] := by simp [edgeF, h1, h2]
          rw [he] at Hs
          clear he
          have Hown := Lib.hid hown; clear hown
          go_wp2
          go_roundw
          case rel =>
            refine ⟨k + 1, by omega, by go_num, ?_, ?_⟩
            · exact ((Hw.out.alloc Hw.out.size _).alloc (by have := Hw.out.size; simp; omega) _)
            · rw [Hs.out, List.append_nil]
              exact (Hown.out.alloc _).alloc _
          case measure => simp [intOf]; omega
    · have hkl : k = l.length := by omega
      subst hkl
      have Hh := Lib.hid h; clear h
      have Hown := Lib.hid hown; clear hown
      go_wp2
      go_ret
      exact ⟨_, rfl, Hown.out, hb⟩

/-- The winding of a line about a point. -/
def turnOf (p : Dot) (e : Edge) : Int := if meetsB e.1.2 e.2.1.2 p.2 && decide (0 < overN e.1.1 e.1.2 e.2.1.1 e.2.1.2 p.1 p.2) then e.2.2 else 0
def windE (es : List Edge) (p : Dot) : Int := (es.map (turnOf p)).sum
def windF (l : List Dot) (p : Dot) : Int := if isFarB p || l.any isFarB then 0 else windE (edgesF l) p

theorem near_iff (d : Dot) : isFarB d = false ↔ (-1073741824 ≤ d.1 ∧ d.1 ≤ 1073741824 ∧ -1073741824 ≤ d.2 ∧ d.2 ≤ 1073741824) := by
  simp [isFarB]; omega

theorem Rd.edge {w : World} {A : Option Addr} {l : List Edge} (h : Rd w A (edgeCells l)) {k : Nat} {d : Edge} (hk : l[k]? = some d) :
    ∃ b off, A = some ⟨b, off, none⟩ ∧ b < w.heap.size ∧ w.cell? ⟨b, off + k * 5, none⟩ = some (.int .i64 d.1.1) ∧ w.cell? ⟨b, off + k * 5 + 1, none⟩ = some (.int .i64 d.1.2) ∧
      w.cell? ⟨b, off + k * 5 + 2, none⟩ = some (.int .i64 d.2.1.1) ∧ w.cell? ⟨b, off + k * 5 + 3, none⟩ = some (.int .i64 d.2.1.2) ∧ w.cell? ⟨b, off + k * 5 + 4, none⟩ = some (.int .i64 d.2.2) := by
  have e0 := flatMap_at edgeCell 5 (fun _ => rfl) l k d hk 0 (by omega)
  have e1 := flatMap_at edgeCell 5 (fun _ => rfl) l k d hk 1 (by omega)
  have e2 := flatMap_at edgeCell 5 (fun _ => rfl) l k d hk 2 (by omega)
  have e3 := flatMap_at edgeCell 5 (fun _ => rfl) l k d hk 3 (by omega)
  have e4 := flatMap_at edgeCell 5 (fun _ => rfl) l k d hk 4 (by omega)
  obtain ⟨b, off, hA, hb, hc⟩ := h.at_ (by intro e; rw [edgeCells] at e; rw [e] at e0; simp [edgeCell] at e0)
  exact ⟨b, off, hA, hb, hc _ _ (e0.trans rfl), hc _ _ (e1.trans rfl), hc _ _ (e2.trans rfl), hc _ _ (e3.trans rfl), hc _ _ (e4.trans rfl)⟩

theorem mem_edgesF {l : List Dot} {e : Edge} (h : e ∈ edgesF l) : e.1 ∈ l ∧ e.2.1 ∈ l ∧ e.1.2 < e.2.1.2 ∧ (e.2.2 = 1 ∨ e.2.2 = -1) := by
  unfold edgesF edgesTo at h
  obtain ⟨i, hi, he⟩ := List.mem_flatMap.1 h
  have hi' : i < l.length := List.mem_range.1 hi
  have hm : (i + 1) % l.length < l.length := Nat.mod_lt _ (by omega)
  have g0 : l.getD i (0, 0) ∈ l := by simp [List.getD, List.getElem?_eq_getElem hi']
  have g1 : l.getD ((i + 1) % l.length) (0, 0) ∈ l := by simp [List.getD, List.getElem?_eq_getElem hm]
  generalize l.getD i (0, 0) = a at *
  generalize l.getD ((i + 1) % l.length) (0, 0) = b at *
  unfold edgeF at he
  split at he
  · simp at he; subst he; exact ⟨g0, g1, by assumption, .inl rfl⟩
  · split at he
    · simp at he; subst he; exact ⟨g1, g0, by assumption, .inr rfl⟩
    · simp at he

theorem edgesF_len (l : List Dot) : (edgesF l).length ≤ l.length := edgesTo_len l _

theorem sum_abs : ∀ (l : List Int), (∀ x ∈ l, -1 ≤ x ∧ x ≤ 1) → -(l.length : Int) ≤ l.sum ∧ l.sum ≤ l.length
  | [], _ => by simp
  | x :: l, h => by
    have := sum_abs l (fun y hy => h y (List.mem_cons_of_mem _ hy))
    have := h x (List.mem_cons_self ..)
    simp only [List.sum_cons, List.length_cons]; omega

theorem turnOf_abs {l : List Dot} {p : Dot} {e : Edge} (h : e ∈ edgesF l) : -1 ≤ turnOf p e ∧ turnOf p e ≤ 1 := by
  have := mem_edgesF h
  unfold turnOf; split <;> omega

theorem mul_bound {a b A B : Int} (ha : -A ≤ a ∧ a ≤ A) (hb : -B ≤ b ∧ b ≤ B) : -(A * B) ≤ a * b ∧ a * b ≤ A * B := by
  have hA : 0 ≤ A := by omega
  have hB : 0 ≤ B := by omega
  have h1 : a.natAbs ≤ A.natAbs := by omega
  have h2 : b.natAbs ≤ B.natAbs := by omega
  have h3 : (a * b).natAbs ≤ (A * B).natAbs := by rw [Int.natAbs_mul, Int.natAbs_mul]; exact Nat.mul_le_mul h1 h2
  have h4 : 0 ≤ A * B := Int.mul_nonneg hA hB
  omega

theorem over_bound {a b p : Dot} (ha : isFarB a = false) (hb : isFarB b = false) (hp : isFarB p = false) (hm : meetsB a.2 b.2 p.2 = true) :
    -9223372036854775808 ≤ overN a.1 a.2 b.1 b.2 p.1 p.2 ∧ overN a.1 a.2 b.1 b.2 p.1 p.2 ≤ 9223372036854775807 := by
  rw [near_iff] at ha hb hp
  simp [meetsB] at hm
  unfold overN
  have h1 := mul_bound (a := b.1 - a.1) (b := p.2 - a.2) (A := 2147483648) (B := 2147483647) (by omega) (by omega)
  have h2 := mul_bound (a := p.1 - a.1) (b := b.2 - a.2) (A := 2147483648) (B := 2147483648) (by omega) (by omega)
  omega
end Go.Proofs.Ytkdgibabecpdlaa
