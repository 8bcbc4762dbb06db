/- Proved: the functions of and lives of gouachelaw17; where strings.asciiSpace reads as its table. -/
import Derived.Test.YthhmahmclkmjpaaDoorStG
import Derived.Test.YthhmahmclkmjpaaDoorSameK
namespace Go.Proofs.YthhmahmclkmjpaaDoor
open Go.RowKit
theorem SpaceTab.below {w w' : World} (hT : SpaceTab w) (h0 : 0 < w.heap.size) {B : Nat} (hB : 0 < B) (hb : Below B w w') : SpaceTab w' :=
  fun x hx => (hb.cell (p := ⟨0, x.toNat, none⟩) hB).trans (hT x hx)
def tkOf (L : List Tok) : List Tk := L.map fun t => (t.k, t.t, (t.pos : Int))
theorem tok_tk (L : List Tok) : tokCells L = tkCells (tkOf L) := by
  simp [tokCells, tkCells, tkOf, tkCell, List.flatMap_map]
  rfl
def ktsOf (L : List Tok) : List KT := L.map fun t => (t.k, t.t)
theorem kts_tk (L : List Tok) : ktOf (tkOf L) = ktsOf L := by simp [ktOf, tkOf, ktsOf]
/-- programs.Of of the tokens that tokens.Of has told. -/
theorem progOf_toks (L : List Tok) (A : Option Addr) (cap n : Nat) (w : World) {w0 : World} (hown : w.ownsRow w0.heap.size 24 3 (.slice A n cap) n (tokCells L)) (hn : n = L.length) (hT : SpaceTab w) (h0 : 0 < w.heap.size) (hl : L.length ≤ 4096) (htx : ∀ x ∈ L, x.t.length ≤ 4096) :
    Calls Tryd.prog 10 #[.slice A n cap] w (OfP (progF (ktsOf L)) w) := by
  subst hn
  have hr := rd_of hown
  rw [tok_tk] at hr
  have hlt : ∀ ad, A = some ad → ad.block < w.heap.size := fun ad h => own_lt hown _ (by rw [h]; rfl)
  have hlen : (tkOf L).length = L.length := by simp [tkOf]
  have := progOf_any (tkOf L) A cap w hr (fun _ => hlt) hT h0 (by omega) (fun x hx => by
    obtain ⟨t, ht, rfl⟩ := List.mem_map.1 hx
    have := htx t ht
    show t.t.length ≤ _
    omega)
  rw [kts_tk, hlen] at this
  exact this
set_option maxRecDepth 100000 in
set_option maxHeartbeats 4000000 in
theorem of17_any (s : ByteArray) (w : World) (L : List Tok) (q : Nat) (hr : tokRes s.data.toList = (L, q, 0)) (hs : s.size ≤ 4096) (hT : SpaceTab w) (h0 : 0 < w.heap.size) (hl : L.length ≤ 4096) (htx : ∀ x ∈ L, x.t.length ≤ 4096) :
    Calls Tryd.prog 24 #[.string s] w fun e w' => ∃ A cap, e = .returned (.tuple #[.slice A (progF (ktsOf L)).1.length cap, .int .i64 ((progF (ktsOf L)).2.2 : Int)]) ∧ w'.ownsRow w.heap.size 36 2 (.slice A (progF (ktsOf L)).1.length cap) (progF (ktsOf L)).1.length (cdCells (progF (ktsOf L)).1) ∧ Below w.heap.size w w' := by
  have Hr := Lib.hid hr; have Hs := Lib.hid hs; have HT := Lib.hid hT; have Hl := Lib.hid hl; have Htx := Lib.hid htx; have H0 := Lib.hid h0
  clear hr hs hT hl htx h0
  go_enter Tryd.func24, Tryd.ntmps24
  go_wp2_with fail
  refine (tokOf_any s w (by have := Hs.out; omega)).mono ?_
  rintro e w1 ⟨v, rfl, hown, hb⟩
  rw [Hr.out] at hown
  rw [Hr.out]
  obtain ⟨A, cap, rfl, -⟩ := ownsRow_form hown
  have Hown := Lib.hid hown; have Hb := Lib.hid hb
  have hsz := hb.size
  have H01 := Lib.hid (Nat.lt_of_lt_of_le H0.out hsz)
  have HT1 := Lib.hid (HT.out.below H0.out H0.out hb)
  clear hown hb hsz
  obtain ⟨n, hn⟩ : ∃ n, n = L.length := ⟨_, rfl⟩
  have Hn := Lib.hid hn
  have hown2 := Hown.out
  rw [← hn] at hown2 ⊢
  have Hown2 := Lib.hid hown2
  clear hn hown2
  go_wp2_with fail
  refine (progOf_toks L A cap n w1 Hown2.out Hn.out HT1.out H01.out Hl.out Htx.out).mono ?_
  rintro e w2 ⟨B, cap2, rfl, hown3, hb3⟩
  have HF := Lib.hid (Hb.out.trans (hb3.mono Hb.out.size))
  have HO := Lib.hid (ownsRow_mono hown3 Hb.out.size)
  clear hown3 hb3
  obtain ⟨z, hz⟩ : ∃ z, (progF (ktsOf L)).1.length = z := ⟨_, rfl⟩
  rw [hz]
  have Hz := Lib.hid hz
  clear hz
  go_wp2_with fail
  go_ret2
  have hz := Hz.out
  subst hz
  exact ⟨B, cap2, rfl, HO.out, HF.out⟩
theorem l17_t1 : tokRes [123, 100, 117, 112, 32, 48, 32, 103, 116, 32, 123, 110, 101, 103, 125, 32, 105, 102, 125] = ([⟨3, [123], 0⟩, ⟨2, [100, 117, 112], 1⟩, ⟨0, [48], 5⟩, ⟨2, [103, 116], 7⟩, ⟨3, [123], 10⟩, ⟨2, [110, 101, 103], 11⟩, ⟨4, [125], 14⟩, ⟨2, [105, 102], 16⟩, ⟨4, [125], 18⟩], 19, 0) := by decide +kernel
theorem l17_t2 : tokRes [123, 123, 49, 125, 32, 123, 50, 125, 32, 105, 102, 101, 108, 115, 101, 125] = ([⟨3, [123], 0⟩, ⟨3, [123], 1⟩, ⟨0, [49], 2⟩, ⟨4, [125], 3⟩, ⟨3, [123], 5⟩, ⟨0, [50], 6⟩, ⟨4, [125], 7⟩, ⟨2, [105, 102, 101, 108, 115, 101], 9⟩, ⟨4, [125], 15⟩], 16, 0) := by decide +kernel
theorem l17_t3 : tokRes [123, 123, 49, 125, 32, 50, 125] = ([⟨3, [123], 0⟩, ⟨3, [123], 1⟩, ⟨0, [49], 2⟩, ⟨4, [125], 3⟩, ⟨0, [50], 5⟩, ⟨4, [125], 6⟩], 7, 0) := by decide +kernel
theorem l17_p1 : progF (ktsOf [⟨3, [123], 0⟩, ⟨2, [100, 117, 112], 1⟩, ⟨0, [48], 5⟩, ⟨2, [103, 116], 7⟩, ⟨3, [123], 10⟩, ⟨2, [110, 101, 103], 11⟩, ⟨4, [125], 14⟩, ⟨2, [105, 102], 16⟩, ⟨4, [125], 18⟩]) = ([(16, 0), (0, 0), (22, 0), (4, 5), (32, 0)], 9, 0) := by decide +kernel
theorem l17_p2 : progF (ktsOf [⟨3, [123], 0⟩, ⟨3, [123], 1⟩, ⟨0, [49], 2⟩, ⟨4, [125], 3⟩, ⟨3, [123], 5⟩, ⟨0, [50], 6⟩, ⟨4, [125], 7⟩, ⟨2, [105, 102, 101, 108, 115, 101], 9⟩, ⟨4, [125], 15⟩]) = ([(4, 3), (0, 1), (3, 4), (0, 2)], 9, 0) := by decide +kernel
theorem l17_p3 : progF (ktsOf [⟨3, [123], 0⟩, ⟨3, [123], 1⟩, ⟨0, [49], 2⟩, ⟨4, [125], 3⟩, ⟨0, [50], 5⟩, ⟨4, [125], 6⟩]) = ([], 4, 13) := by decide +kernel
set_option maxRecDepth 100000 in
set_option maxHeartbeats 4000000 in
theorem lives17_any (w : World) (hT : SpaceTab w) (h0 : 0 < w.heap.size) : Calls Tryd.prog 9 #[] w fun e w' => e = .returned (.bool true) ∧ Below w.heap.size w w' := by
  have HT := Lib.hid hT; have H0 := Lib.hid h0
  clear hT h0
  go_enter Tryd.func9, Tryd.ntmps9
  go_wp2_with fail
  refine (of17_any _ w _ _ l17_t1 (by decide) HT.out H0.out (by decide) (by decide)).mono ?_
  rw [l17_p1]
  rintro e w1 ⟨A1, c1, rfl, ho1, hb1⟩
  have HO1 := Lib.hid ho1; have HB1 := Lib.hid hb1; have H01 := Lib.hid (Nat.lt_of_lt_of_le H0.out hb1.size); have HT1 := Lib.hid (HT.out.below H0.out H0.out hb1)
  clear ho1 hb1
  go_wp2_with fail
  refine (of17_any _ w1 _ _ l17_t2 (by decide) HT1.out H01.out (by decide) (by decide)).mono ?_
  rw [l17_p2]
  rintro e w2 ⟨A2, c2, rfl, ho2, hb2⟩
  have HO2 := Lib.hid ho2; have HB2 := Lib.hid hb2; have H02 := Lib.hid (Nat.lt_of_lt_of_le H01.out hb2.size); have HT2 := Lib.hid (HT1.out.below H01.out H01.out hb2)
  clear ho2 hb2
  go_wp2_with fail
  refine (tokOf_any _ w2 (by decide)).mono ?_
  rw [l17_t3]
  rintro e w3 ⟨v3, rfl, ho3, hb3⟩
  obtain ⟨A3, c3, rfl, -⟩ := ownsRow_form ho3
  have HO3 := Lib.hid ho3; have HB3 := Lib.hid hb3; have H03 := Lib.hid (Nat.lt_of_lt_of_le H02.out hb3.size); have HT3 := Lib.hid (HT2.out.below H02.out H02.out hb3)
  clear ho3 hb3
  go_wp2_with fail
  refine (progOf_toks _ A3 c3 _ w3 HO3.out rfl HT3.out H03.out (by decide) (by decide)).mono ?_
  rw [l17_p3]
  rintro e w4 ⟨A4, c4, rfl, ho4, hb4⟩
  have HB4 := Lib.hid hb4
  clear ho4 hb4
  go_wp2_with fail
  have hal5 := (Below.refl w4.heap.size w4).alloc (Nat.le_refl _) (.cells #[.int .u8 16, .int .i32 0, .int .u8 0, .int .i32 0, .int .u8 22, .int .i32 0, .int .u8 4, .int .i32 5, .int .u8 32, .int .i32 0] 36)
  have r1 := (((((rd_of HO1.out).below HB2.out).below HB3.out).below HB4.out).below hal5)
  have HAL5 := Lib.hid hal5
  clear hal5
  refine (sameCodes_eq A1 (some ⟨w4.heap.size, 0, none⟩) c1 5 5 [(16, 0), (0, 0), (22, 0), (4, 5), (32, 0)] _ r1 (Rd.new _ _ _ rfl) rfl (by decide)).mono ?_
  rintro e w5 ⟨rfl, hb5⟩
  have HB5 := Lib.hid (HB4.out.trans ((HAL5.out.trans (hb5.mono HAL5.out.size)).mono HB4.out.size))
  clear hb5 r1 HAL5
  go_wp2_with fail
  have hal6 := (Below.refl w5.heap.size w5).alloc (Nat.le_refl _) (.cells #[.int .u8 4, .int .i32 3, .int .u8 0, .int .i32 1, .int .u8 3, .int .i32 4, .int .u8 0, .int .i32 2] 36)
  have r2 := ((((rd_of HO2.out).below HB3.out).below HB5.out).below hal6)
  have HAL6 := Lib.hid hal6
  clear hal6
  refine (sameCodes_eq A2 (some ⟨w5.heap.size, 0, none⟩) c2 4 4 [(4, 3), (0, 1), (3, 4), (0, 2)] _ r2 (Rd.new _ _ _ rfl) rfl (by decide)).mono ?_
  rintro e w6 ⟨rfl, hb6⟩
  have HB6 := Lib.hid (HB5.out.trans ((HAL6.out.trans (hb6.mono HAL6.out.size)).mono HB5.out.size))
  clear hb6 r2 HAL6
  go_wp2_with fail
  go_ret
  exact ⟨rfl, ((HB1.out.trans (HB2.out.mono HB1.out.size)).trans (HB3.out.mono (Nat.le_trans HB1.out.size HB2.out.size))).trans (HB6.out.mono (Nat.le_trans (Nat.le_trans HB1.out.size HB2.out.size) HB3.out.size))⟩
end Go.Proofs.YthhmahmclkmjpaaDoor
