/- The program and the reference tell the same: one statement for each operation. -/
import Derived.Test.YtnhlenagojbigaaRefG
import Derived.Test.YtnhlenagojbigaaStrR
import Derived.Test.YtnhlenagojbigaaStrT
import Derived.Test.YtnhlenagojbigaaRow
namespace Go.Proofs.Ytnhlenagojbigaa
open Go.RowKit

/-- Bytes in a block of their own, or none. -/
def FrB (W : World) (A : Option Addr) (vs : List Value) : Prop := vs.length = 0 ∨ ∃ g, A = some ⟨g, 0, none⟩ ∧ Own W g 5 vs
section
variable {W W' : World} {A : Option Addr} {vs : List Value}
theorem FrB.rd (h : FrB W A vs) : Rd W A vs := by
  rcases h with h | ⟨g, rfl, h⟩
  · exact Rd.zero h
  · exact h.rd
theorem FrB.below' (h : FrB W A vs) (hb : Below W.heap.size W W') : FrB W' A vs := by
  rcases h with h | ⟨g, rfl, h⟩
  · exact .inl h
  · exact .inr ⟨g, rfl, h.below' hb⟩
theorem FrB.alloc (h : FrB W A vs) (o : Obj) : FrB (W.alloc o) A vs := h.below' ((Below.refl _ W).alloc (Nat.le_refl _) o)
theorem FrB.far (h : FrB W A vs) {b : Nat} {us : List Value} (ho : Own W b 24 us) (i : Nat) (u : Value) : FrB (W.setCell ⟨b, i, none⟩ u) A vs := by
  rcases h with h | ⟨g, rfl, h⟩
  · exact .inl h
  · exact .inr ⟨g, rfl, h.far (p := ⟨b, i, none⟩) (h.ne ho (by decide)) u⟩
end
/-- A strand of l bits F on m bytes, and an error or none. -/
def ResS (w : World) (m l : Nat) (F : Nat → Bool) (k : Int) (e : Ending) (w' : World) : Prop :=
  ∃ A c, e = .returned (.tuple #[.agg #[.slice A m c, .int .i64 l], .int .i64 k]) ∧ FrB w' A (cellsF F m) ∧ Below w.heap.size w w'
def Res3 (w : World) (m : Nat) (p k : Int) (e : Ending) (w' : World) : Prop := e = .returned (.tuple #[.int .u64 m, .int .i64 p, .int .i64 k]) ∧ Below w.heap.size w w'
def ResB (w : World) (m : Nat) (F : Nat → Bool) (k : Int) (e : Ending) (w' : World) : Prop :=
  ∃ A c, e = .returned (.tuple #[.slice A m c, .int .i64 k]) ∧ Rd w' A (cellsF F m) ∧ Below w.heap.size w w'
theorem ResS.bad {w : World} {k : Int} {e : Ending} {w' : World} (h : BadS w k e w') : ResS w 0 0 noF k e w' := ⟨none, 0, h.1, .inl rfl, h.2⟩
theorem ResS.good {w : World} {L : Nat} {f : Nat → Bool} {e : Ending} {w' : World} (h : GoodS w L f e w') : ResS w ((L + 7) / 8) L f 0 e w' := by
  obtain ⟨g, he, _, ho, hb⟩ := h
  exact ⟨_, _, he, .inr ⟨g, rfl, ho⟩, hb⟩
theorem ResB.bad {w : World} {k : Int} {e : Ending} {w' : World} (h : BadB w k e w') : ResB w 0 noF k e w' := ⟨none, 0, h.1, Rd.zero rfl, h.2⟩
theorem ResB.good {w : World} {m : Nat} {f : Nat → Bool} {e : Ending} {w' : World} (h : GoodB w m f e w') : ResB w m f 0 e w' := by
  obtain ⟨g, he, _, ho, hb⟩ := h
  exact ⟨_, _, he, ho.rd, hb⟩
theorem Res3.bad {w : World} {k : Int} {e : Ending} {w' : World} (h : Bad3 w k e w') : Res3 w 0 0 k e w' := h
theorem Res3.good {w : World} {m : Nat} {p : Int} {e : Ending} {w' : World} (h : Good3 w m p e w') : Res3 w m p 0 e w' := h

/-- A strand beside itself. -/
theorem same_same (A B : Option Addr) (n c d : Nat) (L : Int) (f : Nat → Bool) (w : World) (hr : Rd w A (cellsF f n)) (hs : Rd w B (cellsF f n)) :
    Calls Try.prog 16 #[.agg #[.slice A n c, .int .i64 L], .agg #[.slice B n d, .int .i64 L]] w fun e w' => e = .returned (.bool true) ∧ Below w.heap.size w w' :=
  (same_any A B n c n d L L f f w hr hs).mono fun _ _ ⟨h1, h2⟩ => ⟨by rw [h1, sameS_self], h2⟩
theorem sameBytes_same (A B : Option Addr) (n c d : Nat) (f : Nat → Bool) (w : World) (hr : Rd w A (cellsF f n)) (hs : Rd w B (cellsF f n)) :
    Calls Try.prog 14 #[.slice A n c, .slice B n d] w fun e w' => e = .returned (.bool true) ∧ w = w' :=
  (sameBytes_any A B n c n d f f w hr hs).mono fun _ _ ⟨h1, h2⟩ => ⟨by rw [h1, sameB_iff.2 ⟨rfl, fun _ _ => rfl⟩], h2⟩
section
variable {n n' : Nat} {L L' : Int} {f f' : Nat → Bool}
theorem join_both (hn : n ≤ 250) (hn' : n' ≤ 250) (hL : L ≤ 2000) (hL' : L' ≤ 2000) : ∃ m l F k, ∀ (A A' : Option Addr) (c c' : Nat) (w : World), ArgS w A n L f → ArgS w A' n' L' f' →
    Calls Try.prog 18 #[.agg #[.slice A n c, .int .i64 L], .agg #[.slice A' n' c', .int .i64 L']] w (ResS w m l F k) ∧
    Calls Try.prog 32 #[.agg #[.slice A n c, .int .i64 L], .agg #[.slice A' n' c', .int .i64 L']] w (ResS w m l F k) := by
  cases h : (rightB L n f && rightB L' n' f') with
  | false =>
    exact ⟨0, 0, noF, 11, fun A A' c c' w h1 h2 => ⟨(join_bad A A' n c n' c' L L' f f' w h1.rd h1.zero (by omega) h1.lo h1.hi h2.rd h2.zero (by omega) h2.lo h2.hi h).mono fun _ _ => ResS.bad,
      (join_ref_bad A A' n c n' c' L L' f f' w h1 h2 (by omega) (by omega) h).mono fun _ _ => ResS.bad⟩⟩
  | true =>
    rw [Bool.and_eq_true] at h
    refine ⟨(L.toNat + L'.toNat + 7) / 8, L.toNat + L'.toNat, joinF f L.toNat f', 0, fun A A' c c' w h1 h2 => ?_⟩
    obtain ⟨l, rfl, R1⟩ := h1.right h.1
    obtain ⟨l', rfl, R2⟩ := h2.right h.2
    exact ⟨(join_at A A' n c n' c' l l' (l + l') f f' w h1.rd R1 h2.rd R2 rfl (by omega)).mono fun _ _ => ResS.good,
      (join_ref_good A A' n c n' c' l l' (l + l') f f' w h1.rd R1 h2.rd R2 (by omega) (by omega) rfl (by omega)).mono fun _ _ => ResS.good⟩
theorem cut_both (p q : Int) (hn : n ≤ 250) (hL : L ≤ 2000) : ∃ m l F k, ∀ (A : Option Addr) (c : Nat) (w : World), ArgS w A n L f →
    Calls Try.prog 22 #[.agg #[.slice A n c, .int .i64 L], .int .i64 p, .int .i64 q] w (ResS w m l F k) ∧
    Calls Try.prog 33 #[.agg #[.slice A n c, .int .i64 L], .int .i64 p, .int .i64 q] w (ResS w m l F k) := by
  cases h : rightB L n f with
  | false =>
    exact ⟨0, 0, noF, 11, fun A c w h1 => ⟨(cut_bits A n c L p q f w h1.rd h1.zero (by omega) h1.lo h1.hi h).mono fun _ _ => ResS.bad, (cut_ref_bad A n c L p q f w h1 (by omega) h).mono fun _ _ => ResS.bad⟩⟩
  | true =>
    by_cases hp : 0 ≤ p ∧ p ≤ q ∧ q ≤ L
    · refine ⟨((q - p).toNat + 7) / 8, (q - p).toNat, cutF f p.toNat (q - p).toNat, 0, fun A c w h1 => ?_⟩
      obtain ⟨l, rfl, R1⟩ := h1.right h
      obtain ⟨p', rfl⟩ := Int.eq_ofNat_of_zero_le hp.1
      obtain ⟨q', rfl⟩ := Int.eq_ofNat_of_zero_le (show 0 ≤ q by omega)
      exact ⟨(cut_int A n c l p' q' p' _ f w h1.rd R1 rfl (by omega) hp.2.2).mono fun _ _ => ResS.good,
        (cut_ref_good A n c l p' q' _ f w h1.rd R1 (by omega) (by omega) (by omega) (by omega)).mono fun _ _ => ResS.good⟩
    · refine ⟨0, 0, noF, 2, fun A c w h1 => ?_⟩
      obtain ⟨l, rfl, R1⟩ := h1.right h
      exact ⟨(cut_arg A n c l p q f w h1.rd R1 hp).mono fun _ _ => ResS.bad, (cut_ref_arg A n c l p q f w h1.rd R1 (by omega) hp).mono fun _ _ => ResS.bad⟩
theorem field_both (wd : Int) (x : Nat) (hx : x < 18446744073709551616) (hw0 : -9223372036854775808 ≤ wd) (hw1 : wd ≤ 9223372036854775807) (hn : n ≤ 250) (hL : L ≤ 2000) : ∃ m l F k, ∀ (A : Option Addr) (c : Nat) (w : World), ArgS w A n L f →
    Calls Try.prog 25 #[.agg #[.slice A n c, .int .i64 L], .int .u64 x, .int .i64 wd] w (ResS w m l F k) ∧
    Calls Try.prog 34 #[.agg #[.slice A n c, .int .i64 L], .int .u64 x, .int .i64 wd] w (ResS w m l F k) := by
  cases h : rightB L n f with
  | false =>
    exact ⟨0, 0, noF, 11, fun A c w h1 => ⟨(field_bits A n c L wd x f w h1.rd h1.zero (by omega) h1.lo h1.hi h).mono fun _ _ => ResS.bad, (field_ref_bad A n c L wd x f w h1 (by omega) h).mono fun _ _ => ResS.bad⟩⟩
  | true =>
    cases hb : fieldB x wd with
    | false =>
      refine ⟨0, 0, noF, 2, fun A c w h1 => ?_⟩
      obtain ⟨l, rfl, R1⟩ := h1.right h
      exact ⟨(field_arg A n c l wd x f w h1.rd R1 hw0 hw1 hb).mono fun _ _ => ResS.bad, (field_ref_arg A n c l wd x f w h1.rd R1 (by omega) hx hb).mono fun _ _ => ResS.bad⟩
    | true =>
      have hf := fieldB_iff.1 hb
      refine ⟨(L.toNat + wd.toNat + 7) / 8, L.toNat + wd.toNat, putF f L.toNat x wd.toNat, 0, fun A c w h1 => ?_⟩
      obtain ⟨l, rfl, R1⟩ := h1.right h
      obtain ⟨v, rfl⟩ := Int.eq_ofNat_of_zero_le hf.1
      exact ⟨(field_at A n c l v (l + v) x f w h1.rd R1 (by omega) hf.2.2 rfl (by omega)).mono fun _ _ => ResS.good,
        (field_ref_good A n c l v (l + v) x f w h1.rd R1 (by omega) (by omega) hf.2.2 rfl (by omega)).mono fun _ _ => ResS.good⟩
theorem knot_both (x : Nat) (hx : x < 18446744073709551616) (hn : n ≤ 250) (hL : L ≤ 2000) : ∃ m l F k, ∀ (A : Option Addr) (c : Nat) (w : World), ArgS w A n L f →
    Calls Try.prog 20 #[.agg #[.slice A n c, .int .i64 L], .int .u64 x] w (ResS w m l F k) ∧
    Calls Try.prog 35 #[.agg #[.slice A n c, .int .i64 L], .int .u64 x] w (ResS w m l F k) := by
  cases h : rightB L n f with
  | false =>
    exact ⟨0, 0, noF, 11, fun A c w h1 => ⟨(knot_bits A n c L x f w h1.rd h1.zero (by omega) h1.lo h1.hi h).mono fun _ _ => ResS.bad, (knot_ref_bad A n c L x f w h1 (by omega) h).mono fun _ _ => ResS.bad⟩⟩
  | true =>
    by_cases hm : x < 18446744073709551615
    · have hk := (knotL_bound x hm).2.1
      refine ⟨(L.toNat + knotL x + 7) / 8, L.toNat + knotL x, putF f (L.toNat + digits x - 1) (x + 1) (digits x), 0, fun A c w h1 => ?_⟩
      obtain ⟨l, rfl, R1⟩ := h1.right h
      exact ⟨(knot_at A n c l (l + knotL x) x f w h1.rd R1 hm rfl (by omega)).mono fun _ _ => ResS.good,
        (knot_ref_good A n c l x (l + knotL x) f w h1.rd R1 (by omega) hm rfl (by omega)).mono fun _ _ => ResS.good⟩
    · obtain rfl : x = 18446744073709551615 := by omega
      refine ⟨0, 0, noF, 2, fun A c w h1 => ?_⟩
      obtain ⟨l, rfl, R1⟩ := h1.right h
      exact ⟨(knot_arg A n c l f w h1.rd R1).mono fun _ _ => ResS.bad, (knot_ref_arg A n c l f w h1.rd R1 (by omega)).mono fun _ _ => ResS.bad⟩
theorem unpack_both (hn : n ≤ 250) : ∃ m l F k, ∀ (A : Option Addr) (c : Nat) (w : World), Rd w A (cellsF f n) →
    Calls Try.prog 11 #[.slice A n c] w (ResS w m l F k) ∧ Calls Try.prog 36 #[.slice A n c] w (ResS w m l F k) := by
  by_cases hz : 0 < n ∧ byteF f (n - 1) ≠ 0
  · have h8 := (unpackL_spec hz.1 hz.2).2.1
    exact ⟨_, _, _, 0, fun A c w hr => ⟨(unpack_good A n c f w hr (by omega) hz.1 hz.2 (by omega)).mono fun _ _ => ResS.good, (unpack_ref_good A n c f w hr (by omega) hz.1 hz.2).mono fun _ _ => ResS.good⟩⟩
  · have hz' : 0 < n → byteF f (n - 1) = 0 := fun h => by
      by_cases h0 : byteF f (n - 1) = 0
      · exact h0
      · exact absurd ⟨h, h0⟩ hz
    exact ⟨0, 0, noF, 13, fun A c w hr => ⟨(unpack_zero A n c f w hr (by omega) hz').mono fun _ _ => ResS.bad, (unpack_ref_zero A n c f w hr (by omega) hz').mono fun _ _ => ResS.bad⟩⟩
theorem getField_both (p wd : Int) (hn : n ≤ 250) (hL : L ≤ 2000) : ∃ m q k, ∀ (A : Option Addr) (c : Nat) (w : World), ArgS w A n L f →
    Calls Try.prog 37 #[.agg #[.slice A n c, .int .i64 L], .int .i64 p, .int .i64 wd] w (Res3 w m q k) ∧
    Calls Try.prog 38 #[.agg #[.slice A n c, .int .i64 L], .int .i64 p, .int .i64 wd] w (Res3 w m q k) := by
  cases h : rightB L n f with
  | false =>
    exact ⟨0, 0, 11, fun A c w h1 => ⟨(getField_bits A n c L p wd f w h1.rd h1.zero (by omega) h1.lo h1.hi h).mono fun _ _ => Res3.bad, (getField_ref_bad A n c L p wd f w h1 (by omega) h).mono fun _ _ => Res3.bad⟩⟩
  | true =>
    by_cases ha : 0 ≤ wd ∧ wd ≤ 64 ∧ 0 ≤ p ∧ p ≤ L
    · by_cases hs : L < p + wd
      · refine ⟨0, 0, 10, fun A c w h1 => ?_⟩
        obtain ⟨l, rfl, R1⟩ := h1.right h
        exact ⟨(getField_short A n c l p wd f w h1.rd R1 ha.1 ha.2.1 ha.2.2.1 ha.2.2.2 hs).mono fun _ _ => Res3.bad, (getField_ref_short A n c l p wd f w h1.rd R1 (by omega) ha.1 ha.2.1 ha.2.2.1 ha.2.2.2 hs).mono fun _ _ => Res3.bad⟩
      · refine ⟨numF f p.toNat wd.toNat, p + wd, 0, fun A c w h1 => ?_⟩
        obtain ⟨l, rfl, R1⟩ := h1.right h
        have h2 := getField_ref_good A n c l p wd f w h1.rd R1 (by omega) ha.1 ha.2.1 ha.2.2.1 (by omega)
        obtain ⟨v, rfl⟩ := Int.eq_ofNat_of_zero_le ha.1
        exact ⟨(getField_good A n c l p v f w h1.rd R1 (by omega) ha.2.2.1 (by omega)).mono fun _ _ => Res3.good, h2.mono fun _ _ => Res3.good⟩
    · refine ⟨0, 0, 2, fun A c w h1 => ?_⟩
      obtain ⟨l, rfl, R1⟩ := h1.right h
      exact ⟨(getField_arg A n c l p wd f w h1.rd R1 ha).mono fun _ _ => Res3.bad, (getField_ref_arg A n c l p wd f w h1.rd R1 (by omega) ha).mono fun _ _ => Res3.bad⟩
theorem knotPost_res {w : World} {L p z : Nat} : ∃ m q k, ∀ e w', KnotPost w f L p z e w' → Res3 w m q k e w' := by
  by_cases h1 : z = 64
  · refine ⟨0, 0, 12, fun e w' h => ?_⟩
    rcases h with ⟨_, h⟩ | ⟨h, _⟩ | ⟨h, _⟩
    · exact h
    · exact absurd h1 h
    · exact absurd h1 h
  · by_cases h2 : L < p + 2 * z + 1
    · refine ⟨0, 0, 10, fun e w' h => ?_⟩
      rcases h with ⟨h, _⟩ | ⟨_, _, h⟩ | ⟨_, h, _⟩
      · exact absurd h h1
      · exact h
      · omega
    · refine ⟨numF f (p + z) (z + 1) - 1, ((p + 2 * z + 1 : Nat) : Int), 0, fun e w' h => ?_⟩
      rcases h with ⟨h, _⟩ | ⟨_, h, _⟩ | ⟨_, _, h⟩
      · exact absurd h h1
      · omega
      · exact h
theorem getKnot_both (p : Int) (hn : n ≤ 250) (hL : L ≤ 2000) : ∃ m q k, ∀ (A : Option Addr) (c : Nat) (w : World), ArgS w A n L f →
    Calls Try.prog 19 #[.agg #[.slice A n c, .int .i64 L], .int .i64 p] w (Res3 w m q k) ∧
    Calls Try.prog 39 #[.agg #[.slice A n c, .int .i64 L], .int .i64 p] w (Res3 w m q k) := by
  cases h : rightB L n f with
  | false =>
    exact ⟨0, 0, 11, fun A c w h1 => ⟨(getKnot_bits A n c L p f w h1.rd h1.zero (by omega) h1.lo h1.hi h).mono fun _ _ => Res3.bad, (getKnot_ref_bad A n c L p f w h1 (by omega) h).mono fun _ _ => Res3.bad⟩⟩
  | true =>
    by_cases ha : 0 ≤ p ∧ p ≤ L
    · have hz : ∃ m q k, ∀ w e w', KnotPost w f L.toNat p.toNat (zerosF f p.toNat (min 64 (L.toNat - p.toNat))) e w' → Res3 w m q k e w' := by
        generalize zerosF f p.toNat (min 64 (L.toNat - p.toNat)) = z
        by_cases h1 : z = 64
        · refine ⟨0, 0, 12, fun w e w' h => ?_⟩
          rcases h with ⟨_, h⟩ | ⟨h, _⟩ | ⟨h, _⟩
          · exact h
          · exact absurd h1 h
          · exact absurd h1 h
        · by_cases h2 : L.toNat < p.toNat + 2 * z + 1
          · refine ⟨0, 0, 10, fun w e w' h => ?_⟩
            rcases h with ⟨h, _⟩ | ⟨_, _, h⟩ | ⟨_, h, _⟩
            · exact absurd h h1
            · exact h
            · omega
          · refine ⟨numF f (p.toNat + z) (z + 1) - 1, ((p.toNat + 2 * z + 1 : Nat) : Int), 0, fun w e w' h => ?_⟩
            rcases h with ⟨h, _⟩ | ⟨_, h, _⟩ | ⟨_, _, h⟩
            · exact absurd h h1
            · omega
            · exact h
      obtain ⟨m, q, k, hk⟩ := hz
      refine ⟨m, q, k, fun A c w h1 => ?_⟩
      obtain ⟨l, rfl, R1⟩ := h1.right h
      obtain ⟨v, rfl⟩ := Int.eq_ofNat_of_zero_le ha.1
      exact ⟨(getKnot_any A n c l v f w h1.rd R1 (by omega)).mono fun e w' h => hk w e w' h, (getKnot_ref_any A n c l v f w h1.rd R1 (by omega) (by omega)).mono fun e w' h => hk w e w' h⟩
    · refine ⟨0, 0, 2, fun A c w h1 => ?_⟩
      obtain ⟨l, rfl, R1⟩ := h1.right h
      exact ⟨(getKnot_arg A n c l p f w h1.rd R1 ha).mono fun _ _ => Res3.bad, (getKnot_ref_arg A n c l p f w h1.rd R1 (by omega) ha).mono fun _ _ => Res3.bad⟩
theorem pack_both (hn : n ≤ 250) (hL : L ≤ 2000) : ∃ m F k, ∀ (A : Option Addr) (c : Nat) (w : World), ArgS w A n L f →
    Calls Try.prog 12 #[.agg #[.slice A n c, .int .i64 L]] w (ResB w m F k) ∧ Calls Try.prog 40 #[.agg #[.slice A n c, .int .i64 L]] w (ResB w m F k) := by
  cases h : rightB L n f with
  | false =>
    exact ⟨0, noF, 11, fun A c w h1 => ⟨(pack_bits A n c L f w h1.rd h1.zero (by omega) h1.lo h1.hi h).mono fun _ _ => ResB.bad, (pack_ref_bad A n c L f w h1 (by omega) h).mono fun _ _ => ResB.bad⟩⟩
  | true =>
    refine ⟨L.toNat / 8 + 1, packF f L.toNat, 0, fun A c w h1 => ?_⟩
    obtain ⟨l, rfl, R1⟩ := h1.right h
    exact ⟨(pack_good A n c l f w h1.rd R1).mono fun _ _ => ResB.good, (pack_ref_good A n c l (l / 8 + 1) f w h1.rd R1 (by omega) rfl (by omega)).mono fun _ _ => ResB.good⟩
end
end Go.Proofs.Ytnhlenagojbigaa
