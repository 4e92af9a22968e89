/- Knots in a row, plainly: what graph.knot and graph.Read tell, and that it is what graph.Bytes writes. No function is walked. -/
import Derived.Test.YtljihclpgpmfeaaDoorUo
import Derived.Test.YtljihclpgpmfeaaDoorGw
import Derived.Test.YtljihclpgpmfeaaDoorGm
namespace Go.Proofs.YtljihclpgpmfeaaDoor
set_option maxRecDepth 100000
open Go.RowKit

theorem zerosF_false {f : Nat → Bool} : ∀ {m p j : Nat}, j < zerosF f p m → f (p + j) = false
  | 0, p, j, h => by simp [zerosF] at h
  | m + 1, p, j, h => by
    unfold zerosF at h
    by_cases h0 : f p = true
    · simp [h0] at h
    · have h0 : f p = false := by simpa using h0
      simp only [h0] at h
      cases j with
      | zero => simpa using h0
      | succ j =>
        have := zerosF_false (f := f) (m := m) (p := p + 1) (j := j) (by simp at h; omega)
        rwa [Nat.add_assoc, Nat.add_comm 1 j] at this
/-- The knot at a place, if it says a number up to G. -/
def knotZ (f : Nat → Bool) (L p G z : Nat) : Option (Nat × Nat) :=
  if z = 64 then none else if L < p + 2 * z + 1 then none else if G < numF f (p + z) (z + 1) - 1 then none else some (numF f (p + z) (z + 1) - 1, p + 2 * z + 1)
def knotO (f : Nat → Bool) (L p G : Nat) : Option (Nat × Nat) := knotZ f L p G (zerosF f p (min 64 (L - p)))
theorem digits_of {m z : Nat} (h1 : 2 ^ z ≤ m + 1) (h2 : m + 1 < 2 ^ (z + 1)) (hm : m < 18446744073709551615) : digits m = z + 1 := by
  obtain ⟨a1, a2, a3, a4⟩ := digits_spec m hm
  rcases Nat.lt_trichotomy (digits m) (z + 1) with h | h | h
  · have := Nat.pow_le_pow_right (n := 2) (by omega) (show digits m ≤ z by omega)
    omega
  · exact h
  · have := Nat.pow_le_pow_right (n := 2) (by omega) (show z + 1 ≤ digits m - 1 by omega)
    omega
theorem knotO_some {f : Nat → Bool} {L p G m q : Nat} (hp : p ≤ L) (h : knotO f L p G = some (m, q)) : KnotAt f p m ∧ q = p + knotL m ∧ q ≤ L ∧ m ≤ G := by
  unfold knotO knotZ at h
  have hs := fun h => zerosF_stop f (min 64 (L - p)) p h
  have hl := zerosF_le f (min 64 (L - p)) p
  have hz := fun j h => zerosF_false (f := f) (m := min 64 (L - p)) (p := p) (j := j) h
  generalize zerosF f p (min 64 (L - p)) = z at h hs hl hz
  split at h
  · cases h
  · rename_i h1
    split at h
    · cases h
    · rename_i h2
      split at h
      · cases h
      · rename_i h3
        injection h with h
        injection h with e1 e2
        have ht := hs (by omega)
        have hpos := numF_pos (p := p + z) (z := z) ht
        have hlt := numF_lt f (p + z) (z + 1)
        have hb := testBit_numF f (p + z) (z + 1)
        generalize numF f (p + z) (z + 1) = M at e1 hpos hlt hb h3
        have hge : 2 ^ z ≤ M := by
          refine Classical.byContradiction fun hn => ?_
          have h1 := Nat.testBit_lt_two_pow (show M < 2 ^ z by omega)
          rw [hb z] at h1
          simp [ht] at h1
        have h64 : 2 ^ (z + 1) ≤ 2 ^ 64 := Nat.pow_le_pow_right (by omega) (by omega)
        have hm : m < 18446744073709551615 := by have : (2 : Nat) ^ 64 = 18446744073709551616 := by decide
                                                 omega
        have hd : digits m = z + 1 := digits_of (by omega) (by omega) hm
        have e3 : m + 1 = M := by omega
        refine ⟨⟨fun i hi => hz i (by omega), fun i hi => ?_⟩, by unfold knotL; omega, by omega, by omega⟩
        rw [e3, hd, hb, show z + 1 - 1 - (z + 1 - 1 - i) = i by omega, show p + (z + 1 - 1) + i = p + z + i by omega, decide_eq_true (by omega), Bool.true_and]
theorem knotO_of {f : Nat → Bool} {L p G m : Nat} (hm : m < 18446744073709551615) (h : KnotAt f p m) (hL : p + knotL m ≤ L) (hG : m ≤ G) : knotO f L p G = some (m, p + knotL m) := by
  obtain ⟨a1, a2, a3, a4⟩ := digits_spec m hm
  have hz := h.zeros hm hL
  have hn := h.2.num a1
  have hl : knotL m = 2 * digits m - 1 := rfl
  unfold knotO knotZ
  rw [hz, if_neg (by omega), if_neg (by omega), show digits m - 1 + 1 = digits m by omega, hn, if_neg (by omega)]
  exact congrArg some (Prod.ext (by show m + 1 - 1 = m; omega) (by show p + 2 * (digits m - 1) + 1 = p + knotL m; omega))
/-- Knots of these numbers stand from p to q. -/
def KnotsAt (f : Nat → Bool) : Nat → List Int → Nat → Prop
  | p, [], q => p = q
  | p, x :: xs, q => 0 ≤ x ∧ KnotAt f p x.toNat ∧ KnotsAt f (p + knotL x.toNat) xs q
theorem KnotsAt.le {f : Nat → Bool} : ∀ {xs : List Int} {p q : Nat}, KnotsAt f p xs q → p ≤ q
  | [], p, q, h => by have : p = q := h; omega
  | x :: xs, p, q, h => by have := KnotsAt.le h.2.2; omega
theorem KnotsAt.congr {f g : Nat → Bool} : ∀ {xs : List Int} {p q : Nat}, KnotsAt f p xs q → (∀ i, p ≤ i → i < q → f i = g i) → KnotsAt g p xs q
  | [], p, q, h, _ => h
  | x :: xs, p, q, h, e => by
    have hl := KnotsAt.le h.2.2
    exact ⟨h.1, h.2.1.congr fun i h1 h2 => e i h1 (by omega), KnotsAt.congr h.2.2 fun i h1 h2 => e i (by omega) h2⟩
/-- So many edges, from a place on. -/
def readE (f : Nat → Bool) (L : Nat) : Nat → Nat → Option (List (Int × Int) × Nat)
  | 0, p => some ([], p)
  | m + 1, p => (knotO f L p 200).bind fun a => (knotO f L a.2 200).bind fun b => (readE f L m b.2).map fun y => (((a.1 : Int), (b.1 : Int)) :: y.1, y.2)
def readK (f : Nat → Bool) (L : Nat) : Option (Int × List (Int × Int)) :=
  (knotO f L 0 200).bind fun a => (knotO f L a.2 594).bind fun b => (readE f L b.1 b.2).bind fun y => if y.2 = L ∧ rightG (a.1 : Int) y.1 = true then some ((a.1 : Int), y.1) else none
def readO (f : Nat → Bool) (n : Nat) : Option (Int × List (Int × Int)) :=
  if n ≤ 524289 ∧ 0 < n ∧ byteF f (n - 1) ≠ 0 ∧ unpackL f n ≤ 4194304 then readK (cutTo f (unpackL f n)) (unpackL f n) else none
theorem readE_some {f : Nat → Bool} {L : Nat} : ∀ {m p q : Nat} {E : List (Int × Int)}, p ≤ L → readE f L m p = some (E, q) → KnotsAt f p (E.flatMap fun e => [e.1, e.2]) q ∧ q ≤ L ∧ E.length = m
  | 0, p, q, E, hp, h => by
    injection h with h
    injection h with h1 h2
    subst h1 h2
    exact ⟨rfl, hp, rfl⟩
  | m + 1, p, q, E, hp, h => by
    unfold readE at h
    cases ha : knotO f L p 200 with
    | none => rw [ha] at h; cases h
    | some a =>
      obtain ⟨a, p1⟩ := a
      rw [ha] at h
      simp only [Option.bind_some] at h
      obtain ⟨k1, e1, l1, _⟩ := knotO_some hp ha
      cases hb : knotO f L p1 200 with
      | none => rw [hb] at h; cases h
      | some b =>
        obtain ⟨b, p2⟩ := b
        rw [hb] at h
        simp only [Option.bind_some] at h
        obtain ⟨k2, e2, l2, _⟩ := knotO_some l1 hb
        cases hr : readE f L m p2 with
        | none => rw [hr] at h; cases h
        | some y =>
          obtain ⟨E2, q2⟩ := y
          rw [hr] at h
          injection h with h
          injection h with h1 h2
          subst h1 h2
          obtain ⟨i1, i2, i3⟩ := readE_some l2 hr
          subst e1 e2
          rw [List.flatMap_cons]
          exact ⟨⟨by omega, by rw [Int.toNat_natCast]; exact k1, by omega, by rw [Int.toNat_natCast, Int.toNat_natCast]; exact k2, by rw [Int.toNat_natCast, Int.toNat_natCast]; exact i1⟩, i2, by rw [List.length_cons, i3]⟩
theorem readE_of {f : Nat → Bool} {L : Nat} : ∀ {E : List (Int × Int)} {p q : Nat}, KnotsAt f p (E.flatMap fun e => [e.1, e.2]) q → q ≤ L → (∀ e ∈ E, e.1 ≤ 200 ∧ e.2 ≤ 200) → readE f L E.length p = some (E, q)
  | [], p, q, h, _, _ => by
    have : p = q := h
    subst this; rfl
  | e :: E, p, q, h, hq, hE => by
    obtain ⟨x, y⟩ := e
    rw [List.flatMap_cons] at h
    obtain ⟨x0, k1, y0, k2, h3⟩ := h
    have hl := KnotsAt.le h3
    obtain ⟨b1, b2⟩ := hE (x, y) (by simp)
    have b1 : x ≤ 200 := b1
    have b2 : y ≤ 200 := b2
    rw [List.length_cons]
    unfold readE
    rw [knotO_of (by omega) k1 (by omega) (by omega)]
    simp only [Option.bind_some]
    rw [knotO_of (by omega) k2 (by omega) (by omega)]
    simp only [Option.bind_some]
    have x1 : ((x.toNat : Nat) : Int) = x := by omega
    have y1 : ((y.toNat : Nat) : Int) = y := by omega
    rw [readE_of h3 hq fun e he => hE e (by simp [he]), x1, y1]
    rfl
theorem readK_some {f : Nat → Bool} {L : Nat} {N : Int} {E : List (Int × Int)} (h : readK f L = some (N, E)) : KnotsAt f 0 (numsG N E) L ∧ RightE N E := by
  unfold readK at h
  cases ha : knotO f L 0 200 with
  | none => rw [ha] at h; cases h
  | some a =>
    obtain ⟨a, p1⟩ := a
    rw [ha] at h
    simp only [Option.bind_some] at h
    obtain ⟨k1, e1, l1, _⟩ := knotO_some (Nat.zero_le _) ha
    cases hb : knotO f L p1 594 with
    | none => rw [hb] at h; cases h
    | some b =>
      obtain ⟨b, p2⟩ := b
      rw [hb] at h
      simp only [Option.bind_some] at h
      obtain ⟨k2, e2, l2, _⟩ := knotO_some l1 hb
      cases hr : readE f L b p2 with
      | none => rw [hr] at h; cases h
      | some y =>
        obtain ⟨E2, q2⟩ := y
        rw [hr] at h
        simp only [Option.bind_some] at h
        obtain ⟨i1, i2, i3⟩ := readE_some l2 hr
        split at h
        · rename_i hc
          obtain ⟨hc1, hc2⟩ := hc
          injection h with h
          injection h with h1 h2
          subst h1 h2
          have hc1 : q2 = L := hc1
          subst hc1
          refine ⟨?_, rightG_iff.1 hc2⟩
          unfold numsG
          subst e1 e2
          refine ⟨by omega, by rw [Int.toNat_natCast]; exact k1, by omega, ?_⟩
          show KnotAt _ _ (E2.length : Int).toNat ∧ KnotsAt _ _ (E2.flatMap _) _
          rw [i3, Int.toNat_natCast, Int.toNat_natCast]
          exact ⟨k2, i1⟩
        · cases h
theorem readK_of {f : Nat → Bool} {L : Nat} {N : Int} {E : List (Int × Int)} (hr : RightE N E) (h : KnotsAt f 0 (numsG N E) L) : readK f L = some (N, E) := by
  unfold numsG at h
  obtain ⟨n0, k1, _, k2, h3⟩ := h
  have hl := KnotsAt.le h3
  have n1 := hr.n1
  have hlen := hr.len
  rw [Int.toNat_natCast] at k2 h3 hl
  have hN : ((N.toNat : Nat) : Int) = N := by omega
  unfold readK
  rw [knotO_of (by omega) k1 (by omega) (by omega)]
  simp only [Option.bind_some]
  rw [knotO_of (by omega) k2 (by omega) (by omega)]
  simp only [Option.bind_some]
  rw [readE_of h3 (Nat.le_refl _) (fun e he => by obtain ⟨v0, v1, v2⟩ := hr.valid e he; exact ⟨by omega, by omega⟩)]
  simp only [Option.bind_some]
  rw [hN, if_pos ⟨trivial, rightG_iff.2 hr⟩]
/-- Written over: a knot behind what was cut off. -/
theorem knotS_cut {f : Nat → Bool} {p m : Nat} (hm : m < 18446744073709551615) (h : KnotAt f p m) : knotS (p, cutTo f p) m = (p + knotL m, cutTo f (p + knotL m)) := by
  obtain ⟨a1, a2, a3, a4⟩ := digits_spec m hm
  have hl : knotL m = 2 * digits m - 1 := rfl
  unfold knotS
  refine Prod.ext (by show p + (2 * digits m - 1) = p + knotL m; omega) ?_
  funext i
  show putF (cutTo f p) (p + digits m - 1) (m + 1) (digits m) i = cutTo f (p + knotL m) i
  unfold putF cutTo
  rcases Nat.lt_or_ge i p with h1 | h1
  · simp [h1, show i < p + knotL m by omega]; omega
  · rw [decide_eq_false (show ¬ i < p by omega), Bool.and_false, Bool.false_or]
    rcases Nat.lt_or_ge i (p + (digits m - 1)) with h2 | h2
    · have := h.1 (i - p) (by omega)
      rw [show p + (i - p) = i by omega] at this
      rw [this, Bool.false_and, decide_eq_false (by omega), Bool.false_and]
    · rcases Nat.lt_or_ge i (p + knotL m) with h3 | h3
      · have := h.2 (i - (p + (digits m - 1))) (by omega)
        rw [show p + (digits m - 1) + (i - (p + (digits m - 1))) = i by omega] at this
        rw [decide_eq_true (by omega), decide_eq_true h3, Bool.true_and, Bool.and_true, this]
        congr 1; omega
      · rw [decide_eq_false (by omega), decide_eq_false (show ¬ i < p + knotL m by omega), Bool.false_and, Bool.and_false]
theorem knots_fold {f : Nat → Bool} : ∀ {xs : List Int} {p q : Nat}, KnotsAt f p xs q → (∀ x ∈ xs, x.toNat < 18446744073709551615) → xs.foldl (fun s x => knotS s x.toNat) (p, cutTo f p) = (q, cutTo f q)
  | [], p, q, h, _ => by
    have : p = q := h
    subst this; rfl
  | x :: xs, p, q, h, hx => by
    rw [List.foldl_cons, knotS_cut (hx x (by simp)) h.2.1]
    exact knots_fold h.2.2 fun y hy => hx y (by simp [hy])
theorem knotsS_of {f : Nat → Bool} {xs : List Int} {q : Nat} (h : KnotsAt f 0 xs q) (hx : ∀ x ∈ xs, x.toNat < 18446744073709551615) : knotsS xs = (q, cutTo f q) := by
  have e : (0, fun _ => false) = ((0 : Nat), cutTo f 0) := Prod.ext rfl (by funext i; simp [cutTo])
  unfold knotsS
  rw [e]
  exact knots_fold h hx
theorem knots_back : ∀ {xs : List Int} (s : Nat × (Nat → Bool)), (∀ x ∈ xs, 0 ≤ x ∧ x.toNat < 18446744073709551615) → (∀ i, s.1 ≤ i → s.2 i = false) →
    s.1 ≤ (xs.foldl (fun s x => knotS s x.toNat) s).1 ∧ (∀ i, i < s.1 → (xs.foldl (fun s x => knotS s x.toNat) s).2 i = s.2 i) ∧ (∀ i, (xs.foldl (fun s x => knotS s x.toNat) s).1 ≤ i → (xs.foldl (fun s x => knotS s x.toNat) s).2 i = false) ∧ KnotsAt (xs.foldl (fun s x => knotS s x.toNat) s).2 s.1 xs (xs.foldl (fun s x => knotS s x.toNat) s).1
  | [], s, _, hz => ⟨Nat.le_refl _, fun _ _ => rfl, hz, rfl⟩
  | x :: xs, s, hx, hz => by
    obtain ⟨x0, hm⟩ := hx x (by simp)
    obtain ⟨a1, a2, a3, a4⟩ := digits_spec _ hm
    have hl : knotL x.toNat = 2 * digits x.toNat - 1 := rfl
    have e1 : (knotS s x.toNat).1 = s.1 + knotL x.toNat := rfl
    have e2 : (knotS s x.toNat).2 = putF s.2 (s.1 + digits x.toNat - 1) (x.toNat + 1) (digits x.toNat) := rfl
    obtain ⟨i1, i2, i3, i4⟩ := knots_back (xs := xs) (knotS s x.toNat) (fun y hy => hx y (by simp [hy])) (fun i hi => by
      rw [e1] at hi
      rw [e2]
      unfold putF
      rw [hz i (by omega)]; simp; omega)
    rw [List.foldl_cons]
    rw [e1] at i1 i2 i4
    refine ⟨by omega, fun i hi => ?_, i3, x0, ?_, i4⟩
    · rw [i2 i (by omega), e2]
      unfold putF
      simp; omega
    · have := knotAt_put (f := s.2) (p := s.1) hm hz
      rw [← e2] at this
      exact this.congr fun i h1 h2 => (i2 i h2).symm
theorem knotsS_at {xs : List Int} (hx : ∀ x ∈ xs, 0 ≤ x ∧ x.toNat < 18446744073709551615) : KnotsAt (knotsS xs).2 0 xs (knotsS xs).1 ∧ ∀ i, (knotsS xs).1 ≤ i → (knotsS xs).2 i = false := by
  obtain ⟨_, _, h3, h4⟩ := knots_back (xs := xs) (0, fun _ => false) hx (fun _ _ => rfl)
  exact ⟨h4, h3⟩
theorem nums_ok {N : Int} {E : List (Int × Int)} (h : RightE N E) : ∀ x ∈ numsG N E, 0 ≤ x ∧ x.toNat < 18446744073709551615 := by
  intro x hx
  obtain ⟨m, rfl, hm⟩ := numsG_small (rightG_iff.2 h) x hx
  omega
theorem knotsG_RS {N : Int} {E : List (Int × Int)} (h : RightE N E) : RS (knotsS (numsG N E)).1 (((knotsS (numsG N E)).1 + 7) / 8) (knotsS (numsG N E)).2 := by
  refine ⟨?_, rfl, (knotsS_at (nums_ok h)).2⟩
  have h1 := knotsS_len (numsG_small (rightG_iff.2 h)) (numsG N E).length
  rw [List.take_length, numsG_len] at h1
  have := h.len
  omega
theorem bytesO_right {N : Int} {E : List (Int × Int)} (h : RightE N E) : bytesO N E = some (knotsS (numsG N E)) := if_pos (rightG_iff.2 h)
/-- What is read has these bytes. -/
theorem readO_bytes {f : Nat → Bool} {n : Nat} {N : Int} {E : List (Int × Int)} (h : readO f n = some (N, E)) : RightE N E ∧ sameB f n (packF (knotsS (numsG N E)).2 (knotsS (numsG N E)).1) ((knotsS (numsG N E)).1 / 8 + 1) = true := by
  unfold readO at h
  split at h
  · rename_i hc
    obtain ⟨h1, h2⟩ := readK_some h
    refine ⟨h2, ?_⟩
    rw [knotsS_of h1 fun x hx => (nums_ok h2 x hx).2]
    have e : cutTo (cutTo f (unpackL f n)) (unpackL f n) = cutTo f (unpackL f n) := by
      funext i
      unfold cutTo
      cases f i <;> simp
    show sameB f n (packF (cutTo (cutTo f (unpackL f n)) (unpackL f n)) (unpackL f n)) (unpackL f n / 8 + 1) = true
    rw [e]
    exact sameB_back hc.2.1 hc.2.2.1
  · cases h
/-- A graph's bytes are read to it. -/
theorem readO_back {N : Int} {E : List (Int × Int)} (h : RightE N E) : readO (packF (knotsS (numsG N E)).2 (knotsS (numsG N E)).1) ((knotsS (numsG N E)).1 / 8 + 1) = some (N, E) := by
  have hs := knotsG_RS h
  obtain ⟨p1, p2⟩ := packF_unpack hs
  have hle := hs.le
  unfold readO
  rw [p2, if_pos ⟨by omega, by omega, p1, hle⟩, cutTo_packF hs]
  exact readK_of h (knotsS_at (nums_ok h)).1
/-- Unlike graphs have unlike bytes. -/
theorem bytes_same {N M : Int} {E F : List (Int × Int)} (h : RightE N E) (k : RightE M F) : sameB (packF (knotsS (numsG N E)).2 (knotsS (numsG N E)).1) ((knotsS (numsG N E)).1 / 8 + 1) (packF (knotsS (numsG M F)).2 (knotsS (numsG M F)).1) ((knotsS (numsG M F)).1 / 8 + 1) = ((N == M) && (E == F)) := by
  rw [sameB_pack (knotsG_RS h) (knotsG_RS k), Bool.eq_iff_iff, sameS_iff (knotsG_RS h) (knotsG_RS k), Bool.and_eq_true, beq_iff_eq, beq_iff_eq]
  constructor
  · rintro ⟨e1, e2⟩
    have h1 := readK_of h (knotsS_at (nums_ok h)).1
    have h2 := readK_of k (knotsS_at (nums_ok k)).1
    rw [e1, e2, h2] at h1
    injection h1 with h1
    injection h1 with h1 h3
    exact ⟨h1.symm, h3.symm⟩
  · rintro ⟨rfl, rfl⟩
    exact ⟨rfl, rfl⟩
end Go.Proofs.YtljihclpgpmfeaaDoor
