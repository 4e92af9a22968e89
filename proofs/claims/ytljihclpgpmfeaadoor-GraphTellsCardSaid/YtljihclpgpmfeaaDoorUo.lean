/- Bundle of texts: Low StrO StrQ. -/
import Derived.Test.YtljihclpgpmfeaaDoorUb
import Derived.Laws.BytesArg
import Derived.Lib.Bytes
import Derived.Test.YtljihclpgpmfeaaDoorUn
import Derived.Test.YtljihclpgpmfeaaDoorUc
/- Walks: fretworklow.SameBytes; fretworklaw01.Same, Great. -/
namespace Go.Proofs.YtljihclpgpmfeaaDoor
set_option maxRecDepth 100000
open Go.RowKit

/-- The numbers of n bytes f. -/
def numsF (f : Nat → Bool) (n : Nat) : List Int := (List.range n).map fun q => ((byteF f q : Nat) : Int)
theorem numsF_map (f : Nat → Bool) (n : Nat) : (numsF f n).map (Value.int .u8) = cellsF f n := by simp [numsF, cellsF]
theorem length_numsF (f : Nat → Bool) (n : Nat) : (numsF f n).length = n := by simp [numsF]
/-- The text of n bytes f. -/
def strF (f : Nat → Bool) (n : Nat) : ByteArray := strOfNums (numsF f n)
theorem numsF_at (f : Nat → Bool) (n i : Nat) (h : i < n) : (numsF f n).getD i 0 = ((byteF f i : Nat) : Int) := by simp [numsF, h]
theorem strF_toList (f : Nat → Bool) (n : Nat) : (strF f n).toList = (List.range n).map fun q => UInt8.ofNat (byteF f q) := by
  unfold strF
  rw [Lib.strOfNums_toList]
  simp [Lib.bytesOf, numsF]
/-- Are the bytes the same? -/
def sameB (f : Nat → Bool) (n : Nat) (g : Nat → Bool) (m : Nat) : Bool := decide (n = m) && (List.range (8 * n)).all fun i => f i == g i
theorem sameB_iff {f g : Nat → Bool} {n m : Nat} : sameB f n g m = true ↔ n = m ∧ ∀ i, i < 8 * n → f i = g i := by
  simp [sameB]
theorem strF_beq (f g : Nat → Bool) (n m : Nat) : ((strF f n).toList == (strF g m).toList) = sameB f n g m := by
  rw [Bool.eq_iff_iff, sameB_iff, beq_iff_eq, strF_toList, strF_toList]
  constructor
  · intro h
    have hl := congrArg List.length h
    simp at hl
    subst hl
    refine ⟨rfl, fun i hi => ?_⟩
    have h1 := congrArg (fun l => l[i / 8]?) h
    have hq : i / 8 < n := by omega
    simp [hq] at h1
    have h2 := congrArg UInt8.toNat h1
    have e1 := byteF_lt f (i / 8); have e2 := byteF_lt g (i / 8)
    rw [UInt8.toNat_ofNat', UInt8.toNat_ofNat', Nat.mod_eq_of_lt e1, Nat.mod_eq_of_lt e2] at h2
    have h3 := byteF_inj h2 (i % 8) (by omega)
    have e : 8 * (i / 8) + i % 8 = i := by omega
    rwa [e] at h3
  · rintro ⟨rfl, h⟩
    apply List.map_congr_left
    intro q hq
    have hq := List.mem_range.1 hq
    rw [byteF_congr (f := f) (g := g) (q := q) (p := q) (fun i hi => h _ (by omega))]

theorem conv_bytes (A : Option Addr) (n c : Nat) (f : Nat → Bool) (w : World) (hr : Rd w A (cellsF f n)) : (convert 22 9 (.slice A n c)).run Tryd.prog w = .ok (.string (strF f n)) w := by
  by_cases h0 : n = 0
  · subst h0
    rw [run_convert_bytes_string w 22 9 5 A 0 c Tryd.underlying22 Tryd.underlying5 Tryd.underlying9]
    cases A with
    | none => simp [Conv.bytesToString]; rfl
    | some a =>
      rw [run_bytesToString w a 0 c [] (by simp [loadCells, loadCellsFrom])]
      rfl
  · obtain ⟨b, off, rfl, hb, hc⟩ := hr (by rw [length_cellsF]; omega)
    exact run_convert_bytes_arg w 22 5 Tryd.underlying22 Tryd.underlying5 b off n c (numsF f n) (length_numsF f n) (fun i hi => by rw [numsF_at f n i hi]; exact hc i _ (cellsF_at f n i hi)) 9 Tryd.underlying9

set_option maxHeartbeats 1000000 in
theorem sameBytes_any (A B : Option Addr) (n c m d : Nat) (f g : Nat → Bool) (w : World) (hr : Rd w A (cellsF f n)) (hs : Rd w B (cellsF g m)) :
    Calls Tryd.prog 14 #[.slice A n c, .slice B m d] w fun e w' => e = .returned (.bool (sameB f n g m)) ∧ w = w' := by
  have c1 := conv_bytes A n c f w hr
  have c2 := conv_bytes B m d g w hs
  have HB := Lib.hid (strF_beq f g n m)
  generalize strF f n = X at c1 HB
  generalize strF g m = Y at c2 HB
  clear hr hs
  go_enter Tryd.func14, Tryd.ntmps14
  go_wp2
  go_ret
  exact ⟨by rw [← HB.out]; rfl, rfl⟩

/-- Are two strands the same? -/
def sameS (f : Nat → Bool) (n : Nat) (L : Int) (g : Nat → Bool) (m : Nat) (M : Int) : Bool := decide (L = M) && sameB f n g m
end Go.Proofs.YtljihclpgpmfeaaDoor
/- Plain facts: packed and unpacked again. -/
namespace Go.Proofs.YtljihclpgpmfeaaDoor
set_option maxRecDepth 100000
open Go.RowKit

theorem unpackL_eq {f : Nat → Bool} {n L : Nat} (hn : 0 < n) (h0 : L < 8 * n) (h1 : 8 * (n - 1) ≤ L) (h2 : f L = true) (h3 : ∀ i, L < i → i < 8 * n → f i = false) : byteF f (n - 1) ≠ 0 ∧ unpackL f n = L := by
  have hb : byteF f (n - 1) ≠ 0 := by
    intro e
    have ht := testBit_byteF f (n - 1) (7 - (L - 8 * (n - 1)))
    rw [e, Nat.zero_testBit] at ht
    have e2 : 8 * (n - 1) + (7 - (7 - (L - 8 * (n - 1)))) = L := by omega
    have e3 : 7 - (L - 8 * (n - 1)) < 8 := by omega
    rw [e2, h2] at ht
    simp [e3] at ht
  refine ⟨hb, ?_⟩
  obtain ⟨_, s1, s2, s3, s4⟩ := unpackL_spec hn hb
  rcases Nat.lt_trichotomy (unpackL f n) L with h | h | h
  · rw [s4 L h h0] at h2; cases h2
  · exact h
  · rw [h3 _ h s1] at s3; cases s3
theorem cutTo_RS {f : Nat → Bool} {l : Nat} (h : l ≤ 4194304) : RS l ((l + 7) / 8) (cutTo f l) := ⟨h, rfl, fun i hi => by unfold cutTo; simp; omega⟩
/-- What was unpacked is packed to the same. -/
theorem sameB_back {f : Nat → Bool} {n : Nat} (hn : 0 < n) (h : byteF f (n - 1) ≠ 0) : sameB f n (packF (cutTo f (unpackL f n)) (unpackL f n)) (unpackL f n / 8 + 1) = true := by
  obtain ⟨_, s1, s2, s3, s4⟩ := unpackL_spec hn h
  generalize unpackL f n = L at *
  rw [sameB_iff]
  refine ⟨by omega, fun i hi => ?_⟩
  unfold packF cutTo
  rcases Nat.lt_trichotomy i L with h | h | h
  · simp [h]; omega
  · subst h; simp [s3]
  · rw [s4 i h hi]; simp; omega
theorem packF_unpack {f : Nat → Bool} {L n : Nat} (hs : RS L n f) : byteF (packF f L) (L / 8 + 1 - 1) ≠ 0 ∧ unpackL (packF f L) (L / 8 + 1) = L :=
  unpackL_eq (by omega) (by omega) (by omega) (by simp [packF]) (fun i hi _ => by simp [packF, hs.zero i (by omega)]; omega)
theorem cutTo_packF {f : Nat → Bool} {L n : Nat} (hs : RS L n f) : cutTo (packF f L) L = f := by
  funext i
  unfold cutTo packF
  by_cases h : i < L
  · simp [h]; omega
  · simp [h, hs.zero i (by omega)]
theorem sameS_self {f : Nat → Bool} {n : Nat} {L : Int} : sameS f n L f n L = true := by
  unfold sameS
  rw [sameB_iff.2 ⟨rfl, fun _ _ => rfl⟩]
  simp
theorem RS.bits {f g : Nat → Bool} {L n : Nat} (h : RS L n f) (k : RS L n g) (hs : ∀ i, i < L → f i = g i) : f = g := by
  funext i
  by_cases hi : i < L
  · exact hs i hi
  · rw [h.zero i (by omega), k.zero i (by omega)]
theorem sameS_iff {f g : Nat → Bool} {L M n m : Nat} (h : RS L n f) (k : RS M m g) : sameS f n L g m M = true ↔ L = M ∧ f = g := by
  have h1 := h.len; have h2 := k.len
  unfold sameS
  rw [Bool.and_eq_true, decide_eq_true_eq, sameB_iff]
  constructor
  · rintro ⟨e, e2, e3⟩
    have e : L = M := by omega
    subst e
    subst e2
    exact ⟨rfl, h.bits k (fun i hi => e3 i (by omega))⟩
  · rintro ⟨rfl, rfl⟩
    exact ⟨rfl, by omega, fun _ _ => rfl⟩
/-- Two strands have the same bytes just if they are the same. -/
theorem sameB_pack {f g : Nat → Bool} {L M n m : Nat} (h : RS L n f) (k : RS M m g) : sameB (packF f L) (L / 8 + 1) (packF g M) (M / 8 + 1) = sameS f n L g m M := by
  rw [Bool.eq_iff_iff, sameB_iff, sameS_iff h k]
  constructor
  · rintro ⟨e, e2⟩
    have hp := packF_unpack h
    have hq := packF_unpack k
    obtain ⟨_, s1, s2, s3, s4⟩ := unpackL_spec (by omega) hp.1
    rw [hp.2] at s1 s2 s3 s4
    have e3 := (unpackL_eq (f := packF g M) (n := M / 8 + 1) (L := L) (by omega) (by omega) (by omega) (by rw [← e2 L (by omega)]; exact s3) (fun i hi hi2 => by rw [← e2 i (by omega)]; exact s4 i hi (by omega))).2
    have e4 : L = M := by rw [← e3, hq.2]
    subst e4
    have hn : n = m := by rw [h.len, k.len]
    subst hn
    refine ⟨rfl, h.bits k (fun i hi => ?_)⟩
    have := e2 i (by omega)
    unfold packF at this
    simpa [show i ≠ L by omega] using this
  · rintro ⟨rfl, rfl⟩
    exact ⟨rfl, fun _ _ => rfl⟩
end Go.Proofs.YtljihclpgpmfeaaDoor
/- Plain facts on knots and fields; GetKnot, GetField where one stands. -/
namespace Go.Proofs.YtljihclpgpmfeaaDoor
set_option maxRecDepth 100000
open Go.RowKit

theorem testBit_top {x k : Nat} (h1 : 2 ^ k ≤ x) (h2 : x < 2 ^ (k + 1)) : x.testBit k = true := by
  have hd : x / 2 ^ k = 1 := by
    have hp : 0 < 2 ^ k := Nat.pow_pos (by omega)
    rw [Nat.pow_succ] at h2
    rw [Nat.div_eq_iff hp]
    constructor <;> omega
  rw [Nat.testBit_eq_decide_div_mod_eq, hd]
  rfl
/-- At the place p of f a field of w bits stands, that says m. -/
def FieldAt (f : Nat → Bool) (p m w : Nat) : Prop := ∀ i, i < w → f (p + i) = m.testBit (w - 1 - i)
/-- .. the knot of m. -/
def KnotAt (f : Nat → Bool) (p m : Nat) : Prop := (∀ i, i < digits m - 1 → f (p + i) = false) ∧ FieldAt f (p + (digits m - 1)) (m + 1) (digits m)
theorem FieldAt.num {f : Nat → Bool} {p m w : Nat} (h : FieldAt f p m w) (hm : m < 2 ^ w) : numF f p w = m := by
  rw [numF_congr (f := f) (g := fun i => m.testBit (w - 1 - i)) (a := p) (b := 0) (fun i hi => by rw [Nat.zero_add]; exact h i hi)]
  exact numF_testBit m w hm
theorem FieldAt.congr {f g : Nat → Bool} {p m w : Nat} (h : FieldAt f p m w) (e : ∀ i, p ≤ i → i < p + w → f i = g i) : FieldAt g p m w := fun i hi => by
  rw [← e (p + i) (by omega) (by omega)]
  exact h i hi
theorem digits_spec (m : Nat) (hm : m < 18446744073709551615) : m + 1 < 2 ^ digits m ∧ 2 ^ (digits m - 1) ≤ m + 1 ∧ 1 ≤ digits m ∧ digits m ≤ 64 := by
  have h := bitLen_spec (m + 1) (by omega)
  have h2 := h.2.1 (by omega)
  exact ⟨h.1, h2.2, h2.1, h.2.2⟩
theorem digits_mono {n m : Nat} (h : n ≤ m) (hm : m < 18446744073709551615) : digits n ≤ digits m := by
  obtain ⟨a1, a2, a3, a4⟩ := digits_spec n (by omega)
  obtain ⟨b1, b2, b3, b4⟩ := digits_spec m hm
  rcases Nat.lt_or_ge (digits m) (digits n) with hlt | hge
  · have := Nat.pow_le_pow_right (n := 2) (by omega) (show digits m ≤ digits n - 1 by omega)
    omega
  · exact hge
theorem KnotAt.top {f : Nat → Bool} {p m : Nat} (h : KnotAt f p m) (hm : m < 18446744073709551615) : f (p + (digits m - 1)) = true := by
  obtain ⟨a1, a2, a3, a4⟩ := digits_spec m hm
  have h0 := h.2 0 (by omega)
  rw [Nat.add_zero, Nat.sub_zero] at h0
  rw [h0]
  exact testBit_top a2 (by rw [show digits m - 1 + 1 = digits m by omega]; exact a1)
theorem KnotAt.zeros {f : Nat → Bool} {p m L : Nat} (h : KnotAt f p m) (hm : m < 18446744073709551615) (hL : p + knotL m ≤ L) : zerosF f p (min 64 (L - p)) = digits m - 1 := by
  obtain ⟨a1, a2, a3, a4⟩ := digits_spec m hm
  unfold knotL at hL
  exact zerosF_eq (by omega) h.1 (Or.inr (h.top hm))
theorem KnotAt.congr {f g : Nat → Bool} {p m : Nat} (h : KnotAt f p m) (e : ∀ i, p ≤ i → i < p + knotL m → f i = g i) : KnotAt g p m :=
  ⟨fun i hi => by rw [← e (p + i) (by omega) (by unfold knotL; omega)]; exact h.1 i hi, h.2.congr (fun i h1 h2 => e i (by omega) (by unfold knotL; omega))⟩
theorem fieldAt_put {f : Nat → Bool} {p m w : Nat} (hz : ∀ i, p ≤ i → f i = false) : FieldAt (putF f p m w) p m w := fun i hi => by
  unfold putF
  rw [hz _ (by omega), show p + i - p = i by omega]
  simp [hi]
theorem knotAt_put {f : Nat → Bool} {p m : Nat} (hm : m < 18446744073709551615) (hz : ∀ i, p ≤ i → f i = false) : KnotAt (putF f (p + digits m - 1) (m + 1) (digits m)) p m := by
  obtain ⟨a1, a2, a3, a4⟩ := digits_spec m hm
  have e : p + digits m - 1 = p + (digits m - 1) := by omega
  rw [e]
  refine ⟨fun i hi => ?_, fieldAt_put (fun i hi => hz i (by omega))⟩
  unfold putF
  rw [hz _ (by omega)]
  simp; omega
theorem putF_ahead {f : Nat → Bool} {a m w i : Nat} (h : i < a) : putF f a m w i = f i := by unfold putF; simp; omega
theorem putF_RS {f : Nat → Bool} {L n a m w M : Nat} (h : RS L n f) (ha : a + w ≤ M) (hLM : L ≤ M) (hM : M ≤ 4194304) : RS M ((M + 7) / 8) (putF f a m w) :=
  ⟨hM, rfl, fun i hi => by unfold putF; rw [h.zero i (by omega)]; simp; omega⟩
theorem knotL_bound (m : Nat) (hm : m < 18446744073709551615) : 1 ≤ knotL m ∧ knotL m ≤ 127 ∧ knotL m % 2 = 1 := by
  obtain ⟨a1, a2, a3, a4⟩ := digits_spec m hm
  unfold knotL
  omega
theorem knotF_RS (m : Nat) (hm : m < 18446744073709551615) : RS (knotL m) ((knotL m + 7) / 8) (knotF m) :=
  putF_RS noF_RS (by obtain ⟨a1, a2, a3, a4⟩ := digits_spec m hm; unfold knotL; omega) (by omega) (by have := knotL_bound m hm; omega)
theorem knotF_at (m : Nat) (hm : m < 18446744073709551615) : KnotAt (knotF m) 0 m := by
  have := knotAt_put (f := noF) (p := 0) hm (fun _ _ => rfl)
  rwa [Nat.zero_add] at this
theorem knot_inj {n m : Nat} (hn : n < 18446744073709551615) (hm : m < 18446744073709551615) (hne : n ≠ m) : sameS (knotF n) ((knotL n + 7) / 8) (knotL n) (knotF m) ((knotL m + 7) / 8) (knotL m) = false := by
  cases h : sameS (knotF n) ((knotL n + 7) / 8) (knotL n) (knotF m) ((knotL m + 7) / 8) (knotL m) with
  | false => rfl
  | true =>
    exfalso
    obtain ⟨e1, e2⟩ := (sameS_iff (knotF_RS n hn) (knotF_RS m hm)).1 h
    obtain ⟨a1, a2, a3, a4⟩ := digits_spec n hn
    obtain ⟨b1, b2, b3, b4⟩ := digits_spec m hm
    have ed : digits n = digits m := by unfold knotL at e1; omega
    have k1 := (knotF_at n hn).2.num a1
    have k2 := (knotF_at m hm).2.num b1
    rw [e2, ed, k2] at k1
    omega
theorem getKnot_reads (A : Option Addr) (n c L p m : Nat) (f : Nat → Bool) (w : World) (hr : Rd w A (cellsF f n)) (hs : RS L n f) (hm : m < 18446744073709551615) (hp : p + knotL m ≤ L) (hk : KnotAt f p m) :
    Calls Tryd.prog 57 #[.agg #[.slice A n c, .int .i64 L], .int .i64 p] w (Good3 w m ((p + knotL m : Nat) : Int)) := by
  obtain ⟨a1, a2, a3, a4⟩ := digits_spec m hm
  have hz := hk.zeros hm hp
  have hn := hk.2.num a1
  have hl : knotL m = 2 * digits m - 1 := rfl
  refine (getKnot_any A n c L p f w hr hs (by omega)).mono ?_
  intro e w' h
  rw [hz] at h
  rcases h with ⟨h, _⟩ | ⟨_, h, _⟩ | ⟨_, _, h⟩
  · omega
  · omega
  · rw [show digits m - 1 + 1 = digits m by omega, hn, show m + 1 - 1 = m by omega, show p + 2 * (digits m - 1) + 1 = p + knotL m by omega] at h
    exact h
/-- .. cut off ahead of its end. -/
theorem getKnot_part (A : Option Addr) (n c L p m : Nat) (f g : Nat → Bool) (w : World) (hr : Rd w A (cellsF g n)) (hs : RS L n g) (hm : m < 18446744073709551615) (hp : p ≤ L) (hpl : L < p + knotL m) (hk : KnotAt f p m) (e : ∀ i, i < L → g i = f i) :
    Calls Tryd.prog 57 #[.agg #[.slice A n c, .int .i64 L], .int .i64 p] w (Bad3 w 10) := by
  obtain ⟨a1, a2, a3, a4⟩ := digits_spec m hm
  have hl : knotL m = 2 * digits m - 1 := rfl
  have hz : zerosF g p (min 64 (L - p)) = min (L - p) (digits m - 1) := by
    refine zerosF_eq (by omega) (fun j hj => by rw [e _ (by omega)]; exact hk.1 j (by omega)) ?_
    by_cases h : L - p ≤ digits m - 1
    · exact Or.inl (by omega)
    · right
      rw [show min (L - p) (digits m - 1) = digits m - 1 by omega, e _ (by omega)]
      exact hk.top hm
  refine (getKnot_any A n c L p g w hr hs hp).mono ?_
  intro e w' h
  rw [hz] at h
  rcases h with ⟨h, _⟩ | ⟨_, _, h⟩ | ⟨_, h, _⟩
  · omega
  · exact h
  · omega
end Go.Proofs.YtljihclpgpmfeaaDoor
