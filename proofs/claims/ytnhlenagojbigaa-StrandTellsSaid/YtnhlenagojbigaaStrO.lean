/- Plain facts: packed and unpacked again. -/
import Derived.Test.YtnhlenagojbigaaLow
import Derived.Test.YtnhlenagojbigaaStrJ
import Derived.Test.YtnhlenagojbigaaStrL
namespace Go.Proofs.Ytnhlenagojbigaa
open Go.RowKit

theorem unpackL_eq {f : Nat → Bool} {n L : Nat} (hn : 0 < n) (h0 : L < 8 * n) (h1 : 8 * (n - 1) ≤ L) (h2 : f L = true) (h3 : ∀ i, L < i → i < 8 * n → f i = false) : byteF f (n - 1) ≠ 0 ∧ unpackL f n = L := by
  have hb : byteF f (n - 1) ≠ 0 := by
    intro e
    have ht := testBit_byteF f (n - 1) (7 - (L - 8 * (n - 1)))
    rw [e, Nat.zero_testBit] at ht
    have e2 : 8 * (n - 1) + (7 - (7 - (L - 8 * (n - 1)))) = L := by omega
    have e3 : 7 - (L - 8 * (n - 1)) < 8 := by omega
    rw [e2, h2] at ht
    simp [e3] at ht
  refine ⟨hb, ?_⟩
  obtain ⟨_, s1, s2, s3, s4⟩ := unpackL_spec hn hb
  rcases Nat.lt_trichotomy (unpackL f n) L with h | h | h
  · rw [s4 L h h0] at h2; cases h2
  · exact h
  · rw [h3 _ h s1] at s3; cases s3
theorem cutTo_RS {f : Nat → Bool} {l : Nat} (h : l ≤ 4194304) : RS l ((l + 7) / 8) (cutTo f l) := ⟨h, rfl, fun i hi => by unfold cutTo; simp; omega⟩
theorem cutF_RS {f : Nat → Bool} {p l : Nat} (h : l ≤ 4194304) : RS l ((l + 7) / 8) (cutF f p l) := ⟨h, rfl, fun i hi => by unfold cutF; simp; omega⟩
/-- What was unpacked is packed to the same. -/
theorem sameB_back {f : Nat → Bool} {n : Nat} (hn : 0 < n) (h : byteF f (n - 1) ≠ 0) : sameB f n (packF (cutTo f (unpackL f n)) (unpackL f n)) (unpackL f n / 8 + 1) = true := by
  obtain ⟨_, s1, s2, s3, s4⟩ := unpackL_spec hn h
  generalize unpackL f n = L at *
  rw [sameB_iff]
  refine ⟨by omega, fun i hi => ?_⟩
  unfold packF cutTo
  rcases Nat.lt_trichotomy i L with h | h | h
  · simp [h]; omega
  · subst h; simp [s3]
  · rw [s4 i h hi]; simp; omega
theorem packF_unpack {f : Nat → Bool} {L n : Nat} (hs : RS L n f) : byteF (packF f L) (L / 8 + 1 - 1) ≠ 0 ∧ unpackL (packF f L) (L / 8 + 1) = L :=
  unpackL_eq (by omega) (by omega) (by omega) (by simp [packF]) (fun i hi _ => by simp [packF, hs.zero i (by omega)]; omega)
theorem cutTo_packF {f : Nat → Bool} {L n : Nat} (hs : RS L n f) : cutTo (packF f L) L = f := by
  funext i
  unfold cutTo packF
  by_cases h : i < L
  · simp [h]; omega
  · simp [h, hs.zero i (by omega)]
theorem sameS_self {f : Nat → Bool} {n : Nat} {L : Int} : sameS f n L f n L = true := by
  unfold sameS
  rw [sameB_iff.2 ⟨rfl, fun _ _ => rfl⟩]
  simp
theorem RS.bits {f g : Nat → Bool} {L n : Nat} (h : RS L n f) (k : RS L n g) (hs : ∀ i, i < L → f i = g i) : f = g := by
  funext i
  by_cases hi : i < L
  · exact hs i hi
  · rw [h.zero i (by omega), k.zero i (by omega)]
theorem sameS_iff {f g : Nat → Bool} {L M n m : Nat} (h : RS L n f) (k : RS M m g) : sameS f n L g m M = true ↔ L = M ∧ f = g := by
  have h1 := h.len; have h2 := k.len
  unfold sameS
  rw [Bool.and_eq_true, decide_eq_true_eq, sameB_iff]
  constructor
  · rintro ⟨e, e2, e3⟩
    have e : L = M := by omega
    subst e
    subst e2
    exact ⟨rfl, h.bits k (fun i hi => e3 i (by omega))⟩
  · rintro ⟨rfl, rfl⟩
    exact ⟨rfl, by omega, fun _ _ => rfl⟩
/-- Two strands have the same bytes just if they are the same. -/
theorem sameB_pack {f g : Nat → Bool} {L M n m : Nat} (h : RS L n f) (k : RS M m g) : sameB (packF f L) (L / 8 + 1) (packF g M) (M / 8 + 1) = sameS f n L g m M := by
  rw [Bool.eq_iff_iff, sameB_iff, sameS_iff h k]
  constructor
  · rintro ⟨e, e2⟩
    have hp := packF_unpack h
    have hq := packF_unpack k
    obtain ⟨_, s1, s2, s3, s4⟩ := unpackL_spec (by omega) hp.1
    rw [hp.2] at s1 s2 s3 s4
    have e3 := (unpackL_eq (f := packF g M) (n := M / 8 + 1) (L := L) (by omega) (by omega) (by omega) (by rw [← e2 L (by omega)]; exact s3) (fun i hi hi2 => by rw [← e2 i (by omega)]; exact s4 i hi (by omega))).2
    have e4 : L = M := by rw [← e3, hq.2]
    subst e4
    have hn : n = m := by rw [h.len, k.len]
    subst hn
    refine ⟨rfl, h.bits k (fun i hi => ?_)⟩
    have := e2 i (by omega)
    unfold packF at this
    simpa [show i ≠ L by omega] using this
  · rintro ⟨rfl, rfl⟩
    exact ⟨rfl, fun _ _ => rfl⟩
end Go.Proofs.Ytnhlenagojbigaa
