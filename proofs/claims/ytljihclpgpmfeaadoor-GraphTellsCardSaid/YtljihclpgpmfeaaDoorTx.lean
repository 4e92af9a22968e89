/- Texts of graphs, plainly: what is written is parsed to the same. No function is walked. -/
import Derived.Test.YtljihclpgpmfeaaDoorUi
import Derived.Test.YtljihclpgpmfeaaDoorUj
namespace Go.Proofs.YtljihclpgpmfeaaDoor
set_option maxRecDepth 100000
open Go.RowKit

theorem dec_facts (u : Nat) : (∀ b ∈ Lib.decDigits u, isDig b = true) ∧ valD (Lib.decDigits u) = u ∧ (Lib.decDigits u) ≠ [] ∧ (0 < u → (Lib.decDigits u)[0]? ≠ some 48) := by
  have hd : ∀ i : Nat, i < 10 → isDig (UInt8.ofNat (48 + i)) = true ∧ (UInt8.ofNat (48 + i)).toNat = 48 + i := by
    intro i hi
    have : (UInt8.ofNat (48 + i)).toNat = 48 + i := by rw [UInt8.toNat_ofNat']; omega
    refine ⟨?_, this⟩
    unfold isDig
    rw [this, decide_eq_true (by omega), decide_eq_true (by omega)]; rfl
  induction u using Nat.strongRecOn with
  | _ u ih =>
    by_cases h : u < 10
    · rw [Lib.decDigits_one h]
      obtain ⟨d1, d2⟩ := hd u h
      refine ⟨fun b hb => ?_, ?_, by simp, fun h0 e => ?_⟩
      · rw [List.mem_singleton] at hb; subst hb; exact d1
      · show 10 * 0 + ((UInt8.ofNat (48 + u)).toNat - 48) = u
        rw [d2]; omega
      · have e : UInt8.ofNat (48 + u) = 48 := by simpa using e
        have := congrArg UInt8.toNat e
        rw [d2] at this
        have h48 : (48 : UInt8).toNat = 48 := rfl
        omega
    · obtain ⟨i1, i2, i3, i4⟩ := ih (u / 10) (by omega)
      obtain ⟨d1, d2⟩ := hd (u % 10) (by omega)
      have e : Lib.decDigits u = Lib.decDigits (u / 10) ++ [UInt8.ofNat (48 + u % 10)] := by rw [Lib.decDigits, dif_neg h]
      rw [e]
      refine ⟨fun b hb => ?_, ?_, by simp, fun _ => ?_⟩
      · rcases List.mem_append.1 hb with hb | hb
        · exact i1 b hb
        · rw [List.mem_singleton] at hb; subst hb; exact d1
      · rw [valD_snoc, i2, d2]; omega
      · rw [List.getElem?_append_left (List.length_pos_iff.2 i3)]
        exact i4 (by omega)
theorem nDigits_le : ∀ (k u : Nat), u < 10 ^ (k + 1) → Lib.nDigits u ≤ k + 1
  | 0, u, h => by rw [Lib.nDigits_small (by simpa using h)]; omega
  | k + 1, u, h => by
    by_cases h10 : u < 10
    · rw [Lib.nDigits_small h10]; omega
    · rw [Lib.nDigits_big h10]
      have := nDigits_le k (u / 10) (by rw [Nat.pow_succ] at h; omega)
      omega
theorem numG_dec {u : Nat} {bh : UInt8} (r : List UInt8) (hu : u < 1000000000) (hb : isDig bh = false) : numG (Lib.itoa (u : Int) ++ bh :: r) bh = some (u, r) := by
  rw [Lib.itoa_nonneg]
  obtain ⟨h1, h2, h3, h4⟩ := dec_facts u
  have hk : (Lib.decDigits u).length ≤ 9 := by rw [Lib.decDigits_length]; exact nDigits_le 8 u (by simpa using hu)
  have h0 := List.length_pos_iff.2 h3
  have hz : 1 < (Lib.decDigits u).length → 0 < u := by
    intro hl
    rw [Lib.decDigits_length] at hl
    rcases Nat.eq_zero_or_pos u with e | e
    · subst e; rw [Lib.nDigits_small (by omega)] at hl; omega
    · exact e
  generalize Lib.decDigits u = D at *
  have hl : lenD (D ++ bh :: r) = D.length := by
    refine lenD_eq hk (by rw [List.length_append]; omega) (fun t b ht hb => ?_) (.inr (.inr ⟨bh, by rw [List.getElem?_append_right (Nat.le_refl _)]; simp, hb⟩))
    rw [List.getElem?_append_left ht] at hb
    exact h1 b (List.mem_of_getElem? hb)
  unfold numG
  rw [hl, if_neg (by
    rintro (e | ⟨e1, e2⟩)
    · omega
    · rw [List.getElem?_append_left (by omega)] at e2
      exact h4 (hz e1) e2), if_pos (by rw [List.getElem?_append_right (Nat.le_refl _)]; simp), List.take_left' rfl, h2]
  rw [show D.length + 1 = D.length + 1 from rfl, List.drop_append, List.drop_of_length_le (by omega), List.nil_append, show D.length + 1 - D.length = 1 by omega]
  rfl
theorem pairG_line {a b : Nat} (r : List UInt8) (ha : a < 1000000000) (hb : b < 1000000000) : pairG (lineB (a : Int) (b : Int) ++ r) = some ((a, b), r) := by
  have e : lineB (a : Int) (b : Int) ++ r = Lib.itoa (a : Int) ++ 32 :: (Lib.itoa (b : Int) ++ 10 :: r) := by unfold lineB; simp
  rw [e]
  unfold pairG
  rw [numG_dec _ ha (by decide)]
  show (numG (Lib.itoa (b : Int) ++ 10 :: r) 10).map _ = _
  rw [numG_dec _ hb (by decide)]
  rfl
/-- Numbers that a text may have. -/
def FewE (E : List (Int × Int)) : Prop := ∀ e ∈ E, 0 ≤ e.1 ∧ e.1 < 1000000000 ∧ 0 ≤ e.2 ∧ e.2 < 1000000000
theorem linesG_text : ∀ (E : List (Int × Int)) (r : List UInt8), FewE E → linesG E.length ((E.flatMap fun e => lineB e.1 e.2) ++ r) = some (E, r)
  | [], r, _ => rfl
  | e :: E, r, h => by
    obtain ⟨x, y⟩ := e
    obtain ⟨h1, h2, h3, h4⟩ := h (x, y) (by simp)
    obtain ⟨a, rfl⟩ := Int.eq_ofNat_of_zero_le (show 0 ≤ x from h1)
    obtain ⟨b, rfl⟩ := Int.eq_ofNat_of_zero_le (show 0 ≤ y from h3)
    have h2 : (a : Int) < 1000000000 := h2
    have h4 : (b : Int) < 1000000000 := h4
    rw [List.length_cons, List.flatMap_cons, List.append_assoc, linesG_step (pairG_line _ (by omega) (by omega)), linesG_text E r fun e he => h e (by simp [he])]
    rfl
theorem parO_text {N : Int} {E : List (Int × Int)} (h0 : 0 ≤ N) (h1 : N ≤ 200) (hl : E.length ≤ 594) (hE : FewE E) : parO (textG N E) = newO N E ∧ parN (textG N E) = N := by
  obtain ⟨n, rfl⟩ := Int.eq_ofNat_of_zero_le h0
  have hp : pairG (textG (n : Int) E) = some ((n, E.length), (E.flatMap fun e => lineB e.1 e.2)) := by
    unfold textG
    exact pairG_line _ (by omega) (by omega)
  constructor
  · unfold parO
    rw [hp]
    simp only []
    have hln := linesG_text E [] hE
    rw [List.append_nil] at hln
    rw [if_neg (by omega), hln]
    simp only [if_true]
  · unfold parN
    rw [hp]
    rfl
theorem right_few {N : Int} {E : List (Int × Int)} (h : RightE N E) : FewE E := fun e he => by
  obtain ⟨v0, v1, v2⟩ := h.valid e he
  have := h.n1
  exact ⟨v0, by omega, by omega, by omega⟩
theorem parO_right {N : Int} {E : List (Int × Int)} (h : RightE N E) : parO (textG N E) = .ok E ∧ parN (textG N E) = N := by
  obtain ⟨p1, p2⟩ := parO_text h.n0 h.n1 h.len (right_few h)
  exact ⟨p1.trans (newO_self h), p2⟩
/-- Unlike graphs have unlike texts. -/
theorem text_same {N M : Int} {E F : List (Int × Int)} (h : RightE N E) (k : RightE M F) : (textG N E == textG M F) = ((N == M) && (E == F)) := by
  rw [Bool.eq_iff_iff, Bool.and_eq_true, beq_iff_eq, beq_iff_eq, beq_iff_eq]
  constructor
  · intro e
    have h1 := parO_right h
    have h2 := parO_right k
    rw [e, h2.1, h2.2] at h1
    refine ⟨h1.2.symm, ?_⟩
    have := h1.1
    injection this with this
    exact this.symm
  · rintro ⟨rfl, rfl⟩
    rfl
/-- The same edges, in any order, either way round. -/
theorem newO_shown {N : Int} {E F : List (Int × Int)} (h : RightE N E) (hp : (F.map normE).Perm E) : newO N F = .ok E := by
  have hl : F.length = E.length := by have := hp.length_eq; rwa [List.length_map] at this
  have hm : ∀ e ∈ F, normE e ∈ E := fun e he => hp.mem_iff.1 (List.mem_map_of_mem he)
  have hn : (F.map normE).Nodup := hp.nodup_iff.2 h.rises.nodup
  rw [newO_ok h.n0 h.n1 (by rw [hl]; exact h.len) (fun e he => h.valid _ (hm e he)) hn]
  refine congrArg _ (rises_ext (riseE_rises hn) h.rises fun e => ?_)
  rw [mem_rise]
  exact hp.mem_iff
theorem parO_error {l : List UInt8} {c : Int} (h : parO l = .error c) : c = 20 ∨ c = 21 := by
  unfold parO at h
  split at h
  · injection h with h; exact .inl h.symm
  · split at h
    · injection h with h; exact .inr h.symm
    · split at h
      · injection h with h; exact .inl h.symm
      · split at h
        · unfold newO at h
          split at h
          · injection h with h; exact .inr h.symm
          · split at h
            · injection h with h; exact .inl h.symm
            · split at h
              · cases h
              · injection h with h; exact .inl h.symm
        · injection h with h; exact .inl h.symm
theorem parO_ok {l : List UInt8} {E : List (Int × Int)} (h : parO l = .ok E) : RightE (parN l) E := by
  unfold parO at h
  split at h
  · cases h
  · rename_i n m r hp
    split at h
    · cases h
    · split at h
      · cases h
      · split at h
        · have hN : parN l = (n : Int) := by unfold parN; rw [hp]; rfl
          rw [hN]
          exact (newO_right h).1
        · cases h
end Go.Proofs.YtljihclpgpmfeaaDoor
