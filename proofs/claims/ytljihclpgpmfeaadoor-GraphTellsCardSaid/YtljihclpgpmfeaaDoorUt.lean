/- Bundle of texts: Df Di. -/
import Derived.Test.YtljihclpgpmfeaaDoorUi
import Derived.Test.YtljihclpgpmfeaaDoorUr
/- Walks: fretworkref02.number, line. -/
namespace Go.Proofs.YtljihclpgpmfeaaDoor
set_option maxRecDepth 100000
open Go.RowKit

def NumI : Option Nat → Int
  | none => -1
  | some v => (v : Int)
/-- What a number at the front says to graph.number. -/
def NumR (l : List UInt8) (k : Nat) : Option Nat → Prop
  | none => ∀ bh, isDig bh = false → numG l bh = none
  | some v => v < 1000000000 ∧ ∀ bh, numG l bh = if l[k]? = some bh then some (v, l.drop (k + 1)) else none
theorem lenD_of {l : List UInt8} {k : Nat} (h9 : k ≤ 9) (hd : ∀ t b, t < k → l[t]? = some b → isDig b = true) (he : k = l.length ∨ ∃ b, l[k]? = some b ∧ isDig b = false) : lenD l = k :=
  lenD_eq h9 (by
    rcases he with he | ⟨b, hb, _⟩
    · omega
    · have := (List.getElem?_eq_some_iff.1 hb).1; omega) hd (.inr he)
theorem num_bad0 {l : List UInt8} (he : 0 = l.length ∨ ∃ b, l[0]? = some b ∧ isDig b = false) : NumR l 0 none := fun bh _ => by
  unfold numG
  rw [if_pos (.inl (lenD_of (by omega) (fun t b ht => absurd ht (Nat.not_lt_zero _)) he))]
theorem num_bad10 {l : List UInt8} (hd : ∀ t b, t < 10 → l[t]? = some b → isDig b = true) : NumR l 10 none := fun bh hb => by
  by_cases hl : 9 < l.length
  · have h9 : lenD l = 9 := lenD_eq (by omega) (by omega) (fun t b ht => hd t b (by omega)) (.inl rfl)
    unfold numG
    rw [h9]
    split
    · rfl
    · rw [if_neg]
      intro h
      rw [hd 9 bh (by omega) h] at hb
      cases hb
  · have h9 : lenD l = l.length := lenD_eq (by omega) (by omega) (fun t b ht => hd t b (by omega)) (.inr (.inl rfl))
    unfold numG
    rw [h9]
    split
    · rfl
    · rw [if_neg]
      rw [List.getElem?_eq_none (by omega)]
      intro h; cases h
theorem num_badz {l : List UInt8} {k : Nat} (h9 : k ≤ 9) (hd : ∀ t b, t < k → l[t]? = some b → isDig b = true) (he : k = l.length ∨ ∃ b, l[k]? = some b ∧ isDig b = false) (h1 : 1 < k) (h0 : l[0]? = some 48) (_ : k ≤ l.length) : NumR l k none := fun bh _ => by
  unfold numG
  rw [lenD_of h9 hd he, if_pos (.inr ⟨h1, h0⟩)]
theorem num_good {l : List UInt8} {k : Nat} (h9 : k ≤ 9) (hd : ∀ t b, t < k → l[t]? = some b → isDig b = true) (he : k = l.length ∨ ∃ b, l[k]? = some b ∧ isDig b = false) (h1 : 1 ≤ k) (h0 : ¬ (1 < k ∧ l[0]? = some 48)) (_ : k ≤ l.length) : NumR l k (some (valD (l.take k))) := by
  constructor
  · refine Nat.lt_of_lt_of_le (valD_lt (fun c hc => ?_)) ?_
    · obtain ⟨t, ht⟩ := List.mem_iff_getElem?.1 hc
      rw [List.getElem?_take] at ht
      split at ht
      · exact hd t c (by assumption) ht
      · cases ht
    · rw [List.length_take]
      exact Nat.pow_le_pow_right (n := 10) (by omega) (show min k l.length ≤ 9 by omega)
  · intro bh
    unfold numG
    rw [lenD_of h9 hd he, if_neg (by rintro (h | h); omega; exact h0 h)]
set_option maxRecDepth 100000 in
set_option maxHeartbeats 8000000 in
theorem numberR_any (l : List UInt8) (p : Nat) (w : World) (hl : l.length ≤ 1000000000) (hp : p ≤ l.length) :
    Calls Tryd.prog 73 #[.string (strB l), .int .i64 (p : Int)] w fun e w' => ∃ (o : Option Nat) (k : Nat), e = .returned (.tuple #[.int .i64 (NumI o), .int .i64 ((p + k : Nat) : Int)]) ∧ p + k ≤ l.length ∧ NumR (l.drop p) k o ∧ w = w' := by
  have hsz := strB_size l
  go_enter Tryd.func73, Tryd.ntmps73
  go_wp2
  go_loop [1, 6] (fun s1 s6 => ∃ q k : Nat, k ≤ 10 ∧ q ≤ l.length ∧ s1 = .int .i64 (q : Int) ∧ s6 = .int .i64 (valD ((l.drop p).take k) : Nat) ∧ Hid (q = p + k) ∧ Hid (∀ t b, t < k → (l.drop p)[t]? = some b → isDig b = true)) (fun s1 _ => l.length - (intOf s1).toNat)
  case atStart => exact ⟨p, 0, by omega, hp, rfl, rfl, Lib.hid rfl, Lib.hid (fun t b ht => absurd ht (Nat.not_lt_zero _))⟩
  case round =>
    obtain ⟨q, k, hk10, hql, rfl, rfl, HQ, HD⟩ := hrel
    have hqk := HQ.out
    have hqI : (q : Int) - (p : Int) = (k : Int) := by omega
    by_cases h1 : q < l.length
    · have d1 : decide ((q : Int) < (l.length : Int)) = true := decide_eq_true (by omega)
      obtain ⟨b, hb⟩ : ∃ b, l[q]? = some b := ⟨_, List.getElem?_eq_getElem h1⟩
      have hg : ∀ hi, (strB l)[q]'hi = b := fun hi => strB_get hb hi
      have hb' : (l.drop p)[k]? = some b := by rw [List.getElem?_drop, ← hqk]; exact hb
      clear hqk
      by_cases h3 : 48 ≤ b.toNat
      · have d3 : decide ((48 : Int) ≤ (b.toNat : Int)) = true := decide_eq_true (by omega)
        by_cases h4 : b.toNat ≤ 57
        · have d4 : decide ((b.toNat : Int) ≤ 57) = true := decide_eq_true (by omega)
          by_cases h5 : k < 10
          · have d5 : decide ((k : Int) < 10) = true := decide_eq_true (by omega)
            have hbd : isDig b = true := by unfold isDig; rw [decide_eq_true h3, decide_eq_true h4]; rfl
            have HD2 := Lib.hid (show ∀ t c, t < k + 1 → (l.drop p)[t]? = some c → isDig c = true from fun t c ht hc => by
              by_cases e : t = k
              · subst e; rw [hb'] at hc; injection hc with hc; rw [← hc]; exact hbd
              · exact HD.out t c (by omega) hc)
            have HST := Lib.hid (show valD ((l.drop p).take (k + 1)) = 10 * valD ((l.drop p).take k) + (b.toNat - 48) by rw [List.take_add_one, hb']; exact valD_snoc _ _)
            have hv9 : valD ((l.drop p).take k) < 10000000000 := by
              have h := valD_lt (l := (l.drop p).take k) (fun c hc => by
                obtain ⟨t, ht⟩ := List.mem_iff_getElem?.1 hc
                rw [List.getElem?_take] at ht
                split at ht
                · exact HD.out t c (by assumption) ht
                · cases ht)
              refine Nat.lt_of_lt_of_le h ?_
              rw [List.length_take]
              exact Nat.pow_le_pow_right (n := 10) (by omega) (show min k (l.drop p).length ≤ 10 by omega)
            obtain ⟨v, hv⟩ : ∃ v, valD ((l.drop p).take k) = v := ⟨_, rfl⟩
            rw [hv] at hv9 HST ⊢
            have hbI : IntKind.u8.wrap ((b.toNat : Int) - 48) = ((b.toNat - 48 : Nat) : Int) := by rw [IntWalk.u8_in _ (by omega)]; omega
            have hbM : ((b.toNat : Int) - 48) % 256 = ((b.toNat - 48 : Nat) : Int) := by omega
            have hbm : b.toNat - 48 ≤ 9 := by omega
            clear hv hb hb' hbd HD
            go_wp2
            go_round
            case rel => exact ⟨q + 1, k + 1, by omega, by omega, by go_num, by rw [HST.out]; congr 1; omega, Lib.hid (by omega), HD2⟩
            case measure => simp [intOf]; omega
          · have d5 : decide ((k : Int) < 10) = false := decide_eq_false (by omega)
            have k10 : k = 10 := by omega
            have HR := Lib.hid (num_bad10 (fun t b h => HD.out t b (by omega)))
            have d9 : decide ((9 : Int) < (k : Int)) = true := decide_eq_true (by omega)
            have d0 : ((q : Int) == (p : Int)) = false := by rw [beq_eq_false_iff_ne]; omega
            go_wp2
            go_ret2
            exact ⟨none, k, by rw [HQ.out]; rfl, by omega, by rw [k10]; exact HR.out, rfl⟩
        · have d4 : decide ((b.toNat : Int) ≤ 57) = false := decide_eq_false (by omega)
          have k9 : k ≤ 10 := hk10
          by_cases k10 : k = 10
          · have HR := Lib.hid (num_bad10 (fun t b h => HD.out t b (by omega)))
            have d9 : decide ((9 : Int) < (k : Int)) = true := decide_eq_true (by omega)
            have d0 : ((q : Int) == (p : Int)) = false := by rw [beq_eq_false_iff_ne]; omega
            go_wp2
            go_ret2
            exact ⟨none, k, by rw [HQ.out]; rfl, by omega, by rw [k10]; exact HR.out, rfl⟩
          have k9 : k ≤ 9 := by omega
          have HST := Lib.hid (show k = (l.drop p).length ∨ ∃ b, (l.drop p)[k]? = some b ∧ isDig b = false from Or.inr ⟨b, hb', by unfold isDig; rw [decide_eq_false h4, Bool.and_false]⟩)
          by_cases k0 : k = 0
          · have HR := Lib.hid (num_bad0 (by have h := HST.out; rw [k0] at h; exact h))
            have d0 : ((q : Int) == (p : Int)) = true := by rw [beq_iff_eq]; omega
            go_wp2
            go_ret2
            exact ⟨none, k, by rw [HQ.out]; rfl, by omega, by rw [k0]; exact HR.out, rfl⟩
          have d0 : ((q : Int) == (p : Int)) = false := by rw [beq_eq_false_iff_ne]; omega
          have d9 : decide ((9 : Int) < (k : Int)) = false := decide_eq_false (by omega)
          obtain ⟨b0, hb0⟩ : ∃ b, l[p]? = some b := ⟨_, List.getElem?_eq_getElem (by omega)⟩
          have hg0 : ∀ hi, (strB l)[p]'hi = b0 := fun hi => strB_get hb0 hi
          have HB0 := Lib.hid (show (l.drop p)[0]? = some b0 from by rw [List.getElem?_drop]; exact hb0)
          by_cases z0 : b0.toNat = 48
          · have dz : ((b0.toNat : Int) == 48) = true := by rw [beq_iff_eq]; omega
            by_cases k1 : 1 < k
            · have d1k : decide ((1 : Int) < (k : Int)) = true := decide_eq_true (by omega)
              have HR := Lib.hid (num_badz k9 HD.out HST.out k1 (by rw [HB0.out]; congr 1; exact UInt8.toNat_inj.1 z0) (by rw [List.length_drop]; omega))
              clear hb0 z0
              go_wp2
              go_ret2
              exact ⟨none, k, by rw [HQ.out]; rfl, by omega, HR.out, rfl⟩
            · have d1k : decide ((1 : Int) < (k : Int)) = false := decide_eq_false (by omega)
              have HR := Lib.hid (num_good k9 HD.out HST.out (by omega) (fun h => k1 h.1) (by rw [List.length_drop]; omega))
              obtain ⟨v, hv⟩ : ∃ v, valD ((l.drop p).take k) = v := ⟨_, rfl⟩
              rw [hv] at HR ⊢
              clear hb0 z0 hv
              go_wp2
              go_ret2
              exact ⟨some v, k, by rw [HQ.out]; rfl, by omega, HR.out, rfl⟩
          · have dz : ((b0.toNat : Int) == 48) = false := by rw [beq_eq_false_iff_ne]; omega
            have HR := Lib.hid (num_good k9 HD.out HST.out (by omega) (fun h => z0 (by have h2 := h.2; rw [HB0.out] at h2; injection h2 with h2; rw [h2]; rfl)) (by rw [List.length_drop]; omega))
            obtain ⟨v, hv⟩ : ∃ v, valD ((l.drop p).take k) = v := ⟨_, rfl⟩
            rw [hv] at HR ⊢
            clear hb0 z0 hv
            go_wp2
            go_ret2
            exact ⟨some v, k, by rw [HQ.out]; rfl, by omega, HR.out, rfl⟩
      · have d3 : decide ((48 : Int) ≤ (b.toNat : Int)) = false := decide_eq_false (by omega)
        have k9 : k ≤ 10 := hk10
        by_cases k10 : k = 10
        · have HR := Lib.hid (num_bad10 (fun t b h => HD.out t b (by omega)))
          have d9 : decide ((9 : Int) < (k : Int)) = true := decide_eq_true (by omega)
          have d0 : ((q : Int) == (p : Int)) = false := by rw [beq_eq_false_iff_ne]; omega
          go_wp2
          go_ret2
          exact ⟨none, k, by rw [HQ.out]; rfl, by omega, by rw [k10]; exact HR.out, rfl⟩
        have k9 : k ≤ 9 := by omega
        have HST := Lib.hid (show k = (l.drop p).length ∨ ∃ b, (l.drop p)[k]? = some b ∧ isDig b = false from Or.inr ⟨b, hb', by unfold isDig; rw [decide_eq_false h3, Bool.false_and]⟩)
        by_cases k0 : k = 0
        · have HR := Lib.hid (num_bad0 (by have h := HST.out; rw [k0] at h; exact h))
          have d0 : ((q : Int) == (p : Int)) = true := by rw [beq_iff_eq]; omega
          go_wp2
          go_ret2
          exact ⟨none, k, by rw [HQ.out]; rfl, by omega, by rw [k0]; exact HR.out, rfl⟩
        have d0 : ((q : Int) == (p : Int)) = false := by rw [beq_eq_false_iff_ne]; omega
        have d9 : decide ((9 : Int) < (k : Int)) = false := decide_eq_false (by omega)
        obtain ⟨b0, hb0⟩ : ∃ b, l[p]? = some b := ⟨_, List.getElem?_eq_getElem (by omega)⟩
        have hg0 : ∀ hi, (strB l)[p]'hi = b0 := fun hi => strB_get hb0 hi
        have HB0 := Lib.hid (show (l.drop p)[0]? = some b0 from by rw [List.getElem?_drop]; exact hb0)
        by_cases z0 : b0.toNat = 48
        · have dz : ((b0.toNat : Int) == 48) = true := by rw [beq_iff_eq]; omega
          by_cases k1 : 1 < k
          · have d1k : decide ((1 : Int) < (k : Int)) = true := decide_eq_true (by omega)
            have HR := Lib.hid (num_badz k9 HD.out HST.out k1 (by rw [HB0.out]; congr 1; exact UInt8.toNat_inj.1 z0) (by rw [List.length_drop]; omega))
            clear hb0 z0
            go_wp2
            go_ret2
            exact ⟨none, k, by rw [HQ.out]; rfl, by omega, HR.out, rfl⟩
          · have d1k : decide ((1 : Int) < (k : Int)) = false := decide_eq_false (by omega)
            have HR := Lib.hid (num_good k9 HD.out HST.out (by omega) (fun h => k1 h.1) (by rw [List.length_drop]; omega))
            obtain ⟨v, hv⟩ : ∃ v, valD ((l.drop p).take k) = v := ⟨_, rfl⟩
            rw [hv] at HR ⊢
            clear hb0 z0 hv
            go_wp2
            go_ret2
            exact ⟨some v, k, by rw [HQ.out]; rfl, by omega, HR.out, rfl⟩
        · have dz : ((b0.toNat : Int) == 48) = false := by rw [beq_eq_false_iff_ne]; omega
          have HR := Lib.hid (num_good k9 HD.out HST.out (by omega) (fun h => z0 (by have h2 := h.2; rw [HB0.out] at h2; injection h2 with h2; rw [h2]; rfl)) (by rw [List.length_drop]; omega))
          obtain ⟨v, hv⟩ : ∃ v, valD ((l.drop p).take k) = v := ⟨_, rfl⟩
          rw [hv] at HR ⊢
          clear hb0 z0 hv
          go_wp2
          go_ret2
          exact ⟨some v, k, by rw [HQ.out]; rfl, by omega, HR.out, rfl⟩
    · clear hqk
      have d1 : decide ((q : Int) < (l.length : Int)) = false := decide_eq_false (by omega)
      have k9 : k ≤ 10 := hk10
      by_cases k10 : k = 10
      · have HR := Lib.hid (num_bad10 (fun t b h => HD.out t b (by omega)))
        have d9 : decide ((9 : Int) < (k : Int)) = true := decide_eq_true (by omega)
        have d0 : ((q : Int) == (p : Int)) = false := by rw [beq_eq_false_iff_ne]; omega
        go_wp2
        go_ret2
        exact ⟨none, k, by rw [HQ.out]; rfl, by omega, by rw [k10]; exact HR.out, rfl⟩
      have k9 : k ≤ 9 := by omega
      have HST := Lib.hid (show k = (l.drop p).length ∨ ∃ b, (l.drop p)[k]? = some b ∧ isDig b = false from Or.inl (by rw [List.length_drop]; omega))
      by_cases k0 : k = 0
      · have HR := Lib.hid (num_bad0 (by have h := HST.out; rw [k0] at h; exact h))
        have d0 : ((q : Int) == (p : Int)) = true := by rw [beq_iff_eq]; omega
        go_wp2
        go_ret2
        exact ⟨none, k, by rw [HQ.out]; rfl, by omega, by rw [k0]; exact HR.out, rfl⟩
      have d0 : ((q : Int) == (p : Int)) = false := by rw [beq_eq_false_iff_ne]; omega
      have d9 : decide ((9 : Int) < (k : Int)) = false := decide_eq_false (by omega)
      obtain ⟨b0, hb0⟩ : ∃ b, l[p]? = some b := ⟨_, List.getElem?_eq_getElem (by omega)⟩
      have hg0 : ∀ hi, (strB l)[p]'hi = b0 := fun hi => strB_get hb0 hi
      have HB0 := Lib.hid (show (l.drop p)[0]? = some b0 from by rw [List.getElem?_drop]; exact hb0)
      by_cases z0 : b0.toNat = 48
      · have dz : ((b0.toNat : Int) == 48) = true := by rw [beq_iff_eq]; omega
        by_cases k1 : 1 < k
        · have d1k : decide ((1 : Int) < (k : Int)) = true := decide_eq_true (by omega)
          have HR := Lib.hid (num_badz k9 HD.out HST.out k1 (by rw [HB0.out]; congr 1; exact UInt8.toNat_inj.1 z0) (by rw [List.length_drop]; omega))
          clear hb0 z0
          go_wp2
          go_ret2
          exact ⟨none, k, by rw [HQ.out]; rfl, by omega, HR.out, rfl⟩
        · have d1k : decide ((1 : Int) < (k : Int)) = false := decide_eq_false (by omega)
          have HR := Lib.hid (num_good k9 HD.out HST.out (by omega) (fun h => k1 h.1) (by rw [List.length_drop]; omega))
          obtain ⟨v, hv⟩ : ∃ v, valD ((l.drop p).take k) = v := ⟨_, rfl⟩
          rw [hv] at HR ⊢
          clear hb0 z0 hv
          go_wp2
          go_ret2
          exact ⟨some v, k, by rw [HQ.out]; rfl, by omega, HR.out, rfl⟩
      · have dz : ((b0.toNat : Int) == 48) = false := by rw [beq_eq_false_iff_ne]; omega
        have HR := Lib.hid (num_good k9 HD.out HST.out (by omega) (fun h => z0 (by have h2 := h.2; rw [HB0.out] at h2; injection h2 with h2; rw [h2]; rfl)) (by rw [List.length_drop]; omega))
        obtain ⟨v, hv⟩ : ∃ v, valD ((l.drop p).take k) = v := ⟨_, rfl⟩
        rw [hv] at HR ⊢
        clear hb0 z0 hv
        go_wp2
        go_ret2
        exact ⟨some v, k, by rw [HQ.out]; rfl, by omega, HR.out, rfl⟩
/-- What two numbers of a line say. -/
def LineP (w : World) (l : List UInt8) : Option ((Nat × Nat) × List UInt8) → Ending → World → Prop
  | none, e, w' => e = .returned (.tuple #[.int .i64 0, .int .i64 0, .int .i64 (-1)]) ∧ w = w'
  | some ((a, b), r), e, w' => ∃ q : Nat, q ≤ l.length ∧ r = l.drop q ∧ e = .returned (.tuple #[.int .i64 (a : Int), .int .i64 (b : Int), .int .i64 (q : Int)]) ∧ w = w'
theorem num_some {l : List UInt8} {p k q v : Nat} {bh : UInt8} (h : NumR (l.drop p) k (some v)) (hq : q = p + k) (hb : l[q]? = some bh) : numG (l.drop p) bh = some (v, l.drop (q + 1)) := by
  rw [h.2 bh, if_pos (by rw [List.getElem?_drop, ← hq]; exact hb), List.drop_drop, hq, Nat.add_assoc]
theorem num_none {l : List UInt8} {p k q v : Nat} {bh : UInt8} (h : NumR (l.drop p) k (some v)) (hq : q = p + k) (hb : l[q]? ≠ some bh) : numG (l.drop p) bh = none := by
  rw [h.2 bh, if_neg (by rw [List.getElem?_drop, ← hq]; exact hb)]
theorem pair_none1 {l : List UInt8} (h : numG l 32 = none) : pairG l = none := by unfold pairG; rw [h]; rfl
theorem pair_none2 {l r : List UInt8} {a : Nat} (h : numG l 32 = some (a, r)) (h2 : numG r 10 = none) : pairG l = none := by
  unfold pairG
  rw [h]
  show (numG r 10).map _ = none
  rw [h2]; rfl
theorem pair_some {l r r2 : List UInt8} {a b : Nat} (h : numG l 32 = some (a, r)) (h2 : numG r 10 = some (b, r2)) : pairG l = some ((a, b), r2) := by
  unfold pairG
  rw [h]
  show (numG r 10).map _ = _
  rw [h2]; rfl
set_option maxRecDepth 100000 in
set_option maxHeartbeats 8000000 in
theorem lineR_any (l : List UInt8) (p : Nat) (w : World) (hl : l.length ≤ 1000000000) (hp : p ≤ l.length) :
    Calls Tryd.prog 51 #[.string (strB l), .int .i64 (p : Int)] w (LineP w l (pairG (l.drop p))) := by
  have hsz := strB_size l
  go_enter Tryd.func51, Tryd.ntmps51
  go_wp2_with fail
  refine (numberR_any l p w hl hp).mono ?_
  rintro e _ ⟨o, k, rfl, hk, hR, rfl⟩
  obtain ⟨q, hq⟩ : ∃ q, q = p + k := ⟨_, rfl⟩
  rw [← hq] at hk ⊢
  have HQ := Lib.hid hq
  have HR := Lib.hid hR
  clear hq hR
  cases o with
  | none =>
    have HX := Lib.hid (pair_none1 (HR.out 32 rfl))
    unfold NumI
    go_wp2
    go_ret3
    rw [HX.out]
    exact ⟨rfl, rfl⟩
  | some a =>
    have ha := HR.out.1
    have da : decide ((a : Int) < 0) = false := decide_eq_false (by omega)
    unfold NumI
    by_cases h1 : q < l.length
    · have d1 : decide ((l.length : Int) ≤ (q : Int)) = false := decide_eq_false (by omega)
      have d1n : decide (l.length ≤ q) = false := decide_eq_false (by omega)
      obtain ⟨b, hb⟩ : ∃ b, l[q]? = some b := ⟨_, List.getElem?_eq_getElem h1⟩
      have hg : ∀ hi, (strB l)[q]'hi = b := fun hi => strB_get hb hi
      by_cases h2 : b.toNat = 32
      · have d2 : ((b.toNat : Int) == 32) = true := by rw [beq_iff_eq]; omega
        have d2n : ((b.toNat : Int) != 32) = false := by unfold bne; rw [d2]; rfl
        have HN1 := Lib.hid (num_some (bh := 32) HR.out HQ.out (by rw [hb]; congr 1; exact UInt8.toNat_inj.1 h2))
        obtain ⟨p2, hp2⟩ : ∃ x, x = q + 1 := ⟨_, rfl⟩
        have hpI : (q : Int) + 1 = (p2 : Int) := by omega
        have hp2l : p2 ≤ l.length := by omega
        rw [← hp2] at HN1
        clear hp2 hb h2
        go_wp2_with fail
        refine (numberR_any l p2 w hl hp2l).mono ?_
        rintro e _ ⟨o2, k2, rfl, hk2, hR2, rfl⟩
        obtain ⟨q2, hq2⟩ : ∃ q, q = p2 + k2 := ⟨_, rfl⟩
        rw [← hq2] at hk2 ⊢
        have HQ2 := Lib.hid hq2
        have HR2 := Lib.hid hR2
        clear hq2 hR2
        cases o2 with
        | none =>
          have HX := Lib.hid (pair_none2 HN1.out (HR2.out 10 rfl))
          unfold NumI
          go_wp2
          go_ret3
          rw [HX.out]
          exact ⟨rfl, rfl⟩
        | some c =>
          have hc := HR2.out.1
          have dc : decide ((c : Int) < 0) = false := decide_eq_false (by omega)
          unfold NumI
          by_cases h3 : q2 < l.length
          · have d3 : decide ((l.length : Int) ≤ (q2 : Int)) = false := decide_eq_false (by omega)
            have d3n : decide (l.length ≤ q2) = false := decide_eq_false (by omega)
            obtain ⟨b2, hb2⟩ : ∃ b, l[q2]? = some b := ⟨_, List.getElem?_eq_getElem h3⟩
            have hg2 : ∀ hi, (strB l)[q2]'hi = b2 := fun hi => strB_get hb2 hi
            by_cases h4 : b2.toNat = 10
            · have d4 : ((b2.toNat : Int) == 10) = true := by rw [beq_iff_eq]; omega
              have d4n : ((b2.toNat : Int) != 10) = false := by unfold bne; rw [d4]; rfl
              have HX := Lib.hid (pair_some HN1.out (num_some (bh := 10) HR2.out HQ2.out (by rw [hb2]; congr 1; exact UInt8.toNat_inj.1 h4)))
              obtain ⟨p3, hp3⟩ : ∃ x, x = q2 + 1 := ⟨_, rfl⟩
              have hp3I : (q2 : Int) + 1 = (p3 : Int) := by omega
              have hp3l : p3 ≤ l.length := by omega
              rw [← hp3] at HX
              clear hp3 hb2 h4
              go_wp2
              go_ret3
              rw [HX.out]
              exact ⟨p3, hp3l, rfl, rfl, rfl⟩
            · have d4 : ((b2.toNat : Int) == 10) = false := by rw [beq_eq_false_iff_ne]; omega
              have d4n : ((b2.toNat : Int) != 10) = true := by unfold bne; rw [d4]; rfl
              have HX := Lib.hid (pair_none2 HN1.out (num_none (bh := 10) HR2.out HQ2.out (by rw [hb2]; intro e; injection e with e; rw [e] at h4; exact h4 rfl)))
              clear hb2 h4
              go_wp2
              go_ret3
              rw [HX.out]
              exact ⟨rfl, rfl⟩
          · have d3 : decide ((l.length : Int) ≤ (q2 : Int)) = true := decide_eq_true (by omega)
            have d3n : decide (l.length ≤ q2) = true := decide_eq_true (by omega)
            have HX := Lib.hid (pair_none2 HN1.out (num_none (bh := 10) HR2.out HQ2.out (by rw [List.getElem?_eq_none (by omega)]; intro e; cases e)))
            go_wp2
            go_ret3
            rw [HX.out]
            exact ⟨rfl, rfl⟩
      · have d2 : ((b.toNat : Int) == 32) = false := by rw [beq_eq_false_iff_ne]; omega
        have d2n : ((b.toNat : Int) != 32) = true := by unfold bne; rw [d2]; rfl
        have HX := Lib.hid (pair_none1 (num_none (bh := 32) HR.out HQ.out (by rw [hb]; intro e; injection e with e; rw [e] at h2; exact h2 rfl)))
        clear hb h2
        go_wp2
        go_ret3
        rw [HX.out]
        exact ⟨rfl, rfl⟩
    · have d1 : decide ((l.length : Int) ≤ (q : Int)) = true := decide_eq_true (by omega)
      have d1n : decide (l.length ≤ q) = true := decide_eq_true (by omega)
      have HX := Lib.hid (pair_none1 (num_none (bh := 32) HR.out HQ.out (by rw [List.getElem?_eq_none (by omega)]; intro e; cases e)))
      go_wp2
      go_ret3
      rw [HX.out]
      exact ⟨rfl, rfl⟩
end Go.Proofs.YtljihclpgpmfeaaDoor
/- Walk: fretworkref02.Parse. -/
namespace Go.Proofs.YtljihclpgpmfeaaDoor
set_option maxRecDepth 100000
open Go.RowKit

theorem lineR_zero (l : List UInt8) (w : World) (hl : l.length ≤ 1000000000) :
    Calls Tryd.prog 51 #[.string (strB l), .int .i64 0] w (LineP w l (pairG l)) := lineR_any l 0 w hl (Nat.zero_le _)
set_option maxRecDepth 100000 in
set_option maxHeartbeats 16000000 in
theorem parseR_any (l : List UInt8) (w : World) (hl : l.length ≤ 1000000000) :
    Calls Tryd.prog 30 #[.string (strB l)] w (GrE w (parN l) (parO l)) := by
  have hsz := strB_size l
  have HBW := Lib.hid (alloc_below w (.cells #[.int .i64 0, .slice none 0 0] 26))
  have OB := Lib.hid (Own.new' (t := 26) (w := w) (vs := [.int .i64 0, .slice none 0 0]) rfl)
  have N1 := Lib.hid (fun V => lineR_zero l V hl)
  obtain ⟨o1, ho1⟩ : ∃ o, pairG l = o := ⟨_, rfl⟩
  rw [ho1] at N1
  have K1 := Lib.hid ho1
  clear ho1
  go_enter Tryd.func30, Tryd.ntmps30
  go_wp2_with fail
  refine (N1.out _).mono ?_
  cases o1 with
  | none =>
    rintro e _ ⟨rfl, rfl⟩
    have HX := Lib.hid (show parO l = .error 20 by unfold parO; rw [K1.out])
    go_wp2
    have q0 := OB.out.cell 0
    have q1 := OB.out.cell 1
    simp only [List.getElem?_cons_zero, List.getElem?_cons_succ] at q0 q1
    exact bodyPost_ret (v := .tuple #[.agg #[.int .i64 0, .slice none 0 0], .int .i64 20]) (by simp [results, Tryd.results30, go_sem, q0, q1]) rfl (by show GrE w (parN l) (parO l) _ _; rw [HX.out]; exact ⟨rfl, HBW.out⟩)
  | some x =>
    obtain ⟨⟨n, m⟩, r⟩ := x
    rintro e _ ⟨q, hq, hr, rfl, rfl⟩
    subst hr
    have hpl := pairG_len K1.out
    have hn9 := hpl.2.1; have hm9 := hpl.2.2
    have HN := Lib.hid (show parN l = (n : Int) by unfold parN; rw [K1.out]; rfl)
    clear hpl
    by_cases h1 : 200 < n
    · have HX := Lib.hid (show parO l = .error 21 by unfold parO; rw [K1.out]; exact if_pos (.inl h1))
      have d1 : decide ((200 : Int) < (n : Int)) = true := decide_eq_true (by omega)
      have d1n : decide (200 < n) = true := decide_eq_true h1
      clear h1
      go_wp2
      have q0 := OB.out.cell 0
      have q1 := OB.out.cell 1
      simp only [List.getElem?_cons_zero, List.getElem?_cons_succ] at q0 q1
      exact bodyPost_ret (v := .tuple #[.agg #[.int .i64 0, .slice none 0 0], .int .i64 21]) (by simp [results, Tryd.results30, go_sem, q0, q1]) rfl (by show GrE w (parN l) (parO l) _ _; rw [HX.out]; exact ⟨rfl, HBW.out⟩)
    have d1 : decide ((200 : Int) < (n : Int)) = false := decide_eq_false (by omega)
    have d1n : decide (200 < n) = false := decide_eq_false h1
    by_cases h2 : 594 < m
    · have HX := Lib.hid (show parO l = .error 21 by unfold parO; rw [K1.out]; exact if_pos (.inr h2))
      have d2 : decide ((594 : Int) < (m : Int)) = true := decide_eq_true (by omega)
      have d2n : decide (594 < m) = true := decide_eq_true h2
      clear h1 h2
      go_wp2
      have q0 := OB.out.cell 0
      have q1 := OB.out.cell 1
      simp only [List.getElem?_cons_zero, List.getElem?_cons_succ] at q0 q1
      exact bodyPost_ret (v := .tuple #[.agg #[.int .i64 0, .slice none 0 0], .int .i64 21]) (by simp [results, Tryd.results30, go_sem, q0, q1]) rfl (by show GrE w (parN l) (parO l) _ _; rw [HX.out]; exact ⟨rfl, HBW.out⟩)
    have d2 : decide ((594 : Int) < (m : Int)) = false := decide_eq_false (by omega)
    have d2n : decide (594 < m) = false := decide_eq_false h2
    have HXX := Lib.hid (show parO l = (match linesG m (l.drop q) with
        | none => .error 20
        | some (E, r2) => if r2 = [] then newO (n : Int) E else .error 20) by unfold parO; rw [K1.out]; exact if_neg (by omega))
    have hm : m ≤ 594 := by omega
    have HH0 := Lib.hid (show linesG m (l.drop q) = (linesG (m - 0) (l.drop q)).map fun y => ([] ++ y.1, y.2) by cases linesG m (l.drop q) <;> rfl)
    go_wp2_with fail
    clear h1 h2
    obtain ⟨W0, hW0⟩ : ∃ W, w.alloc (.cells #[.int .i64 0, .slice none 0 0] 26) = W := ⟨_, rfl⟩
    have OB0 := Lib.hid (show Own W0 w.heap.size 26 [.int .i64 0, .slice none 0 0] from by rw [← hW0]; exact OB.out)
    have HBW0 := Lib.hid (show Below w.heap.size w W0 from by rw [← hW0]; exact HBW.out)
    rw [hW0]
    have hs0 := HBW0.out.size
    clear OB HBW hW0
    go_loopw [6, 7, 8, 9, 10, 11] (fun s6 v i _ _ _ wr => ∃ (k p : Nat) (Ek : List (Int × Int)), k ≤ m ∧ p ≤ l.length ∧ i = .int .i64 (k : Int) ∧ s6 = .int .i64 (p : Int) ∧ Hid (Ek.length = k) ∧ Hid (linesG m (l.drop q) = (linesG (m - k) (l.drop p)).map fun y => (Ek ++ y.1, y.2)) ∧ Hid (RowE W0.heap.size wr v Ek) ∧ Hid (Below W0.heap.size W0 wr)) (fun _ _ i _ _ _ _ => m - (intOf i).toNat)
    case atStart => exact ⟨0, q, [], Nat.zero_le _, hq, rfl, rfl, Lib.hid rfl, HH0, Lib.hid (.inl ⟨rfl, rfl⟩), Lib.hid (Below.refl _ _)⟩
    case round =>
      obtain ⟨k, p, Ek, hk, hp, rfl, rfl, HEK, HLN, HR, HB⟩ := hrel
      by_cases hlt : k < m
      · obtain ⟨j, hj⟩ : ∃ j, m - k = j + 1 := ⟨m - k - 1, by omega⟩
        have HJ := Lib.hid hj
        have HJ2 := Lib.hid (show m - (k + 1) = j by omega)
        have N2 := Lib.hid (lineR_any l p wr hl hp)
        obtain ⟨o2, ho2⟩ : ∃ o, pairG (l.drop p) = o := ⟨_, rfl⟩
        rw [ho2] at N2
        have K2 := Lib.hid ho2
        clear ho2 hj
        go_wp2_with fail
        refine N2.out.mono ?_
        clear N2
        cases o2 with
        | none =>
          rintro e _ ⟨rfl, rfl⟩
          have HX := Lib.hid (show parO l = .error 20 from by rw [HXX.out, HLN.out, HJ.out, linesG_none K2.out]; rfl)
          have OBX := Lib.hid (OB0.out.below' HB.out)
          have HBF := Lib.hid (below_chain HBW0.out HB.out)
          have yR := OBX.out.lt; have fR := OBX.out.frozen; have qR := OBX.out.cell
          go_wp2
          have hF := (OBX.out.set 0 (.int .i64 0)).set 1 (.slice none 0 0)
          have r0 := hF.cell 0
          have r1 := hF.cell 1
          simp only [List.set_cons_zero, List.set_cons_succ, List.getElem?_cons_zero, List.getElem?_cons_succ] at r0 r1
          exact bodyPost_ret (v := .tuple #[.agg #[.int .i64 0, .slice none 0 0], .int .i64 20]) (by simp [results, Tryd.results30, go_sem, r0, r1]) rfl (by show GrE w (parN l) (parO l) _ _; rw [HX.out]; exact ⟨rfl, (HBF.out.setCell (by simp; try omega) _).setCell (by simp; try omega) _⟩)
        | some y =>
          obtain ⟨⟨a, b⟩, r3⟩ := y
          rintro e _ ⟨p3, hp3, hr3, rfl, rfl⟩
          subst hr3
          have ha := (pairG_len K2.out).2
          have ha1 := ha.1; have hb1 := ha.2
          have HLN2 := Lib.hid (show linesG m (l.drop q) = (linesG (m - (k + 1)) (l.drop p3)).map fun y => ((Ek ++ [((a : Int), (b : Int))]) ++ y.1, y.2) from by
            rw [HLN.out, HJ.out, HJ2.out, linesG_step K2.out]
            cases linesG j (l.drop p3) with
            | none => rfl
            | some z => show some (Ek ++ ((a : Int), (b : Int)) :: z.1, z.2) = some ((Ek ++ [((a : Int), (b : Int))]) ++ z.1, z.2); rw [List.append_assoc]; rfl)
          have HEK2 := Lib.hid (show (Ek ++ [((a : Int), (b : Int))]).length = k + 1 by rw [List.length_append, HEK.out]; rfl)
          have HV := Lib.hid (alloc_below wr (.cells #[.int .i64 (a : Int), .int .i64 (b : Int)] 49))
          have HE2 := Lib.hid (show Own (wr.alloc (.cells #[.int .i64 (a : Int), .int .i64 (b : Int)] 49)) wr.heap.size 49 (cellsE [((a : Int), (b : Int))]) from Own.new wr _ _)
          have HR1 := Lib.hid (HR.out.below HV.out)
          have hs3 := HB.out.size
          have hle := HEK.out
          clear ha K2
          go_wp2_with (at_builtin; refine wpList_append_edges rfl (.tmp 43) (.tmp 47) rfl (some ⟨wr.heap.size, 0, none⟩) 1 1 (k := [((a : Int), (b : Int))]) rfl rfl HR1.out rfl HE2.out.rd (by omega) (by simp; omega) ?_)
          intro v' w' hr' hb' _
          have HR2 := Lib.hid hr'
          have HB3 := Lib.hid (((HB.out.trans (HV.out.mono hs3)).trans hb'))
          clear hb' hr' HV HE2 HR1 HR HB
          go_wp2
          refine ⟨⟨k + 1, p3, Ek ++ [((a : Int), (b : Int))], by omega, hp3, by go_num, rfl, HEK2, HLN2, HR2, HB3⟩, ?_⟩
          simp [intOf]; omega
      · obtain rfl : k = m := by omega
        have HLF := Lib.hid (show linesG k (l.drop q) = some (Ek, l.drop p) from by rw [HLN.out, Nat.sub_self]; show some (Ek ++ [], _) = _; rw [List.append_nil])
        have OBX := Lib.hid (OB0.out.below' HB.out)
        have HBF := Lib.hid (below_chain HBW0.out HB.out)
        by_cases hend : p = l.length
        · have dn : ((p : Int) != (l.length : Int)) = false := by rw [hend]; simp
          have dn2 : (p != l.length) = false := by rw [hend]; simp
          have de : ((p : Int) == (l.length : Int)) = true := by rw [hend]; simp
          have HX := Lib.hid (show parO l = newO (n : Int) Ek from by rw [HXX.out, HLF.out]; exact if_pos (by rw [hend]; exact List.drop_length))
          obtain ⟨A, c, rfl, harg⟩ := HR.out.arg (by have := HEK.out; omega)
          have HNW := Lib.hid (newR_any (n : Int) A Ek.length c Ek wr harg)
          clear hend harg
          go_wp2_with fail
          refine HNW.out.mono ?_
          intro e w5 h5
          obtain ⟨o5, ho5⟩ : ∃ o, newO (n : Int) Ek = o := ⟨_, rfl⟩
          rw [ho5] at h5 HX
          have HX5 := HX
          have hsB := HB.out.size
          cases o5 with
          | error x =>
            obtain ⟨rfl, hb5⟩ := h5
            have OB5 := Lib.hid (OBX.out.below' hb5)
            have HB5 := Lib.hid (below_chain HBF.out hb5)
            clear hb5
            have yR := OB5.out.lt; have fR := OB5.out.frozen; have qR := OB5.out.cell
            go_wp2
            have hF := (OB5.out.set 0 (.int .i64 0)).set 1 (.slice none 0 0)
            have r0 := hF.cell 0
            have r1 := hF.cell 1
            simp only [List.set_cons_zero, List.set_cons_succ, List.getElem?_cons_zero, List.getElem?_cons_succ] at r0 r1
            exact bodyPost_ret (v := .tuple #[.agg #[.int .i64 0, .slice none 0 0], .int .i64 x]) (by simp [results, Tryd.results30, go_sem, r0, r1]) rfl (by show GrE w (parN l) (parO l) _ _; rw [HX.out]; exact ⟨rfl, (HB5.out.setCell (by simp; try omega) _).setCell (by simp; try omega) _⟩)
          | ok L =>
            obtain ⟨v5, rfl, hr5, hb5⟩ := h5
            have OB5 := Lib.hid (OBX.out.below' hb5)
            have HB5 := Lib.hid (below_chain HBF.out hb5)
            obtain ⟨A9, n9, c9, rfl⟩ := rowE_slice hr5
            have HR5 := Lib.hid hr5
            clear hb5 hr5
            have yR := OB5.out.lt; have fR := OB5.out.frozen; have qR := OB5.out.cell
            go_wp2
            have hF := (OB5.out.set 0 (.int .i64 (n : Int))).set 1 (.slice A9 n9 c9)
            have r0 := hF.cell 0
            have r1 := hF.cell 1
            simp only [List.set_cons_zero, List.set_cons_succ, List.getElem?_cons_zero, List.getElem?_cons_succ] at r0 r1
            exact bodyPost_ret (v := .tuple #[.agg #[.int .i64 (n : Int), .slice A9 n9 c9], .int .i64 0]) (by simp [results, Tryd.results30, go_sem, r0, r1]) rfl (by
              show GrE w (parN l) (parO l) _ _
              rw [HX.out, HN.out]
              exact ⟨_, rfl, (rowE_box2 HR5.out OB5.out _ _).base (by omega), (HB5.out.setCell (by simp; try omega) _).setCell (by simp; try omega) _⟩)
        · have dn : ((p : Int) != (l.length : Int)) = true := by simp; omega
          have dn2 : (p != l.length) = true := by simp; exact hend
          have de : ((p : Int) == (l.length : Int)) = false := by rw [beq_eq_false_iff_ne]; omega
          have HX := Lib.hid (show parO l = .error 20 from by rw [HXX.out, HLF.out]; exact if_neg (by intro e; have := congrArg List.length e; rw [List.length_drop] at this; simp at this; omega))
          clear hend
          have yR := OBX.out.lt; have fR := OBX.out.frozen; have qR := OBX.out.cell
          go_wp2
          have hF := (OBX.out.set 0 (.int .i64 0)).set 1 (.slice none 0 0)
          have r0 := hF.cell 0
          have r1 := hF.cell 1
          simp only [List.set_cons_zero, List.set_cons_succ, List.getElem?_cons_zero, List.getElem?_cons_succ] at r0 r1
          exact bodyPost_ret (v := .tuple #[.agg #[.int .i64 0, .slice none 0 0], .int .i64 20]) (by simp [results, Tryd.results30, go_sem, r0, r1]) rfl (by show GrE w (parN l) (parO l) _ _; rw [HX.out]; exact ⟨rfl, (HBF.out.setCell (by simp; try omega) _).setCell (by simp; try omega) _⟩)
end Go.Proofs.YtljihclpgpmfeaaDoor
