/- Plain facts: bytes tell the words; turned on and back; the places of the least turn. -/
import Derived.Test.YtmfeponanjgapaaWp
namespace Go.Proofs.Ytmfeponanjgapaa
open Go.Lib

theorem four_inj {n m : Nat} (hn : n ≤ 60) (hm : m ≤ 60) (h : four n = four m) : n = m := by
  unfold four at h
  simp only [List.cons.injEq, and_true] at h
  have := congrArg UInt8.toNat h.2.2.2
  simp at this
  omega
theorem flat_inj : ∀ {us vs : List (List UInt8)}, us.length = vs.length → (∀ l ∈ us, l.length ≤ 60) → (∀ l ∈ vs, l.length ≤ 60) → us.flatMap wordB = vs.flatMap wordB → us = vs
  | [], [], _, _, _, _ => rfl
  | [], _ :: _, h, _, _, _ => by simp at h
  | _ :: _, [], h, _, _, _ => by simp at h
  | a :: us, b :: vs, hl, h1, h2, h => by
    rw [List.flatMap_cons, List.flatMap_cons] at h
    unfold wordB at h
    rw [List.append_assoc, List.append_assoc] at h
    obtain ⟨e1, e2⟩ := List.append_inj h rfl
    have hab := four_inj (h1 a (by simp)) (h2 b (by simp)) e1
    obtain ⟨e3, e4⟩ := List.append_inj e2 hab
    rw [e3, flat_inj (by simpa using hl) (fun l hl => h1 l (by simp [hl])) (fun l hl => h2 l (by simp [hl])) e4]
theorem bytesW_inj {us vs : List (List UInt8)} (h0 : us.length ≤ 60) (h0' : vs.length ≤ 60) (h1 : ∀ l ∈ us, l.length ≤ 60) (h2 : ∀ l ∈ vs, l.length ≤ 60) : (bytesW us == bytesW vs) = (us == vs) := by
  rw [Bool.eq_iff_iff, beq_iff_eq, beq_iff_eq]
  constructor
  · intro h
    unfold bytesW at h
    obtain ⟨e1, e2⟩ := List.append_inj h rfl
    exact flat_inj (four_inj h0 h0' e1) h1 h2 e2
  · intro h; rw [h]
theorem turnW_turnW {ws : List (List UInt8)} {a b : Nat} (ha : a < ws.length) (hb : b < ws.length) : turnW (turnW ws a) b = turnW ws ((a + b) % ws.length) := by
  have hm : ∀ x, x % ws.length < ws.length := fun x => Nat.mod_lt _ (by omega)
  refine wd_ext (by simp only [length_turnW]) fun t ht => ?_
  simp only [length_turnW] at ht
  rw [turnW_at (by rw [length_turnW]; exact hb) (by rw [length_turnW]; exact ht), length_turnW, turnW_at ha (hm _), turnW_at (hm _) ht]
  congr 1
  rw [Nat.add_mod, Nat.mod_mod, ← Nat.add_mod, Nat.add_mod ((a + b) % ws.length), Nat.mod_mod, ← Nat.add_mod, Nat.add_assoc]
theorem turnW_zero (ws : List (List UInt8)) : turnW ws 0 = ws := by simp [turnW]
theorem turn_back (ws : List (List UInt8)) (k : Int) : turnW (turnW ws (turnK ws.length k)) (turnK ws.length (-k)) = ws := by
  rcases Nat.eq_zero_or_pos ws.length with h | h
  · obtain rfl := List.eq_nil_of_length_eq_zero h
    simp [turnW]
  · rw [turnW_turnW (turnK_lt h _) (turnK_lt h _)]
    have e : (turnK ws.length k + turnK ws.length (-k)) % ws.length = 0 := by
      unfold turnK
      have h1 := Int.emod_nonneg k (b := (ws.length : Int)) (by omega)
      have h2 := Int.emod_nonneg (-k) (b := (ws.length : Int)) (by omega)
      have : (((k % (ws.length : Int)).toNat + ((-k) % (ws.length : Int)).toNat) % ws.length : Nat) = ((0 : Nat) : Int) := by
        rw [Int.natCast_emod, Int.natCast_add, Int.toNat_of_nonneg h1, Int.toNat_of_nonneg h2, ← Int.add_emod, Int.add_right_neg]
        simp
      exact_mod_cast this
    rw [e, turnW_zero]
/-- A number that tells the words of a list apart. -/
def nm (ws : List (List UInt8)) (i : Nat) : Int := (ws.idxOf (wd ws (i % ws.length)) : Nat)
theorem wd_mem {ws : List (List UInt8)} {i : Nat} (h : i < ws.length) : wd ws i ∈ ws := by
  unfold wd
  rw [List.getD_eq_getElem?_getD, List.getElem?_eq_getElem h]
  exact List.getElem_mem h
theorem idx_inj {ws : List (List UInt8)} {a b : List UInt8} (ha : a ∈ ws) (h : ws.idxOf a = ws.idxOf b) : a = b := by
  have h1 := List.idxOf_lt_length_of_mem ha
  have h2 : ws[ws.idxOf a]'h1 = a := List.getElem_idxOf h1
  have h3 : ws[ws.idxOf b]'(by omega) = b := List.getElem_idxOf (by omega)
  rw [← h2, ← h3]
  congr 1
theorem nm_eq {ws : List (List UInt8)} (hn : 0 < ws.length) (i j : Nat) : nm ws i = nm ws j ↔ wd ws (i % ws.length) = wd ws (j % ws.length) := by
  have hm : ∀ x, x % ws.length < ws.length := fun x => Nat.mod_lt _ hn
  unfold nm
  constructor
  · intro h
    exact idx_inj (wd_mem (hm i)) (by exact_mod_cast h)
  · intro h; rw [h]
theorem turns_by (ws : List (List UInt8)) (hn : 0 < ws.length) : ∃ st, 0 < st ∧ st ∣ ws.length ∧ ∀ p q, p < ws.length → q < ws.length → (turnW ws p = turnW ws q ↔ p % st = q % st) := by
  have hf : FP (nm ws) ws.length := fun i => by unfold nm; rw [Nat.add_mod_right]
  obtain ⟨st, hs⟩ := exists_least hn hf
  refine ⟨st, hs.pos, hs.dvd.1 hf, fun p q hp hq => ?_⟩
  rw [← eqv_step hn hf hs]
  constructor
  · intro e t ht
    have h : wd (turnW ws p) t = wd (turnW ws q) t := by rw [e]
    rw [turnW_at hp ht, turnW_at hq ht] at h
    exact (nm_eq hn _ _).2 h
  · intro h
    refine wd_ext (by rw [length_turnW, length_turnW]) fun t ht => ?_
    rw [length_turnW] at ht
    rw [turnW_at hp ht, turnW_at hq ht]
    exact (nm_eq hn _ _).1 (h t ht)
theorem plL_all {st c : Nat} (hc : c < st) (m : Nat) : plL st c (m * st) = (List.range m).map fun j => c + j * st := by
  induction m with
  | zero => simp [plL]
  | succ m ih =>
    have e : plL st c (m * st + c) = plL st c (m * st) := by
      unfold plL
      refine range_gap (by omega) fun x h1 h2 => ?_
      rw [beq_eq_false_iff_ne]
      have : x % st = x - m * st := by
        rw [show x = (x - m * st) + m * st by omega, Nat.add_mul_mod_self_right, Nat.mod_eq_of_lt (by omega)]
        omega
      omega
    have e2 : plL st c ((m + 1) * st) = plL st c (m * st + c + 1) := by
      unfold plL
      rw [Nat.succ_mul]
      refine range_gap (by omega) fun x h1 h2 => ?_
      rw [beq_eq_false_iff_ne]
      have : x % st = x - m * st := by
        rw [show x = (x - m * st) + m * st by omega, Nat.add_mul_mod_self_right, Nat.mod_eq_of_lt (by omega)]
        omega
      omega
    have hh : (m * st + c) % st = c := by rw [Nat.add_comm, Nat.add_mul_mod_self_right, Nat.mod_eq_of_lt hc]
    rw [e2]
    unfold plL at e ih ⊢
    rw [range_hit (by simpa using hh), e, ih, List.range_succ, List.map_append]
    simp; omega
/-- What the statement asks of the places. -/
structure Plc (ws : List (List UInt8)) (p : Nat) (m st : Nat) : Prop where
  pos : 0 < m
  all : m * st = ws.length
  spos : 0 < st
  len : (placesW ws p).length = m
  at' : ∀ j, j < m → (placesW ws p)[j]? = some (((p % st + j * st : Nat)) : Int)
theorem plc_of {ws : List (List UInt8)} {p st : Nat} (hp : p < ws.length) (h0 : 0 < st) (hd : st ∣ ws.length) (h : ∀ q, q < ws.length → (turnW ws q = turnW ws p ↔ q % st = p % st)) : Plc ws p (ws.length / st) st := by
  have hm : ws.length / st * st = ws.length := Nat.div_mul_cancel hd
  have e : placesW ws p = ((List.range (ws.length / st)).map fun j => p % st + j * st).map (Int.ofNat ·) := by
    rw [← plL_all (Nat.mod_lt _ h0), hm]
    unfold placesW plL
    congr 1
    refine List.filter_congr fun x hx => ?_
    rw [Bool.eq_iff_iff, beq_iff_eq, beq_iff_eq]
    exact h x (List.mem_range.1 hx)
  refine ⟨Nat.div_pos (Nat.le_of_dvd (by omega) hd) h0, hm, h0, by rw [e]; simp, fun j hj => ?_⟩
  rw [e, List.map_map, List.getElem?_map, List.getElem?_range hj]
  rfl
/-- Both circles' places: as many, at one distance; and one least turn. -/
theorem least_two {ws : List (List UInt8)} {k p q : Nat} (hk : k < ws.length) (hp : p < ws.length) (hq : q < ws.length) (hmp : ∀ x, x < ws.length → 0 ≤ cmpW (turnW ws x) (turnW ws p)) (hmq : ∀ x, x < ws.length → 0 ≤ cmpW (turnW (turnW ws k) x) (turnW (turnW ws k) q)) :
    turnW (turnW ws k) q = turnW ws p ∧ ∃ m st, Plc ws p m st ∧ (placesW (turnW ws k) q).length = m := by
  have hm : ∀ x, x % ws.length < ws.length := fun x => Nat.mod_lt _ (by omega)
  have e : turnW (turnW ws k) q = turnW ws p := by
    rw [turnW_turnW hk hq]
    refine least_at (p := (k + q) % ws.length) (q := p) (fun x hx => ?_) hmp (hm _) hp
    have h1 := hmq ((x + (ws.length - k)) % ws.length) (hm _)
    rw [turnW_turnW hk (hm _), turnW_turnW hk hq] at h1
    have e1 : (k + (x + (ws.length - k)) % ws.length) % ws.length = x := by
      rw [Nat.add_mod, Nat.mod_mod, ← Nat.add_mod, show k + (x + (ws.length - k)) = x + ws.length by omega, Nat.add_mod_right, Nat.mod_eq_of_lt hx]
    rwa [e1] at h1
  refine ⟨e, ?_⟩
  obtain ⟨st, h0, hd, h1⟩ := turns_by ws (by omega)
  have hmd : ∀ x, x % ws.length % st = x % st := fun x => Nat.mod_mod_of_dvd x hd
  have hl : (turnW ws k).length = ws.length := length_turnW _ _
  refine ⟨_, st, plc_of hp h0 hd (fun q hq => h1 q p hq hp), ?_⟩
  have hP : Plc (turnW ws k) q ((turnW ws k).length / st) st := by
    refine plc_of (by rw [hl]; exact hq) h0 (by rw [hl]; exact hd) fun x hx => ?_
    rw [hl] at hx
    rw [turnW_turnW hk hx, turnW_turnW hk hq, h1 _ _ (hm _) (hm _), hmd, hmd]
    constructor
    · intro h
      have h2 := congrArg (fun y => (y + (st - k % st)) % st) h
      simp only [Nat.mod_add_mod] at h2
      have hks := Nat.mod_lt k h0
      have e3 : ∀ y, (k + y + (st - k % st)) % st = y % st := by
        intro y
        have h4 := Nat.div_add_mod k st
        rw [show k + y + (st - k % st) = y + st * (k / st + 1) by rw [Nat.mul_succ]; omega, Nat.add_mul_mod_self_left]
      rwa [e3, e3] at h2
    · intro h
      rw [Nat.add_mod, h, ← Nat.add_mod]
  rw [hP.len, hl]
end Go.Proofs.Ytmfeponanjgapaa
