/- Plain facts: right graphs as sets of edges; graphs made of pairs. No function is walked. -/
import Derived.Test.YtljihclpgpmfeaaDoorUg
import Derived.Test.YtljihclpgpmfeaaDoorUh
namespace Go.Proofs.YtljihclpgpmfeaaDoor
set_option maxRecDepth 100000

def ValidE (N : Int) (e : Int × Int) : Prop := 0 ≤ e.1 ∧ e.1 < e.2 ∧ e.2 < N
section
variable {N : Int} {E F : List (Int × Int)}
theorem okE_valid : ∀ {E : List (Int × Int)} {q : Option (Int × Int)}, okE N q E = true → ∀ e ∈ E, ValidE N e
  | [], _, _, e, h => by simp at h
  | f :: r, q, h, e, he => by
    unfold okE at h
    rw [Bool.and_eq_true, Bool.and_eq_true, Bool.and_eq_true, Bool.and_eq_true, decide_eq_true_eq, decide_eq_true_eq, decide_eq_true_eq] at h
    rcases List.mem_cons.1 he with rfl | he
    · exact ⟨h.1.1.1.1, h.1.1.1.2, h.1.1.2⟩
    · exact okE_valid h.2 e he
theorem okE_mk : ∀ {E : List (Int × Int)} {q : Option (Int × Int)}, RisesE E → (∀ e ∈ E, ValidE N e) → (∀ x, q = some x → ∀ e ∈ E, cmpE x e < 0) → okE N q E = true
  | [], _, _, _, _ => rfl
  | f :: r, q, hr, hv, hq => by
    obtain ⟨h1, h2⟩ := List.pairwise_cons.1 hr
    have hf := hv f (by simp)
    have ih := okE_mk (q := some f) h2 (fun e he => hv e (by simp [he])) (fun x hx e he => by injection hx with hx; exact hx ▸ h1 e he)
    unfold okE
    rw [ih, Bool.and_true, Bool.and_eq_true, Bool.and_eq_true, Bool.and_eq_true, decide_eq_true_eq, decide_eq_true_eq, decide_eq_true_eq]
    refine ⟨⟨⟨hf.1, hf.2.1⟩, hf.2.2⟩, ?_⟩
    cases q with
    | none => rfl
    | some x => exact decide_eq_true (hq x rfl f (by simp))
structure RightE (N : Int) (E : List (Int × Int)) : Prop where
  n0 : 0 ≤ N
  n1 : N ≤ 200
  len : E.length ≤ 594
  rises : RisesE E
  valid : ∀ e ∈ E, ValidE N e
theorem rightG_iff : rightG N E = true ↔ RightE N E := by
  constructor
  · intro h
    have hr := rightG_rises h
    unfold rightG at h
    rw [Bool.and_eq_true, Bool.and_eq_true, Bool.and_eq_true, decide_eq_true_eq, decide_eq_true_eq, decide_eq_true_eq] at h
    exact ⟨h.1.1.1, h.1.1.2, h.1.2, hr, okE_valid h.2⟩
  · intro h
    unfold rightG
    rw [Bool.and_eq_true, Bool.and_eq_true, Bool.and_eq_true, decide_eq_true_eq, decide_eq_true_eq, decide_eq_true_eq]
    exact ⟨⟨⟨h.n0, h.n1⟩, h.len⟩, okE_mk h.rises h.valid (by simp)⟩
theorem RisesE.nodup (h : RisesE E) : E.Nodup := by
  rw [List.nodup_iff_pairwise_ne]
  exact h.imp fun h e => by rw [e, cmpE_lt] at h; omega
/-- Rising edges are told by what they are. -/
theorem rises_ext : ∀ {E F : List (Int × Int)}, RisesE E → RisesE F → (∀ e, e ∈ E ↔ e ∈ F) → E = F
  | [], [], _, _, _ => rfl
  | [], f :: F, _, _, h => by have := (h f).2 (by simp); simp at this
  | e :: E, [], _, _, h => by have := (h e).1 (by simp); simp at this
  | e :: E, f :: F, hE, hF, h => by
    obtain ⟨e1, e2⟩ := List.pairwise_cons.1 hE
    obtain ⟨f1, f2⟩ := List.pairwise_cons.1 hF
    have hef : e = f := by
      rcases List.mem_cons.1 ((h e).1 (by simp)) with h1 | h1
      · exact h1
      · rcases List.mem_cons.1 ((h f).2 (by simp)) with h2 | h2
        · exact h2.symm
        · have a := f1 e h1
          have b := e1 f h2
          rw [cmpE_lt] at a b
          omega
    subst hef
    have key : ∀ x, x ∈ E ↔ x ∈ F := fun x => by
      have hx := h x
      constructor
      · intro hm
        rcases List.mem_cons.1 (hx.1 (by simp [hm])) with h1 | h1
        · subst h1; have := e1 x hm; rw [cmpE_lt] at this; omega
        · exact h1
      · intro hm
        rcases List.mem_cons.1 (hx.2 (by simp [hm])) with h1 | h1
        · subst h1; have := f1 x hm; rw [cmpE_lt] at this; omega
        · exact h1
    rw [rises_ext e2 f2 key]
theorem riseE_rises {l : List (Int × Int)} (hn : l.Nodup) : RisesE (riseE l) := by
  have h1 : (riseE l).Nodup := (rise_perm l).nodup_iff.2 hn
  have h2 : (riseE l).Pairwise fun x y => (!ltE y x) = true := List.pairwise_mergeSort (le := fun x y => !ltE y x) (fun a b c h1 h2 => by
    rw [Bool.not_eq_true', ltE_not] at *
    omega) (fun a b => by
    rw [Bool.or_eq_true, Bool.not_eq_true', Bool.not_eq_true', ltE_not, ltE_not]
    omega) l
  rw [List.nodup_iff_pairwise_ne] at h1
  refine (h1.and h2).imp fun {a b} h => ?_
  have h3 := h.2
  rw [Bool.not_eq_true', ltE_not] at h3
  rw [cmpE_lt]
  have h4 : ¬ (a.1 = b.1 ∧ a.2 = b.2) := fun hh => h.1 (Prod.ext hh.1 hh.2)
  omega
theorem mem_rise {l : List (Int × Int)} {e : Int × Int} : e ∈ riseE l ↔ e ∈ l := (rise_perm l).mem_iff
theorem rise_of_rises (h : RisesE E) : riseE E = E := rises_ext (riseE_rises h.nodup) h fun _ => mem_rise
theorem norm_valid {e : Int × Int} (h : ValidE N e) : normE e = e := by
  unfold normE
  have := h.2.1
  rw [Int.min_eq_left (by omega), Int.max_eq_right (by omega)]
theorem norm_swap (a b : Int) : normE (b, a) = normE (a, b) := by
  unfold normE
  rw [Int.min_comm, Int.max_comm]
theorem norm_norm (e : Int × Int) : normE (normE e) = normE e := by
  unfold normE
  have : min e.1 e.2 ≤ max e.1 e.2 := by omega
  simp only
  rw [Int.min_eq_left this, Int.max_eq_right this]
/-- What okN asks. -/
theorem okN_iff : ∀ {L S : List (Int × Int)}, okN N S L = true ↔ (∀ e ∈ L, ValidE N (normE e)) ∧ (L.map normE).Nodup ∧ ∀ e ∈ L, normE e ∉ S
  | [], S => by simp [okN]
  | e :: L, S => by
    have hlt : (normE e).1 ≤ (normE e).2 := by unfold normE; simp only; omega
    unfold okN
    rw [Bool.and_eq_true, Bool.and_eq_true, Bool.and_eq_true, Bool.and_eq_true, decide_eq_true_eq, decide_eq_true_eq, decide_eq_true_eq, Bool.not_eq_true', okN_iff]
    constructor
    · rintro ⟨⟨⟨⟨h1, h2⟩, h3⟩, h4⟩, h5, h6, h7⟩
      have hc : normE e ∉ S := fun hm => by rw [List.contains_iff_mem.2 hm] at h4; cases h4
      refine ⟨fun f hf => ?_, ?_, fun f hf => ?_⟩
      · rcases List.mem_cons.1 hf with rfl | hf
        · exact ⟨h1, by omega, h3⟩
        · exact h5 f hf
      · rw [List.map_cons, List.nodup_cons]
        refine ⟨fun hm => ?_, h6⟩
        obtain ⟨f, hf, he⟩ := List.mem_map.1 hm
        exact h7 f hf (by rw [he]; simp)
      · rcases List.mem_cons.1 hf with rfl | hf
        · exact hc
        · exact fun hm => h7 f hf (by simp [hm])
    · rintro ⟨h1, h2, h3⟩
      obtain ⟨v1, v2, v3⟩ := h1 e (by simp)
      rw [List.map_cons, List.nodup_cons] at h2
      refine ⟨⟨⟨⟨v1, by omega⟩, v3⟩, ?_⟩, fun f hf => h1 f (by simp [hf]), h2.2, fun f hf hm => ?_⟩
      · rw [Bool.eq_false_iff]
        exact fun hm => h3 e (by simp) (List.contains_iff_mem.1 hm)
      · rcases List.mem_append.1 hm with hm | hm
        · exact h3 f (by simp [hf]) hm
        · have : normE f = normE e := by simpa using hm
          exact h2.1 (this ▸ List.mem_map_of_mem hf)
/-- Pairs that make a graph. -/
theorem newO_ok {L : List (Int × Int)} (h0 : 0 ≤ N) (h1 : N ≤ 200) (h2 : L.length ≤ 594) (hv : ∀ e ∈ L, ValidE N (normE e)) (hn : (L.map normE).Nodup) : newO N L = .ok (riseE (L.map normE)) := by
  unfold newO
  rw [if_neg (by omega), if_neg (by omega), if_pos (okN_iff.2 ⟨hv, hn, by simp⟩)]
theorem newO_right {L l : List (Int × Int)} (h : newO N L = .ok l) : RightE N l ∧ l = riseE (L.map normE) := by
  unfold newO at h
  split at h
  · cases h
  · rename_i g1
    split at h
    · cases h
    · rename_i g2
      split at h
      · rename_i g3
        injection h with h
        subst h
        obtain ⟨h1, h2, _⟩ := okN_iff.1 g3
        refine ⟨⟨by omega, by omega, ?_, riseE_rises h2, fun e he => ?_⟩, rfl⟩
        · rw [length_rise, List.length_map]; omega
        · obtain ⟨f, hf, rfl⟩ := List.mem_map.1 (mem_rise.1 he)
          exact h1 f hf
      · cases h
/-- A right graph's own edges make it. -/
theorem newO_self (h : RightE N E) : newO N E = .ok E := by
  have hm : E.map normE = E := by
    conv => rhs; rw [← List.map_id E]
    exact List.map_congr_left fun e he => norm_valid (h.valid e he)
  rw [newO_ok h.n0 h.n1 h.len (fun e he => by rw [norm_valid (h.valid e he)]; exact h.valid e he) (by rw [hm]; exact h.rises.nodup), hm, rise_of_rises h.rises]
theorem hasG_iff {a b : Int} (h : RightE N E) : hasG N E a b = true ↔ normE (a, b) ∈ E := by
  unfold hasG
  rw [rightG_iff.2 h, Bool.true_and, List.contains_iff_mem]
  rfl
end
end Go.Proofs.YtljihclpgpmfeaaDoor
