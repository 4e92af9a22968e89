/- Plain facts: right graphs called anew. -/
import Derived.Test.YtccaagildkgfeaaGm
import Derived.Test.YtccaagildkgfeaaGi
import Derived.Test.YtccaagildkgfeaaPe
namespace Go.Proofs.Ytccaagildkgfeaa

/-- An edge called anew. -/
def trE (p : List Int) (e : Int × Int) : Int × Int := normE (atI p e.1, atI p e.2)
section
variable {N : Int} {p q : List Int} {E : List (Int × Int)}
theorem atI_nat (hp : rightP p = true) {x : Int} (h0 : 0 ≤ x) (h1 : x < p.length) : atI p x = ((at0 p x.toNat : Nat) : Int) ∧ at0 p x.toNat < p.length := by
  have hx : x.toNat < p.length := by omega
  refine ⟨?_, at0_lt hp hx⟩
  unfold atI
  rw [List.getD_eq_getElem?_getD, at0_eq hp hx]
  rfl
theorem atI_ne (hp : rightP p = true) {x y : Int} (h0 : 0 ≤ x) (h1 : x < p.length) (g0 : 0 ≤ y) (g1 : y < p.length) (hne : x ≠ y) : atI p x ≠ atI p y := by
  obtain ⟨e1, l1⟩ := atI_nat hp h0 h1
  obtain ⟨e2, l2⟩ := atI_nat hp g0 g1
  intro e
  rw [e1, e2] at e
  have := at0_inj hp (by omega) (by omega) (show at0 p x.toNat = at0 p y.toNat by omega)
  omega
theorem tr_valid (hp : rightP p = true) (hl : (p.length : Int) = N) {e : Int × Int} (h : ValidE N e) : ValidE N (trE p e) := by
  obtain ⟨h0, h1, h2⟩ := h
  obtain ⟨e1, l1⟩ := atI_nat hp h0 (by omega)
  obtain ⟨e2, l2⟩ := atI_nat hp (x := e.2) (by omega) (by omega)
  have hne := atI_ne hp h0 (by omega) (y := e.2) (by omega) (by omega) (by omega)
  unfold trE normE ValidE
  simp only
  rw [e1, e2] at hne ⊢
  omega
theorem norm_eq {a b c d : Int} (h : normE (a, b) = normE (c, d)) : (a = c ∧ b = d) ∨ (a = d ∧ b = c) := by
  unfold normE at h
  injection h with h1 h2
  simp only at h1 h2
  omega
theorem tr_inj (hp : rightP p = true) (hl : (p.length : Int) = N) {e f : Int × Int} (he : ValidE N e) (hf : ValidE N f) (h : trE p e = trE p f) : e = f := by
  obtain ⟨h0, h1, h2⟩ := he
  obtain ⟨g0, g1, g2⟩ := hf
  have key : ∀ x y : Int, 0 ≤ x → x < p.length → 0 ≤ y → y < p.length → atI p x = atI p y → x = y := fun x y a b c d e => Classical.byContradiction fun hn => atI_ne hp a b c d hn e
  rcases norm_eq h with ⟨a, b⟩ | ⟨a, b⟩
  · exact Prod.ext (key _ _ h0 (by omega) g0 (by omega) a) (key _ _ (by omega) (by omega) (by omega) (by omega) b)
  · have c := key _ _ h0 (by omega) (by omega) (by omega) a
    have d := key _ _ (by omega) (by omega) g0 (by omega) b
    omega
/-- A pair of vertices, as it is called anew. -/
theorem tr_pair (a b : Int) : trE p (normE (a, b)) = normE (atI p a, atI p b) := by
  unfold trE
  have hab : normE (a, b) = (a, b) ∨ normE (a, b) = (b, a) := by
    unfold normE
    simp only
    by_cases h : a ≤ b
    · left; rw [Int.min_eq_left h, Int.max_eq_right h]
    · right; rw [Int.min_eq_right (by omega), Int.max_eq_left (by omega)]
  rcases hab with h | h
  · rw [h]
  · rw [h, norm_swap]
theorem tr_comp (hp : rightP p = true) (hq : rightP q = true) (hl : (p.length : Int) = N) (hlq : p.length = q.length) {e : Int × Int} (h : ValidE N e) : trE q (trE p e) = trE (compP p q) e := by
  obtain ⟨h0, h1, h2⟩ := h
  have key : ∀ x : Int, 0 ≤ x → x < N → atI q (atI p x) = atI (compP p q) x := fun x a b => by
    obtain ⟨e1, l1⟩ := atI_nat hp a (by omega)
    have hx : x.toNat < p.length := by omega
    obtain ⟨e2, _⟩ := atI_nat hq (x := ((at0 p x.toNat : Nat) : Int)) (by omega) (by omega)
    obtain ⟨e3, _⟩ := atI_nat (right_compP hp hq hlq) a (by rw [length_compP]; omega)
    rw [e1, e2, e3, Int.toNat_natCast, at0_compP hx]
  show trE q (normE (atI p e.1, atI p e.2)) = _
  rw [tr_pair, key _ h0 (by omega), key _ (by omega) h2]
  rfl
theorem tr_id (hl : (p.length : Int) = N) (hn : p.length ≤ 200) {e : Int × Int} (h : ValidE N e) : trE (idP p.length) e = e := by
  obtain ⟨h0, h1, h2⟩ := h
  have key : ∀ x : Int, 0 ≤ x → x < N → atI (idP p.length) x = x := fun x a b => by
    obtain ⟨e1, l1⟩ := atI_nat (right_idP hn) a (by rw [length_idP]; omega)
    rw [e1, idP_mk, at0_mkP (by omega)]
    show ((x.toNat : Nat) : Int) = x
    omega
  unfold trE
  rw [key _ h0 (by omega), key _ (by omega) h2]
  exact norm_valid ⟨h0, h1, h2⟩
/-- A right graph called anew. -/
def newE (p : List Int) (E : List (Int × Int)) : List (Int × Int) := riseE (E.map (trE p))
theorem mem_newE {e : Int × Int} : e ∈ newE p E ↔ ∃ f ∈ E, trE p f = e := by
  unfold newE
  rw [mem_rise, List.mem_map]
theorem tr_nodup (hp : rightP p = true) (hl : (p.length : Int) = N) (h : RightE N E) : (E.map (trE p)).Nodup := by
  rw [List.nodup_iff_pairwise_ne, List.pairwise_map]
  have h1 := h.rises.nodup
  rw [List.nodup_iff_pairwise_ne] at h1
  exact h1.imp_of_mem fun {a b} ha hb hne e => hne (tr_inj hp hl (h.valid a ha) (h.valid b hb) e)
theorem app_norm (p : List Int) (E : List (Int × Int)) : (appE p E).map normE = E.map (trE p) := by
  unfold appE
  rw [List.map_map]
  rfl
theorem appO_ok (hp : rightP p = true) (hl : (p.length : Int) = N) (h : RightE N E) : appO N E p = .ok (newE p E) := by
  unfold appO
  rw [if_pos (rightG_iff.2 h), if_pos ⟨hp, hl⟩, newO_ok h.n0 h.n1 (by rw [length_appE]; exact h.len) (fun e he => ?_) (by rw [app_norm]; exact tr_nodup hp hl h), app_norm]
  · rfl
  · unfold appE at he
    obtain ⟨f, hf, rfl⟩ := List.mem_map.1 he
    exact tr_valid hp hl (h.valid f hf)
theorem new_right (hp : rightP p = true) (hl : (p.length : Int) = N) (h : RightE N E) : RightE N (newE p E) := by
  refine ⟨h.n0, h.n1, ?_, riseE_rises (tr_nodup hp hl h), fun e he => ?_⟩
  · unfold newE
    rw [length_rise, List.length_map]
    exact h.len
  · obtain ⟨f, hf, rfl⟩ := mem_newE.1 he
    exact tr_valid hp hl (h.valid f hf)
theorem length_newE (p : List Int) (E : List (Int × Int)) : (newE p E).length = E.length := by unfold newE; rw [length_rise, List.length_map]
theorem new_comp (hp : rightP p = true) (hq : rightP q = true) (hl : (p.length : Int) = N) (hlq : p.length = q.length) (h : RightE N E) : newE q (newE p E) = newE (compP p q) E := by
  have hlc : ((compP p q).length : Int) = N := by rw [length_compP]; exact hl
  refine rises_ext (new_right hq (by omega) (new_right hp hl h)).rises (new_right (right_compP hp hq hlq) hlc h).rises fun e => ?_
  rw [mem_newE, mem_newE]
  constructor
  · rintro ⟨f, hf, rfl⟩
    obtain ⟨g, hg, rfl⟩ := mem_newE.1 hf
    exact ⟨g, hg, (tr_comp hp hq hl hlq (h.valid g hg)).symm⟩
  · rintro ⟨g, hg, rfl⟩
    exact ⟨trE p g, mem_newE.2 ⟨g, hg, rfl⟩, tr_comp hp hq hl hlq (h.valid g hg)⟩
theorem new_id (hl : (p.length : Int) = N) (hn : p.length ≤ 200) (h : RightE N E) : newE (idP p.length) E = E := by
  refine rises_ext (new_right (right_idP hn) (by rw [length_idP]; exact hl) h).rises h.rises fun e => ?_
  rw [mem_newE]
  constructor
  · rintro ⟨f, hf, rfl⟩
    rw [tr_id hl hn (h.valid f hf)]
    exact hf
  · intro he
    exact ⟨e, he, tr_id hl hn (h.valid e he)⟩
theorem new_inv (hp : rightP p = true) (hl : (p.length : Int) = N) (h : RightE N E) : newE (invP p) (newE p E) = E := by
  rw [new_comp hp (right_invP hp) hl (length_invP p).symm h, comp_inv hp, new_id hl (right_le hp) h]
/-- The edge between two vertices, and between what these are taken to. -/
theorem has_new (hp : rightP p = true) (hl : (p.length : Int) = N) (h : RightE N E) {a b : Int} (ha0 : 0 ≤ a) (ha : a < N) (hb0 : 0 ≤ b) (hb : b < N) (hab : a ≠ b) : hasG N E a b = hasG N (newE p E) (atI p a) (atI p b) := by
  rw [Bool.eq_iff_iff, hasG_iff h, hasG_iff (new_right hp hl h), ← tr_pair, mem_newE]
  have hv : ValidE N (normE (a, b)) := by unfold ValidE normE; simp only; omega
  constructor
  · intro hm
    exact ⟨_, hm, rfl⟩
  · rintro ⟨f, hf, he⟩
    rw [← tr_inj hp hl (h.valid f hf) hv he]
    exact hf
end
end Go.Proofs.Ytccaagildkgfeaa
