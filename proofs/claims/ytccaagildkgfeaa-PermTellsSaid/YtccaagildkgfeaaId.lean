/- Walks: perm.Compose, Invert. -/
import Derived.Test.YtccaagildkgfeaaIc
namespace Go.Proofs.Ytccaagildkgfeaa
open Go.RowKit

/-- Numbers in new memory, or an error. -/
def ErrI (w : World) (o : Option (List Int)) (e : Ending) (w' : World) : Prop := ∃ v, e = .returned (.tuple #[v, .int .i64 (if o.isSome then 0 else 30)]) ∧ RowI w.heap.size w' v (o.getD []) ∧ Below w.heap.size w w'
def at0 (p : List Int) (i : Nat) : Nat := (p.getD i 0).toNat
theorem at0_get {p : List Int} (h : ∀ x ∈ p, 0 ≤ x ∧ x < p.length) {i : Nat} (hi : i < p.length) : p[i]? = some (at0 p i : Int) ∧ at0 p i < p.length := by
  have hx := List.getElem?_eq_getElem hi
  have h1 := h p[i] (List.getElem_mem hi)
  have e : (at0 p i : Int) = p[i] := by unfold at0; rw [List.getD_eq_getElem?_getD, hx]; simp; omega
  exact ⟨by rw [hx, e], by omega⟩
theorem at0_lt {p : List Int} (h : rightP p = true) {i : Nat} (hi : i < p.length) : at0 p i < p.length := (at0_get (right_true h).2.1 hi).2
theorem at0_eq {p : List Int} (h : rightP p = true) {i : Nat} (hi : i < p.length) : p[i]? = some (at0 p i : Int) := (at0_get (right_true h).2.1 hi).1
/-- First p, then q. -/
def compP (p q : List Int) : List Int := fillK (fun i => (at0 q (at0 p i) : Nat)) p.length p.length
theorem length_compP (p q : List Int) : (compP p q).length = p.length := length_fillK _ _ _
def compO (p q : List Int) : Option (List Int) := if rightP p = true ∧ rightP q = true ∧ p.length = q.length then some (compP p q) else none
set_option maxRecDepth 100000 in
set_option maxHeartbeats 4000000 in
theorem compose_any (A B : Option Addr) (n m c d : Nat) (p q : List Int) (w : World) (h1 : ArgI w A n c p) (h2 : ArgI w B m d q) :
    Calls Try.prog 15 #[.slice A n c, .slice B m d] w (ErrI w (compO p q)) := by
  have H1 := Lib.hid h1; have H2 := Lib.hid h2
  have hn0 := h1.le; have hm0 := h2.le
  clear h1 h2
  have HP := Lib.hid (right_any A n c p w H1.out)
  have HQ := Lib.hid (fun V (hV : Below w.heap.size w V) => right_any B m d q V (H2.out.keep hV))
  obtain ⟨r, hr⟩ : ∃ r, rightP p = r := ⟨_, rfl⟩
  obtain ⟨s, hs⟩ : ∃ r, rightP q = r := ⟨_, rfl⟩
  rw [hr] at HP
  rw [hs] at HQ
  have RP := Lib.hid hr; have RQ := Lib.hid hs
  clear hr hs
  go_enter Try.func15, Try.ntmps15
  go_wp2_with fail
  refine HP.out.mono ?_
  rintro e w1 ⟨rfl, hb1⟩
  have HB1 := Lib.hid hb1
  clear hb1
  cases r with
  | false =>
    have HC := Lib.hid (show compO p q = none from if_neg (by rw [RP.out]; simp))
    go_wp2
    go_ret2
    exact ⟨.slice none 0 0, by rw [HC.out]; rfl, .inl ⟨by rw [HC.out]; rfl, rfl⟩, HB1.out⟩
  | true =>
    go_wp2_with fail
    refine (HQ.out w1 HB1.out).mono ?_
    rintro e w2 ⟨rfl, hb2⟩
    have HB2 := Lib.hid (HB1.out.trans (hb2.mono HB1.out.size))
    clear hb2
    cases s with
    | false =>
      have HC := Lib.hid (show compO p q = none from if_neg (by rw [RQ.out]; simp))
      go_wp2
      go_ret2
      exact ⟨.slice none 0 0, by rw [HC.out]; rfl, .inl ⟨by rw [HC.out]; rfl, rfl⟩, HB2.out⟩
    | true =>
      by_cases hnm : n = m
      · subst hnm
        have HC := Lib.hid (show compO p q = some (compP p q) from if_pos ⟨RP.out, RQ.out, by rw [← H1.out.len, ← H2.out.len]⟩)
        have hn : n ≤ 200 := by have := (right_true RP.out).1; have := H1.out.len; omega
        have H1' := Lib.hid (H1.out.keep HB2.out); have H2' := Lib.hid (H2.out.keep HB2.out)
        have hmk := mk_ints n (by omega)
        go_wp2
        go_loopw [7, 8, 29] (fun _ _ i wr => ∃ k : Nat, k ≤ n ∧ i = .int .i64 (k : Int) ∧ Hid (Own wr w2.heap.size 3 (cellsI (fillK (fun i => (at0 q (at0 p i) : Nat)) n k))) ∧ Hid (Below w2.heap.size w2 wr)) (fun _ _ i _ => n - (intOf i).toNat)
        case atStart => exact ⟨0, Nat.zero_le _, rfl, Lib.hid (by rw [fillK_zero]; exact Own.new' rfl), Lib.hid ((Below.refl _ w2).alloc (Nat.le_refl _) _)⟩
        case round =>
          obtain ⟨k, hk, rfl, hO, hB⟩ := hrel
          by_cases hlt : k < n
          · obtain ⟨b, off, rfl, hb, hc⟩ := rd_int H1'.out.rd (by have := H1.out.len; omega)
            obtain ⟨b2, off2, rfl, hb2, hc2⟩ := rd_int H2'.out.rd (by have := H2.out.len; omega)
            have e1 := at0_eq RP.out (i := k) (by have := H1.out.len; omega)
            have l1 := at0_lt RP.out (i := k) (by have := H1.out.len; omega)
            have htn : at0 p k < n := by have := H1.out.len; omega
            have e2 := at0_eq RQ.out (i := at0 p k) (by have := H2.out.len; omega)
            have hcx := hc wr hB.out k _ e1
            have hcy := hc2 wr hB.out (at0 p k) _ e2
            have HF := Lib.hid (fillK_step (f := fun i => ((at0 q (at0 p i) : Nat) : Int)) (n := n) (k := k))
            generalize at0 q (at0 p k) = y at hcy HF
            generalize at0 p k = t at hcx hcy htn
            have cm : wr.cell? ⟨w2.heap.size, k, none⟩ = some (.int .i64 0) := (hO.out.cell k).trans (cellsI_at (by rw [fillK_at hlt, if_neg (Nat.lt_irrefl k)]))
            have fm := hO.out.frozen k
            clear hc hc2 e1 l1 e2
            go_wp2
            go_roundw
            case rel => exact ⟨k + 1, by omega, by go_num, Lib.hid (by have h := hO.out.set k (.int .i64 (y : Int)); rw [cellsI_set, HF.out] at h; exact h), Lib.hid (hB.out.setCell (p := ⟨w2.heap.size, k, none⟩) (Nat.le_refl _) _)⟩
            case measure => simp [intOf]; omega
          · obtain rfl : n = k := by omega
            have HB3 := Lib.hid (HB2.out.trans (hB.out.mono HB2.out.size))
            go_wp2
            go_ret2
            have h := hO.out
            have hl := H1.out.len
            refine ⟨_, by rw [HC.out]; rfl, ?_, HB3.out⟩
            rw [HC.out]
            show RowI _ _ _ (compP p q)
            have h2 := RowI.made (B := w.heap.size) (l := compP p q) (by unfold compP; rw [← hl]; exact h) HB2.out.size (by rw [length_compP]; omega)
            rw [length_compP, ← hl] at h2
            exact h2
      · have HC := Lib.hid (show compO p q = none from if_neg (by rw [← H1.out.len, ← H2.out.len]; exact fun h => hnm h.2.2))
        have d1 : ((n : Int) != (m : Int)) = true := by rw [bne_iff_ne]; omega
        have d2 : ((n : Int) == (m : Int)) = false := by rw [beq_eq_false_iff_ne]; omega
        clear hnm
        go_wp2
        go_ret2
        exact ⟨.slice none 0 0, by rw [HC.out]; rfl, .inl ⟨by rw [HC.out]; rfl, rfl⟩, HB2.out⟩
/-- Where a thing comes from. -/
def invK (p : List Int) (k : Nat) : List Int := (List.range p.length).map fun (x : Nat) => if (p.take k).contains (x : Int) then ((p.idxOf (x : Int) : Nat) : Int) else 0
def invP (p : List Int) : List Int := (List.range p.length).map fun (x : Nat) => ((p.idxOf (x : Int) : Nat) : Int)
theorem length_invK (p : List Int) (k : Nat) : (invK p k).length = p.length := by simp [invK]
theorem length_invP (p : List Int) : (invP p).length = p.length := by simp [invP]
theorem invK_at {p : List Int} {k x : Nat} (h : x < p.length) : (invK p k)[x]? = some (if (p.take k).contains (x : Int) then ((p.idxOf (x : Int) : Nat) : Int) else 0) := by
  unfold invK
  rw [List.getElem?_map, List.getElem?_range h]
  rfl
theorem invP_at {p : List Int} {x : Nat} (h : x < p.length) : (invP p)[x]? = some ((p.idxOf (x : Int) : Nat) : Int) := by
  unfold invP
  rw [List.getElem?_map, List.getElem?_range h]
  rfl
theorem invK_zero (p : List Int) : invK p 0 = List.replicate p.length 0 := by
  apply List.ext_getElem?
  intro i
  rw [List.getElem?_replicate]
  by_cases h : i < p.length
  · rw [invK_at h, if_pos h]; simp
  · rw [List.getElem?_eq_none (by rw [length_invK]; omega), if_neg h]
theorem invK_step {p : List Int} (hn : p.Nodup) {k t : Nat} (hk : p[k]? = some (t : Int)) : (invK p k).set t (k : Int) = invK p (k + 1) := by
  have hkl := (List.getElem?_eq_some_iff.1 hk).1
  have e : p.take (k + 1) = p.take k ++ [(t : Int)] := by rw [List.take_add_one, hk]; rfl
  apply List.ext_getElem?
  intro i
  rw [List.getElem?_set, length_invK]
  by_cases h : i < p.length
  · rw [invK_at h, invK_at h, e]
    by_cases hi : t = i
    · subst hi
      rw [if_pos rfl, if_pos h, if_pos (by simp)]
      have : p.idxOf (t : Int) = k := by
        obtain ⟨h1, h2⟩ := List.getElem?_eq_some_iff.1 hk
        have h3 : p.idxOf p[k] = k := hn.idxOf_getElem k h1
        rwa [h2] at h3
      rw [this]
    · rw [if_neg hi]
      have hne : ¬ ((i : Int) = (t : Int)) := by omega
      simp [hne]
  · rw [List.getElem?_eq_none (l := invK p (k + 1)) (by rw [length_invK]; omega), List.getElem?_eq_none (l := invK p k) (by rw [length_invK]; omega)]
    split
    · rename_i e; subst e; rw [if_neg h]
    · rfl
theorem nd_len : ∀ {l m : List Int}, l.Nodup → (∀ x ∈ l, x ∈ m) → l.length ≤ m.length
  | [], _, _, _ => Nat.zero_le _
  | a :: l, m, h, hs => by
    obtain ⟨h1, h2⟩ := List.nodup_cons.1 h
    have ha := hs a (by simp)
    have h3 := nd_len (m := m.erase a) h2 (fun x hx => (List.mem_erase_of_ne (by rintro rfl; exact h1 hx)).2 (hs x (by simp [hx])))
    rw [List.length_erase_of_mem ha] at h3
    have := List.length_pos_of_mem ha
    simp; omega
/-- Every number is met. -/
theorem right_sur {p : List Int} (h : rightP p = true) {x : Nat} (hx : x < p.length) : (x : Int) ∈ p := by
  obtain ⟨_, h2, h3⟩ := right_true h
  refine Classical.byContradiction fun hn => ?_
  have hm : (x : Int) ∈ idP p.length := List.mem_of_getElem? (idP_at hx)
  have h4 := nd_len (m := (idP p.length).erase (x : Int)) h3 fun y hy => by
    obtain ⟨a, b⟩ := h2 y hy
    obtain ⟨t, rfl⟩ := Int.eq_ofNat_of_zero_le a
    exact (List.mem_erase_of_ne (by rintro e; rw [e] at hy; exact hn hy)).2 (List.mem_of_getElem? (idP_at (by omega)))
  rw [List.length_erase_of_mem hm, length_idP] at h4
  omega
theorem invK_all {p : List Int} (h : rightP p = true) : invK p p.length = invP p := by
  apply List.ext_getElem?
  intro i
  by_cases hi : i < p.length
  · rw [invK_at hi, invP_at hi, List.take_length, if_pos (List.contains_iff_mem.2 (right_sur h hi))]
  · rw [List.getElem?_eq_none (by rw [length_invK]; omega), List.getElem?_eq_none (by rw [length_invP]; omega)]
def invO (p : List Int) : Option (List Int) := if rightP p = true then some (invP p) else none
set_option maxRecDepth 100000 in
set_option maxHeartbeats 4000000 in
theorem invert_any (A : Option Addr) (n c : Nat) (p : List Int) (w : World) (h1 : ArgI w A n c p) :
    Calls Try.prog 17 #[.slice A n c] w (ErrI w (invO p)) := by
  have H1 := Lib.hid h1
  have hn0 := h1.le
  clear h1
  have HP := Lib.hid (right_any A n c p w H1.out)
  obtain ⟨r, hr⟩ : ∃ r, rightP p = r := ⟨_, rfl⟩
  rw [hr] at HP
  have RP := Lib.hid hr
  clear hr
  go_enter Try.func17, Try.ntmps17
  go_wp2_with fail
  refine HP.out.mono ?_
  rintro e w2 ⟨rfl, hb1⟩
  have HB2 := Lib.hid hb1
  clear hb1
  cases r with
  | false =>
    have HC := Lib.hid (show invO p = none from if_neg (by rw [RP.out]; simp))
    go_wp2
    go_ret2
    exact ⟨.slice none 0 0, by rw [HC.out]; rfl, .inl ⟨by rw [HC.out]; rfl, rfl⟩, HB2.out⟩
  | true =>
    have HC := Lib.hid (show invO p = some (invP p) from if_pos RP.out)
    have hn : n ≤ 200 := by have := (right_true RP.out).1; have := H1.out.len; omega
    have H1' := Lib.hid (H1.out.keep HB2.out)
    have hmk := mk_ints n (by omega)
    go_wp2
    go_loopw [5, 6, 15] (fun _ _ i wr => ∃ k : Nat, k ≤ n ∧ i = .int .i64 (k : Int) ∧ Hid (Own wr w2.heap.size 3 (cellsI (invK p k))) ∧ Hid (Below w2.heap.size w2 wr)) (fun _ _ i _ => n - (intOf i).toNat)
    case atStart => exact ⟨0, Nat.zero_le _, rfl, Lib.hid (by rw [invK_zero, ← H1.out.len]; exact Own.new' rfl), Lib.hid ((Below.refl _ w2).alloc (Nat.le_refl _) _)⟩
    case round =>
      obtain ⟨k, hk, rfl, hO, hB⟩ := hrel
      by_cases hlt : k < n
      · obtain ⟨b, off, rfl, hb, hc⟩ := rd_int H1'.out.rd (by have := H1.out.len; omega)
        have e1 := at0_eq RP.out (i := k) (by have := H1.out.len; omega)
        have l1 := at0_lt RP.out (i := k) (by have := H1.out.len; omega)
        have htn : at0 p k < n := by have := H1.out.len; omega
        have hcx := hc wr hB.out k _ e1
        have HF := Lib.hid (invK_step (right_true RP.out).2.2 e1)
        have hcur := invK_at (p := p) (k := k) l1
        generalize at0 p k = t at hcx htn HF hcur
        have cm : ∃ y, wr.cell? ⟨w2.heap.size, t, none⟩ = some (.int .i64 y) := ⟨_, (hO.out.cell t).trans (cellsI_at hcur)⟩
        obtain ⟨y, cm⟩ := cm
        have fm := hO.out.frozen t
        clear hc e1 l1 hcur
        go_wp2
        go_roundw
        case rel => exact ⟨k + 1, by omega, by go_num, Lib.hid (by have h := hO.out.set t (.int .i64 (k : Int)); rw [cellsI_set, HF.out] at h; exact h), Lib.hid (hB.out.setCell (p := ⟨w2.heap.size, t, none⟩) (Nat.le_refl _) _)⟩
        case measure => simp [intOf]; omega
      · obtain rfl : n = k := by omega
        have HB3 := Lib.hid (HB2.out.trans (hB.out.mono HB2.out.size))
        go_wp2
        go_ret2
        have h := hO.out
        have hl := H1.out.len
        refine ⟨_, by rw [HC.out]; rfl, ?_, HB3.out⟩
        rw [HC.out]
        show RowI _ _ _ (invP p)
        have h2 := RowI.made (B := w.heap.size) (l := invP p) (by rw [← invK_all RP.out, ← hl]; exact h) HB2.out.size (by rw [length_invP]; omega)
        rw [length_invP, ← hl] at h2
        exact h2
end Go.Proofs.Ytccaagildkgfeaa
