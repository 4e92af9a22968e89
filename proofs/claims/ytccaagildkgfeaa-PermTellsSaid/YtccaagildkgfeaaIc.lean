/- Walks: perm.Right, Identity. -/
import Derived.Test.YtccaagildkgfeaaIb
namespace Go.Proofs.Ytccaagildkgfeaa
open Go.RowKit

/-- Is a list a permutation? -/
def rightP (p : List Int) : Bool := decide (p.length ≤ 200) && decide (∀ x ∈ p, 0 ≤ x ∧ x < p.length) && decide p.Nodup
theorem right_true {p : List Int} (h : rightP p = true) : p.length ≤ 200 ∧ (∀ x ∈ p, 0 ≤ x ∧ x < p.length) ∧ p.Nodup := by
  unfold rightP at h
  rw [Bool.and_eq_true, Bool.and_eq_true, decide_eq_true_eq, decide_eq_true_eq, decide_eq_true_eq] at h
  exact ⟨h.1.1, h.1.2, h.2⟩
theorem right_mk {p : List Int} (h1 : p.length ≤ 200) (h2 : ∀ x ∈ p, 0 ≤ x ∧ x < p.length) (h3 : p.Nodup) : rightP p = true := by
  unfold rightP
  rw [Bool.and_eq_true, Bool.and_eq_true, decide_eq_true_eq, decide_eq_true_eq, decide_eq_true_eq]
  exact ⟨⟨h1, h2⟩, h3⟩
theorem right_not {p : List Int} (h : ¬ (p.length ≤ 200 ∧ (∀ x ∈ p, 0 ≤ x ∧ x < p.length) ∧ p.Nodup)) : rightP p = false := by
  cases hr : rightP p with
  | false => rfl
  | true => exact absurd (right_true hr) h
/-- What has been met. -/
def metL (n : Nat) (l : List Int) : List Value := (List.range n).map fun (j : Nat) => .bool (l.contains (j : Int))
theorem length_metL (n : Nat) (l : List Int) : (metL n l).length = n := by simp [metL]
theorem metL_at {n : Nat} {l : List Int} {j : Nat} (h : j < n) : (metL n l)[j]? = some (.bool (l.contains (j : Int))) := by
  unfold metL
  rw [List.getElem?_map, List.getElem?_range h]
  rfl
theorem metL_nil (n : Nat) : metL n [] = List.replicate n (.bool false) := by
  unfold metL
  apply List.ext_getElem?
  intro i
  rw [List.getElem?_map, List.getElem?_replicate]
  by_cases h : i < n
  · rw [List.getElem?_range h, if_pos h]; rfl
  · rw [List.getElem?_eq_none (by simpa using h), if_neg h]; rfl
theorem metL_set {n : Nat} {l : List Int} {j : Nat} : (metL n l).set j (.bool true) = metL n (l ++ [(j : Int)]) := by
  unfold metL
  apply List.ext_getElem?
  intro i
  rw [List.getElem?_set]
  by_cases hi : j = i
  · subst hi
    by_cases h : j < n
    · rw [if_pos rfl, if_pos (by simpa using h), List.getElem?_map, List.getElem?_range h]
      simp
    · rw [if_pos rfl, if_neg (by simpa using h), List.getElem?_eq_none (by simpa using h)]
  · rw [if_neg hi, List.getElem?_map, List.getElem?_map]
    by_cases h : i < n
    · rw [List.getElem?_range h]
      have : ¬ ((i : Int) = (j : Int)) := by omega
      simp [this]
    · rw [List.getElem?_eq_none (by simpa using h)]; rfl
theorem infoBool : (Try.prog.info? 4).map (fun i => (i.zero, i.size, i.bytes)) = some (some (.bool false), 1, 1) := by kernel_rfl
theorem mk_bools (n : Nat) (hn : n ≤ 100000) (W : World) : (Instr.makeSlice 56 (.int .i64 (n : Int)) (.int .i64 (n : Int))).run Try.prog W = .ok (.slice (some ⟨W.heap.size, 0, none⟩) n n) (W.alloc (.cells (metL n []).toArray 4)) := by
  obtain ⟨i0, hi, hz0, hz1, hz2⟩ := info_parts infoBool
  have hmk := run_make (P := Try.prog) W 56 4 i0 _ Try.underlying56 hi hz0 .i64 .i64 n n (by omega) (by omega) (by rw [hz2]; omega) (by omega)
  rw [hz1] at hmk
  simp only [Int.toNat_natCast, Value.cells, replicate_cells, Nat.mul_one] at hmk
  rw [metL_nil]
  exact hmk
def GoodK (p : List Int) (k : Nat) : Prop := (∀ x ∈ p.take k, 0 ≤ x ∧ x < p.length) ∧ (p.take k).Nodup
theorem GoodK.step {p : List Int} {k t : Nat} (h : GoodK p k) (hx : p[k]? = some (t : Int)) (ht : t < p.length) (hm : (p.take k).contains (t : Int) = false) : GoodK p (k + 1) := by
  have e : p.take (k + 1) = p.take k ++ [(t : Int)] := by rw [List.take_add_one, hx]; rfl
  unfold GoodK
  rw [e]
  refine ⟨fun x hx => ?_, ?_⟩
  · rcases List.mem_append.1 hx with h1 | h1
    · exact h.1 x h1
    · have : x = (t : Int) := by simpa using h1
      subst this; omega
  · rw [List.nodup_append]
    refine ⟨h.2, by simp, fun x hx y hy e => ?_⟩
    have : y = (t : Int) := by simpa using hy
    subst this e
    have := List.contains_iff_mem.2 hx
    rw [this] at hm; cases hm
theorem out_bad {p : List Int} {k : Nat} {x : Int} (hx : p[k]? = some x) (h : x < 0 ∨ (p.length : Int) ≤ x) : rightP p = false := by
  refine right_not fun ⟨_, h2, _⟩ => ?_
  have := h2 x (List.mem_of_getElem? hx)
  omega
theorem met_bad {p : List Int} {k : Nat} {x : Int} (hx : p[k]? = some x) (hm : (p.take k).contains x = true) : rightP p = false := by
  refine right_not fun ⟨_, _, h3⟩ => ?_
  have h4 : (p.take (k + 1)).Nodup := h3.sublist (List.take_sublist _ _)
  rw [List.take_add_one, hx, List.nodup_append] at h4
  exact h4.2.2 x (List.contains_iff_mem.1 hm) x (by simp) rfl
set_option maxRecDepth 100000 in
set_option maxHeartbeats 4000000 in
theorem right_any (A : Option Addr) (n c : Nat) (p : List Int) (w : World) (h : ArgI w A n c p) :
    Calls Try.prog 9 #[.slice A n c] w fun e w' => e = .returned (.bool (rightP p)) ∧ Below w.heap.size w w' := by
  have H := Lib.hid h
  have hle := h.le
  clear h
  by_cases hbig : 200 < n
  · have HR := Lib.hid (show rightP p = false from right_not fun ⟨h1, _⟩ => by have := H.out.len; omega)
    go_enter Try.func9, Try.ntmps9
    go_wp2
    go_ret
    exact ⟨by rw [HR.out]; rfl, Below.refl _ _⟩
  · have hd : decide (200 < (n : Int)) = false := by rw [decide_eq_false_iff_not]; omega
    have hn : n ≤ 200 := by omega
    have hmk := mk_bools n (by omega)
    clear hbig
    go_enter Try.func9, Try.ntmps9
    go_wp2
    go_loopw [5, 14] (fun _ i wr => ∃ k : Nat, k ≤ n ∧ i = .int .i64 (k : Int) ∧ Hid (GoodK p k) ∧ Hid (Own wr w.heap.size 4 (metL n (p.take k))) ∧ Hid (Below w.heap.size w wr)) (fun _ i _ => n - (intOf i).toNat)
    case atStart => exact ⟨0, Nat.zero_le _, rfl, Lib.hid ⟨by simp, by simp⟩, Lib.hid (by rw [List.take_zero]; exact Own.new' rfl), Lib.hid ((Below.refl _ w).alloc (Nat.le_refl _) _)⟩
    case round =>
      obtain ⟨k, hk, rfl, hG, hO, hB⟩ := hrel
      by_cases hlt : k < n
      · obtain ⟨b, off, rfl, hb, hc⟩ := rd_int H.out.rd (by have := H.out.len; omega)
        obtain ⟨x, hx⟩ : ∃ x, p[k]? = some x := ⟨_, List.getElem?_eq_getElem (by have := H.out.len; omega)⟩
        have hcx := hc wr hB.out k x hx
        have HX := Lib.hid hx
        clear hc hx
        by_cases hneg : x < 0
        · have HR := Lib.hid (out_bad HX.out (.inl hneg))
          have d1 : decide (x < 0) = true := by rw [decide_eq_true_eq]; exact hneg
          clear hneg
          go_wp2
          go_ret
          exact ⟨by rw [HR.out]; rfl, hB.out⟩
        · obtain ⟨t, rfl⟩ := Int.eq_ofNat_of_zero_le (show 0 ≤ x by omega)
          have d1 : decide ((t : Int) < 0) = false := by rw [decide_eq_false_iff_not]; omega
          by_cases hbg : n ≤ t
          · have HR := Lib.hid (out_bad HX.out (.inr (by have := H.out.len; omega)))
            have d2 : decide ((n : Int) ≤ (t : Int)) = true := by rw [decide_eq_true_eq]; omega
            go_wp2
            go_ret
            exact ⟨by rw [HR.out]; rfl, hB.out⟩
          · have htn : t < n := by omega
            have d2 : decide (n ≤ t) = false := by rw [decide_eq_false_iff_not]; omega
            have cm : wr.cell? ⟨w.heap.size, t, none⟩ = some (.bool ((p.take k).contains (t : Int))) := (hO.out.cell t).trans (metL_at htn)
            have fm := hO.out.frozen t
            clear hbg hneg
            cases hm : (p.take k).contains (t : Int) with
            | true =>
              rw [hm] at cm
              have HR := Lib.hid (met_bad HX.out hm)
              clear hm
              go_wp2
              go_ret
              exact ⟨by rw [HR.out]; rfl, hB.out⟩
            | false =>
              rw [hm] at cm
              have HG2 := Lib.hid (hG.out.step HX.out (by have := H.out.len; omega) hm)
              have HT := Lib.hid (show p.take k ++ [(t : Int)] = p.take (k + 1) by rw [List.take_add_one, HX.out]; rfl)
              clear hm
              go_wp2
              go_roundw
              case rel => exact ⟨k + 1, by omega, by go_num, HG2, Lib.hid (by have h := hO.out.set t (.bool true); rw [metL_set, HT.out] at h; exact h), Lib.hid (hB.out.setCell (p := ⟨w.heap.size, t, none⟩) (Nat.le_refl _) _)⟩
              case measure => simp [intOf]; omega
      · obtain rfl : n = k := by omega
        have HR := Lib.hid (show rightP p = true by
          have h := hG.out
          unfold GoodK at h
          rw [List.take_of_length_le (by have := H.out.len; omega)] at h
          exact right_mk (by have := H.out.len; omega) h.1 h.2)
        go_wp2
        go_ret
        exact ⟨by rw [HR.out]; rfl, hB.out⟩
/-- The numbers from 0 on. -/
def idP (n : Nat) : List Int := (List.range n).map fun (i : Nat) => (i : Int)
theorem length_idP (n : Nat) : (idP n).length = n := by simp [idP]
theorem idP_at {n i : Nat} (h : i < n) : (idP n)[i]? = some (i : Int) := by
  unfold idP
  rw [List.getElem?_map, List.getElem?_range h]
  rfl
/-- A row that is written from its front on. -/
def fillK (f : Nat → Int) (n k : Nat) : List Int := (List.range n).map fun i => if i < k then f i else 0
theorem length_fillK (f : Nat → Int) (n k : Nat) : (fillK f n k).length = n := by simp [fillK]
theorem fillK_zero (f : Nat → Int) (n : Nat) : fillK f n 0 = List.replicate n 0 := by
  unfold fillK
  apply List.ext_getElem?
  intro i
  rw [List.getElem?_map, List.getElem?_replicate]
  by_cases h : i < n
  · rw [List.getElem?_range h, if_pos h]; rfl
  · rw [List.getElem?_eq_none (by simpa using h), if_neg h]; rfl
theorem fillK_at {f : Nat → Int} {n k i : Nat} (h : i < n) : (fillK f n k)[i]? = some (if i < k then f i else 0) := by
  unfold fillK
  rw [List.getElem?_map, List.getElem?_range h]
  rfl
theorem fillK_step {f : Nat → Int} {n k : Nat} : (fillK f n k).set k (f k) = fillK f n (k + 1) := by
  apply List.ext_getElem?
  intro i
  rw [List.getElem?_set]
  by_cases h : i < n
  · rw [fillK_at h, fillK_at h]
    by_cases hi : k = i
    · subst hi
      rw [if_pos rfl, if_pos (by rw [length_fillK]; exact h), if_pos (by omega)]
    · rw [if_neg hi]
      by_cases h2 : i < k
      · rw [if_pos h2, if_pos (by omega)]
      · rw [if_neg h2, if_neg (by omega)]
  · rw [List.getElem?_eq_none (l := fillK f n (k + 1)) (by rw [length_fillK]; omega), List.getElem?_eq_none (l := fillK f n k) (by rw [length_fillK]; omega)]
    split
    · rename_i e; subst e
      rw [if_neg (by rw [length_fillK]; exact h)]
    · rfl
theorem fillK_id (n : Nat) : fillK (fun i => (i : Int)) n n = idP n := by
  apply List.ext_getElem?
  intro i
  by_cases h : i < n
  · rw [fillK_at h, idP_at h, if_pos h]
  · rw [List.getElem?_eq_none (by rw [length_fillK]; omega), List.getElem?_eq_none (by rw [length_idP]; omega)]
set_option maxRecDepth 100000 in
set_option maxHeartbeats 4000000 in
theorem identity_any (k : Int) (w : World) : Calls Try.prog 21 #[.int .i64 k] w (FreshI w (if 0 ≤ k ∧ k ≤ 200 then idP k.toNat else [])) := by
  by_cases hk : 0 ≤ k ∧ k ≤ 200
  · obtain ⟨n, rfl⟩ := Int.eq_ofNat_of_zero_le hk.1
    have hn : n ≤ 200 := by omega
    rw [if_pos hk]
    have d1 : decide ((n : Int) < 0) = false := by rw [decide_eq_false_iff_not]; omega
    have d2 : decide (200 < (n : Int)) = false := by rw [decide_eq_false_iff_not]; omega
    have hmk := mk_ints n (by omega)
    clear hk
    go_enter Try.func21, Try.ntmps21
    go_wp2
    go_loopw [4, 15] (fun _ i wr => ∃ k : Nat, k ≤ n ∧ i = .int .i64 (k : Int) ∧ Hid (Own wr w.heap.size 3 (cellsI (fillK (fun i => (i : Int)) n k))) ∧ Hid (Below w.heap.size w wr)) (fun _ i _ => n - (intOf i).toNat)
    case atStart => exact ⟨0, Nat.zero_le _, rfl, Lib.hid (by rw [fillK_zero]; exact Own.new' rfl), Lib.hid ((Below.refl _ w).alloc (Nat.le_refl _) _)⟩
    case round =>
      obtain ⟨k, hk, rfl, hO, hB⟩ := hrel
      by_cases hlt : k < n
      · have cm : wr.cell? ⟨w.heap.size, k, none⟩ = some (.int .i64 0) := (hO.out.cell k).trans (cellsI_at (by rw [fillK_at hlt, if_neg (Nat.lt_irrefl k)]))
        have fm := hO.out.frozen k
        go_wp2
        go_roundw
        case rel => exact ⟨k + 1, by omega, by go_num, Lib.hid (by have h := hO.out.set k (.int .i64 (k : Int)); rw [cellsI_set, fillK_step (f := fun i => (i : Int))] at h; exact h), Lib.hid (hB.out.setCell (p := ⟨w.heap.size, k, none⟩) (Nat.le_refl _) _)⟩
        case measure => simp [intOf]; omega
      · obtain rfl : n = k := by omega
        go_wp2
        go_ret
        have h := hO.out
        rw [fillK_id] at h
        exact ⟨_, rfl, by have h2 := RowI.made (B := w.heap.size) h (Nat.le_refl _) (by rw [length_idP]; omega); rw [length_idP] at h2; exact h2, hB.out⟩
  · rw [if_neg hk]
    by_cases h0 : k < 0
    · have d1 : decide (k < 0) = true := by rw [decide_eq_true_eq]; exact h0
      go_enter Try.func21, Try.ntmps21
      go_wp2
      go_ret
      exact ⟨_, rfl, .inl ⟨rfl, rfl⟩, Below.refl _ _⟩
    · have d1 : decide (k < 0) = false := by rw [decide_eq_false_iff_not]; exact h0
      have d2 : decide (200 < k) = true := by rw [decide_eq_true_eq]; omega
      go_enter Try.func21, Try.ntmps21
      go_wp2
      go_ret
      exact ⟨_, rfl, .inl ⟨rfl, rfl⟩, Below.refl _ _⟩
end Go.Proofs.Ytccaagildkgfeaa
