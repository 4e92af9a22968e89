/- Bundle of texts: Go Gp. -/
import Derived.Test.YtljihclpgpmfeaaDoorGm
/- Walk: fretworkref02.Right. -/
namespace Go.Proofs.YtljihclpgpmfeaaDoor
set_option maxRecDepth 100000
open Go.RowKit

theorem belA {w V : World} (h : Below w.heap.size w V) (o : Obj) : Below w.heap.size w (V.alloc o) := h.alloc h.size o
/-- What is said of the edge before. -/
def LastE (N : Int) (E : List (Int × Int)) (k : Nat) (last : Int) : Prop := -1 ≤ last ∧ (k = 0 → last = -1) ∧ ∀ e, prevE E k = some e → ValidE N e ∧ last = e.1 * 200 + e.2
/-- The step's question. -/
def StepE (N : Int) (last : Int) (x0 x1 : Int) : Prop := 0 ≤ x0 ∧ x0 < x1 ∧ x1 < N ∧ last < x0 * 200 + x1
instance {N last x0 x1 : Int} : Decidable (StepE N last x0 x1) := by unfold StepE; infer_instance
theorem step_iff {N : Int} {E : List (Int × Int)} {k : Nat} {x0 x1 last : Int} (hN : N ≤ 200) (hx : E[k]? = some (x0, x1)) (hl : LastE N E k last) :
    okE N (prevE E k) (E.drop k) = (decide (StepE N last x0 x1) && okE N (prevE E (k + 1)) (E.drop (k + 1))) := by
  rw [okE_step hx]
  congr 1
  rw [Bool.eq_iff_iff, Bool.and_eq_true, Bool.and_eq_true, Bool.and_eq_true, decide_eq_true_eq, decide_eq_true_eq, decide_eq_true_eq, decide_eq_true_eq]
  unfold StepE
  obtain ⟨h1, h2, h3⟩ := hl
  cases hp : prevE E k with
  | none =>
    have hk : k = 0 := by
      unfold prevE at hp
      split at hp
      · assumption
      · have := (List.getElem?_eq_some_iff.1 hx).1
        rw [List.getElem?_eq_none_iff] at hp
        omega
    have := h2 hk
    simp only []
    constructor
    · rintro ⟨⟨⟨a, b⟩, c⟩, _⟩; exact ⟨a, b, c, by omega⟩
    · rintro ⟨a, b, c, _⟩; exact ⟨⟨⟨a, b⟩, c⟩, trivial⟩
  | some q =>
    obtain ⟨⟨v0, v1, v2⟩, hq⟩ := h3 q hp
    simp only []
    rw [decide_eq_true_eq, cmpE_lt]
    simp only
    constructor
    · rintro ⟨⟨⟨a, b⟩, c⟩, d⟩; exact ⟨a, b, c, by omega⟩
    · rintro ⟨a, b, c, d⟩; exact ⟨⟨⟨a, b⟩, c⟩, by omega⟩
def tblRR (gb : Nat) (b : Nat) (off : Nat) (n : Nat) (c : Nat) (k : Nat) (x0 : Int) (x1 : Int) : List Pst := [Pst.val (.pointer (some ⟨gb, 1, none⟩)), Pst.val (.slice (some ⟨b, off, none⟩) n c), Pst.val (.int .i64 (k : Nat)), Pst.val (.pointer (some ⟨b, off + k * 2, none⟩)), Pst.val (.pointer (some ⟨b, off + k * 2, none⟩)), Pst.val (.int .i64 x0), Pst.val (.pointer (some ⟨gb, 1, none⟩)), Pst.val (.slice (some ⟨b, off, none⟩) n c), Pst.val (.int .i64 (k : Nat)), Pst.val (.pointer (some ⟨b, off + k * 2, none⟩)), Pst.val (.pointer (some ⟨b, off + k * 2 + 1, none⟩)), Pst.val (.int .i64 x1), Pst.val (.int .i64 x0), Pst.val (.int .i64 x1)]
set_option maxRecDepth 100000 in
set_option maxHeartbeats 8000000 in
theorem rightR2_any (N : Int) (A : Option Addr) (n c : Nat) (E : List (Int × Int)) (w : World) (h : ArgE w A n c E) :
    Calls Tryd.prog 29 #[.agg #[.int .i64 N, .slice A n c]] w fun e w' => e = .returned (.bool (rightG N E)) ∧ Below w.heap.size w w' := by
  have HB0 := Lib.hid (alloc_below w (.cells #[.int .i64 N, .slice A n c] 26))
  have OG := Lib.hid (Own.new' (t := 26) (w := w) (vs := [.int .i64 N, .slice A n c]) rfl)
  have H := Lib.hid (h.keep HB0.out)
  have hle := h.le
  clear h
  have qO := OG.out.cell
  have zO := OG.out.lt
  by_cases hg : 0 ≤ N ∧ N ≤ 200 ∧ n ≤ 594
  · obtain ⟨h0, h1, h2⟩ := hg
    have d0 : decide (N < 0) = false := by rw [decide_eq_false_iff_not]; omega
    have d1 : decide (200 < N) = false := by rw [decide_eq_false_iff_not]; omega
    have d2 : decide (594 < (n : Int)) = false := by rw [decide_eq_false_iff_not]; omega
    have HR := Lib.hid (show rightG N E = okE N (prevE E 0) (E.drop 0) by
      have := H.out.len
      unfold rightG
      rw [decide_eq_true h0, decide_eq_true h1, decide_eq_true (show E.length ≤ 594 by omega)]
      rfl)
    have HL0 := Lib.hid (show LastE N E 0 (-1) from ⟨by omega, fun _ => rfl, fun e he => by simp [prevE] at he⟩)
    go_enter Tryd.func29, Tryd.ntmps29
    go_wp2_with fail
    go_loopw [2, 3, 4, 5, 6] (fun _ s3 i _ _ wr => ∃ (k : Nat) (last : Int), k ≤ n ∧ i = .int .i64 (k : Int) ∧ s3 = .int .i64 last ∧ Hid (rightG N E = okE N (prevE E k) (E.drop k)) ∧ Hid (LastE N E k last) ∧ Hid (Below (w.alloc (.cells #[.int .i64 N, .slice A n c] 26)).heap.size (w.alloc (.cells #[.int .i64 N, .slice A n c] 26)) wr)) (fun _ _ i _ _ _ => n - (intOf i).toNat)
    case atStart => exact ⟨0, -1, Nat.zero_le _, rfl, rfl, HR, HL0, Lib.hid (Below.refl _ _)⟩
    case round =>
      obtain ⟨k, last, hk, rfl, rfl, HS, HL, HB⟩ := hrel
      clear qO zO
      have CG := Lib.hid (fun V (hV : Below wr.heap.size wr V) => OG.out.below' (below_chain HB.out hV))
      have hO := CG.out wr (Below.refl _ _)
      have qO := hO.cell
      have zO := hO.lt
      clear hO
      by_cases hlt : k < n
      · obtain ⟨b, off, rfl, hb, hc⟩ := rd_edge H.out.rd (by have := H.out.len; omega)
        obtain ⟨⟨x0, x1⟩, hx⟩ : ∃ x, E[k]? = some x := ⟨_, List.getElem?_eq_getElem (by have := H.out.len; omega)⟩
        have C1 := Lib.hid (fun V (hV : Below wr.heap.size wr V) => (show V.cell? ⟨b, off + k * 2, none⟩ = some (.int .i64 x0) ∧ V.cell? ⟨b, off + k * 2 + 1, none⟩ = some (.int .i64 x1) from hc V (below_chain HB.out hV) k _ hx))
        have hst := step_iff h1 hx HL.out
        have HBAD := Lib.hid (show ¬ StepE N last x0 x1 → rightG N E = false from fun hn => by rw [HS.out, hst, decide_eq_false hn]; rfl)
        have HGOOD := Lib.hid (show StepE N last x0 x1 → rightG N E = okE N (prevE E (k + 1)) (E.drop (k + 1)) from fun hy => by rw [HS.out, hst, decide_eq_true hy]; rfl)
        have HX := Lib.hid hx; have HH := Lib.hid hlt
        have hl0 := HL.out.1
        clear hc hx hst HL HS
        go_wp2_with fail
        refine region_posts (by kernel_rfl) (tblRR w.heap.size b off n c k x0 x1) (by kernel_rfl) ?_ ?_
        · skip
          refine .yes rfl (fun a W Q hB hO hD => ?_) ?_
          · have e1 : a.tmps.getD 1 undef = .pointer (some ⟨w.heap.size, 0, none⟩) := hO.slot 1 _ rfl rfl
            clear hO hD
            go_wp2
            exact ⟨_, rfl, Below.refl _ _, rfl⟩
          refine .yes rfl (fun a W Q hB hO hD => ?_) ?_
          · have e28 : a.tmps.getD 28 undef = .pointer (some ⟨w.heap.size, 1, none⟩) := hD 0 rfl
            clear hO hD
            have hO := CG.out W hB
            have q := hO.cell
            have z := hO.lt
            go_wp2
            exact ⟨_, rfl, Below.refl _ _, rfl⟩
          refine .yes rfl (fun a W Q hB hO hD => ?_) ?_
          · have e4 : a.tmps.getD 4 undef = .int .i64 (k : Nat) := hO.slot 4 _ rfl rfl
            clear hO hD
            go_wp2
            exact ⟨_, rfl, Below.refl _ _, rfl⟩
          refine .yes rfl (fun a W Q hB hO hD => ?_) ?_
          · have e29 : a.tmps.getD 29 undef = .slice (some ⟨b, off, none⟩) n c := hD 1 rfl
            have e30 : a.tmps.getD 30 undef = .int .i64 (k : Nat) := hD 2 rfl
            clear hO hD
            have hh := HH.out
            go_wp2
            exact ⟨_, rfl, Below.refl _ _, rfl⟩
          refine .yes rfl (fun a W Q hB hO hD => ?_) ?_
          · have e31 : a.tmps.getD 31 undef = .pointer (some ⟨b, off + k * 2, none⟩) := hD 3 rfl
            clear hO hD
            go_wp2
            exact ⟨_, rfl, Below.refl _ _, rfl⟩
          refine .yes rfl (fun a W Q hB hO hD => ?_) ?_
          · have e32 : a.tmps.getD 32 undef = .pointer (some ⟨b, off + k * 2, none⟩) := hD 4 rfl
            clear hO hD
            have ⟨hc, hc2⟩ := C1.out W hB
            go_wp2
            exact ⟨_, rfl, Below.refl _ _, rfl⟩
          refine .yes rfl (fun a W Q hB hO hD => ?_) ?_
          · have e1 : a.tmps.getD 1 undef = .pointer (some ⟨w.heap.size, 0, none⟩) := hO.slot 1 _ rfl rfl
            clear hO hD
            go_wp2
            exact ⟨_, rfl, Below.refl _ _, rfl⟩
          refine .yes rfl (fun a W Q hB hO hD => ?_) ?_
          · have e34 : a.tmps.getD 34 undef = .pointer (some ⟨w.heap.size, 1, none⟩) := hD 6 rfl
            clear hO hD
            have hO := CG.out W hB
            have q := hO.cell
            have z := hO.lt
            go_wp2
            exact ⟨_, rfl, Below.refl _ _, rfl⟩
          refine .yes rfl (fun a W Q hB hO hD => ?_) ?_
          · have e4 : a.tmps.getD 4 undef = .int .i64 (k : Nat) := hO.slot 4 _ rfl rfl
            clear hO hD
            go_wp2
            exact ⟨_, rfl, Below.refl _ _, rfl⟩
          refine .yes rfl (fun a W Q hB hO hD => ?_) ?_
          · have e35 : a.tmps.getD 35 undef = .slice (some ⟨b, off, none⟩) n c := hD 7 rfl
            have e36 : a.tmps.getD 36 undef = .int .i64 (k : Nat) := hD 8 rfl
            clear hO hD
            have hh := HH.out
            go_wp2
            exact ⟨_, rfl, Below.refl _ _, rfl⟩
          refine .yes rfl (fun a W Q hB hO hD => ?_) ?_
          · have e37 : a.tmps.getD 37 undef = .pointer (some ⟨b, off + k * 2, none⟩) := hD 9 rfl
            clear hO hD
            go_wp2
            exact ⟨_, rfl, Below.refl _ _, rfl⟩
          refine .yes rfl (fun a W Q hB hO hD => ?_) ?_
          · have e38 : a.tmps.getD 38 undef = .pointer (some ⟨b, off + k * 2 + 1, none⟩) := hD 10 rfl
            clear hO hD
            have ⟨hc, hc2⟩ := C1.out W hB
            go_wp2
            exact ⟨_, rfl, Below.refl _ _, rfl⟩
          refine .yes rfl (fun a W Q hB hO hD => ?_) ?_
          · have e33 : a.tmps.getD 33 undef = .int .i64 x0 := hD 5 rfl
            clear hO hD
            go_wp2
            exact ⟨_, rfl, Below.refl _ _, rfl⟩
          refine .yes rfl (fun a W Q hB hO hD => ?_) ?_
          · have e39 : a.tmps.getD 39 undef = .int .i64 x1 := hD 11 rfl
            clear hO hD
            go_wp2
            exact ⟨_, rfl, Below.refl _ _, rfl⟩
          exact .nil
        · intro f V hBz hR
          have e12 : f 12 = .int .i64 x0 := hR 12 (by decide)
          have e13 : f 13 = .int .i64 x1 := hR 13 (by decide)
          have HB2 := Lib.hid (below_chain HB.out hBz)
          have OG2 := Lib.hid ((CG.out V hBz))
          have qO := OG2.out.cell
          have zO := OG2.out.lt
          clear hR hBz
          simp only [putAll, Nat.zero_add, Nat.reduceAdd, Act.put, List.setIfInBounds_toArray, List.set_cons_zero, List.set_cons_succ, e12, e13]
          by_cases g0 : x0 < 0
          · have k0 : decide (x0 < 0) = true := decide_eq_true g0
            have HF := Lib.hid (HBAD.out (fun h => by have := h.1; have := h.2.1; have := h.2.2.1; have := h.2.2.2; omega))
            go_wp2
            go_ret
            exact ⟨by rw [HF.out]; rfl, below_chain HB0.out HB2.out⟩
          have k0 : decide (x0 < 0) = false := decide_eq_false g0
          by_cases g1 : x1 < 0
          · have k1 : decide (x1 < 0) = true := decide_eq_true g1
            have HF := Lib.hid (HBAD.out (fun h => by have := h.1; have := h.2.1; have := h.2.2.1; have := h.2.2.2; omega))
            go_wp2
            go_ret
            exact ⟨by rw [HF.out]; rfl, below_chain HB0.out HB2.out⟩
          have k1 : decide (x1 < 0) = false := decide_eq_false g1
          by_cases g2 : N ≤ x0
          · have k2 : decide (N ≤ x0) = true := decide_eq_true g2
            have HF := Lib.hid (HBAD.out (fun h => by have := h.1; have := h.2.1; have := h.2.2.1; have := h.2.2.2; omega))
            go_wp2
            go_ret
            exact ⟨by rw [HF.out]; rfl, below_chain HB0.out HB2.out⟩
          have k2 : decide (N ≤ x0) = false := decide_eq_false g2
          by_cases g3 : N ≤ x1
          · have k3 : decide (N ≤ x1) = true := decide_eq_true g3
            have HF := Lib.hid (HBAD.out (fun h => by have := h.1; have := h.2.1; have := h.2.2.1; have := h.2.2.2; omega))
            go_wp2
            go_ret
            exact ⟨by rw [HF.out]; rfl, below_chain HB0.out HB2.out⟩
          have k3 : decide (N ≤ x1) = false := decide_eq_false g3
          by_cases g4 : x1 ≤ x0
          · have k4 : decide (x1 ≤ x0) = true := decide_eq_true g4
            have HF := Lib.hid (HBAD.out (fun h => by have := h.1; have := h.2.1; have := h.2.2.1; have := h.2.2.2; omega))
            go_wp2
            go_ret
            exact ⟨by rw [HF.out]; rfl, below_chain HB0.out HB2.out⟩
          have k4 : decide (x1 ≤ x0) = false := decide_eq_false g4
          by_cases g5 : x0 * 200 + x1 ≤ last
          · have k5 : decide (x0 * 200 + x1 ≤ last) = true := decide_eq_true g5
            have HF := Lib.hid (HBAD.out (fun h => by have := h.1; have := h.2.1; have := h.2.2.1; have := h.2.2.2; omega))
            go_wp2
            go_ret
            exact ⟨by rw [HF.out]; rfl, below_chain HB0.out HB2.out⟩
          have k5 : decide (x0 * 200 + x1 ≤ last) = false := decide_eq_false g5
          have HG := Lib.hid (HGOOD.out ⟨by omega, by omega, by omega, by omega⟩)
          go_wp2
          go_roundw
          case rel => exact ⟨k + 1, x0 * 200 + x1, by omega, by go_num, rfl, HG, Lib.hid (by
            refine ⟨by omega, by omega, fun e he => ?_⟩
            unfold prevE at he
            rw [if_neg (by omega), Nat.add_sub_cancel, HX.out] at he
            injection he with he
            subst he
            exact ⟨⟨by omega, by omega, by omega⟩, rfl⟩), HB2⟩
          case measure => simp [intOf]; omega
      · obtain rfl : k = n := by omega
        have HF := Lib.hid (HS.out.trans (okE_end (by have := H.out.len; omega)))
        go_wp2
        go_ret
        exact ⟨by rw [HF.out]; rfl, below_chain HB0.out HB.out⟩
  · have HF := Lib.hid (show rightG N E = false by
      rw [Bool.eq_false_iff]
      intro h
      have h := rightG_iff.1 h
      exact hg ⟨h.n0, h.n1, by have := h.len; have := H.out.len; omega⟩)
    by_cases h0 : N < 0
    · have d0 : decide (N < 0) = true := decide_eq_true h0
      clear hg
      go_enter Tryd.func29, Tryd.ntmps29
      go_wp2
      go_ret
      exact ⟨by rw [HF.out]; rfl, HB0.out⟩
    have d0 : decide (N < 0) = false := decide_eq_false h0
    by_cases h1 : 200 < N
    · have d1 : decide (200 < N) = true := decide_eq_true h1
      clear hg
      go_enter Tryd.func29, Tryd.ntmps29
      go_wp2
      go_ret
      exact ⟨by rw [HF.out]; rfl, HB0.out⟩
    have d1 : decide (200 < N) = false := decide_eq_false h1
    have d2 : decide (594 < (n : Int)) = true := by rw [decide_eq_true_eq]; omega
    clear hg
    go_enter Tryd.func29, Tryd.ntmps29
    go_wp2
    go_ret
    exact ⟨by rw [HF.out]; rfl, HB0.out⟩
end Go.Proofs.YtljihclpgpmfeaaDoor
/- Walk: fretworkref02.Has. -/
namespace Go.Proofs.YtljihclpgpmfeaaDoor
set_option maxRecDepth 100000
open Go.RowKit

def mE (a b x0 x1 : Int) : Bool := (x0 == a && x1 == b) || (x0 == b && x1 == a)
theorem has_found {N : Int} {E : List (Int × Int)} {k : Nat} {a b x0 x1 : Int} (hx : E[k]? = some (x0, x1)) (hm : mE a b x0 x1 = true) : hasG N E a b = rightG N E := by
  unfold hasG
  cases hr : rightG N E with
  | false => rfl
  | true =>
    rw [Bool.true_and, List.contains_iff_mem]
    have hv := (rightG_iff.1 hr).valid _ (List.mem_of_getElem? hx)
    have : (min a b, max a b) = (x0, x1) := by
      unfold mE at hm
      rw [Bool.or_eq_true, Bool.and_eq_true, Bool.and_eq_true, beq_iff_eq, beq_iff_eq, beq_iff_eq, beq_iff_eq] at hm
      have h2 : x0 < x1 := hv.2.1
      rcases hm with ⟨rfl, rfl⟩ | ⟨rfl, rfl⟩
      · rw [Int.min_eq_left (by omega), Int.max_eq_right (by omega)]
      · rw [Int.min_eq_right (by omega), Int.max_eq_left (by omega)]
    rw [this]
    exact List.mem_of_getElem? hx
theorem has_not {N : Int} {E : List (Int × Int)} {a b : Int} (h : ∀ (t : Nat) x0 x1, t < E.length → E[t]? = some (x0, x1) → mE a b x0 x1 = false) : hasG N E a b = false := by
  unfold hasG
  cases hc : E.contains (min a b, max a b) with
  | false => rw [Bool.and_false]
  | true =>
    exfalso
    obtain ⟨t, ht⟩ := List.mem_iff_getElem?.1 (List.contains_iff_mem.1 hc)
    have := h t _ _ (List.getElem?_eq_some_iff.1 ht).1 ht
    unfold mE at this
    by_cases hab : a ≤ b
    · rw [Int.min_eq_left hab, Int.max_eq_right hab] at this
      simp at this
    · rw [Int.min_eq_right (by omega), Int.max_eq_left (by omega)] at this
      simp at this
set_option maxRecDepth 100000 in
set_option maxHeartbeats 8000000 in
theorem hasR_any (N : Int) (A : Option Addr) (n c : Nat) (E : List (Int × Int)) (a b : Int) (w : World) (h : ArgE w A n c E) :
    Calls Tryd.prog 35 #[.agg #[.int .i64 N, .slice A n c], .int .i64 a, .int .i64 b] w fun e w' => e = .returned (.bool (hasG N E a b)) ∧ Below w.heap.size w w' := by
  have HB0 := Lib.hid (alloc_below w (.cells #[.int .i64 N, .slice A n c] 26))
  have OG := Lib.hid (Own.new' (t := 26) (w := w) (vs := [.int .i64 N, .slice A n c]) rfl)
  have H := Lib.hid (h.keep HB0.out)
  have hle := h.le
  clear h
  have qO := OG.out.cell
  have zO := OG.out.lt
  go_enter Tryd.func35, Tryd.ntmps35
  go_wp2_with fail
  go_loopw [6, 7, 8] (fun _ i _ wr => ∃ k : Nat, k ≤ n ∧ i = .int .i64 (k : Int) ∧ Hid (∀ (t : Nat) x0 x1, t < k → E[t]? = some (x0, x1) → mE a b x0 x1 = false) ∧ Hid (Below (w.alloc (.cells #[.int .i64 N, .slice A n c] 26)).heap.size (w.alloc (.cells #[.int .i64 N, .slice A n c] 26)) wr)) (fun _ i _ _ => n - (intOf i).toNat)
  case atStart => exact ⟨0, Nat.zero_le _, rfl, Lib.hid (fun t _ _ ht => absurd ht (Nat.not_lt_zero _)), Lib.hid (Below.refl _ _)⟩
  case round =>
    obtain ⟨k, hk, rfl, HS, HB⟩ := hrel
    clear qO zO
    have hO := OG.out.below' HB.out
    have qO := hO.cell
    have zO := hO.lt
    have OG2 := Lib.hid hO
    clear hO
    by_cases hlt : k < n
    · obtain ⟨b1, off, rfl, hb1, hc⟩ := rd_edge H.out.rd (by have := H.out.len; omega)
      obtain ⟨⟨x0, x1⟩, hx⟩ : ∃ x, E[k]? = some x := ⟨_, List.getElem?_eq_getElem (by have := H.out.len; omega)⟩
      obtain ⟨q0, q1⟩ := hc wr HB.out k _ hx
      have hbw : b1 < wr.heap.size := Nat.lt_of_lt_of_le hb1 HB.out.size
      obtain ⟨m1, hm1⟩ : ∃ m, (x0 == a) = m := ⟨_, rfl⟩
      obtain ⟨m2, hm2⟩ : ∃ m, (x1 == b) = m := ⟨_, rfl⟩
      obtain ⟨m3, hm3⟩ : ∃ m, (x0 == b) = m := ⟨_, rfl⟩
      obtain ⟨m4, hm4⟩ : ∃ m, (x1 == a) = m := ⟨_, rfl⟩
      have hmE : mE a b x0 x1 = ((m1 && m2) || (m3 && m4)) := by unfold mE; rw [hm1, hm2, hm3, hm4]
      have HFOUND := Lib.hid (show ((m1 && m2) || (m3 && m4)) = true → hasG N E a b = rightG N E from fun h => has_found hx (hmE.trans h))
      have HNEXT := Lib.hid (show ((m1 && m2) || (m3 && m4)) = false → ∀ (t : Nat) y0 y1, t < k + 1 → E[t]? = some (y0, y1) → mE a b y0 y1 = false from fun h t y0 y1 ht hy => by
        by_cases e : t = k
        · subst e
          rw [hx] at hy
          injection hy with hy
          injection hy with h1 h2
          subst h1 h2
          exact hmE.trans h
        · exact HS.out t y0 y1 (by omega) hy)
      have AG := Lib.hid (fun V (hV : Below wr.heap.size wr V) => H.out.keep (below_chain HB.out hV))
      have HBa := Lib.hid (belA HB.out (.cells #[.int .i64 x0, .int .i64 x1] 49))
      have OG3 := (OG2.out.alloc (.cells #[.int .i64 x0, .int .i64 x1] 49))
      clear hc hx hmE HS
      cases m1 with
      | true =>
        cases m2 with
        | true =>
          cases m3 with
          | true =>
            cases m4 with
            | true =>
              have HF := Lib.hid (HFOUND.out rfl)
              have KR := Lib.hid (AG.out _ (belA (Below.refl _ _) (.cells #[.int .i64 x0, .int .i64 x1] 49)))
              go_wp2_with fail
              refine (rightR2_any N (some ⟨b1, off, none⟩) n c E _ KR.out).mono ?_
              rintro e w9 ⟨rfl, hb9⟩
              have HB9 := Lib.hid (below_chain HBa.out hb9)
              clear hb9
              go_wp2
              go_ret
              exact ⟨by rw [HF.out]; rfl, below_chain HB0.out HB9.out⟩
            | false =>
              have HF := Lib.hid (HFOUND.out rfl)
              have KR := Lib.hid (AG.out _ (belA (Below.refl _ _) (.cells #[.int .i64 x0, .int .i64 x1] 49)))
              go_wp2_with fail
              refine (rightR2_any N (some ⟨b1, off, none⟩) n c E _ KR.out).mono ?_
              rintro e w9 ⟨rfl, hb9⟩
              have HB9 := Lib.hid (below_chain HBa.out hb9)
              clear hb9
              go_wp2
              go_ret
              exact ⟨by rw [HF.out]; rfl, below_chain HB0.out HB9.out⟩
          | false =>
            cases m4 with
            | true =>
              have HF := Lib.hid (HFOUND.out rfl)
              have KR := Lib.hid (AG.out _ (belA (Below.refl _ _) (.cells #[.int .i64 x0, .int .i64 x1] 49)))
              go_wp2_with fail
              refine (rightR2_any N (some ⟨b1, off, none⟩) n c E _ KR.out).mono ?_
              rintro e w9 ⟨rfl, hb9⟩
              have HB9 := Lib.hid (below_chain HBa.out hb9)
              clear hb9
              go_wp2
              go_ret
              exact ⟨by rw [HF.out]; rfl, below_chain HB0.out HB9.out⟩
            | false =>
              have HF := Lib.hid (HFOUND.out rfl)
              have KR := Lib.hid (AG.out _ (belA (Below.refl _ _) (.cells #[.int .i64 x0, .int .i64 x1] 49)))
              go_wp2_with fail
              refine (rightR2_any N (some ⟨b1, off, none⟩) n c E _ KR.out).mono ?_
              rintro e w9 ⟨rfl, hb9⟩
              have HB9 := Lib.hid (below_chain HBa.out hb9)
              clear hb9
              go_wp2
              go_ret
              exact ⟨by rw [HF.out]; rfl, below_chain HB0.out HB9.out⟩
        | false =>
          cases m3 with
          | true =>
            cases m4 with
            | true =>
              have HF := Lib.hid (HFOUND.out rfl)
              have KR := Lib.hid (AG.out _ (belA (Below.refl _ _) (.cells #[.int .i64 x0, .int .i64 x1] 49)))
              go_wp2_with fail
              refine (rightR2_any N (some ⟨b1, off, none⟩) n c E _ KR.out).mono ?_
              rintro e w9 ⟨rfl, hb9⟩
              have HB9 := Lib.hid (below_chain HBa.out hb9)
              clear hb9
              go_wp2
              go_ret
              exact ⟨by rw [HF.out]; rfl, below_chain HB0.out HB9.out⟩
            | false =>
              have HN := Lib.hid (HNEXT.out rfl)
              go_wp2
              go_roundw
              case rel => exact ⟨k + 1, by omega, by go_num, HN, HBa⟩
              case measure => simp [intOf]; omega
          | false =>
            cases m4 with
            | true =>
              have HN := Lib.hid (HNEXT.out rfl)
              go_wp2
              go_roundw
              case rel => exact ⟨k + 1, by omega, by go_num, HN, HBa⟩
              case measure => simp [intOf]; omega
            | false =>
              have HN := Lib.hid (HNEXT.out rfl)
              go_wp2
              go_roundw
              case rel => exact ⟨k + 1, by omega, by go_num, HN, HBa⟩
              case measure => simp [intOf]; omega
      | false =>
        cases m2 with
        | true =>
          cases m3 with
          | true =>
            cases m4 with
            | true =>
              have HF := Lib.hid (HFOUND.out rfl)
              have KR := Lib.hid (AG.out _ (belA (Below.refl _ _) (.cells #[.int .i64 x0, .int .i64 x1] 49)))
              go_wp2_with fail
              refine (rightR2_any N (some ⟨b1, off, none⟩) n c E _ KR.out).mono ?_
              rintro e w9 ⟨rfl, hb9⟩
              have HB9 := Lib.hid (below_chain HBa.out hb9)
              clear hb9
              go_wp2
              go_ret
              exact ⟨by rw [HF.out]; rfl, below_chain HB0.out HB9.out⟩
            | false =>
              have HN := Lib.hid (HNEXT.out rfl)
              go_wp2
              go_roundw
              case rel => exact ⟨k + 1, by omega, by go_num, HN, HBa⟩
              case measure => simp [intOf]; omega
          | false =>
            cases m4 with
            | true =>
              have HN := Lib.hid (HNEXT.out rfl)
              go_wp2
              go_roundw
              case rel => exact ⟨k + 1, by omega, by go_num, HN, HBa⟩
              case measure => simp [intOf]; omega
            | false =>
              have HN := Lib.hid (HNEXT.out rfl)
              go_wp2
              go_roundw
              case rel => exact ⟨k + 1, by omega, by go_num, HN, HBa⟩
              case measure => simp [intOf]; omega
        | false =>
          cases m3 with
          | true =>
            cases m4 with
            | true =>
              have HF := Lib.hid (HFOUND.out rfl)
              have KR := Lib.hid (AG.out _ (belA (Below.refl _ _) (.cells #[.int .i64 x0, .int .i64 x1] 49)))
              go_wp2_with fail
              refine (rightR2_any N (some ⟨b1, off, none⟩) n c E _ KR.out).mono ?_
              rintro e w9 ⟨rfl, hb9⟩
              have HB9 := Lib.hid (below_chain HBa.out hb9)
              clear hb9
              go_wp2
              go_ret
              exact ⟨by rw [HF.out]; rfl, below_chain HB0.out HB9.out⟩
            | false =>
              have HN := Lib.hid (HNEXT.out rfl)
              go_wp2
              go_roundw
              case rel => exact ⟨k + 1, by omega, by go_num, HN, HBa⟩
              case measure => simp [intOf]; omega
          | false =>
            cases m4 with
            | true =>
              have HN := Lib.hid (HNEXT.out rfl)
              go_wp2
              go_roundw
              case rel => exact ⟨k + 1, by omega, by go_num, HN, HBa⟩
              case measure => simp [intOf]; omega
            | false =>
              have HN := Lib.hid (HNEXT.out rfl)
              go_wp2
              go_roundw
              case rel => exact ⟨k + 1, by omega, by go_num, HN, HBa⟩
              case measure => simp [intOf]; omega
    · obtain rfl : k = n := by omega
      have HF := Lib.hid (show hasG N E a b = false from has_not fun t x0 x1 ht hx => HS.out t x0 x1 (by have := H.out.len; omega) hx)
      go_wp2
      go_ret
      exact ⟨by rw [HF.out]; rfl, below_chain HB0.out HB.out⟩
end Go.Proofs.YtljihclpgpmfeaaDoor
