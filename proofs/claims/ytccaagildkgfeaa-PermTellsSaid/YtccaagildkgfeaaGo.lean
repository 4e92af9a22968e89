/- Walk: fretworkref02.Right. -/
import Derived.Test.YtccaagildkgfeaaGm
namespace Go.Proofs.Ytccaagildkgfeaa
open Go.RowKit

theorem belA {w V : World} (h : Below w.heap.size w V) (o : Obj) : Below w.heap.size w (V.alloc o) := h.alloc h.size o
/-- What is said of the edge before. -/
def LastE (N : Int) (E : List (Int × Int)) (k : Nat) (last : Int) : Prop := -1 ≤ last ∧ (k = 0 → last = -1) ∧ ∀ e, prevE E k = some e → ValidE N e ∧ last = e.1 * 200 + e.2
/-- The step's question. -/
def StepE (N : Int) (last : Int) (x0 x1 : Int) : Prop := 0 ≤ x0 ∧ x0 < x1 ∧ x1 < N ∧ last < x0 * 200 + x1
instance {N last x0 x1 : Int} : Decidable (StepE N last x0 x1) := by unfold StepE; infer_instance
theorem step_iff {N : Int} {E : List (Int × Int)} {k : Nat} {x0 x1 last : Int} (hN : N ≤ 200) (hx : E[k]? = some (x0, x1)) (hl : LastE N E k last) :
    okE N (prevE E k) (E.drop k) = (decide (StepE N last x0 x1) && okE N (prevE E (k + 1)) (E.drop (k + 1))) := by
  rw [okE_step hx]
  congr 1
  rw [Bool.eq_iff_iff, Bool.and_eq_true, Bool.and_eq_true, Bool.and_eq_true, decide_eq_true_eq, decide_eq_true_eq, decide_eq_true_eq, decide_eq_true_eq]
  unfold StepE
  obtain ⟨h1, h2, h3⟩ := hl
  cases hp : prevE E k with
  | none =>
    have hk : k = 0 := by
      unfold prevE at hp
      split at hp
      · assumption
      · have := (List.getElem?_eq_some_iff.1 hx).1
        rw [List.getElem?_eq_none_iff] at hp
        omega
    have := h2 hk
    simp only []
    constructor
    · rintro ⟨⟨⟨a, b⟩, c⟩, _⟩; exact ⟨a, b, c, by omega⟩
    · rintro ⟨a, b, c, _⟩; exact ⟨⟨⟨a, b⟩, c⟩, trivial⟩
  | some q =>
    obtain ⟨⟨v0, v1, v2⟩, hq⟩ := h3 q hp
    simp only []
    rw [decide_eq_true_eq, cmpE_lt]
    simp only
    constructor
    · rintro ⟨⟨⟨a, b⟩, c⟩, d⟩; exact ⟨a, b, c, by omega⟩
    · rintro ⟨a, b, c, d⟩; exact ⟨⟨⟨a, b⟩, c⟩, by omega⟩
def tblRR (gb : Nat) (b : Nat) (off : Nat) (n : Nat) (c : Nat) (k : Nat) (x0 : Int) (x1 : Int) : List Pst := [Pst.val (.pointer (some ⟨gb, 1, none⟩)), Pst.val (.slice (some ⟨b, off, none⟩) n c), Pst.val (.int .i64 (k : Nat)), Pst.val (.pointer (some ⟨b, off + k * 2, none⟩)), Pst.val (.pointer (some ⟨b, off + k * 2, none⟩)), Pst.val (.int .i64 x0), Pst.val (.pointer (some ⟨gb, 1, none⟩)), Pst.val (.slice (some ⟨b, off, none⟩) n c), Pst.val (.int .i64 (k : Nat)), Pst.val (.pointer (some ⟨b, off + k * 2, none⟩)), Pst.val (.pointer (some ⟨b, off + k * 2 + 1, none⟩)), Pst.val (.int .i64 x1), Pst.val (.int .i64 x0), Pst.val (.int .i64 x1)]
set_option maxRecDepth 100000 in
set_option maxHeartbeats 8000000 in
theorem rightR2_any (N : Int) (A : Option Addr) (n c : Nat) (E : List (Int × Int)) (w : World) (h : ArgE w A n c E) :
    Calls Try.prog 39 #[.agg #[.int .i64 N, .slice A n c]] w fun e w' => e = .returned (.bool (rightG N E)) ∧ Below w.heap.size w w' := by
  have HB0 := Lib.hid (alloc_below w (.cells #[.int .i64 N, .slice A n c] 34))
  have OG := Lib.hid (Own.new' (t := 34) (w := w) (vs := [.int .i64 N, .slice A n c]) rfl)
  have H := Lib.hid (h.keep HB0.out)
  have hle := h.le
  clear h
  have qO := OG.out.cell
  have zO := OG.out.lt
  by_cases hg : 0 ≤ N ∧ N ≤ 200 ∧ n ≤ 594
  · obtain ⟨h0, h1, h2⟩ := hg
    have d0 : decide (N < 0) = false := by rw [decide_eq_false_iff_not]; omega
    have d1 : decide (200 < N) = false := by rw [decide_eq_false_iff_not]; omega
    have d2 : decide (594 < (n : Int)) = false := by rw [decide_eq_false_iff_not]; omega
    have HR := Lib.hid (show rightG N E = okE N (prevE E 0) (E.drop 0) by
      have := H.out.len
      unfold rightG
      rw [decide_eq_true h0, decide_eq_true h1, decide_eq_true (show E.length ≤ 594 by omega)]
      rfl)
    have HL0 := Lib.hid (show LastE N E 0 (-1) from ⟨by omega, fun _ => rfl, fun e he => by simp [prevE] at he⟩)
    go_enter Try.func39, Try.ntmps39
    go_wp2_with fail
    go_loopw [2, 3, 4, 5, 6] (fun _ s3 i _ _ wr => ∃ (k : Nat) (last : Int), k ≤ n ∧ i = .int .i64 (k : Int) ∧ s3 = .int .i64 last ∧ Hid (rightG N E = okE N (prevE E k) (E.drop k)) ∧ Hid (LastE N E k last) ∧ Hid (Below (w.alloc (.cells #[.int .i64 N, .slice A n c] 34)).heap.size (w.alloc (.cells #[.int .i64 N, .slice A n c] 34)) wr)) (fun _ _ i _ _ _ => n - (intOf i).toNat)
    case atStart => exact ⟨0, -1, Nat.zero_le _, rfl, rfl, HR, HL0, Lib.hid (Below.refl _ _)⟩
    case round =>
      obtain ⟨k, last, hk, rfl, rfl, HS, HL, HB⟩ := hrel
      clear qO zO
      have CG := Lib.hid (fun V (hV : Below wr.heap.size wr V) => OG.out.below' (below_chain HB.out hV))
      have hO := CG.out wr (Below.refl _ _)
      have qO := hO.cell
      have zO := hO.lt
      clear hO
      by_cases hlt : k < n
      · obtain ⟨b, off, rfl, hb, hc⟩ := rd_edge H.out.rd (by have := H.out.len; omega)
        obtain ⟨⟨x0, x1⟩, hx⟩ : ∃ x, E[k]? = some x := ⟨_, List.getElem?_eq_getElem (by have := H.out.len; omega)⟩
        have C1 := Lib.hid (fun V (hV : Below wr.heap.size wr V) => (show V.cell? ⟨b, off + k * 2, none⟩ = some (.int .i64 x0) ∧ V.cell? ⟨b, off + k * 2 + 1, none⟩ = some (.int .i64 x1) from hc V (below_chain HB.out hV) k _ hx))
        have hst := step_iff h1 hx HL.out
        have HBAD := Lib.hid (show ¬ StepE N last x0 x1 → rightG N E = false from fun hn => by rw [HS.out, hst, decide_eq_false hn]; rfl)
        have HGOOD := Lib.hid (show StepE N last x0 x1 → rightG N E = okE N (prevE E (k + 1)) (E.drop (k + 1)) from fun hy => by rw [HS.out, hst, decide_eq_true hy]; rfl)
        have HX := Lib.hid hx; have HH := Lib.hid hlt
        have hl0 := HL.out.1
        clear hc hx hst HL HS
        go_wp2_with fail
        refine region_posts (by kernel_rfl) (tblRR w.heap.size b off n c k x0 x1) (by kernel_rfl) ?_ ?_
        · skip
          refine .yes rfl (fun a W Q hB hO hD => ?_) ?_
          · have e1 : a.tmps.getD 1 undef = .pointer (some ⟨w.heap.size, 0, none⟩) := hO.slot 1 _ rfl rfl
            clear hO hD
            go_wp2
            exact ⟨_, rfl, Below.refl _ _, rfl⟩
          refine .yes rfl (fun a W Q hB hO hD => ?_) ?_
          · have e28 : a.tmps.getD 28 undef = .pointer (some ⟨w.heap.size, 1, none⟩) := hD 0 rfl
            clear hO hD
            have hO := CG.out W hB
            have q := hO.cell
            have z := hO.lt
            go_wp2
            exact ⟨_, rfl, Below.refl _ _, rfl⟩
          refine .yes rfl (fun a W Q hB hO hD => ?_) ?_
          · have e4 : a.tmps.getD 4 undef = .int .i64 (k : Nat) := hO.slot 4 _ rfl rfl
            clear hO hD
            go_wp2
            exact ⟨_, rfl, Below.refl _ _, rfl⟩
          refine .yes rfl (fun a W Q hB hO hD => ?_) ?_
          · have e29 : a.tmps.getD 29 undef = .slice (some ⟨b, off, none⟩) n c := hD 1 rfl
            have e30 : a.tmps.getD 30 undef = .int .i64 (k : Nat) := hD 2 rfl
            clear hO hD
            have hh := HH.out
            go_wp2
            exact ⟨_, rfl, Below.refl _ _, rfl⟩
          refine .yes rfl (fun a W Q hB hO hD => ?_) ?_
          · have e31 : a.tmps.getD 31 undef = .pointer (some ⟨b, off + k * 2, none⟩) := hD 3 rfl
            clear hO hD
            go_wp2
            exact ⟨_, rfl, Below.refl _ _, rfl⟩
          refine .yes rfl (fun a W Q hB hO hD => ?_) ?_
          · have e32 : a.tmps.getD 32 undef = .pointer (some ⟨b, off + k * 2, none⟩) := hD 4 rfl
            clear hO hD
            have ⟨hc, hc2⟩ := C1.out W hB
            go_wp2
            exact ⟨_, rfl, Below.refl _ _, rfl⟩
          refine .yes rfl (fun a W Q hB hO hD => ?_) ?_
          · have e1 : a.tmps.getD 1 undef = .pointer (some ⟨w.heap.size, 0, none⟩) := hO.slot 1 _ rfl rfl
            clear hO hD
            go_wp2
            exact ⟨_, rfl, Below.refl _ _, rfl⟩
          refine .yes rfl (fun a W Q hB hO hD => ?_) ?_
          · have e34 : a.tmps.getD 34 undef = .pointer (some ⟨w.heap.size, 1, none⟩) := hD 6 rfl
            clear hO hD
            have hO := CG.out W hB
            have q := hO.cell
            have z := hO.lt
            go_wp2
            exact ⟨_, rfl, Below.refl _ _, rfl⟩
          refine .yes rfl (fun a W Q hB hO hD => ?_) ?_
          · have e4 : a.tmps.getD 4 undef = .int .i64 (k : Nat) := hO.slot 4 _ rfl rfl
            clear hO hD
            go_wp2
            exact ⟨_, rfl, Below.refl _ _, rfl⟩
          refine .yes rfl (fun a W Q hB hO hD => ?_) ?_
          · have e35 : a.tmps.getD 35 undef = .slice (some ⟨b, off, none⟩) n c := hD 7 rfl
            have e36 : a.tmps.getD 36 undef = .int .i64 (k : Nat) := hD 8 rfl
            clear hO hD
            have hh := HH.out
            go_wp2
            exact ⟨_, rfl, Below.refl _ _, rfl⟩
          refine .yes rfl (fun a W Q hB hO hD => ?_) ?_
          · have e37 : a.tmps.getD 37 undef = .pointer (some ⟨b, off + k * 2, none⟩) := hD 9 rfl
            clear hO hD
            go_wp2
            exact ⟨_, rfl, Below.refl _ _, rfl⟩
          refine .yes rfl (fun a W Q hB hO hD => ?_) ?_
          · have e38 : a.tmps.getD 38 undef = .pointer (some ⟨b, off + k * 2 + 1, none⟩) := hD 10 rfl
            clear hO hD
            have ⟨hc, hc2⟩ := C1.out W hB
            go_wp2
            exact ⟨_, rfl, Below.refl _ _, rfl⟩
          refine .yes rfl (fun a W Q hB hO hD => ?_) ?_
          · have e33 : a.tmps.getD 33 undef = .int .i64 x0 := hD 5 rfl
            clear hO hD
            go_wp2
            exact ⟨_, rfl, Below.refl _ _, rfl⟩
          refine .yes rfl (fun a W Q hB hO hD => ?_) ?_
          · have e39 : a.tmps.getD 39 undef = .int .i64 x1 := hD 11 rfl
            clear hO hD
            go_wp2
            exact ⟨_, rfl, Below.refl _ _, rfl⟩
          exact .nil
        · intro f V hBz hR
          have e12 : f 12 = .int .i64 x0 := hR 12 (by decide)
          have e13 : f 13 = .int .i64 x1 := hR 13 (by decide)
          have HB2 := Lib.hid (below_chain HB.out hBz)
          have OG2 := Lib.hid ((CG.out V hBz))
          have qO := OG2.out.cell
          have zO := OG2.out.lt
          clear hR hBz
          simp only [putAll, Nat.zero_add, Nat.reduceAdd, Act.put, List.setIfInBounds_toArray, List.set_cons_zero, List.set_cons_succ, e12, e13]
          by_cases g0 : x0 < 0
          · have k0 : decide (x0 < 0) = true := decide_eq_true g0
            have HF := Lib.hid (HBAD.out (fun h => by have := h.1; have := h.2.1; have := h.2.2.1; have := h.2.2.2; omega))
            go_wp2
            go_ret
            exact ⟨by rw [HF.out]; rfl, below_chain HB0.out HB2.out⟩
          have k0 : decide (x0 < 0) = false := decide_eq_false g0
          by_cases g1 : x1 < 0
          · have k1 : decide (x1 < 0) = true := decide_eq_true g1
            have HF := Lib.hid (HBAD.out (fun h => by have := h.1; have := h.2.1; have := h.2.2.1; have := h.2.2.2; omega))
            go_wp2
            go_ret
            exact ⟨by rw [HF.out]; rfl, below_chain HB0.out HB2.out⟩
          have k1 : decide (x1 < 0) = false := decide_eq_false g1
          by_cases g2 : N ≤ x0
          · have k2 : decide (N ≤ x0) = true := decide_eq_true g2
            have HF := Lib.hid (HBAD.out (fun h => by have := h.1; have := h.2.1; have := h.2.2.1; have := h.2.2.2; omega))
            go_wp2
            go_ret
            exact ⟨by rw [HF.out]; rfl, below_chain HB0.out HB2.out⟩
          have k2 : decide (N ≤ x0) = false := decide_eq_false g2
          by_cases g3 : N ≤ x1
          · have k3 : decide (N ≤ x1) = true := decide_eq_true g3
            have HF := Lib.hid (HBAD.out (fun h => by have := h.1; have := h.2.1; have := h.2.2.1; have := h.2.2.2; omega))
            go_wp2
            go_ret
            exact ⟨by rw [HF.out]; rfl, below_chain HB0.out HB2.out⟩
          have k3 : decide (N ≤ x1) = false := decide_eq_false g3
          by_cases g4 : x1 ≤ x0
          · have k4 : decide (x1 ≤ x0) = true := decide_eq_true g4
            have HF := Lib.hid (HBAD.out (fun h => by have := h.1; have := h.2.1; have := h.2.2.1; have := h.2.2.2; omega))
            go_wp2
            go_ret
            exact ⟨by rw [HF.out]; rfl, below_chain HB0.out HB2.out⟩
          have k4 : decide (x1 ≤ x0) = false := decide_eq_false g4
          by_cases g5 : x0 * 200 + x1 ≤ last
          · have k5 : decide (x0 * 200 + x1 ≤ last) = true := decide_eq_true g5
            have HF := Lib.hid (HBAD.out (fun h => by have := h.1; have := h.2.1; have := h.2.2.1; have := h.2.2.2; omega))
            go_wp2
            go_ret
            exact ⟨by rw [HF.out]; rfl, below_chain HB0.out HB2.out⟩
          have k5 : decide (x0 * 200 + x1 ≤ last) = false := decide_eq_false g5
          have HG := Lib.hid (HGOOD.out ⟨by omega, by omega, by omega, by omega⟩)
          go_wp2
          go_roundw
          case rel => exact ⟨k + 1, x0 * 200 + x1, by omega, by go_num, rfl, HG, Lib.hid (by
            refine ⟨by omega, by omega, fun e he => ?_⟩
            unfold prevE at he
            rw [if_neg (by omega), Nat.add_sub_cancel, HX.out] at he
            injection he with he
            subst he
            exact ⟨⟨by omega, by omega, by omega⟩, rfl⟩), HB2⟩
          case measure => simp [intOf]; omega
      · obtain rfl : k = n := by omega
        have HF := Lib.hid (HS.out.trans (okE_end (by have := H.out.len; omega)))
        go_wp2
        go_ret
        exact ⟨by rw [HF.out]; rfl, below_chain HB0.out HB.out⟩
  · have HF := Lib.hid (show rightG N E = false by
      rw [Bool.eq_false_iff]
      intro h
      have h := rightG_iff.1 h
      exact hg ⟨h.n0, h.n1, by have := h.len; have := H.out.len; omega⟩)
    by_cases h0 : N < 0
    · have d0 : decide (N < 0) = true := decide_eq_true h0
      clear hg
      go_enter Try.func39, Try.ntmps39
      go_wp2
      go_ret
      exact ⟨by rw [HF.out]; rfl, HB0.out⟩
    have d0 : decide (N < 0) = false := decide_eq_false h0
    by_cases h1 : 200 < N
    · have d1 : decide (200 < N) = true := decide_eq_true h1
      clear hg
      go_enter Try.func39, Try.ntmps39
      go_wp2
      go_ret
      exact ⟨by rw [HF.out]; rfl, HB0.out⟩
    have d1 : decide (200 < N) = false := decide_eq_false h1
    have d2 : decide (594 < (n : Int)) = true := by rw [decide_eq_true_eq]; omega
    clear hg
    go_enter Try.func39, Try.ntmps39
    go_wp2
    go_ret
    exact ⟨by rw [HF.out]; rfl, HB0.out⟩
end Go.Proofs.Ytccaagildkgfeaa
