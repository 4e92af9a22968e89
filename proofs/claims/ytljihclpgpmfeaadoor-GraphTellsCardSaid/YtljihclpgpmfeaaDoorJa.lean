/- Lists of lists of numbers that are read; walk: fretworklow.SameIntLists. -/
import Derived.Test.YtljihclpgpmfeaaDoorUe
namespace Go.Proofs.YtljihclpgpmfeaaDoor
set_option maxRecDepth 100000
open Go.RowKit

/-- A value that is the row l. -/
def RdI (w : World) (v : Value) (l : List Int) : Prop := ∃ A c, v = .slice A l.length c ∧ ArgI w A l.length c l
/-- A slice of rows of numbers. -/
structure ArgL (w : World) (A : Option Addr) (n c : Nat) (cs : List (List Int)) : Prop where
  rows : ∃ vs : List Value, vs.length = cs.length ∧ Rd w A vs ∧ ∀ (i : Nat) (v : Value) (l : List Int), vs[i]? = some v → cs[i]? = some l → RdI w v l
  len : n = cs.length
  le : n ≤ 9223372036854775807
section
variable {w w' : World} {A : Option Addr} {n c : Nat} {v : Value} {l : List Int} {cs : List (List Int)}
theorem RdI.below (h : RdI w v l) (hb : Below w.heap.size w w') : RdI w' v l := by
  obtain ⟨A, c, e, hr⟩ := h
  exact ⟨A, c, e, hr.keep hb⟩
theorem ArgL.keep (h : ArgL w A n c cs) (hb : Below w.heap.size w w') : ArgL w' A n c cs := by
  obtain ⟨vs, h1, h2, h3⟩ := h.rows
  exact ⟨⟨vs, h1, h2.below hb, fun i v l hv hl => (h3 i v l hv hl).below hb⟩, h.len, h.le⟩
/-- The cell of a row, and the row, in whatever world comes later. -/
theorem ArgL.at (h : ArgL w A n c cs) (h0 : 0 < n) : ∃ b off, A = some ⟨b, off, none⟩ ∧ b < w.heap.size ∧
    ∀ (i : Nat) (l : List Int), cs[i]? = some l → ∃ B k, ∀ V, Below w.heap.size w V → V.cell? ⟨b, off + i, none⟩ = some (.slice B l.length k) ∧ ArgI V B l.length k l := by
  obtain ⟨vs, h1, h2, h3⟩ := h.rows
  obtain ⟨b, off, e, hb, hc⟩ := h2 (by have := h.len; omega)
  refine ⟨b, off, e, hb, fun i l hl => ?_⟩
  have hi : i < vs.length := by rw [h1]; exact (List.getElem?_eq_some_iff.1 hl).1
  have hv := List.getElem?_eq_getElem hi
  obtain ⟨B, k, e2, hr⟩ := h3 i _ l hv hl
  exact ⟨B, k, fun V hV => ⟨((below_cells hV).1 _ _ hb).trans (by rw [hc i _ hv, e2]), hr.keep hV⟩⟩
end
theorem drop_stepG {α : Type} [BEq α] {us vs : List α} {k : Nat} {a b : α} (ha : us[k]? = some a) (hb : vs[k]? = some b) : (us.drop k == vs.drop k) = (a == b && us.drop (k + 1) == vs.drop (k + 1)) := by
  obtain ⟨h1, rfl⟩ := List.getElem?_eq_some_iff.1 ha
  obtain ⟨h2, rfl⟩ := List.getElem?_eq_some_iff.1 hb
  rw [List.drop_eq_getElem_cons h1, List.drop_eq_getElem_cons h2]
  rfl
def tblSL (b : Nat) (off : Nat) (c : Nat) (d : Nat) (n : Nat) (k : Nat) (q : Nat) (e : Nat) (P : Option Addr) (QA : Option Addr) (nx : Nat) (ny : Nat) (pc : Nat) (qc : Nat) (t : Bool) : List Pst := [Pst.val (.slice (some ⟨b, off, none⟩) n c), Pst.val (.int .i64 (k : Nat)), Pst.val (.pointer (some ⟨b, off + k, none⟩)), Pst.val (.slice P nx pc), Pst.val (.slice (some ⟨q, e, none⟩) n d), Pst.val (.int .i64 (k : Nat)), Pst.val (.pointer (some ⟨q, e + k, none⟩)), Pst.val (.slice QA ny qc), Pst.val (.bool t), Pst.val (.bool (!t))]
set_option maxRecDepth 100000 in
set_option maxHeartbeats 8000000 in
theorem sameLists_any (A B : Option Addr) (c d n m : Nat) (us vs : List (List Int)) (w : World) (h1 : ArgL w A n c us) (h2 : ArgL w B m d vs) :
    Calls Tryd.prog 33 #[.slice A n c, .slice B m d] w fun e w' => e = .returned (.bool (us == vs)) ∧ Below w.heap.size w w' := by
  have H1 := Lib.hid h1; have H2 := Lib.hid h2
  have hn := h1.le
  have hm := h2.le
  clear h1 h2
  by_cases hnm : n = m
  · subst hnm
    have k0 : ((n : Int) == n) = true := by simp
    go_enter Tryd.func33, Tryd.ntmps33
    go_wp2
    go_loopw [5] (fun i wr => ∃ k : Nat, k ≤ n ∧ i = .int .i64 (k : Int) ∧ Hid ((us == vs) = (us.drop k == vs.drop k)) ∧ Hid (Below w.heap.size w wr)) (fun i _ => n - (intOf i).toNat)
    case atStart => exact ⟨0, Nat.zero_le _, rfl, Lib.hid rfl, Lib.hid (Below.refl _ w)⟩
    case round =>
      obtain ⟨k, hk, rfl, hS, hBw⟩ := hrel
      by_cases hlt : k < n
      · obtain ⟨b, off, rfl, hb, hc1⟩ := H1.out.at (by omega)
        obtain ⟨q, e, rfl, hb2, hc2⟩ := H2.out.at (by omega)
        obtain ⟨x, hx⟩ : ∃ x, us[k]? = some x := ⟨_, List.getElem?_eq_getElem (by have := H1.out.len; omega)⟩
        obtain ⟨y, hy⟩ : ∃ x, vs[k]? = some x := ⟨_, List.getElem?_eq_getElem (by have := H2.out.len; omega)⟩
        obtain ⟨P, pc, hp⟩ := hc1 k x hx
        obtain ⟨QA, qc, hq⟩ := hc2 k y hy
        have hst := Lib.hid (hS.out.trans (drop_stepG hx hy))
        have C1 := Lib.hid (fun V (hV : Below wr.heap.size wr V) => hp V (hBw.out.trans (hV.mono hBw.out.size)))
        have C2 := Lib.hid (fun V (hV : Below wr.heap.size wr V) => hq V (hBw.out.trans (hV.mono hBw.out.size)))
        obtain ⟨t, ht⟩ : ∃ t, (x == y) = t := ⟨_, rfl⟩
        have HQ := Lib.hid ht
        have hst2 := Lib.hid (hst.out.trans (show _ = (t && us.drop (k + 1) == vs.drop (k + 1)) by rw [← ht]))
        clear ht hst hp hq
        clear hc1 hc2 hx hy hS
        obtain ⟨nx, hnx⟩ : ∃ z, x.length = z := ⟨_, rfl⟩
        obtain ⟨ny, hny⟩ : ∃ z, y.length = z := ⟨_, rfl⟩
        rw [hnx] at C1
        rw [hny] at C2
        clear hnx hny
        go_wp2
        refine region_posts (by kernel_rfl) (tblSL b off c d n k q e P QA nx ny pc qc t) (by kernel_rfl) ?_ ?_
        · skip
          refine .yes rfl (fun a W Q hB hO hD => ?_) ?_
          · have e0 : a.tmps.getD 0 undef = .slice (some ⟨b, off, none⟩) n c := hO.slot 0 _ rfl rfl
            clear hO hD
            go_wp2
            exact ⟨_, rfl, Below.refl _ _, rfl⟩
          refine .yes rfl (fun a W Q hB hO hD => ?_) ?_
          · have e5 : a.tmps.getD 5 undef = .int .i64 (k : Nat) := hO.slot 5 _ rfl rfl
            clear hO hD
            go_wp2
            exact ⟨_, rfl, Below.refl _ _, rfl⟩
          refine .yes rfl (fun a W Q hB hO hD => ?_) ?_
          · have e17 : a.tmps.getD 17 undef = .slice (some ⟨b, off, none⟩) n c := hD 0 rfl
            have e18 : a.tmps.getD 18 undef = .int .i64 (k : Nat) := hD 1 rfl
            clear hO hD
            go_wp2
            exact ⟨_, rfl, Below.refl _ _, rfl⟩
          refine .yes rfl (fun a W Q hB hO hD => ?_) ?_
          · have e19 : a.tmps.getD 19 undef = .pointer (some ⟨b, off + k, none⟩) := hD 2 rfl
            clear hO hD
            have hc := (C1.out W hB).1
            go_wp2
            exact ⟨_, rfl, Below.refl _ _, rfl⟩
          refine .yes rfl (fun a W Q hB hO hD => ?_) ?_
          · have e1 : a.tmps.getD 1 undef = .slice (some ⟨q, e, none⟩) n d := hO.slot 1 _ rfl rfl
            clear hO hD
            go_wp2
            exact ⟨_, rfl, Below.refl _ _, rfl⟩
          refine .yes rfl (fun a W Q hB hO hD => ?_) ?_
          · have e5 : a.tmps.getD 5 undef = .int .i64 (k : Nat) := hO.slot 5 _ rfl rfl
            clear hO hD
            go_wp2
            exact ⟨_, rfl, Below.refl _ _, rfl⟩
          refine .yes rfl (fun a W Q hB hO hD => ?_) ?_
          · have e21 : a.tmps.getD 21 undef = .slice (some ⟨q, e, none⟩) n d := hD 4 rfl
            have e22 : a.tmps.getD 22 undef = .int .i64 (k : Nat) := hD 5 rfl
            clear hO hD
            go_wp2
            exact ⟨_, rfl, Below.refl _ _, rfl⟩
          refine .yes rfl (fun a W Q hB hO hD => ?_) ?_
          · have e23 : a.tmps.getD 23 undef = .pointer (some ⟨q, e + k, none⟩) := hD 6 rfl
            clear hO hD
            have hc := (C2.out W hB).1
            go_wp2
            exact ⟨_, rfl, Below.refl _ _, rfl⟩
          refine .yes rfl (fun a W Q hB hO hD => ?_) ?_
          · have e20 : a.tmps.getD 20 undef = .slice P nx pc := hD 3 rfl
            have e24 : a.tmps.getD 24 undef = .slice QA ny qc := hD 7 rfl
            clear hO hD
            have HP := Lib.hid (C1.out W hB).2; have HQ2 := Lib.hid (C2.out W hB).2
            go_wp2_with fail
            refine (sameInts_any P QA pc qc nx ny x y W HP.out HQ2.out).mono ?_
            rintro e W1 ⟨rfl, hb⟩
            rw [HQ.out]
            go_wp2
            exact ⟨_, rfl, hb, rfl⟩
          refine .yes rfl (fun a W Q hB hO hD => ?_) ?_
          · have e25 : a.tmps.getD 25 undef = .bool t := hD 8 rfl
            clear hO hD
            go_wp2
            exact ⟨_, rfl, Below.refl _ _, rfl⟩
          exact .nil
        · intro f V hBz hR
          have e9 : f 9 = .bool (!t) := hR 9 (by decide)
          have HB2 := Lib.hid (hBw.out.trans (hBz.mono hBw.out.size))
          clear hR hBz
          simp only [putAll, Nat.zero_add, Nat.reduceAdd, Act.put, List.setIfInBounds_toArray, List.set_cons_zero, List.set_cons_succ, e9]
          cases t with
          | false =>
            go_wp2
            go_ret
            exact ⟨by rw [hst2.out]; rfl, HB2.out⟩
          | true =>
            go_wp2
            go_roundw
            case rel => exact ⟨k + 1, by omega, by go_num, Lib.hid (hst2.out.trans (by rw [Bool.true_and])), HB2⟩
            case measure => simp [intOf]; omega
      · obtain rfl : n = k := by omega
        have hS2 := Lib.hid (hS.out.trans (show _ = true by rw [List.drop_eq_nil_of_le (by have := H1.out.len; omega), List.drop_eq_nil_of_le (by have := H2.out.len; omega)]; rfl))
        clear hS
        go_wp2
        go_ret
        exact ⟨by rw [hS2.out]; rfl, hBw.out⟩
  · have k0 : ((n : Int) == m) = false := by rw [beq_eq_false_iff_ne]; omega
    have HR := Lib.hid (show (us == vs) = false by
      rw [beq_eq_false_iff_ne]
      intro e
      have a := H1.out.len; have b := H2.out.len
      rw [e] at a
      omega)
    go_enter Tryd.func33, Tryd.ntmps33
    go_wp2
    go_ret
    exact ⟨by rw [HR.out]; rfl, Below.refl _ _⟩
end Go.Proofs.YtljihclpgpmfeaaDoor
