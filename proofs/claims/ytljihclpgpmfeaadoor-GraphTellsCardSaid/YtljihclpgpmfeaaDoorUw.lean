/- Bundle of texts: Gg Gh. -/
import Derived.Test.YtljihclpgpmfeaaDoorUg
/- Walks: fretworklow.CopyPairs, SamePairs, SameGraph. -/
namespace Go.Proofs.YtljihclpgpmfeaaDoor
set_option maxRecDepth 100000
open Go.RowKit Go.Shelf

/-- Edges in new memory. -/
def FreshE (w : World) (l : List (Int × Int)) (e : Ending) (w' : World) : Prop := ∃ v, e = .returned v ∧ RowE w.heap.size w' v l ∧ Below w.heap.size w w'
set_option maxRecDepth 100000 in
set_option maxHeartbeats 4000000 in
theorem copyPairs_any (A : Option Addr) (n c : Nat) (l : List (Int × Int)) (w : World) (h : ArgE w A n c l) (hn : n ≤ 100000) :
    Calls Tryd.prog 21 #[.slice A n c] w (FreshE w l) := by
  have H := Lib.hid h
  clear h
  have HS0 := Lib.hid (show RowE w.heap.size w (.slice none 0 0) [] from .inl ⟨rfl, rfl⟩)
  go_enter Tryd.func21, Tryd.ntmps21
  go_wp2_with (at_builtin; refine wpList_append_edges rfl (.tmp 4) (.tmp 5) rfl A n c (k := l) rfl rfl HS0.out H.out.len H.out.rd (by simp; omega) (by simp) ?_; intro v w1 hr hb _; have HR := Lib.hid hr; have HB := Lib.hid hb; clear hr hb)
  go_ret
  exact ⟨_, rfl, HR.out, HB.out⟩
theorem eqPairV (a b c d : Int) (w : World) : (Op.equalIn 10000 49 (.agg #[.int .i64 a, .int .i64 b]) (.agg #[.int .i64 c, .int .i64 d])).run Tryd.prog w = .ok (a == c && b == d) w := by
  have u3 := Tryd.underlying3
  have a3 := Tryd.isAgg3
  have z3 := Tryd.sizeOf3
  rw [show (10000 : Nat) = 9999 + 1 from rfl, Op.equalIn]
  simp only [Sem.run_bind, run_underlying Tryd.underlying49, Result.andThen_ok]
  simp only [Std.Legacy.Range.forIn_eq_forIn_range', Std.Legacy.Range.size, Nat.sub_zero, Nat.add_sub_cancel, Nat.div_one, List.range'_succ, List.range'_zero, List.forIn_cons, List.forIn_nil]
  go_simp
  by_cases h1 : a = c <;> by_cases h2 : b = d <;> simp [h1, h2]
theorem drop_stepE {us vs : List (Int × Int)} {k : Nat} {a b : Int × Int} (ha : us[k]? = some a) (hb : vs[k]? = some b) : (us.drop k == vs.drop k) = (a == b && us.drop (k + 1) == vs.drop (k + 1)) := by
  obtain ⟨h1, rfl⟩ := List.getElem?_eq_some_iff.1 ha
  obtain ⟨h2, rfl⟩ := List.getElem?_eq_some_iff.1 hb
  rw [List.drop_eq_getElem_cons h1, List.drop_eq_getElem_cons h2]
  rfl
def tblSP (b : Nat) (off : Nat) (c : Nat) (d : Nat) (n : Nat) (k : Nat) (q : Nat) (e : Nat) (x0 : Int) (x1 : Int) (y0 : Int) (y1 : Int) (t : Bool) : List Pst := [Pst.val (.slice (some ⟨b, off, none⟩) n c), Pst.val (.int .i64 (k : Nat)), Pst.val (.pointer (some ⟨b, off + k * 2, none⟩)), Pst.val (.agg #[.int .i64 x0, .int .i64 x1]), Pst.val (.slice (some ⟨q, e, none⟩) n d), Pst.val (.int .i64 (k : Nat)), Pst.val (.pointer (some ⟨q, e + k * 2, none⟩)), Pst.val (.agg #[.int .i64 y0, .int .i64 y1]), Pst.val (.bool t)]
set_option maxRecDepth 100000 in
set_option maxHeartbeats 8000000 in
theorem samePairs_any (A B : Option Addr) (c d n m : Nat) (us vs : List (Int × Int)) (w : World) (h1 : ArgE w A n c us) (h2 : ArgE w B m d vs) :
    Calls Tryd.prog 36 #[.slice A n c, .slice B m d] w fun e w' => e = .returned (.bool (us == vs)) ∧ Below w.heap.size w w' := by
  have H1 := Lib.hid h1; have H2 := Lib.hid h2
  have hn := h1.le
  have hm := h2.le
  clear h1 h2
  by_cases hnm : n = m
  · subst hnm
    have k0 : ((n : Int) == n) = true := by simp
    go_enter Tryd.func36, Tryd.ntmps36
    go_wp2
    go_loopw [5] (fun i wr => ∃ k : Nat, k ≤ n ∧ i = .int .i64 (k : Int) ∧ Hid ((us == vs) = (us.drop k == vs.drop k)) ∧ Hid (Below w.heap.size w wr)) (fun i _ => n - (intOf i).toNat)
    case atStart => exact ⟨0, Nat.zero_le _, rfl, Lib.hid rfl, Lib.hid (Below.refl _ w)⟩
    case round =>
      obtain ⟨k, hk, rfl, hS, hBw⟩ := hrel
      by_cases hlt : k < n
      · obtain ⟨b, off, rfl, hb, hc1⟩ := rd_edge H1.out.rd (by have := H1.out.len; omega)
        obtain ⟨q, e, rfl, hb2, hc2⟩ := rd_edge H2.out.rd (by have := H2.out.len; omega)
        obtain ⟨⟨x0, x1⟩, hx⟩ : ∃ x, us[k]? = some x := ⟨_, List.getElem?_eq_getElem (by have := H1.out.len; omega)⟩
        obtain ⟨⟨y0, y1⟩, hy⟩ : ∃ x, vs[k]? = some x := ⟨_, List.getElem?_eq_getElem (by have := H2.out.len; omega)⟩
        have hst := Lib.hid (hS.out.trans (drop_stepE hx hy))
        have C1 := Lib.hid (fun V (hV : Below wr.heap.size wr V) => (show V.cell? ⟨b, off + k * 2, none⟩ = some (.int .i64 x0) ∧ V.cell? ⟨b, off + k * 2 + 1, none⟩ = some (.int .i64 x1) from hc1 V (hBw.out.trans (hV.mono hBw.out.size)) k _ hx))
        have C2 := Lib.hid (fun V (hV : Below wr.heap.size wr V) => (show V.cell? ⟨q, e + k * 2, none⟩ = some (.int .i64 y0) ∧ V.cell? ⟨q, e + k * 2 + 1, none⟩ = some (.int .i64 y1) from hc2 V (hBw.out.trans (hV.mono hBw.out.size)) k _ hy))
        obtain ⟨t, ht⟩ : ∃ t, (!((x0 == y0) && (x1 == y1))) = t := ⟨_, rfl⟩
        have HQ := Lib.hid ht
        have hst2 := Lib.hid (hst.out.trans (show _ = (!t && us.drop (k + 1) == vs.drop (k + 1)) by rw [← ht, Bool.not_not]; rfl))
        clear ht hst
        clear hc1 hc2 hx hy hS
        go_wp2
        refine region_posts (by kernel_rfl) (tblSP b off c d n k q e x0 x1 y0 y1 t) (by kernel_rfl) ?_ ?_
        · skip
          refine .yes rfl (fun a W Q hB hO hD => ?_) ?_
          · have e0 : a.tmps.getD 0 undef = .slice (some ⟨b, off, none⟩) n c := hO.slot 0 _ rfl rfl
            clear hO hD
            go_wp2
            exact ⟨_, rfl, Below.refl _ _, rfl⟩
          refine .yes rfl (fun a W Q hB hO hD => ?_) ?_
          · have e5 : a.tmps.getD 5 undef = .int .i64 (k : Nat) := hO.slot 5 _ rfl rfl
            clear hO hD
            go_wp2
            exact ⟨_, rfl, Below.refl _ _, rfl⟩
          refine .yes rfl (fun a W Q hB hO hD => ?_) ?_
          · have e17 : a.tmps.getD 17 undef = .slice (some ⟨b, off, none⟩) n c := hD 0 rfl
            have e18 : a.tmps.getD 18 undef = .int .i64 (k : Nat) := hD 1 rfl
            clear hO hD
            go_wp2
            exact ⟨_, rfl, Below.refl _ _, rfl⟩
          refine .yes rfl (fun a W Q hB hO hD => ?_) ?_
          · have e19 : a.tmps.getD 19 undef = .pointer (some ⟨b, off + k * 2, none⟩) := hD 2 rfl
            clear hO hD
            have ⟨hc, hc2⟩ := C1.out W hB
            go_wp2
            exact ⟨_, rfl, Below.refl _ _, rfl⟩
          refine .yes rfl (fun a W Q hB hO hD => ?_) ?_
          · have e1 : a.tmps.getD 1 undef = .slice (some ⟨q, e, none⟩) n d := hO.slot 1 _ rfl rfl
            clear hO hD
            go_wp2
            exact ⟨_, rfl, Below.refl _ _, rfl⟩
          refine .yes rfl (fun a W Q hB hO hD => ?_) ?_
          · have e5 : a.tmps.getD 5 undef = .int .i64 (k : Nat) := hO.slot 5 _ rfl rfl
            clear hO hD
            go_wp2
            exact ⟨_, rfl, Below.refl _ _, rfl⟩
          refine .yes rfl (fun a W Q hB hO hD => ?_) ?_
          · have e21 : a.tmps.getD 21 undef = .slice (some ⟨q, e, none⟩) n d := hD 4 rfl
            have e22 : a.tmps.getD 22 undef = .int .i64 (k : Nat) := hD 5 rfl
            clear hO hD
            go_wp2
            exact ⟨_, rfl, Below.refl _ _, rfl⟩
          refine .yes rfl (fun a W Q hB hO hD => ?_) ?_
          · have e23 : a.tmps.getD 23 undef = .pointer (some ⟨q, e + k * 2, none⟩) := hD 6 rfl
            clear hO hD
            have ⟨hc, hc2⟩ := C2.out W hB
            go_wp2
            exact ⟨_, rfl, Below.refl _ _, rfl⟩
          refine .yes rfl (fun a W Q hB hO hD => ?_) ?_
          · have e20 : a.tmps.getD 20 undef = .agg #[.int .i64 x0, .int .i64 x1] := hD 3 rfl
            have e24 : a.tmps.getD 24 undef = .agg #[.int .i64 y0, .int .i64 y1] := hD 7 rfl
            clear hO hD
            have heq := eqPairV x0 x1 y0 y1
            go_wp2
            exact ⟨_, rfl, Below.refl _ _, congrArg Value.bool ((Bool.not_and _ _).symm.trans HQ.out)⟩
          exact .nil
        · intro f V hBz hR
          have e8 : f 8 = .bool t := hR 8 (by decide)
          have HB2 := Lib.hid (hBw.out.trans (hBz.mono hBw.out.size))
          clear hR hBz
          simp only [putAll, Nat.zero_add, Nat.reduceAdd, Act.put, List.setIfInBounds_toArray, List.set_cons_zero, List.set_cons_succ, e8]
          cases t with
          | true =>
            go_wp2
            go_ret
            exact ⟨by rw [hst2.out]; rfl, HB2.out⟩
          | false =>
            go_wp2
            go_roundw
            case rel => exact ⟨k + 1, by omega, by go_num, Lib.hid (hst2.out.trans (by rw [Bool.not_false, Bool.true_and])), HB2⟩
            case measure => simp [intOf]; omega
      · obtain rfl : n = k := by omega
        have hS2 := Lib.hid (hS.out.trans (show _ = true by rw [List.drop_eq_nil_of_le (by have := H1.out.len; omega), List.drop_eq_nil_of_le (by have := H2.out.len; omega)]; rfl))
        clear hS
        go_wp2
        go_ret
        exact ⟨by rw [hS2.out]; rfl, hBw.out⟩
  · have k0 : ((n : Int) == m) = false := by rw [beq_eq_false_iff_ne]; omega
    have HR := Lib.hid (show (us == vs) = false by
      rw [beq_eq_false_iff_ne]
      intro e
      have a := H1.out.len; have b := H2.out.len
      rw [e] at a
      omega)
    go_enter Tryd.func36, Tryd.ntmps36
    go_wp2
    go_ret
    exact ⟨by rw [HR.out]; rfl, Below.refl _ _⟩
end Go.Proofs.YtljihclpgpmfeaaDoor
/- Walk: fretworklow.SameGraph. -/
namespace Go.Proofs.YtljihclpgpmfeaaDoor
set_option maxRecDepth 100000
open Go.RowKit Go.Shelf

set_option maxRecDepth 100000 in
set_option maxHeartbeats 8000000 in
theorem sameGraph_any (N M : Int) (A B : Option Addr) (c d n m : Nat) (us vs : List (Int × Int)) (w : World) (h1 : ArgE w A n c us) (h2 : ArgE w B m d vs) :
    Calls Tryd.prog 17 #[.agg #[.int .i64 N, .slice A n c], .agg #[.int .i64 M, .slice B m d]] w fun e w' => e = .returned (.bool ((N == M) && (us == vs))) ∧ Below w.heap.size w w' := by
  have hW1 := alloc_below w (.cells #[.int .i64 N, .slice A n c] 26)
  have hW2 := alloc_below (w.alloc (.cells #[.int .i64 N, .slice A n c] 26)) (.cells #[.int .i64 M, .slice B m d] 26)
  have HB := Lib.hid (hW1.trans (hW2.mono (by simp)))
  have HP := Lib.hid (samePairs_any A B c d n m us vs _ (h1.keep HB.out) (h2.keep HB.out))
  clear h1 h2 hW1 hW2
  generalize (us == vs) = t at HP ⊢
  by_cases hNM : N = M
  · subst hNM
    have k0 : (N == N) = true := by simp
    rw [k0, Bool.true_and]
    go_enter Tryd.func17, Tryd.ntmps17
    go_wp2_with fail
    refine HP.out.mono ?_
    rintro e w' ⟨rfl, hb⟩
    have HB2 := Lib.hid (HB.out.trans (hb.mono HB.out.size))
    clear hb
    go_wp2
    go_ret
    exact ⟨rfl, HB2.out⟩
  · have k0 : (N == M) = false := by rw [beq_eq_false_iff_ne]; exact hNM
    rw [k0, Bool.false_and]
    go_enter Tryd.func17, Tryd.ntmps17
    go_wp2
    go_ret
    exact ⟨rfl, HB.out⟩
end Go.Proofs.YtljihclpgpmfeaaDoor
