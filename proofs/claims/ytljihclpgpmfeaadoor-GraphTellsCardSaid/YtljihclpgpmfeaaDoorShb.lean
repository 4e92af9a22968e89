/- Walk: fretworklaw02.shown. -/
import Derived.Test.YtljihclpgpmfeaaDoorSha
import Derived.Test.YtljihclpgpmfeaaDoorUm
import Derived.Test.YtljihclpgpmfeaaDoorUw
import Derived.Test.YtljihclpgpmfeaaDoorUa
namespace Go.Proofs.YtljihclpgpmfeaaDoor
set_option maxRecDepth 100000
open Go.RowKit

theorem flat_lines : ∀ F : List (Int × Int), FewE F → (F.flatMap fun e => lineB e.1 e.2).length ≤ 44 * F.length
  | [], _ => by simp
  | e :: F, h => by
    have h1 := h e (by simp)
    have h2 := lineB_len (a := e.1) (b := e.2) ⟨by omega, by omega⟩ ⟨by omega, by omega⟩
    have h3 := flat_lines F fun x hx => h x (by simp [hx])
    rw [List.flatMap_cons, List.length_append, List.length_cons]
    omega
theorem textS_len (N : Int) (F : List (Int × Int)) (k : Nat) (hN : InI N) (hF : FewE F) (hl : F.length ≤ 594) : (textK N F k).length ≤ 30000 := by
  have h1 := lineB_len hN (b := (F.length : Int)) ⟨by omega, by omega⟩
  have h2 := flat_lines (F.take k) fun x hx => hF x (List.mem_of_mem_take hx)
  rw [List.length_take] at h2
  unfold textK
  rw [List.length_append]
  omega
def tblSw (g : Nat) (n : Nat) (c2 : Nat) (k : Nat) (pl : Nat) (x0 : Int) (x1 : Int) (y0 : Int) (y1 : Int) : List Pst := [Pst.val (.slice (some ⟨g, 0, none⟩) n c2), Pst.val (.int .i64 (k : Nat)), Pst.val (.slice (some ⟨g, 0, none⟩) n c2), Pst.val (.int .i64 (pl : Nat)), Pst.val (.slice (some ⟨g, 0, none⟩) n c2), Pst.val (.int .i64 (pl : Nat)), Pst.val (.pointer (some ⟨g, pl * 2, none⟩)), Pst.val (.agg #[.int .i64 y0, .int .i64 y1]), Pst.val (.slice (some ⟨g, 0, none⟩) n c2), Pst.val (.int .i64 (k : Nat)), Pst.val (.pointer (some ⟨g, k * 2, none⟩)), Pst.val (.agg #[.int .i64 x0, .int .i64 x1]), Pst.val (.pointer (some ⟨g, k * 2, none⟩)), Pst.none, Pst.val (.pointer (some ⟨g, pl * 2, none⟩)), Pst.none]
def tblFl (g : Nat) (n : Nat) (c2 : Nat) (k : Nat) (y0 : Int) (y1 : Int) : List Pst := [Pst.val (.slice (some ⟨g, 0, none⟩) n c2), Pst.val (.int .i64 (k : Nat)), Pst.val (.slice (some ⟨g, 0, none⟩) n c2), Pst.val (.int .i64 (k : Nat)), Pst.val (.slice (some ⟨g, 0, none⟩) n c2), Pst.val (.int .i64 (k : Nat)), Pst.val (.pointer (some ⟨g, k * 2, none⟩)), Pst.val (.pointer (some ⟨g, k * 2 + 1, none⟩)), Pst.val (.int .i64 y1), Pst.val (.slice (some ⟨g, 0, none⟩) n c2), Pst.val (.int .i64 (k : Nat)), Pst.val (.pointer (some ⟨g, k * 2, none⟩)), Pst.val (.pointer (some ⟨g, k * 2, none⟩)), Pst.val (.int .i64 y0), Pst.val (.pointer (some ⟨g, k * 2, none⟩)), Pst.val (.pointer (some ⟨g, k * 2, none⟩)), Pst.none, Pst.val (.pointer (some ⟨g, k * 2, none⟩)), Pst.val (.pointer (some ⟨g, k * 2 + 1, none⟩)), Pst.none]
def tblLn (S : ByteArray) (eb : Nat) (x0 : Int) (x1 : Int) (A0 : ByteArray) (A1 : ByteArray) (A2 : ByteArray) (A3 : ByteArray) (A4 : ByteArray) (A5 : ByteArray) : List Pst := [Pst.val (.string S), Pst.val (.pointer (some ⟨eb, 0, none⟩)), Pst.val (.int .i64 x0), Pst.val (.string A0), Pst.val (.string A1), Pst.val (.pointer (some ⟨eb, 1, none⟩)), Pst.val (.int .i64 x1), Pst.val (.string A2), Pst.val (.string A3), Pst.val (.string A4), Pst.val (.string A5), Pst.val (.string A5)]
set_option maxRecDepth 100000 in
set_option maxHeartbeats 16000000 in
theorem shown_any (N : Int) (A U : Option Addr) (n c nu cu : Nat) (E : List (Int × Int)) (us : List Nat) (w : World) (h : ArgE w A n c E) (hu : ArgU w U nu cu us) (hE : RightE N E) (ht : TabW w.heap.size w) :
    Calls Tryd.prog 18 #[.agg #[.int .i64 N, .slice A n c], .slice U nu cu] w fun e w' => e = .returned (.string (strB (textG N (shufK us E n)))) ∧ Below w.heap.size w w' := by
  have HB0 := Lib.hid ((alloc_below w (.cells #[.int .i64 N, .slice A n c] 26)).trans ((alloc_below (w.alloc (.cells #[.int .i64 N, .slice A n c] 26)) (.cells #[.slice U nu cu] 36)).mono (by simp)))
  have HL := Lib.hid h.len
  have hn5 : n ≤ 594 := by have := hE.len; have := h.len; omega
  have HE := Lib.hid hE
  have HT := Lib.hid (ht.on HB0.out)
  obtain ⟨W1, hW1⟩ : ∃ W, (w.alloc (.cells #[.int .i64 N, .slice A n c] 26)).alloc (.cells #[.slice U nu cu] 36) = W := ⟨_, rfl⟩
  have hs1 : w.heap.size + 2 = W1.heap.size := by rw [← hW1]; simp
  have G1 := Lib.hid (show Own W1 w.heap.size 26 [.int .i64 N, .slice A n c] from by rw [← hW1]; exact (Own.new' rfl).alloc _)
  have U1 := Lib.hid (show Own W1 (w.heap.size + 1) 36 [.slice U nu cu] from by rw [← hW1]; exact Own.new' (by simp))
  rw [hW1] at HB0 HT
  have HA1 := Lib.hid (h.keep HB0.out)
  have HU1 := Lib.hid (hu.keep HB0.out)
  have g0 : W1.cell? ⟨w.heap.size, 0, none⟩ = some (.int .i64 N) := G1.out.cell 0
  have g1 : W1.cell? ⟨w.heap.size, 1, none⟩ = some (.slice A n c) := G1.out.cell 1
  have u0 : W1.cell? ⟨w.heap.size + 1, 0, none⟩ = some (.slice U nu cu) := U1.out.cell 0
  have HCP := Lib.hid (copyPairs_any A n c E W1 HA1.out (by omega))
  clear h hu hE ht
  go_enter Tryd.func18, Tryd.ntmps18
  go_wp2_with fail
  refine HCP.out.mono ?_
  rintro e w2 ⟨v2, rfl, hr2, hb2⟩
  obtain ⟨A2, c2, rfl, _⟩ := hr2.arg (by have := HL.out; omega)
  rw [← HL.out] at hr2 ⊢
  have HR2 := Lib.hid hr2
  have HB2 := Lib.hid hb2
  clear hr2 hb2 g0 g1 u0 HCP
  go_wp2
  go_loopw [7, 8, 18] (fun _ _ i wr => ∃ k : Nat, k ≤ n ∧ i = .int .i64 (k : Int) ∧ Hid (RowE W1.heap.size wr (.slice A2 n c2) (shufK us E k)) ∧ Hid (Below W1.heap.size W1 wr)) (fun _ _ i _ => n - (intOf i).toNat)
  case atStart => exact ⟨0, Nat.zero_le _, rfl, HR2, HB2⟩
  case round =>
    obtain ⟨k, hk, rfl, HR, HB⟩ := hrel
    have HLk := Lib.hid (shufK_len us E k)
    by_cases hlt : k < n
    · rcases HR.out with ⟨e0, _⟩ | ⟨g, cap, more, e, hg, ho, r1, r2, r3⟩
      · exfalso
        have := HLk.out
        rw [e0, ← HL.out] at this
        simp at this; omega
      injection e with e1 e2 e3
      subst e1; subst e3
      obtain ⟨l, hl⟩ : ∃ l, shufK us E k = l := ⟨_, rfl⟩
      rw [hl] at ho r1 r3 HLk e2
      have HST := Lib.hid (show shufK us E (k + 1) = stepS us l k from by show stepS us (shufK us E k) k = _; rw [hl])
      have HLl := Lib.hid (show l.length = n from HLk.out.trans HL.out.symm)
      obtain ⟨av, hav⟩ : ∃ a, atO us k = a := ⟨_, rfl⟩
      obtain ⟨pl, hpl⟩ : ∃ a, placeS us n k = a := ⟨_, rfl⟩
      have hpn : pl < n := by rw [← hpl]; exact place_lt hlt
      have hp2 : k + av / 2 % (n - k) = pl := by rw [← hpl, ← hav]; rfl
      have hav6 : av < 65536 := by rw [← hav]; exact atO_small HU1.out.small (by omega)
      obtain ⟨x, hx⟩ : ∃ x, l[k]? = some x := ⟨_, List.getElem?_eq_getElem (by rw [HLl.out]; exact hlt)⟩
      obtain ⟨y, hy⟩ : ∃ x, l[pl]? = some x := ⟨_, List.getElem?_eq_getElem (by rw [HLl.out]; exact hpn)⟩
      obtain ⟨x0, x1⟩ := x
      obtain ⟨y0, y1⟩ := y
      have HGB := Lib.hid hg
      obtain ⟨C0, hC0⟩ : ∃ C, cellsE l ++ more = C := ⟨_, rfl⟩
      have hlen0 : (cellsE l).length = n * 2 := by rw [length_cellsE, HLl.out]
      have app : ∀ (L : List Value) (j : Nat), L.length = n * 2 → j < n * 2 → (L ++ more)[j]? = L[j]? := fun L j h1 h2 => List.getElem?_append_left (by omega)
      have HX := Lib.hid (show C0[k * 2]? = some (.int .i64 x0) ∧ C0[k * 2 + 1]? = some (.int .i64 x1) from by rw [← hC0, app _ _ hlen0 (by omega), app _ _ hlen0 (by omega)]; exact cellsE_at hx)
      have HY := Lib.hid (show C0[pl * 2]? = some (.int .i64 y0) ∧ C0[pl * 2 + 1]? = some (.int .i64 y1) from by rw [← hC0, app _ _ hlen0 (by omega), app _ _ hlen0 (by omega)]; exact cellsE_at hy)
      have HK0 := Lib.hid (show (∃ c0, C0[k * 2]? = some c0) ∧ ∃ c1, C0[k * 2 + 1]? = some c1 from ⟨⟨_, HX.out.1⟩, ⟨_, HX.out.2⟩⟩)
      have hClen : n * 2 ≤ C0.length := by rw [← hC0, List.length_append, hlen0]; omega
      have HK1 := Lib.hid (show (∃ c0, ((C0.set (k * 2) (.int .i64 y0)).set (k * 2 + 1) (.int .i64 y1))[pl * 2]? = some c0) ∧ ∃ c1, ((C0.set (k * 2) (.int .i64 y0)).set (k * 2 + 1) (.int .i64 y1))[pl * 2 + 1]? = some c1 from ⟨⟨_, List.getElem?_eq_getElem (by simp only [List.length_set]; omega)⟩, ⟨_, List.getElem?_eq_getElem (by simp only [List.length_set]; omega)⟩⟩)
      have HSW := Lib.hid (show ((((C0.set (k * 2) (.int .i64 y0)).set (k * 2 + 1) (.int .i64 y1)).set (pl * 2) (.int .i64 x0)).set (pl * 2 + 1) (.int .i64 x1)) = cellsE (swapE l k pl) ++ more from by
        have h := swap_cells hx hy
        rw [← hC0, List.set_append_left _ _ (by rw [hlen0]; omega), List.set_append_left _ _ (by rw [List.length_set, hlen0]; omega), List.set_append_left _ _ (by rw [List.length_set, List.length_set, hlen0]; omega), List.set_append_left _ _ (by rw [List.length_set, List.length_set, List.length_set, hlen0]; omega)]
        exact congrArg (· ++ more) h)
      have HSY := Lib.hid (show (swapE l k pl)[k]? = some (y0, y1) from by
        unfold swapE
        rw [getD_at hx, getD_at hy]
        by_cases e : pl = k
        · subst e
          rw [List.getElem?_set_self (by rw [List.length_set, HLl.out]; omega)]
          rw [hx] at hy; exact hy
        · rw [List.getElem?_set_ne e, List.getElem?_set_self (by rw [HLl.out]; omega)])
      rw [hC0] at ho
      have HO := Lib.hid ho
      have HRL := Lib.hid (show n ≤ c2 ∧ c2 ≤ maxLen ∧ n * 2 + more.length = c2 * 2 from ⟨by rw [HLl.out] at r1; exact r1, r2, by rw [hC0, ← hC0, List.length_append, hlen0] at r3; exact r3⟩)
      have hr1 := HRL.out.1
      have HPS := Lib.hid (show stepS us l k = if av % 2 = 1 then flipE (swapE l k pl) k else swapE l k pl from by unfold stepS; rw [HLl.out, hav, hpl])
      have HUr := Lib.hid (HU1.out.keep HB.out)
      have U1r := Lib.hid (U1.out.below' HB.out)
      have u0r : wr.cell? ⟨w.heap.size + 1, 0, none⟩ = some (.slice U nu cu) := U1r.out.cell 0
      have HSA := Lib.hid (fun V (hu : ArgU V U nu cu us) (hc : V.cell? ⟨w.heap.size + 1, 0, none⟩ = some (.slice U nu cu)) => shownAt_any (w.heap.size + 1) U nu cu k us V hu hc (by omega))
      rw [hav] at HSA
      have tq : ((av : Int)).tdiv 2 = ((av / 2 : Nat) : Int) := by rw [Int.tdiv_eq_ediv_of_nonneg (by omega)]; omega
      have hnk : (n : Int) - (k : Int) = ((n - k : Nat) : Int) := by omega
      have hnz : (((n : Int) - (k : Int)) == 0) = false := by rw [beq_eq_false_iff_ne]; omega
      have hpi : (k : Int) + ((av : Int) / 2) % ((n - k : Nat) : Int) = (pl : Int) := by rw [← hp2]; simp
      clear hx hy hl hC0 ho r1 r2 r3 app hav hpl hp2 HLk e2 hlen0
      go_wp2_with fail
      refine (HSA.out wr HUr.out u0r).mono ?_
      rintro e _ ⟨rfl, rfl⟩
      go_wp2_with fail
      refine region_postsS [13, 15] (fun j V => Own V g 49 (if j = 0 then C0 else if j = 1 then ((C0.set (k * 2) (.int .i64 y0)).set (k * 2 + 1) (.int .i64 y1)) else ((((C0.set (k * 2) (.int .i64 y0)).set (k * 2 + 1) (.int .i64 y1)).set (pl * 2) (.int .i64 x0)).set (pl * 2 + 1) (.int .i64 x1))) ∧ Below W1.heap.size W1 V) (by kernel_rfl) (tblSw g n c2 k pl x0 x1 y0 y1) (by kernel_rfl) (by kernel_rfl) ?_ ?_ ?_ (⟨by rw [if_pos rfl]; exact HO.out, below_drewN HB.out 1⟩) ?_ ?_
      · rintro j V V' ⟨h1, h2⟩ hb
        exact ⟨h1.below' hb, h2.trans (hb.mono h2.size)⟩
      · exact fun j v V V' h => postsS_val (tbl := (tblSw g n c2 k pl x0 x1 y0 y1)) (by simp only [tblSw, List.mem_cons, List.not_mem_nil, or_false, forall_eq_or_imp, forall_eq, pureP_val, pureP_none, and_self]) j v V V' h
      · intro s hs v W
        simp only [List.mem_cons, List.not_mem_nil, or_false] at hs
        rcases hs with rfl | rfl <;> exact trivial
      · skip
        refine .yes rfl rfl (fun a W Q k0 hR hM hO hD hN => ?_) ?_
        · have e5 : a.tmps.getD 5 undef = .slice (some ⟨g, 0, none⟩) n c2 := hO.slot 5 _ rfl rfl
          clear hO hD hN
          go_wp2
          exact ⟨_, rfl, Below.refl _ _, rfl⟩
        refine .yes rfl rfl (fun a W Q k0 hR hM hO hD hN => ?_) ?_
        · have e7 : a.tmps.getD 7 undef = .int .i64 (k : Nat) := hO.slot 7 _ rfl rfl
          clear hO hD hN
          go_wp2
          exact ⟨_, rfl, Below.refl _ _, rfl⟩
        refine .yes rfl rfl (fun a W Q k0 hR hM hO hD hN => ?_) ?_
        · have e5 : a.tmps.getD 5 undef = .slice (some ⟨g, 0, none⟩) n c2 := hO.slot 5 _ rfl rfl
          clear hO hD hN
          go_wp2
          exact ⟨_, rfl, Below.refl _ _, rfl⟩
        refine .yes rfl rfl (fun a W Q k0 hR hM hO hD hN => ?_) ?_
        · have e8 : a.tmps.getD 8 undef = .int .i64 (pl : Nat) := hO.slot 8 _ rfl rfl
          clear hO hD hN
          go_wp2
          exact ⟨_, rfl, Below.refl _ _, rfl⟩
        refine .yes rfl rfl (fun a W Q k0 hR hM hO hD hN => ?_) ?_
        · have e5 : a.tmps.getD 5 undef = .slice (some ⟨g, 0, none⟩) n c2 := hO.slot 5 _ rfl rfl
          clear hO hD hN
          go_wp2
          exact ⟨_, rfl, Below.refl _ _, rfl⟩
        refine .yes rfl rfl (fun a W Q k0 hR hM hO hD hN => ?_) ?_
        · have e8 : a.tmps.getD 8 undef = .int .i64 (pl : Nat) := hO.slot 8 _ rfl rfl
          clear hO hD hN
          go_wp2
          exact ⟨_, rfl, Below.refl _ _, rfl⟩
        refine .yes rfl rfl (fun a W Q k0 hR hM hO hD hN => ?_) ?_
        · have e36 : a.tmps.getD 36 undef = .slice (some ⟨g, 0, none⟩) n c2 := hD 4 rfl
          have e37 : a.tmps.getD 37 undef = .int .i64 (pl : Nat) := hD 5 rfl
          clear hO hD hN
          go_wp2
          exact ⟨_, rfl, Below.refl _ _, rfl⟩
        refine .yes rfl rfl (fun a W Q k0 hR hM hO hD hN => ?_) ?_
        · have e38 : a.tmps.getD 38 undef = .pointer (some ⟨g, pl * 2, none⟩) := hD 6 rfl
          clear hO hD hN
          obtain rfl : k0 = 0 := Nat.le_zero.1 (hM 0 13 _ rfl rfl (by decide))
          obtain ⟨h1, h2⟩ := hR
          have hc0 := h1.cell (pl * 2)
          have hc1 := h1.cell (pl * 2 + 1)
          rw [if_pos rfl, HY.out.1] at hc0
          rw [if_pos rfl, HY.out.2] at hc1
          have hz := h1.lt
          clear h1 h2 hM
          go_wp2
          exact ⟨_, rfl, Below.refl _ _, rfl⟩
        refine .yes rfl rfl (fun a W Q k0 hR hM hO hD hN => ?_) ?_
        · have e5 : a.tmps.getD 5 undef = .slice (some ⟨g, 0, none⟩) n c2 := hO.slot 5 _ rfl rfl
          clear hO hD hN
          go_wp2
          exact ⟨_, rfl, Below.refl _ _, rfl⟩
        refine .yes rfl rfl (fun a W Q k0 hR hM hO hD hN => ?_) ?_
        · have e7 : a.tmps.getD 7 undef = .int .i64 (k : Nat) := hO.slot 7 _ rfl rfl
          clear hO hD hN
          go_wp2
          exact ⟨_, rfl, Below.refl _ _, rfl⟩
        refine .yes rfl rfl (fun a W Q k0 hR hM hO hD hN => ?_) ?_
        · have e40 : a.tmps.getD 40 undef = .slice (some ⟨g, 0, none⟩) n c2 := hD 8 rfl
          have e41 : a.tmps.getD 41 undef = .int .i64 (k : Nat) := hD 9 rfl
          clear hO hD hN
          go_wp2
          exact ⟨_, rfl, Below.refl _ _, rfl⟩
        refine .yes rfl rfl (fun a W Q k0 hR hM hO hD hN => ?_) ?_
        · have e42 : a.tmps.getD 42 undef = .pointer (some ⟨g, k * 2, none⟩) := hD 10 rfl
          clear hO hD hN
          obtain rfl : k0 = 0 := Nat.le_zero.1 (hM 0 13 _ rfl rfl (by decide))
          obtain ⟨h1, h2⟩ := hR
          have hc0 := h1.cell (k * 2)
          have hc1 := h1.cell (k * 2 + 1)
          rw [if_pos rfl, HX.out.1] at hc0
          rw [if_pos rfl, HX.out.2] at hc1
          have hz := h1.lt
          clear h1 h2 hM
          go_wp2
          exact ⟨_, rfl, Below.refl _ _, rfl⟩
        refine .yes rfl rfl (fun a W Q k0 hR hM hO hD hN => ?_) ?_
        · have e32 : a.tmps.getD 32 undef = .slice (some ⟨g, 0, none⟩) n c2 := hD 0 rfl
          have e33 : a.tmps.getD 33 undef = .int .i64 (k : Nat) := hD 1 rfl
          clear hO hD hN
          go_wp2
          exact ⟨_, rfl, Below.refl _ _, rfl⟩
        refine .st 0 rfl rfl rfl (fun a W Q hR hO hD hN => ?_) ?_
        · have e44 : a.tmps.getD 44 undef = .pointer (some ⟨g, k * 2, none⟩) := hD 12 rfl
          have e39 : a.tmps.getD 39 undef = .agg #[.int .i64 y0, .int .i64 y1] := hD 7 rfl
          clear hO hD hN
          obtain ⟨h1, h2⟩ := hR
          rw [if_pos rfl] at h1
          obtain ⟨c0, hc0⟩ := HK0.out.1
          obtain ⟨c1, hc1⟩ := HK0.out.2
          have hc2 := (h1.cell (k * 2)).trans hc0
          have hc3 := (h1.cell (k * 2 + 1)).trans hc1
          have hz := h1.lt
          have hf0 := h1.frozen (k * 2)
          have hf1 := h1.frozen (k * 2 + 1)
          have HN1 := Lib.hid (show Own ((W.setCell ⟨g, k * 2, none⟩ (.int .i64 y0)).setCell ⟨g, k * 2 + 1, none⟩ (.int .i64 y1)) g 49 ((C0.set (k * 2) (.int .i64 y0)).set (k * 2 + 1) (.int .i64 y1)) from (h1.set _ _).set _ _)
          have HN2 := Lib.hid ((h2.setCell (p := ⟨g, k * 2, none⟩) HGB.out (.int .i64 y0)).setCell (p := ⟨g, k * 2 + 1, none⟩) HGB.out (.int .i64 y1))
          clear h1 h2 hc0 hc1
          go_wp2
          exact ⟨HN1.out, HN2.out⟩
        refine .yes rfl rfl (fun a W Q k0 hR hM hO hD hN => ?_) ?_
        · have e34 : a.tmps.getD 34 undef = .slice (some ⟨g, 0, none⟩) n c2 := hD 2 rfl
          have e35 : a.tmps.getD 35 undef = .int .i64 (pl : Nat) := hD 3 rfl
          clear hO hD hN
          go_wp2
          exact ⟨_, rfl, Below.refl _ _, rfl⟩
        refine .st 1 rfl rfl rfl (fun a W Q hR hO hD hN => ?_) ?_
        · have e45 : a.tmps.getD 45 undef = .pointer (some ⟨g, pl * 2, none⟩) := hD 14 rfl
          have e43 : a.tmps.getD 43 undef = .agg #[.int .i64 x0, .int .i64 x1] := hD 11 rfl
          clear hO hD hN
          obtain ⟨h1, h2⟩ := hR
          rw [if_neg (by decide), if_pos rfl] at h1
          obtain ⟨c0, hc0⟩ := HK1.out.1
          obtain ⟨c1, hc1⟩ := HK1.out.2
          have hc2 := (h1.cell (pl * 2)).trans hc0
          have hc3 := (h1.cell (pl * 2 + 1)).trans hc1
          have hz := h1.lt
          have hf0 := h1.frozen (pl * 2)
          have hf1 := h1.frozen (pl * 2 + 1)
          have HN1 := Lib.hid (show Own ((W.setCell ⟨g, pl * 2, none⟩ (.int .i64 x0)).setCell ⟨g, pl * 2 + 1, none⟩ (.int .i64 x1)) g 49 ((((C0.set (k * 2) (.int .i64 y0)).set (k * 2 + 1) (.int .i64 y1)).set (pl * 2) (.int .i64 x0)).set (pl * 2 + 1) (.int .i64 x1)) from (h1.set _ _).set _ _)
          have HN2 := Lib.hid ((h2.setCell (p := ⟨g, pl * 2, none⟩) HGB.out (.int .i64 x0)).setCell (p := ⟨g, pl * 2 + 1, none⟩) HGB.out (.int .i64 x1))
          clear h1 h2 hc0 hc1
          go_wp2
          exact ⟨HN1.out, HN2.out⟩
        exact .nil
      · intro F V hR hK
        obtain ⟨hO1, hB1⟩ := hR
        rw [show (if [13, 15].length = 0 then C0 else if [13, 15].length = 1 then ((C0.set (k * 2) (.int .i64 y0)).set (k * 2 + 1) (.int .i64 y1)) else ((((C0.set (k * 2) (.int .i64 y0)).set (k * 2 + 1) (.int .i64 y1)).set (pl * 2) (.int .i64 x0)).set (pl * 2 + 1) (.int .i64 x1))) = ((((C0.set (k * 2) (.int .i64 y0)).set (k * 2 + 1) (.int .i64 y1)).set (pl * 2) (.int .i64 x0)).set (pl * 2 + 1) (.int .i64 x1)) from by rw [if_neg (by decide), if_neg (by decide)], HSW.out] at hO1
        have HO1 := Lib.hid hO1; have HB1 := Lib.hid hB1
        clear hO1 hB1 hK
        simp only [putAll, Nat.zero_add, Nat.reduceAdd, Act.put, List.setIfInBounds_toArray, List.set_cons_zero, List.set_cons_succ]
        have HUv := Lib.hid (HU1.out.keep HB1.out)
        have U1v := Lib.hid (U1.out.below' HB1.out)
        have u0v : V.cell? ⟨w.heap.size + 1, 0, none⟩ = some (.slice U nu cu) := U1v.out.cell 0
        clear u0r
        have tm : ((av : Int)).tmod 2 = ((av % 2 : Nat) : Int) := by rw [Int.tmod_eq_emod_of_nonneg (by omega)]; simp
        have HROW := Lib.hid (fun V L (ho : Own V g 49 (cellsE L ++ more)) (hL : L.length = n) => (show RowE W1.heap.size V (.slice (some ⟨g, 0, none⟩) n c2) L from .inr ⟨g, c2, more, by rw [hL], HGB.out, ho, by rw [hL]; exact HRL.out.1, HRL.out.2.1, by rw [List.length_append, length_cellsE, hL]; exact HRL.out.2.2⟩))
        go_wp2_with fail
        refine (HSA.out V HUv.out u0v).mono ?_
        rintro e _ ⟨rfl, rfl⟩
        by_cases hodd : av % 2 = 1
        · have HSTP := Lib.hid (show shufK us E (k + 1) = flipE (swapE l k pl) k from by rw [HST.out, HPS.out, if_pos hodd])
          have dodd : ((av : Int) % 2 == 1) = true := by rw [beq_iff_eq]; omega
          obtain ⟨D0, hD0⟩ : ∃ C, cellsE (swapE l k pl) ++ more = C := ⟨_, rfl⟩
          have hlenS : (cellsE (swapE l k pl)).length = n * 2 := by rw [length_cellsE, swapE_len, HLl.out]
          have HY2 := Lib.hid (show D0[k * 2]? = some (.int .i64 y0) ∧ D0[k * 2 + 1]? = some (.int .i64 y1) from by rw [← hD0, List.getElem?_append_left (by omega), List.getElem?_append_left (by omega)]; exact cellsE_at HSY.out)
          have hDlen : n * 2 ≤ D0.length := by rw [← hD0, List.length_append, hlenS]; omega
          have HK2 := Lib.hid (show (∃ c0, D0[k * 2]? = some c0) ∧ ∃ c1, (D0.set (k * 2) (.int .i64 y1))[k * 2 + 1]? = some c1 from ⟨⟨_, HY2.out.1⟩, ⟨_, List.getElem?_eq_getElem (by rw [List.length_set]; omega)⟩⟩)
          have HFL := Lib.hid (show ((D0.set (k * 2) (.int .i64 y1)).set (k * 2 + 1) (.int .i64 y0)) = cellsE (flipE (swapE l k pl) k) ++ more from by
            have h := flip_cells HSY.out
            rw [← hD0, List.set_append_left _ _ (by rw [hlenS]; omega), List.set_append_left _ _ (by rw [List.length_set, hlenS]; omega)]
            exact congrArg (· ++ more) h)
          have HOD := Lib.hid (show Own V g 49 D0 from by rw [← hD0]; exact HO1.out)
          have HBD := HB1
          clear hD0 hlenS hodd u0v
          go_wp2_with fail
          refine region_postsS [16, 19] (fun j V => Own V g 49 (if j = 0 then D0 else if j = 1 then (D0.set (k * 2) (.int .i64 y1)) else ((D0.set (k * 2) (.int .i64 y1)).set (k * 2 + 1) (.int .i64 y0))) ∧ Below W1.heap.size W1 V) (by kernel_rfl) (tblFl g n c2 k y0 y1) (by kernel_rfl) (by kernel_rfl) ?_ ?_ ?_ (⟨by rw [if_pos rfl]; exact HOD.out, below_drewN HBD.out 1⟩) ?_ ?_
          · rintro j V V' ⟨h1, h2⟩ hb
            exact ⟨h1.below' hb, h2.trans (hb.mono h2.size)⟩
          · exact fun j v V V' h => postsS_val (tbl := (tblFl g n c2 k y0 y1)) (by simp only [tblFl, List.mem_cons, List.not_mem_nil, or_false, forall_eq_or_imp, forall_eq, pureP_val, pureP_none, and_self]) j v V V' h
          · intro s hs v W
            simp only [List.mem_cons, List.not_mem_nil, or_false] at hs
            rcases hs with rfl | rfl <;> exact trivial
          · skip
            refine .yes rfl rfl (fun a W Q k0 hR hM hO hD hN => ?_) ?_
            · have e5 : a.tmps.getD 5 undef = .slice (some ⟨g, 0, none⟩) n c2 := hO.slot 5 _ rfl rfl
              clear hO hD hN
              go_wp2
              exact ⟨_, rfl, Below.refl _ _, rfl⟩
            refine .yes rfl rfl (fun a W Q k0 hR hM hO hD hN => ?_) ?_
            · have e7 : a.tmps.getD 7 undef = .int .i64 (k : Nat) := hO.slot 7 _ rfl rfl
              clear hO hD hN
              go_wp2
              exact ⟨_, rfl, Below.refl _ _, rfl⟩
            refine .yes rfl rfl (fun a W Q k0 hR hM hO hD hN => ?_) ?_
            · have e5 : a.tmps.getD 5 undef = .slice (some ⟨g, 0, none⟩) n c2 := hO.slot 5 _ rfl rfl
              clear hO hD hN
              go_wp2
              exact ⟨_, rfl, Below.refl _ _, rfl⟩
            refine .yes rfl rfl (fun a W Q k0 hR hM hO hD hN => ?_) ?_
            · have e7 : a.tmps.getD 7 undef = .int .i64 (k : Nat) := hO.slot 7 _ rfl rfl
              clear hO hD hN
              go_wp2
              exact ⟨_, rfl, Below.refl _ _, rfl⟩
            refine .yes rfl rfl (fun a W Q k0 hR hM hO hD hN => ?_) ?_
            · have e5 : a.tmps.getD 5 undef = .slice (some ⟨g, 0, none⟩) n c2 := hO.slot 5 _ rfl rfl
              clear hO hD hN
              go_wp2
              exact ⟨_, rfl, Below.refl _ _, rfl⟩
            refine .yes rfl rfl (fun a W Q k0 hR hM hO hD hN => ?_) ?_
            · have e7 : a.tmps.getD 7 undef = .int .i64 (k : Nat) := hO.slot 7 _ rfl rfl
              clear hO hD hN
              go_wp2
              exact ⟨_, rfl, Below.refl _ _, rfl⟩
            refine .yes rfl rfl (fun a W Q k0 hR hM hO hD hN => ?_) ?_
            · have e55 : a.tmps.getD 55 undef = .slice (some ⟨g, 0, none⟩) n c2 := hD 4 rfl
              have e56 : a.tmps.getD 56 undef = .int .i64 (k : Nat) := hD 5 rfl
              clear hO hD hN
              go_wp2
              exact ⟨_, rfl, Below.refl _ _, rfl⟩
            refine .yes rfl rfl (fun a W Q k0 hR hM hO hD hN => ?_) ?_
            · have e57 : a.tmps.getD 57 undef = .pointer (some ⟨g, k * 2, none⟩) := hD 6 rfl
              clear hO hD hN
              go_wp2
              exact ⟨_, rfl, Below.refl _ _, rfl⟩
            refine .yes rfl rfl (fun a W Q k0 hR hM hO hD hN => ?_) ?_
            · have e58 : a.tmps.getD 58 undef = .pointer (some ⟨g, k * 2 + 1, none⟩) := hD 7 rfl
              clear hO hD hN
              obtain rfl : k0 = 0 := Nat.le_zero.1 (hM 0 16 _ rfl rfl (by decide))
              obtain ⟨h1, h2⟩ := hR
              have hc0 := h1.cell (k * 2 + 1)
              rw [if_pos rfl, HY2.out.2] at hc0
              have hz := h1.lt
              clear h1 h2 hM
              go_wp2
              exact ⟨_, rfl, Below.refl _ _, rfl⟩
            refine .yes rfl rfl (fun a W Q k0 hR hM hO hD hN => ?_) ?_
            · have e5 : a.tmps.getD 5 undef = .slice (some ⟨g, 0, none⟩) n c2 := hO.slot 5 _ rfl rfl
              clear hO hD hN
              go_wp2
              exact ⟨_, rfl, Below.refl _ _, rfl⟩
            refine .yes rfl rfl (fun a W Q k0 hR hM hO hD hN => ?_) ?_
            · have e7 : a.tmps.getD 7 undef = .int .i64 (k : Nat) := hO.slot 7 _ rfl rfl
              clear hO hD hN
              go_wp2
              exact ⟨_, rfl, Below.refl _ _, rfl⟩
            refine .yes rfl rfl (fun a W Q k0 hR hM hO hD hN => ?_) ?_
            · have e60 : a.tmps.getD 60 undef = .slice (some ⟨g, 0, none⟩) n c2 := hD 9 rfl
              have e61 : a.tmps.getD 61 undef = .int .i64 (k : Nat) := hD 10 rfl
              clear hO hD hN
              go_wp2
              exact ⟨_, rfl, Below.refl _ _, rfl⟩
            refine .yes rfl rfl (fun a W Q k0 hR hM hO hD hN => ?_) ?_
            · have e62 : a.tmps.getD 62 undef = .pointer (some ⟨g, k * 2, none⟩) := hD 11 rfl
              clear hO hD hN
              go_wp2
              exact ⟨_, rfl, Below.refl _ _, rfl⟩
            refine .yes rfl rfl (fun a W Q k0 hR hM hO hD hN => ?_) ?_
            · have e63 : a.tmps.getD 63 undef = .pointer (some ⟨g, k * 2, none⟩) := hD 12 rfl
              clear hO hD hN
              obtain rfl : k0 = 0 := Nat.le_zero.1 (hM 0 16 _ rfl rfl (by decide))
              obtain ⟨h1, h2⟩ := hR
              have hc0 := h1.cell (k * 2)
              rw [if_pos rfl, HY2.out.1] at hc0
              have hz := h1.lt
              clear h1 h2 hM
              go_wp2
              exact ⟨_, rfl, Below.refl _ _, rfl⟩
            refine .yes rfl rfl (fun a W Q k0 hR hM hO hD hN => ?_) ?_
            · have e51 : a.tmps.getD 51 undef = .slice (some ⟨g, 0, none⟩) n c2 := hD 0 rfl
              have e52 : a.tmps.getD 52 undef = .int .i64 (k : Nat) := hD 1 rfl
              clear hO hD hN
              go_wp2
              exact ⟨_, rfl, Below.refl _ _, rfl⟩
            refine .yes rfl rfl (fun a W Q k0 hR hM hO hD hN => ?_) ?_
            · have e65 : a.tmps.getD 65 undef = .pointer (some ⟨g, k * 2, none⟩) := hD 14 rfl
              clear hO hD hN
              go_wp2
              exact ⟨_, rfl, Below.refl _ _, rfl⟩
            refine .st 0 rfl rfl rfl (fun a W Q hR hO hD hN => ?_) ?_
            · have e66 : a.tmps.getD 66 undef = .pointer (some ⟨g, k * 2, none⟩) := hD 15 rfl
              have e59 : a.tmps.getD 59 undef = .int .i64 y1 := hD 8 rfl
              clear hO hD hN
              obtain ⟨h1, h2⟩ := hR
              rw [if_pos rfl] at h1
              obtain ⟨c0, hc0⟩ := HK2.out.1
              have hc2 := (h1.cell (k * 2)).trans hc0
              have hz := h1.lt
              have hf0 := h1.frozen (k * 2)
              have HN1 := Lib.hid (show Own (W.setCell ⟨g, k * 2, none⟩ (.int .i64 y1)) g 49 (D0.set (k * 2) (.int .i64 y1)) from h1.set _ _)
              have HN2 := Lib.hid (h2.setCell (p := ⟨g, k * 2, none⟩) HGB.out (.int .i64 y1))
              clear h1 h2 hc0
              go_wp2
              exact ⟨HN1.out, HN2.out⟩
            refine .yes rfl rfl (fun a W Q k0 hR hM hO hD hN => ?_) ?_
            · have e53 : a.tmps.getD 53 undef = .slice (some ⟨g, 0, none⟩) n c2 := hD 2 rfl
              have e54 : a.tmps.getD 54 undef = .int .i64 (k : Nat) := hD 3 rfl
              clear hO hD hN
              go_wp2
              exact ⟨_, rfl, Below.refl _ _, rfl⟩
            refine .yes rfl rfl (fun a W Q k0 hR hM hO hD hN => ?_) ?_
            · have e67 : a.tmps.getD 67 undef = .pointer (some ⟨g, k * 2, none⟩) := hD 17 rfl
              clear hO hD hN
              go_wp2
              exact ⟨_, rfl, Below.refl _ _, rfl⟩
            refine .st 1 rfl rfl rfl (fun a W Q hR hO hD hN => ?_) ?_
            · have e68 : a.tmps.getD 68 undef = .pointer (some ⟨g, k * 2 + 1, none⟩) := hD 18 rfl
              have e64 : a.tmps.getD 64 undef = .int .i64 y0 := hD 13 rfl
              clear hO hD hN
              obtain ⟨h1, h2⟩ := hR
              rw [if_neg (by decide), if_pos rfl] at h1
              obtain ⟨c0, hc0⟩ := HK2.out.2
              have hc2 := (h1.cell (k * 2 + 1)).trans hc0
              have hz := h1.lt
              have hf0 := h1.frozen (k * 2 + 1)
              have HN1 := Lib.hid (show Own (W.setCell ⟨g, k * 2 + 1, none⟩ (.int .i64 y0)) g 49 ((D0.set (k * 2) (.int .i64 y1)).set (k * 2 + 1) (.int .i64 y0)) from h1.set _ _)
              have HN2 := Lib.hid (h2.setCell (p := ⟨g, k * 2 + 1, none⟩) HGB.out (.int .i64 y0))
              clear h1 h2 hc0
              go_wp2
              exact ⟨HN1.out, HN2.out⟩
            exact .nil
          · intro F3 V3 hR hK
            obtain ⟨hO1, hB1⟩ := hR
            rw [show (if [16, 19].length = 0 then D0 else if [16, 19].length = 1 then (D0.set (k * 2) (.int .i64 y1)) else ((D0.set (k * 2) (.int .i64 y1)).set (k * 2 + 1) (.int .i64 y0))) = ((D0.set (k * 2) (.int .i64 y1)).set (k * 2 + 1) (.int .i64 y0)) from by rw [if_neg (by decide), if_neg (by decide)], HFL.out] at hO1
            have HRN := Lib.hid (HROW.out V3 _ hO1 (by rw [flipE_len, swapE_len, HLl.out]))
            have HB3 := Lib.hid hB1
            clear hO1 hB1 hK
            simp only [putAll, Nat.zero_add, Nat.reduceAdd, Act.put, List.setIfInBounds_toArray, List.set_cons_zero, List.set_cons_succ]
            go_wp2
            refine ⟨⟨k + 1, by omega, by go_num, Lib.hid (by rw [HSTP.out]; exact HRN.out), HB3⟩, ?_⟩
            simp [intOf]; omega
        · have HSTP := Lib.hid (show shufK us E (k + 1) = swapE l k pl from by rw [HST.out, HPS.out, if_neg hodd])
          have dodd : ((av : Int) % 2 == 1) = false := by rw [beq_eq_false_iff_ne]; omega
          have HRN := Lib.hid (HROW.out V _ HO1.out (by rw [swapE_len, HLl.out]))
          clear hodd u0v
          go_wp2
          refine ⟨⟨k + 1, by omega, by go_num, Lib.hid (by rw [HSTP.out]; exact HRN.out), HB1⟩, ?_⟩
          simp [intOf]; omega
    · obtain rfl : k = n := by omega
      have HPM := Lib.hid (shufK_perm us E k (by rw [HL.out]; exact Nat.le_refl _))
      have HFW := Lib.hid (shuf_few HE.out HPM.out)
      obtain ⟨F, hF⟩ : ∃ F, shufK us E k = F := ⟨_, rfl⟩
      rw [hF] at HR HLk HFW
      have HFX := Lib.hid hF
      have HFL := Lib.hid (show F.length = k from HLk.out.trans HL.out.symm)
      have HTB := Lib.hid (HT.out.on (HB.out.mono (by omega)))
      have G1r := Lib.hid (G1.out.below' HB.out)
      have g0 : wr.cell? ⟨w.heap.size, 0, none⟩ = some (.int .i64 N) := G1r.out.cell 0
      have zg := G1r.out.lt
      have n0 := HE.out.n0
      have n2 := HE.out.n1
      have hsz := HB.out.size
      have HI0 := Lib.hid (itoa_any N (by omega) (by omega) wr (HTB.out.mono (by omega)))
      obtain ⟨A0, hA0⟩ : ∃ S, strB (Lib.itoa N) = S := ⟨_, rfl⟩
      obtain ⟨A1, hA1⟩ : ∃ S, strB (Lib.itoa N ++ [32]) = S := ⟨_, rfl⟩
      obtain ⟨A2', hA2⟩ : ∃ S, strB (Lib.itoa (k : Int)) = S := ⟨_, rfl⟩
      obtain ⟨A3, hA3⟩ : ∃ S, strB ((Lib.itoa N ++ [32]) ++ Lib.itoa (k : Int)) = S := ⟨_, rfl⟩
      obtain ⟨A4, hA4⟩ : ∃ S, strB (textK N F 0) = S := ⟨_, rfl⟩
      have la := Lib.itoa_length_le N (by omega) (by omega)
      have lb := Lib.itoa_length_le (k : Int) (by omega) (by omega)
      have z0 : A0.size = (Lib.itoa N).length := by rw [← hA0]; exact strB_size _
      have z1 : A1.size = (Lib.itoa N).length + 1 := by rw [← hA1, strB_size]; simp
      have z2 : A2'.size = (Lib.itoa (k : Int)).length := by rw [← hA2]; exact strB_size _
      have z3 : A3.size = (Lib.itoa N).length + 1 + (Lib.itoa (k : Int)).length := by rw [← hA3, strB_size]; simp only [List.length_append, List.length_cons, List.length_nil]
      have e1 : A0 ++ ⟨#[32]⟩ = A1 := by rw [← hA0, ← hA1]; exact strB_app _ [32]
      have e3 : A1 ++ A2' = A3 := by rw [← hA1, ← hA2, ← hA3]; exact strB_app _ _
      have e4 : A3 ++ ⟨#[10]⟩ = A4 := by
        rw [← hA3, ← hA4]
        refine (strB_app _ [10]).trans (congrArg strB ?_)
        unfold textK lineB
        rw [HFL.out, List.take_zero]
        simp
      have l1 : ¬ 9223372036854775807 < A0.size + 1 := by rw [z0]; omega
      have l3 : ¬ 9223372036854775807 < A1.size + A2'.size := by rw [z1, z2]; omega
      have l4 : ¬ 9223372036854775807 < A3.size + 1 := by rw [z3]; omega
      rw [hA0] at HI0
      have HA4 := Lib.hid hA4
      have HA2 := Lib.hid hA2
      clear hF hA0 hA1 hA2 hA3 hA4 la lb z0 z1 z2 z3 HLk
      go_wp2_with fail
      refine HI0.out.mono ?_
      rintro e w5 ⟨rfl, hb5⟩
      have HB5 := Lib.hid (HB.out.trans (hb5.mono hsz))
      have HTB5 := Lib.hid (HT.out.on (HB5.out.mono (by omega)))
      have HR5 := Lib.hid (HR.out.below hb5)
      have HI1 := Lib.hid (itoa_any (k : Int) (by omega) (by omega) w5 (HTB5.out.mono (by have := HB5.out.size; omega)))
      rw [HA2.out] at HI1
      clear hb5 g0 zg
      go_wp2_with fail
      refine HI1.out.mono ?_
      rintro e w6 ⟨rfl, hb6⟩
      have HB6 := Lib.hid (HB5.out.trans (hb6.mono HB5.out.size))
      have HR6 := Lib.hid (HR5.out.below hb6)
      clear hb6
      go_wp2
      clear e1 e3 e4 l1 l3 l4
      go_loopw [9, 11, 81] (fun s9 _ i wr => ∃ j : Nat, j ≤ k ∧ i = .int .i64 (j : Int) ∧ (∃ S, s9 = .string S ∧ Hid (S = strB (textK N F j))) ∧ Hid (RowE W1.heap.size wr (.slice A2 k c2) F) ∧ Hid (Below W1.heap.size W1 wr)) (fun _ _ i _ => k - (intOf i).toNat)
      case atStart => exact ⟨0, Nat.zero_le _, rfl, ⟨_, rfl, Lib.hid HA4.out.symm⟩, HR6, HB6⟩
      case round =>
        obtain ⟨j, hj, rfl, ⟨S, rfl, HS⟩, HRj, HBj⟩ := hrel
        by_cases hlj : j < k
        · obtain ⟨x, hx⟩ : ∃ x, F[j]? = some x := ⟨_, List.getElem?_eq_getElem (by rw [HFL.out]; exact hlj)⟩
          obtain ⟨A7, c7, e7, ha7⟩ := HRj.out.arg (by rw [HFL.out]; omega)
          rw [HFL.out] at e7 ha7
          injection e7 with e7 _ e8
          subst e7; subst e8
          obtain ⟨b, off, rfl, hb, hc⟩ := rd_edge ha7.rd (by rw [HFL.out]; omega)
          obtain ⟨x0, x1⟩ := x
          obtain ⟨q0, q1⟩ := hc _ (Below.refl _ _) j _ hx
          obtain ⟨v0, v1, v2, v3⟩ := HFW.out _ (List.mem_of_getElem? hx)
          have v0 : 0 ≤ x0 := v0
          have v1 : x0 < 1000000000 := v1
          have v2 : 0 ≤ x1 := v2
          have v3 : x1 < 1000000000 := v3
          have HSTP := Lib.hid (textK_step (N := N) hx)
          have hsj := HBj.out.size
          have HTJ := Lib.hid (HT.out.on (HBj.out.mono (by omega)))
          have HBv := Lib.hid (alloc_below wr (.cells #[.int .i64 x0, .int .i64 x1] 49))
          have CE := Lib.hid (fun V (hV : Below (wr.alloc (.cells #[.int .i64 x0, .int .i64 x1] 49)).heap.size (wr.alloc (.cells #[.int .i64 x0, .int .i64 x1] 49)) V) => (Own.new' (t := 49) (w := wr) (g := wr.heap.size) (vs := [.int .i64 x0, .int .i64 x1]) rfl).below' hV)
          have TV := Lib.hid (fun V (hV : Below (wr.alloc (.cells #[.int .i64 x0, .int .i64 x1] 49)).heap.size (wr.alloc (.cells #[.int .i64 x0, .int .i64 x1] 49)) V) => (show TabW V.heap.size V from
            (HTJ.out.on ((HBv.out.trans (hV.mono HBv.out.size)).mono (by omega))).mono (by have := HBv.out.size; have := hV.size; omega)))
          have CI0 := Lib.hid (fun V (hV : Below (wr.alloc (.cells #[.int .i64 x0, .int .i64 x1] 49)).heap.size (wr.alloc (.cells #[.int .i64 x0, .int .i64 x1] 49)) V) => itoa_any x0 (by omega) (by omega) V (TV.out V hV))
          have CI1 := Lib.hid (fun V (hV : Below (wr.alloc (.cells #[.int .i64 x0, .int .i64 x1] 49)).heap.size (wr.alloc (.cells #[.int .i64 x0, .int .i64 x1] 49)) V) => itoa_any x1 (by omega) (by omega) V (TV.out V hV))
          have la := Lib.itoa_length_le x0 (by omega) (by omega)
          have lb := Lib.itoa_length_le x1 (by omega) (by omega)
          have lT := textS_len N F j ⟨by omega, by omega⟩ HFW.out (by rw [HFL.out]; exact hn5)
          have lS : S.size = (textK N F j).length := by rw [HS.out]; exact strB_size _
          obtain ⟨A0, hA0⟩ : ∃ S, strB (Lib.itoa x0) = S := ⟨_, rfl⟩
          obtain ⟨A1, hA1⟩ : ∃ S, strB (Lib.itoa x0 ++ [32]) = S := ⟨_, rfl⟩
          obtain ⟨A2, hA2⟩ : ∃ S, strB (Lib.itoa x1) = S := ⟨_, rfl⟩
          obtain ⟨A3, hA3⟩ : ∃ S, strB ((Lib.itoa x0 ++ [32]) ++ Lib.itoa x1) = S := ⟨_, rfl⟩
          obtain ⟨A4, hA4⟩ : ∃ S, strB (lineB x0 x1) = S := ⟨_, rfl⟩
          obtain ⟨A5, hA5⟩ : ∃ S, strB (textK N F (j + 1)) = S := ⟨_, rfl⟩
          have z0 : A0.size = (Lib.itoa x0).length := by rw [← hA0]; exact strB_size _
          have z1 : A1.size = (Lib.itoa x0).length + 1 := by rw [← hA1, strB_size]; simp
          have z2 : A2.size = (Lib.itoa x1).length := by rw [← hA2]; exact strB_size _
          have z3 : A3.size = (Lib.itoa x0).length + 1 + (Lib.itoa x1).length := by rw [← hA3, strB_size]; simp only [List.length_append, List.length_cons, List.length_nil]
          have z4 : A4.size = (Lib.itoa x0).length + 1 + (Lib.itoa x1).length + 1 := by rw [← hA4, strB_size]; unfold lineB; simp only [List.length_append, List.length_cons, List.length_nil]
          have E1 := Lib.hid (show ¬ 9223372036854775807 < A0.size + 1 ∧ ¬ 9223372036854775807 < A0.size + (⟨#[32]⟩ : ByteArray).size ∧ A0 ++ ⟨#[32]⟩ = A1 from ⟨by rw [z0]; omega, by rw [z0]; show ¬ _ < _ + 1; omega, by rw [← hA0, ← hA1]; exact strB_app _ [32]⟩)
          have E3 := Lib.hid (show ¬ 9223372036854775807 < A1.size + A2.size ∧ True ∧ A1 ++ A2 = A3 from ⟨by rw [z1, z2]; omega, trivial, by rw [← hA1, ← hA2, ← hA3]; exact strB_app _ _⟩)
          have E4 := Lib.hid (show ¬ 9223372036854775807 < A3.size + 1 ∧ ¬ 9223372036854775807 < A3.size + (⟨#[10]⟩ : ByteArray).size ∧ A3 ++ ⟨#[10]⟩ = A4 from ⟨by rw [z3]; omega, by rw [z3]; show ¬ _ < _ + 1; omega, by rw [← hA3, ← hA4]; exact strB_app _ [10]⟩)
          have E5 := Lib.hid (show ¬ 9223372036854775807 < S.size + A4.size ∧ True ∧ S ++ A4 = A5 from ⟨by rw [lS, z4]; omega, trivial, by rw [HS.out, ← hA4, ← hA5, HSTP.out]; exact strB_app _ _⟩)
          rw [hA0] at CI0
          rw [hA2] at CI1
          have HA5 := Lib.hid hA5
          clear hA0 hA1 hA2 hA3 hA4 hA5 z0 z1 z2 z3 z4 la lb lT lS hc hx ha7 HSTP HS
          go_wp2
          refine region_postsS [] (fun _ V => Below (wr.alloc (.cells #[.int .i64 x0, .int .i64 x1] 49)).heap.size (wr.alloc (.cells #[.int .i64 x0, .int .i64 x1] 49)) V) (by kernel_rfl) (tblLn S wr.heap.size x0 x1 A0 A1 A2 A3 A4 A5) (by kernel_rfl) (by kernel_rfl) ?_ ?_ ?_ (below_drewN (Below.refl _ _) 1) ?_ ?_
          · intro j V V' h hb
            exact h.trans (hb.mono h.size)
          · exact fun j v V V' h => postsS_val (tbl := (tblLn S wr.heap.size x0 x1 A0 A1 A2 A3 A4 A5)) (by simp only [tblLn, List.mem_cons, List.not_mem_nil, or_false, forall_eq_or_imp, forall_eq, pureP_val, and_self]) j v V V' h
          · intro s hs
            simp at hs
          · skip
            refine .yes rfl rfl (fun a W Q k hR hM hO hD hN => ?_) ?_
            · have e9 : a.tmps.getD 9 undef = .string S := (hN 11 9 _ rfl rfl rfl).trans rfl
              clear hO hD hN
              go_wp2
              exact ⟨_, rfl, Below.refl _ _, rfl⟩
            refine .yes rfl rfl (fun a W Q k hR hM hO hD hN => ?_) ?_
            · have e11 : a.tmps.getD 11 undef = .pointer (some ⟨wr.heap.size, 0, none⟩) := hO.slot 11 _ rfl rfl
              clear hO hD hN
              go_wp2
              exact ⟨_, rfl, Below.refl _ _, rfl⟩
            refine .yes rfl rfl (fun a W Q k hR hM hO hD hN => ?_) ?_
            · have e86 : a.tmps.getD 86 undef = .pointer (some ⟨wr.heap.size, 0, none⟩) := hD 1 rfl
              clear hO hD hN
              have hO2 := CE.out W hR
              have q := hO2.cell
              have z := hO2.lt
              go_wp2
              exact ⟨_, rfl, Below.refl _ _, rfl⟩
            refine .yes rfl rfl (fun a W Q k hR hM hO hD hN => ?_) ?_
            · have e87 : a.tmps.getD 87 undef = .int .i64 x0 := hD 2 rfl
              clear hO hD hN
              have hca := CI0.out W hR
              go_wp2_with fail
              refine hca.mono ?_
              rintro e w' ⟨rfl, hbc⟩
              go_wp2
              exact ⟨_, rfl, hbc, rfl⟩
            refine .yes rfl rfl (fun a W Q k hR hM hO hD hN => ?_) ?_
            · have e88 : a.tmps.getD 88 undef = .string A0 := hD 3 rfl
              clear hO hD hN
              have hl := E1.out.1
              have hl2 := E1.out.2.1
              have he := E1.out.2.2
              go_wp2
              exact ⟨_, rfl, Below.refl _ _, rfl⟩
            refine .yes rfl rfl (fun a W Q k hR hM hO hD hN => ?_) ?_
            · have e11 : a.tmps.getD 11 undef = .pointer (some ⟨wr.heap.size, 0, none⟩) := hO.slot 11 _ rfl rfl
              clear hO hD hN
              go_wp2
              exact ⟨_, rfl, Below.refl _ _, rfl⟩
            refine .yes rfl rfl (fun a W Q k hR hM hO hD hN => ?_) ?_
            · have e90 : a.tmps.getD 90 undef = .pointer (some ⟨wr.heap.size, 1, none⟩) := hD 5 rfl
              clear hO hD hN
              have hO2 := CE.out W hR
              have q := hO2.cell
              have z := hO2.lt
              go_wp2
              exact ⟨_, rfl, Below.refl _ _, rfl⟩
            refine .yes rfl rfl (fun a W Q k hR hM hO hD hN => ?_) ?_
            · have e91 : a.tmps.getD 91 undef = .int .i64 x1 := hD 6 rfl
              clear hO hD hN
              have hca := CI1.out W hR
              go_wp2_with fail
              refine hca.mono ?_
              rintro e w' ⟨rfl, hbc⟩
              go_wp2
              exact ⟨_, rfl, hbc, rfl⟩
            refine .yes rfl rfl (fun a W Q k hR hM hO hD hN => ?_) ?_
            · have e89 : a.tmps.getD 89 undef = .string A1 := hD 4 rfl
              have e92 : a.tmps.getD 92 undef = .string A2 := hD 7 rfl
              clear hO hD hN
              have hl := E3.out.1
              have hl2 := E3.out.2.1
              have he := E3.out.2.2
              go_wp2
              exact ⟨_, rfl, Below.refl _ _, rfl⟩
            refine .yes rfl rfl (fun a W Q k hR hM hO hD hN => ?_) ?_
            · have e93 : a.tmps.getD 93 undef = .string A3 := hD 8 rfl
              clear hO hD hN
              have hl := E4.out.1
              have hl2 := E4.out.2.1
              have he := E4.out.2.2
              go_wp2
              exact ⟨_, rfl, Below.refl _ _, rfl⟩
            refine .yes rfl rfl (fun a W Q k hR hM hO hD hN => ?_) ?_
            · have e85 : a.tmps.getD 85 undef = .string S := hD 0 rfl
              have e94 : a.tmps.getD 94 undef = .string A4 := hD 9 rfl
              clear hO hD hN
              have hl := E5.out.1
              have hl2 := E5.out.2.1
              have he := E5.out.2.2
              go_wp2
              exact ⟨_, rfl, Below.refl _ _, rfl⟩
            refine .yes rfl rfl (fun a W Q k hR hM hO hD hN => ?_) ?_
            · have e95 : a.tmps.getD 95 undef = .string A5 := hD 10 rfl
              clear hO hD hN
              go_wp2
              exact ⟨_, rfl, Below.refl _ _, rfl⟩
            exact .nil
          · intro f V hBz hRz
            have e9 : f 11 = .string A5 := hRz 11 (by decide)
            have HBn := Lib.hid (HBj.out.trans ((HBv.out.trans (hBz.mono HBv.out.size)).mono hsj))
            have HRn := Lib.hid (HRj.out.below (HBv.out.trans (hBz.mono HBv.out.size)))
            clear hRz hBz
            simp only [putAll, Nat.zero_add, Nat.reduceAdd, Act.put, List.setIfInBounds_toArray, List.set_cons_zero, List.set_cons_succ, e9]
            go_wp2
            refine ⟨⟨j + 1, by omega, by go_num, ⟨_, rfl, Lib.hid HA5.out.symm⟩, HRn, HBn⟩, ?_⟩
            simp [intOf]; omega
        · obtain rfl : j = k := by omega
          have HFIN := Lib.hid (show S = strB (textG N F) from by rw [HS.out, textK_all HFL.out.symm])
          have HBF := Lib.hid (HB0.out.trans (HBj.out.mono (by omega)))
          go_wp2
          go_ret
          exact ⟨by rw [HFIN.out, HFX.out]; rfl, HBF.out⟩
end Go.Proofs.YtljihclpgpmfeaaDoor
