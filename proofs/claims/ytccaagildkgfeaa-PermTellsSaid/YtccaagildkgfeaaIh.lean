/- Walk: perm.Order. -/
import Derived.Test.YtccaagildkgfeaaIg
import Derived.Test.YtccaagildkgfeaaPd
import Derived.Test.YtccaagildkgfeaaPostIn
namespace Go.Proofs.Ytccaagildkgfeaa
open Go.RowKit Go.Shelf
attribute [local go_sem] Oper.semAt_some

def tblOr (x : Nat) (y : Nat) (r : Nat) : List Pst := [Pst.val (.int .i64 (y : Nat)), Pst.val (.int .i64 (x : Nat)), Pst.val (.int .i64 (y : Nat)), Pst.val (.int .i64 (r : Nat)), Pst.val (.int .i64 (y : Nat))]
def ErrN (w : World) (o : Option Nat) (e : Ending) (w' : World) : Prop := e = .returned (.tuple #[.int .i64 ((o.getD 0 : Nat) : Int), .int .i64 (if o.isSome then 0 else 30)]) ∧ Below w.heap.size w w'
def ordO (p : List Int) : Option Nat := if rightP p = true then some (ordK p p.length) else none
theorem lcm_way (a b : Nat) : a / Nat.gcd a b * b = Nat.lcm a b := by
  unfold Nat.lcm
  exact Nat.div_mul_right_comm (Nat.gcd_dvd_left a b) b
def OrI (b4 : Nat) (p : List Int) (j : Nat) (V : World) : Prop := Own V b4 3 [.int .i64 ((ordK p j : Nat) : Int)]
def OrL (V : World) (g : Nat) (s6 s7 : Value) (V' : World) : Prop := ∃ x y : Nat, s6 = .int .i64 (x : Int) ∧ s7 = .int .i64 (y : Int) ∧ Below V.heap.size V V' ∧ Hid (Nat.gcd x y = g) ∧ x ≤ 7000000000000000000 ∧ y ≤ 7000000000000000000
set_option maxRecDepth 100000 in
set_option maxHeartbeats 8000000 in
theorem order_any (A : Option Addr) (n c : Nat) (p : List Int) (w : World) (h1 : ArgI w A n c p) :
    Calls Try.prog 12 #[.slice A n c] w (ErrN w (ordO p)) := by
  have H1 := Lib.hid h1
  have hn0 := h1.le
  clear h1
  have HP := Lib.hid (right_any A n c p w H1.out)
  obtain ⟨r, hr⟩ : ∃ r, rightP p = r := ⟨_, rfl⟩
  rw [hr] at HP
  have RP := Lib.hid hr
  clear hr
  cases r with
  | false =>
    have HC := Lib.hid (show ordO p = none from if_neg (by rw [RP.out]; simp))
    go_enter Try.func12, Try.ntmps12
    go_wp2_with fail
    refine HP.out.mono ?_
    rintro e w2 ⟨rfl, hb1⟩
    have HB2 := Lib.hid hb1
    clear hb1
    go_wp2
    go_ret2
    exact ⟨by rw [HC.out]; rfl, HB2.out⟩
  | true =>
    have HC := Lib.hid (show ordO p = some (ordK p p.length) from if_pos RP.out)
    have HL := Lib.hid H1.out.len
    refine (callsIn_wide (n := 3)).1 ?_
    refine callsIn_of_wp_marks Try.func12 rfl trivial ?_ rfl
    simp only [Try.ntmps12, List.size_toArray, List.length_cons, List.length_nil, Nat.reduceAdd, Nat.reduceSub, Array.replicate_succ, Array.replicate_zero, List.push_toArray, List.append_toArray, List.nil_append, List.cons_append]
    gi_wp2_with (refine ⟨trivial, ?_⟩; gi_at_call 9; refine (callsIn_wide.2 HP.out).mono ?_; rintro e w1 ⟨rfl, hb1⟩)
    refine ⟨trivial, (callsIn_wide.2 (cycles_make A n c _)).mono ?_⟩
    rintro e _ ⟨rfl, rfl⟩
    have HB1 := Lib.hid hb1
    clear hb1
    obtain ⟨w2, hw2⟩ : ∃ w2, (w1.alloc (.cells #[.int .i64 1] 3)).alloc (.cells #[.slice A n c] 22) = w2 := ⟨_, rfl⟩
    have hz2 : w2.heap.size = w1.heap.size + 2 := by rw [← hw2]; simp
    have hb2 : Below w.heap.size w w2 := by
      have := HB1.out.size
      rw [← hw2]
      exact (HB1.out.alloc this _).alloc (by simp; omega) _
    have hx2 : Own w2 (w1.heap.size + 1) 22 [.slice A n c] := by rw [← hw2]; exact Own.new' (by simp)
    have hi0 : OrI w1.heap.size p 0 w2 := by
      rw [← hw2]
      exact (Own.new' (vs := [.int .i64 1]) rfl).alloc _
    have HZ := Lib.hid hz2; have HB2 := Lib.hid hb2; have HX2 := Lib.hid hx2; have HI0 := Lib.hid hi0
    gi_wp2
    clear hw2 hz2 hb2 hx2 hi0
    refine wpIn_cycles (nn := 1) (w1.heap.size + 1) n c A p w rfl rfl RP.out H1.out HB2.out HX2.out (OrI w1.heap.size p) ?hI ?hIp ?hIa ?hskip HI0.out ?a1 ?assign ?body ?done
    case hI => exact fun j V V' g vs h ho _ hg => Own.grown' h ho (by decide) hg
    case hIp => exact fun j V k o o' h _ hk hc => (own_put o' h hk hc).2
    case hIa => exact fun j V o h => Own.alloc h o
    case hskip => exact fun j V _ hl h => by unfold OrI at h ⊢; rw [ordK_no hl]; exact h
    case assign =>
      intro l v W K hK
      gi_wp2
      exact hK
    case body =>
      intro l j V g cap more hj hl hI ho hg hc1 hc2 hc3 hB hx hprev
      have hjl : j < p.length := by have := HL.out; omega
      have hw1s := HB1.out.size
      obtain ⟨M, hM⟩ : ∃ M, ordK p j = M := ⟨_, rfl⟩
      obtain ⟨L, hLL⟩ : ∃ L, ord1 p j = L := ⟨_, rfl⟩
      obtain ⟨K, hK⟩ : ∃ K, ordK p (j + 1) = K := ⟨_, rfl⟩
      have hMb := ordK_bound RP.out (j := j) (by omega)
      have hKb := ordK_bound RP.out (j := j + 1) (by omega)
      have hLb := (ord1_spec RP.out hjl).2.1
      have hL0 := ord1_pos p j
      have hpl := (right_true RP.out).1
      have hlcm : M / Nat.gcd M L * L = K := by rw [lcm_way, ← hK, ordK_yes hl, hM, hLL]
      have hI' : Own V w1.heap.size 3 [.int .i64 ((M : Nat) : Int)] := by rw [← hM]; exact hI
      rw [hM] at hMb
      rw [hK] at hKb
      rw [hLL] at hLb hL0 ⊢
      have q4 : V.cell? ⟨w1.heap.size, 0, none⟩ = some (.int .i64 (M : Int)) := hI'.cell 0
      have z4 := hI'.lt
      have HI := Lib.hid hI'; have HK := Lib.hid hK; have HLC := Lib.hid hlcm; have HX := Lib.hid hx; have HBV := Lib.hid hB
      obtain ⟨hM0, hM1⟩ := hMb
      obtain ⟨hK0, hK1⟩ := hKb
      clear hM hLL hK hI hI' ho hc1 hc2 hc3 hB hx hprev hlcm hl
      gi_wp2
      gi_loopw [6, 7] (fun s6 s7 V' => OrL V (Nat.gcd M L) s6 s7 V') (fun _ s7 _ => (intOf s7).toNat)
      case atStart => exact ⟨M, L, rfl, rfl, Below.refl _ _, Lib.hid rfl, by omega, by omega⟩
      case round =>
        obtain ⟨x, y, rfl, rfl, hBr, hG, hx, hy⟩ := hrel
        have HBR := Lib.hid hBr
        have q5 : wr.cell? ⟨w1.heap.size, 0, none⟩ = some (.int .i64 (M : Int)) := (HI.out.below' hBr).cell 0
        have f5 := (HI.out.below' hBr).frozen 0
        have z5 := (HI.out.below' hBr).lt
        clear hBr q4
        by_cases hy0 : y = 0
        · subst hy0
          have hGx : Nat.gcd M L = x := by rw [← hG.out, Nat.gcd_zero_right]
          have hx0 : 0 < x := by rw [← hGx]; exact Nat.gcd_pos_of_pos_left _ hM0
          obtain ⟨D, hD⟩ : ∃ D, M / x = D := ⟨_, rfl⟩
          have hDL : D * L = K := by rw [← hD, ← hGx]; exact HLC.out
          have e1 : (M : Int) / (x : Int) = (D : Int) := by rw [← hD, Int.natCast_ediv]
          have e2 : (D : Int) * (L : Int) = (K : Int) := by rw [← hDL, Int.natCast_mul]
          have e3 : ((x : Int) == 0) = false := by rw [beq_eq_false_iff_ne]; omega
          have hD1 : D ≤ 7000000000000000000 := by rw [← hD]; exact Nat.le_trans (Nat.div_le_self _ _) hM1
          clear hGx hD hDL
          gi_wp2
          have hIr := HI.out.below' HBR.out
          refine ⟨?_, ?_, ?_⟩
          · exact (KeepsOthers.of_grownBy (grown_of_below (row := none) HBR.out) (by simp)).trans (KeepsOthers.setCell _ _ _)
          · show Own _ _ _ _
            rw [HK.out]
            exact hIr.set 0 _
          · have hxr := HX.out.below' HBR.out
            refine ⟨?_, fun gb vs hob => ?_, ?_, ?_⟩
            · have := HBR.out.size
              simp; omega
            · have h2 := hob.below' HBR.out
              exact h2.far (p := ⟨w1.heap.size, 0, none⟩) (h2.ne hIr (by decide)) _
            · exact (show _ = _ from hxr.far (p := ⟨w1.heap.size, 0, none⟩) (by simp) _).trans HX.out.symm
            · exact (HBR.out.mono (by omega)).setCell (p := ⟨w1.heap.size, 0, none⟩) hw1s _
        · obtain ⟨r, hr⟩ : ∃ r, x % y = r := ⟨_, rfl⟩
          have HRM := Lib.hid (show (x : Int) % (y : Int) = (r : Int) by rw [← hr, Int.natCast_emod])
          have HYZ := Lib.hid (show ((y : Int) == 0) = false by rw [beq_eq_false_iff_ne]; omega)
          have hyn : ((y : Int) != 0) = true := by rw [bne_iff_ne]; omega
          have hry : r < y := by rw [← hr]; exact Nat.mod_lt _ (by omega)
          have HG2 := Lib.hid (show Nat.gcd y r = Nat.gcd M L by rw [← hG.out, ← hr, Nat.gcd_comm x y, Nat.gcd_rec y x, Nat.gcd_comm])
          clear hr q5 f5
          gi_wp2
          refine regionIn_posts 5 (fun _ => trivial) (by kernel_rfl) (tblOr x y r) (by kernel_rfl) (by kernel_rfl) ?_ ?_
          simp only [List.take_succ_cons, List.take_zero]
          · skip
            refine .yes rfl (fun a W Q hB hO hD hN => ?_) ?_
            · have e7 : a.tmps.getD 7 undef = .int .i64 (y : Nat) := hO.slot 7 _ rfl rfl
              clear hO hD hN
              gi_wp2
              exact ⟨_, rfl, Below.refl _ _, rfl⟩
            refine .yes rfl (fun a W Q hB hO hD hN => ?_) ?_
            · have e6 : a.tmps.getD 6 undef = .int .i64 (x : Nat) := (hN 4 _ rfl rfl).trans rfl
              clear hO hD hN
              gi_wp2
              exact ⟨_, rfl, Below.refl _ _, rfl⟩
            refine .yes rfl (fun a W Q hB hO hD hN => ?_) ?_
            · have e7 : a.tmps.getD 7 undef = .int .i64 (y : Nat) := hO.slot 7 _ rfl rfl
              clear hO hD hN
              gi_wp2
              exact ⟨_, rfl, Below.refl _ _, rfl⟩
            refine .yes rfl (fun a W Q hB hO hD hN => ?_) ?_
            · have e20 : a.tmps.getD 20 undef = .int .i64 (x : Nat) := hD 1 rfl
              have e21 : a.tmps.getD 21 undef = .int .i64 (y : Nat) := hD 2 rfl
              clear hO hD hN
              have hz := HYZ.out
              gi_wp2
              exact ⟨_, rfl, Below.refl _ _, congrArg (Value.int .i64) HRM.out⟩
            refine .yes rfl (fun a W Q hB hO hD hN => ?_) ?_
            · have e19 : a.tmps.getD 19 undef = .int .i64 (y : Nat) := hD 0 rfl
              clear hO hD hN
              gi_wp2
              exact ⟨_, rfl, Below.refl _ _, rfl⟩
            exact .nil
          · intro f V2 hBz hR
            have e0 : f 4 = .int .i64 (y : Nat) := hR 4 (by decide)
            have e3 : f 3 = .int .i64 (r : Nat) := hR 3 (by decide)
            have HB5 := Lib.hid (HBR.out.trans (hBz.mono HBR.out.size))
            clear hR hBz
            simp only [List.take_succ_cons, List.take_zero, List.drop_succ_cons, List.drop_zero, putAll, Nat.zero_add, Nat.reduceAdd, Act.put, List.setIfInBounds_toArray, List.set_cons_zero, List.set_cons_succ, e0, e3]
            gi_wp2
            go_roundw
            case rel => exact ⟨y, r, rfl, rfl, HB5.out, HG2, by omega, by omega⟩
            case measure => simp [intOf]; omega
    case done =>
      intro W hI hB hD
      have qb : W.cell? ⟨w1.heap.size, 0, none⟩ = some (.int .i64 ((ordK p n : Nat) : Int)) := Own.cell hI 0
      have zb : w1.heap.size < W.heap.size := Own.lt hI
      have HD := Lib.hid hD; have HVB := Lib.hid hB
      obtain ⟨M, hM⟩ : ∃ M, ordK p n = M := ⟨_, rfl⟩
      rw [hM] at qb
      have HM := Lib.hid hM
      clear hI hB hD hM
      gi_wp2
      have hw1s := HB1.out.size
      have hz := HZ.out
      refine ⟨by simp, .inl ⟨_, _, rfl, run_takeDeferred HD.out, ?_⟩⟩
      refine ⟨.tuple #[.int .i64 (M : Int), .int .i64 0], by simp [results, Try.f12, go_sem], ?_, HVB.out.trans (below_put _ (by omega) HD.out)⟩
      rw [HC.out, ← HL.out, HM.out]
      rfl
end Go.Proofs.Ytccaagildkgfeaa
