/- Walk: fretworklaw02.GraphTells. -/
import Derived.Test.YtljihclpgpmfeaaDoorTd
import Derived.Test.YtljihclpgpmfeaaDoorUw
import Derived.Test.YtljihclpgpmfeaaDoorUk
import Derived.Test.YtljihclpgpmfeaaDoorBk
import Derived.Test.YtljihclpgpmfeaaDoorDb
import Derived.Test.YtljihclpgpmfeaaDoorDe
import Derived.Test.YtljihclpgpmfeaaDoorUt
import Derived.Test.YtljihclpgpmfeaaDoorDj
import Derived.Test.YtljihclpgpmfeaaDoorDl
namespace Go.Proofs.YtljihclpgpmfeaaDoor
set_option maxRecDepth 100000
open Go.RowKit
attribute [local go_sem] Oper.semAt_some

theorem grL_read {f : Nat → Bool} {n : Nat} : (grL (readX f n)).length ≤ 100000 := by
  cases h : readO f n with
  | none => rw [readX_none h]; simp [grL]
  | some x =>
    obtain ⟨N, E⟩ := x
    rw [(readX_some h).1]
    have := (readO_bytes h).1.len
    show E.length ≤ _
    omega
theorem sameB_self (f : Nat → Bool) (n : Nat) : sameB f n f n = true := sameB_iff.2 ⟨rfl, fun _ _ => rfl⟩
theorem GrE.anyR {w w' : World} {e : Ending} {x : Int} {n : Nat} {N M : Int} {o : Except Int (List (Int × Int))} {l : List (Int × Int)} (h : GrE w N o e w') (hM : grN N o = M) (hx : grX o = x) (hl : grL o = l) (hn : l.length = n) (hn1 : n ≤ 100000) : ∃ A c, e = .returned (.tuple #[.agg #[.int .i64 M, .slice A n c], .int .i64 x]) ∧ RowE w.heap.size w' (.slice A n c) l ∧ Below w.heap.size w w' := by
  subst hn hl hx hM
  cases o with
  | error c =>
    obtain ⟨rfl, hb⟩ := h
    exact ⟨none, 0, rfl, .inl ⟨rfl, rfl⟩, hb⟩
  | ok l =>
    obtain ⟨v, rfl, hr, hb⟩ := h
    obtain ⟨A, c, rfl, _⟩ := hr.arg hn1
    exact ⟨A, c, rfl, hr, hb⟩
def tblE3 (gb : Nat) (B2 : Nat) (N : Int) (A : Option Addr) (n : Nat) (c : Nat) (E : List (Int × Int)) : List Pst := [Pst.val (.pointer (some ⟨gb, 0, none⟩)), Pst.val (.int .i64 N), Pst.val (.pointer (some ⟨gb, 1, none⟩)), Pst.val (.slice A n c), Pst.edg B2 n E, Pst.gra B2 N n E, Pst.gbox B2]
def tblE9 (N : Int) (A5 : Option Addr) (n : Nat) (c5 : Nat) (A : Option Addr) (c : Nat) (r0 : Bool) (M7 : Int) (A7 : Option Addr) (n7 : Nat) (c7 : Nat) (A9 : Option Addr) (c9 : Nat) (M11 : Int) (A11 : Option Addr) (n11 : Nat) (c11 : Nat) (A13 : Option Addr) (c13 : Nat) (x7 : Int) (x11 : Int) : List Pst := [Pst.val (.agg #[.int .i64 N, .slice A5 n c5]), Pst.val (.bool r0), Pst.val (.agg #[.int .i64 N, .slice A n c]), Pst.val (.bool r0), Pst.val (.bool false), Pst.val (.bool false), Pst.val (.int .i64 x7), Pst.val (.int .i64 x7), Pst.val (.bool false), Pst.val (.bool false), Pst.val (.bool false), Pst.val (.int .i64 x11), Pst.val (.int .i64 x11), Pst.val (.bool false), Pst.val (.bool false), Pst.val (.bool false), Pst.val (.agg #[.int .i64 M7, .slice A7 n7 c7]), Pst.val (.agg #[.int .i64 M7, .slice A9 n7 c9]), Pst.val (.bool true), Pst.val (.bool false), Pst.val (.bool false), Pst.val (.bool false), Pst.val (.agg #[.int .i64 M11, .slice A11 n11 c11]), Pst.val (.agg #[.int .i64 M11, .slice A13 n11 c13]), Pst.val (.bool true), Pst.val (.bool false), Pst.val (.bool false)]
def tblE19 (gA : Nat) (N : Int) (A5 : Option Addr) (n : Nat) (c5 : Nat) (A : Option Addr) (c : Nat) (nc : Nat) (cs : List (List Int)) (X : Int) (Y : Int) (p0 : Bool) (A6 : Option Addr) (m : Nat) (c6 : Nat) (B : Option Addr) (d : Nat) : List Pst := [Pst.val (.agg #[.int .i64 N, .slice A5 n c5]), Pst.rows nc cs, Pst.val (.agg #[.int .i64 N, .slice A n c]), Pst.rows nc cs, Pst.val (.bool true), Pst.val (.bool true), Pst.val (.agg #[.int .i64 N, .slice A5 n c5]), Pst.val (.pointer (some ⟨gA, 1, none⟩)), Pst.val (.int .i64 X), Pst.val (.pointer (some ⟨gA, 2, none⟩)), Pst.val (.int .i64 Y), Pst.val (.bool p0), Pst.val (.agg #[.int .i64 N, .slice A n c]), Pst.val (.pointer (some ⟨gA, 1, none⟩)), Pst.val (.int .i64 X), Pst.val (.pointer (some ⟨gA, 2, none⟩)), Pst.val (.int .i64 Y), Pst.val (.bool p0), Pst.val (.bool true), Pst.val (.bool true), Pst.val (.bool true), Pst.val (.agg #[.int .i64 N, .slice A5 n c5]), Pst.val (.agg #[.int .i64 N, .slice A n c]), Pst.val (.bool true), Pst.val (.bool true), Pst.val (.bool true), Pst.val (.slice A6 m c6), Pst.val (.pointer (some ⟨gA, 3, none⟩)), Pst.val (.slice B m d), Pst.val (.bool true), Pst.val (.bool true), Pst.val (.bool true), Pst.val (.bool true), Pst.val (.bool true), Pst.val (.bool true)]
set_option maxRecDepth 100000 in
set_option maxHeartbeats 32000000 in
theorem graphTells_true (N M X Y : Int) (A B C : Option Addr) (n c m d bn bc : Nat) (E F : List (Int × Int)) (f : Nat → Bool) (l : List UInt8) (w : World) (he : ArgE w A n c E) (hF : ArgE w B m d F) (hC : Rd w C (cellsF f bn)) (ht : TabW w.heap.size w) :
    Calls Tryd.prog 9 #[.agg #[.int .i64 N, .slice A n c], .agg #[.int .i64 M, .int .i64 X, .int .i64 Y, .slice B m d, .slice C bn bc, .string (strB l)]] w fun e w' => e = .returned (.bool true) ∧ Below w.heap.size w w' := by
  have HE0 := Lib.hid he; have HF0 := Lib.hid hF; have HC0 := Lib.hid hC
  have HT := Lib.hid ht
  have hsz := strB_size l
  clear he hF hC ht
  obtain ⟨W1, hW1⟩ : ∃ W, (w.alloc (.cells #[.int .i64 N, .slice A n c] 26)).alloc (.cells #[.int .i64 M, .int .i64 X, .int .i64 Y, .slice B m d, .slice C bn bc, .string (strB l)] 56) = W := ⟨_, rfl⟩
  have hb := Lib.hid (show Below w.heap.size w W1 from by rw [← hW1]; exact (alloc_below _ _).trans ((alloc_below _ _).mono (by simp)))
  have OG := Lib.hid (show Own W1 w.heap.size 26 [.int .i64 N, .slice A n c] from by rw [← hW1]; exact (Own.new' rfl).alloc _)
  have OA := Lib.hid (show Own W1 (w.heap.size + 1) 56 [.int .i64 M, .int .i64 X, .int .i64 Y, .slice B m d, .slice C bn bc, .string (strB l)] from by rw [← hW1]; exact Own.new' (by simp))
  have HE := Lib.hid (HE0.out.keep hb.out); have HF := Lib.hid (HF0.out.keep hb.out); have HC := Lib.hid (HC0.out.below hb.out)
  clear HE0 HF0 HC0
  go_enter Tryd.func9, Tryd.ntmps9
  have CG := Lib.hid (greatA_any N M X Y A B C n c m d bn bc l W1)
  have qOG := OG.out.cell; have zOG := OG.out.lt; have fOG := OG.out.frozen
  have qOA := OA.out.cell; have zOA := OA.out.lt; have fOA := OA.out.frozen
  go_wp2_with fail
  refine (CG.out).mono ?_
  rintro e w1 ⟨r, rfl, hgr, hbk⟩
  have hbz := Lib.hid hbk; clear hbk
  clear qOG zOG fOG
  clear qOA zOA fOA
  have OG' := Lib.hid (OG.out.below' hbz.out)
  have OA' := Lib.hid (OA.out.below' hbz.out)
  have HE' := Lib.hid (HE.out.keep hbz.out)
  have HF' := Lib.hid (HF.out.keep hbz.out)
  have HC' := Lib.hid (HC.out.below hbz.out)
  have hb' := Lib.hid (below_chain hb.out hbz.out)
  clear hb OG OA HE HF HC
  have hb := hb'; clear hb'
  have OG := OG'; clear OG'
  have OA := OA'; clear OA'
  have HE := HE'; clear HE'
  have HF := HF'; clear HF'
  have HC := HC'; clear HC'
  clear hbz
  have HGR := Lib.hid hgr; clear hgr CG
  cases r with
  | true =>
    go_wp2_with fail
    refine (awakeG_any w1 ((HT.out.on hb.out).mono hb.out.size)).mono ?_
    rintro e w2 ⟨rfl, hbk⟩
    have hbz := Lib.hid hbk; clear hbk
    have OG' := Lib.hid (OG.out.below' hbz.out)
    have OA' := Lib.hid (OA.out.below' hbz.out)
    have HE' := Lib.hid (HE.out.keep hbz.out)
    have HF' := Lib.hid (HF.out.keep hbz.out)
    have HC' := Lib.hid (HC.out.below hbz.out)
    have hb' := Lib.hid (below_chain hb.out hbz.out)
    clear hb OG OA HE HF HC
    have hb := hb'; clear hb'
    have OG := OG'; clear OG'
    have OA := OA'; clear OA'
    have HE := HE'; clear HE'
    have HF := HF'; clear HF'
    have HC := HC'; clear HC'
    clear hbz
    go_wp2
    go_ret
    exact ⟨rfl, hb.out⟩
  | false =>
    obtain ⟨hN3, hn7, hM3, hm7, hb1, hl3⟩ := HGR.out rfl
    clear HGR
    have LE := Lib.hid HE.out.len; have LF := Lib.hid HF.out.len
    have hn1 : n ≤ 100000 := by omega
    have hm1 : m ≤ 100000 := by omega
    have hl9 : l.length ≤ 1000000000 := by omega
    obtain ⟨x7, hx7⟩ : ∃ z, grX (newO M F) = z := ⟨_, rfl⟩
    have Kx7 := Lib.hid hx7; clear hx7
    obtain ⟨M7, hM7⟩ : ∃ z, grN M (newO M F) = z := ⟨_, rfl⟩
    have KM7 := Lib.hid hM7; clear hM7
    obtain ⟨l7, hl7⟩ : ∃ z, grL (newO M F) = z := ⟨_, rfl⟩
    have Kl7 := Lib.hid hl7; clear hl7
    obtain ⟨x11, hx11⟩ : ∃ z, grX (readX f bn) = z := ⟨_, rfl⟩
    have Kx11 := Lib.hid hx11; clear hx11
    obtain ⟨M11, hM11⟩ : ∃ z, grN (readN f bn) (readX f bn) = z := ⟨_, rfl⟩
    have KM11 := Lib.hid hM11; clear hM11
    obtain ⟨l11, hl11⟩ : ∃ z, grL (readX f bn) = z := ⟨_, rfl⟩
    have Kl11 := Lib.hid hl11; clear hl11
    obtain ⟨xp, hxp⟩ : ∃ z, grX (parO l) = z := ⟨_, rfl⟩
    have Kxp := Lib.hid hxp; clear hxp
    obtain ⟨Mp, hMp⟩ : ∃ z, grN (parN l) (parO l) = z := ⟨_, rfl⟩
    have KMp := Lib.hid hMp; clear hMp
    obtain ⟨lp, hlp⟩ : ∃ z, grL (parO l) = z := ⟨_, rfl⟩
    have Klp := Lib.hid hlp; clear hlp
    obtain ⟨xb, hxb⟩ : ∃ z, byX (bytesO N E) = z := ⟨_, rfl⟩
    have Kxb := Lib.hid hxb; clear hxb
    obtain ⟨nb, hnb⟩ : ∃ z, byN (bytesO N E) = z := ⟨_, rfl⟩
    have Knb := Lib.hid hnb; clear hnb
    obtain ⟨fb, hfb⟩ : ∃ z, byF (bytesO N E) = z := ⟨_, rfl⟩
    have Kfb := Lib.hid hfb; clear hfb
    obtain ⟨cs, hcs⟩ : ∃ z, (besideG N E).getD [] = z := ⟨_, rfl⟩
    have Kcs := Lib.hid hcs; clear hcs
    obtain ⟨r0, hr0⟩ : ∃ z, rightG N E = z := ⟨_, rfl⟩
    have Kr0 := Lib.hid hr0; clear hr0
    obtain ⟨p0, hp0⟩ : ∃ z, hasG N E X Y = z := ⟨_, rfl⟩
    have Kp0 := Lib.hid hp0; clear hp0
    have hbn7 : l7.length ≤ 100000 := by rw [← Kl7.out]; exact grL_new
    obtain ⟨n7, hn7⟩ : ∃ z, l7.length = z := ⟨_, rfl⟩
    rw [hn7] at hbn7
    have Kn7 := Lib.hid hn7; clear hn7
    have hbn11 : l11.length ≤ 100000 := by rw [← Kl11.out]; exact grL_read
    obtain ⟨n11, hn11⟩ : ∃ z, l11.length = z := ⟨_, rfl⟩
    rw [hn11] at hbn11
    have Kn11 := Lib.hid hn11; clear hn11
    have hbnp : lp.length ≤ 100000 := by rw [← Klp.out]; exact grL_par
    obtain ⟨np, hnp⟩ : ∃ z, lp.length = z := ⟨_, rfl⟩
    rw [hnp] at hbnp
    have Knp := Lib.hid hnp; clear hnp
    have hbnc : cs.length ≤ 100000 := (beside_few Kcs.out).1
    obtain ⟨nc, hnc⟩ : ∃ z, cs.length = z := ⟨_, rfl⟩
    rw [hnc] at hbnc
    have Knc := Lib.hid hnc; clear hnc
    have HCS := Lib.hid (beside_few Kcs.out).2
    obtain ⟨St, xt, htv⟩ := textV_parts (textO N E)
    have KT := Lib.hid htv; clear htv
    have qOG := OG.out.cell; have zOG := OG.out.lt; have fOG := OG.out.frozen
    go_wp2_with fail
    clear qOG zOG fOG
    have CGr := Lib.hid (fun V (hV : Below w1.heap.size w1 V) => OG.out.below' hV)
    have AE := Lib.hid (fun V (hV : Below w1.heap.size w1 V) => HE.out.keep hV)
    refine wpIn_wide (n := 1) |>.1 (regionIn_posts 7 (fun _ => trivial) (by kernel_rfl) (tblE3 w.heap.size w1.heap.size N A n c E) (by kernel_rfl) (by kernel_rfl) ?_ ?_)
    simp only [List.take_succ_cons, List.take_zero]
    · skip
      refine .yes rfl (fun a W Q hB hO hD hN => ?_) ?_
      · have e2 : a.tmps.getD 2 undef = .pointer (some ⟨w.heap.size, 0, none⟩) := hO.slot 2 _ rfl rfl
        clear hO hD hN
        gi_wp2
        exact ⟨_, rfl, Below.refl _ _, rfl⟩
      refine .yes rfl (fun a W Q hB hO hD hN => ?_) ?_
      · have e25 : a.tmps.getD 25 undef = .pointer (some ⟨w.heap.size, 0, none⟩) := hD 0 rfl
        clear hO hD hN
        have hO2 := CGr.out W hB
        have q := hO2.cell
        have z := hO2.lt
        gi_wp2
        exact ⟨_, rfl, Below.refl _ _, rfl⟩
      refine .yes rfl (fun a W Q hB hO hD hN => ?_) ?_
      · have e2 : a.tmps.getD 2 undef = .pointer (some ⟨w.heap.size, 0, none⟩) := hO.slot 2 _ rfl rfl
        clear hO hD hN
        gi_wp2
        exact ⟨_, rfl, Below.refl _ _, rfl⟩
      refine .yes rfl (fun a W Q hB hO hD hN => ?_) ?_
      · have e27 : a.tmps.getD 27 undef = .pointer (some ⟨w.heap.size, 1, none⟩) := hD 2 rfl
        clear hO hD hN
        have hO2 := CGr.out W hB
        have q := hO2.cell
        have z := hO2.lt
        gi_wp2
        exact ⟨_, rfl, Below.refl _ _, rfl⟩
      refine .yes rfl (fun a W Q hB hO hD hN => ?_) ?_
      · have e28 : a.tmps.getD 28 undef = .slice A n c := hD 3 rfl
        clear hO hD hN
        have KC := Lib.hid (copyPairs_any A n c E W (AE.out W hB) hn1)
        gi_wp2_with (refine ⟨trivial, ?_⟩; gi_at_call 21; refine (callsIn_wide.2 KC.out).mono ?_; rintro e W1 ⟨v, rfl, hr, hb1⟩)
        obtain ⟨A5, c5, rfl, _⟩ := hr.rd
        rw [← LE.out] at hr ⊢
        exact ⟨_, rfl, hb1, _, _, rfl, hr.base hB.size⟩
      refine .yes rfl (fun a W Q hB hO hD hN => ?_) ?_
      · have e26 : a.tmps.getD 26 undef = .int .i64 N := hD 1 rfl
        obtain ⟨A29, c29, e29, h29⟩ : ∃ A c, (a.tmps.getD 29 undef) = .slice A n c ∧ RowE w1.heap.size W (.slice A n c) E := hD 4 rfl
        clear hO hD hN
        refine wpIn_buildG rfl (show a.eval (.tmp 26) = _ from e26) (show a.eval (.tmp 29) = _ from e29) ?_
        exact ⟨_, rfl, Below.refl _ _, _, _, rfl, h29⟩
      refine .yes rfl (fun a W Q hB hO hD hN => ?_) ?_
      · clear hO hD hN
        gi_wp2
        exact ⟨_, rfl, alloc_below _ _, _, rfl, hB.size, Own.new' rfl⟩
      exact .nil
    · intro f3 W3 hBz hR
      obtain ⟨A5, c5, e5, hr5⟩ : ∃ A c, f3 5 = .agg #[.int .i64 N, .slice A n c] ∧ RowE w1.heap.size W3 (.slice A n c) E := hR 5 (by decide)
      obtain ⟨g5, e6, hg5, ho5⟩ : ∃ g, f3 6 = .pointer (some ⟨g, 0, none⟩) ∧ w1.heap.size ≤ g ∧ Own W3 g 26 [.int .i64 0, .slice none 0 0] := hR 6 (by decide)
      have hbk := (hBz.setCell (p := ⟨g5, 0, none⟩) hg5 (.int .i64 N)).setCell (p := ⟨g5, 1, none⟩) hg5 (.slice A5 n c5)
      have q0 := ho5.cell; have q1 := ho5.frozen; have q2 := ho5.lt
      have ro := rowE_box hr5 ho5 (.int .i64 N) (.slice A5 n c5)
      have oo := (ho5.set 0 (.int .i64 N)).set 1 (.slice A5 n c5)
      simp only [List.set_cons_zero, List.set_cons_succ] at oo
      have hbz := Lib.hid hbk; have RO := Lib.hid ro; have OO := Lib.hid oo
      clear hR hBz hr5 ho5 hbk ro oo AE CGr
      simp only [List.take_succ_cons, List.take_zero, List.drop_succ_cons, List.drop_zero, putAll, Nat.zero_add, Nat.reduceAdd, Act.put, List.setIfInBounds_toArray, List.set_cons_zero, List.set_cons_succ, e5, e6]
      gi_wp2
      generalize (W3.setCell ⟨g5, 0, none⟩ (.int .i64 N)).setCell ⟨g5, 1, none⟩ (.slice A5 n c5) = V3 at hbz RO OO ⊢
      clear q0 q1 q2 e5 e6
      have OG' := Lib.hid (OG.out.below' hbz.out)
      have OA' := Lib.hid (OA.out.below' hbz.out)
      have HE' := Lib.hid (HE.out.keep hbz.out)
      have HF' := Lib.hid (HF.out.keep hbz.out)
      have HC' := Lib.hid (HC.out.below hbz.out)
      have hb' := Lib.hid (below_chain hb.out hbz.out)
      clear hb OG OA HE HF HC
      have hb := hb'; clear hb'
      have OG := OG'; clear OG'
      have OA := OA'; clear OA'
      have HE := HE'; clear HE'
      have HF := HF'; clear HF'
      have HC := HC'; clear HC'
      have O5 := OO; have H5 := Lib.hid (RO.out.toArg hn1)
      clear OO RO hbz hg5
      have CP := Lib.hid (copyPairs_any B m d F V3 HF.out hm1)
      have qOA := OA.out.cell; have zOA := OA.out.lt; have fOA := OA.out.frozen
      go_wp2_with fail
      refine (CP.out).mono ?_
      rintro e w2 ⟨v6, rfl, hr6, hbk⟩
      have hbz := Lib.hid hbk; clear hbk
      have R6 := Lib.hid (hr6)
      clear qOA zOA fOA
      have OG' := Lib.hid (OG.out.below' hbz.out)
      have OA' := Lib.hid (OA.out.below' hbz.out)
      have HE' := Lib.hid (HE.out.keep hbz.out)
      have HF' := Lib.hid (HF.out.keep hbz.out)
      have HC' := Lib.hid (HC.out.below hbz.out)
      have O5' := Lib.hid (O5.out.below' hbz.out)
      have H5' := Lib.hid (H5.out.keep hbz.out)
      have hb' := Lib.hid (below_chain hb.out hbz.out)
      clear hb OG OA HE HF HC O5 H5
      have hb := hb'; clear hb'
      have OG := OG'; clear OG'
      have OA := OA'; clear OA'
      have HE := HE'; clear HE'
      have HF := HF'; clear HF'
      have HC := HC'; clear HC'
      have O5 := O5'; clear O5'
      have H5 := H5'; clear H5'
      clear hbz
      clear hr6 CP
      obtain ⟨A6, c6, rfl, ha6⟩ := R6.out.arg (by rw [← LF.out]; exact hm1)
      rw [← LF.out] at ha6 ⊢
      have H6 := Lib.hid ha6
      clear ha6 R6
      have C7 := Lib.hid ((newG_any M A6 m c6 F w2 H6.out).mono (fun _ _ he => he.any KM7.out Kx7.out Kl7.out Kn7.out hbn7))
      have qOA := OA.out.cell; have zOA := OA.out.lt; have fOA := OA.out.frozen
      go_wp2_with fail
      refine (C7.out).mono ?_
      rintro e w3 ⟨A7, c7, rfl, ha7, hbk⟩
      have hbz := Lib.hid hbk; clear hbk
      have H7 := Lib.hid (ha7)
      clear qOA zOA fOA
      have OG' := Lib.hid (OG.out.below' hbz.out)
      have OA' := Lib.hid (OA.out.below' hbz.out)
      have HE' := Lib.hid (HE.out.keep hbz.out)
      have HF' := Lib.hid (HF.out.keep hbz.out)
      have HC' := Lib.hid (HC.out.below hbz.out)
      have O5' := Lib.hid (O5.out.below' hbz.out)
      have H5' := Lib.hid (H5.out.keep hbz.out)
      have H6' := Lib.hid (H6.out.keep hbz.out)
      have hb' := Lib.hid (below_chain hb.out hbz.out)
      clear hb OG OA HE HF HC O5 H5 H6
      have hb := hb'; clear hb'
      have OG := OG'; clear OG'
      have OA := OA'; clear OA'
      have HE := HE'; clear HE'
      have HF := HF'; clear HF'
      have HC := HC'; clear HC'
      have O5 := O5'; clear O5'
      have H5 := H5'; clear H5'
      have H6 := H6'; clear H6'
      clear hbz
      clear ha7 C7
      have OGb := OG
      have OAb := OA
      have HEb := HE
      have HFb := HF
      have HCb := HC
      have O5b := O5
      have H5b := H5
      have H6b := H6
      have hb3 := hb
      have HLOW := Lib.hid (Below.refl w3.heap.size w3)
      obtain ⟨V7, hV7⟩ : ∃ W, w3.alloc (.cells #[.int .i64 M7, .slice A7 n7 c7] 26) = W := ⟨_, rfl⟩
      have hbz := Lib.hid (show Below w3.heap.size w3 V7 from by rw [← hV7]; exact alloc_below _ _)
      have O7 := Lib.hid (show Own V7 w3.heap.size 26 [.int .i64 M7, .slice A7 n7 c7] from by rw [← hV7]; exact Own.new _ _ _)
      have OG' := Lib.hid (OG.out.below' hbz.out)
      have OA' := Lib.hid (OA.out.below' hbz.out)
      have HE' := Lib.hid (HE.out.keep hbz.out)
      have HF' := Lib.hid (HF.out.keep hbz.out)
      have HC' := Lib.hid (HC.out.below hbz.out)
      have O5' := Lib.hid (O5.out.below' hbz.out)
      have H5' := Lib.hid (H5.out.keep hbz.out)
      have H6' := Lib.hid (H6.out.keep hbz.out)
      have H7' := Lib.hid (H7.out.keep hbz.out)
      have HLOW' := Lib.hid (below_chain HLOW.out hbz.out)
      have hb' := Lib.hid (below_chain hb.out hbz.out)
      clear hb OG OA HE HF HC O5 H5 H6 H7 HLOW
      have hb := hb'; clear hb'
      have OG := OG'; clear OG'
      have OA := OA'; clear OA'
      have HE := HE'; clear HE'
      have HF := HF'; clear HF'
      have HC := HC'; clear HC'
      have O5 := O5'; clear O5'
      have H5 := H5'; clear H5'
      have H6 := H6'; clear H6'
      have H7 := H7'; clear H7'
      have HLOW := HLOW'; clear HLOW'
      clear hbz
      have C9 := Lib.hid ((newR_any M B m d F V7 HF.out).mono (fun _ _ he => he.any KM7.out Kx7.out Kl7.out Kn7.out hbn7))
      have qOA := OA.out.cell; have zOA := OA.out.lt; have fOA := OA.out.frozen
      have qO7 := O7.out.cell; have zO7 := O7.out.lt; have fO7 := O7.out.frozen
      go_wp2_with fail
      refine (C9.out).mono ?_
      rintro e w4 ⟨A9, c9, rfl, ha9, hbk⟩
      have hbz := Lib.hid hbk; clear hbk
      have H9 := Lib.hid (ha9)
      clear qOA zOA fOA
      clear qO7 zO7 fO7
      have OG' := Lib.hid (OG.out.below' hbz.out)
      have OA' := Lib.hid (OA.out.below' hbz.out)
      have HE' := Lib.hid (HE.out.keep hbz.out)
      have HF' := Lib.hid (HF.out.keep hbz.out)
      have HC' := Lib.hid (HC.out.below hbz.out)
      have O5' := Lib.hid (O5.out.below' hbz.out)
      have H5' := Lib.hid (H5.out.keep hbz.out)
      have H6' := Lib.hid (H6.out.keep hbz.out)
      have H7' := Lib.hid (H7.out.keep hbz.out)
      have HLOW' := Lib.hid (below_chain HLOW.out hbz.out)
      have O7' := Lib.hid (O7.out.below' hbz.out)
      have hb' := Lib.hid (below_chain hb.out hbz.out)
      clear hb OG OA HE HF HC O5 H5 H6 H7 HLOW O7
      have hb := hb'; clear hb'
      have OG := OG'; clear OG'
      have OA := OA'; clear OA'
      have HE := HE'; clear HE'
      have HF := HF'; clear HF'
      have HC := HC'; clear HC'
      have O5 := O5'; clear O5'
      have H5 := H5'; clear H5'
      have H6 := H6'; clear H6'
      have H7 := H7'; clear H7'
      have HLOW := HLOW'; clear HLOW'
      have O7 := O7'; clear O7'
      clear hbz
      clear ha9 C9
      have LT9 := Lib.hid O7.out.lt
      obtain ⟨V9, hV9⟩ : ∃ W, w4.alloc (.cells #[.int .i64 M7, .slice A9 n7 c9] 26) = W := ⟨_, rfl⟩
      have hbz := Lib.hid (show Below w4.heap.size w4 V9 from by rw [← hV9]; exact alloc_below _ _)
      have O9 := Lib.hid (show Own V9 w4.heap.size 26 [.int .i64 M7, .slice A9 n7 c9] from by rw [← hV9]; exact Own.new _ _ _)
      have OG' := Lib.hid (OG.out.below' hbz.out)
      have OA' := Lib.hid (OA.out.below' hbz.out)
      have HE' := Lib.hid (HE.out.keep hbz.out)
      have HF' := Lib.hid (HF.out.keep hbz.out)
      have HC' := Lib.hid (HC.out.below hbz.out)
      have O5' := Lib.hid (O5.out.below' hbz.out)
      have H5' := Lib.hid (H5.out.keep hbz.out)
      have H6' := Lib.hid (H6.out.keep hbz.out)
      have H7' := Lib.hid (H7.out.keep hbz.out)
      have HLOW' := Lib.hid (below_chain HLOW.out hbz.out)
      have O7' := Lib.hid (O7.out.below' hbz.out)
      have H9' := Lib.hid (H9.out.keep hbz.out)
      have hb' := Lib.hid (below_chain hb.out hbz.out)
      clear hb OG OA HE HF HC O5 H5 H6 H7 HLOW O7 H9
      have hb := hb'; clear hb'
      have OG := OG'; clear OG'
      have OA := OA'; clear OA'
      have HE := HE'; clear HE'
      have HF := HF'; clear HF'
      have HC := HC'; clear HC'
      have O5 := O5'; clear O5'
      have H5 := H5'; clear H5'
      have H6 := H6'; clear H6'
      have H7 := H7'; clear H7'
      have HLOW := HLOW'; clear HLOW'
      have O7 := O7'; clear O7'
      have H9 := H9'; clear H9'
      clear hbz
      have C11 := Lib.hid ((read_any C bn bc f V9 HC.out (by omega)).mono (fun _ _ he => he.any KM11.out Kx11.out Kl11.out Kn11.out hbn11))
      have qOA := OA.out.cell; have zOA := OA.out.lt; have fOA := OA.out.frozen
      have qO9 := O9.out.cell; have zO9 := O9.out.lt; have fO9 := O9.out.frozen
      go_wp2_with fail
      refine (C11.out).mono ?_
      rintro e w5 ⟨A11, c11, rfl, ha11, hbk⟩
      have hbz := Lib.hid hbk; clear hbk
      have H11 := Lib.hid (ha11)
      clear qOA zOA fOA
      clear qO9 zO9 fO9
      have OG' := Lib.hid (OG.out.below' hbz.out)
      have OA' := Lib.hid (OA.out.below' hbz.out)
      have HE' := Lib.hid (HE.out.keep hbz.out)
      have HF' := Lib.hid (HF.out.keep hbz.out)
      have HC' := Lib.hid (HC.out.below hbz.out)
      have O5' := Lib.hid (O5.out.below' hbz.out)
      have H5' := Lib.hid (H5.out.keep hbz.out)
      have H6' := Lib.hid (H6.out.keep hbz.out)
      have H7' := Lib.hid (H7.out.keep hbz.out)
      have HLOW' := Lib.hid (below_chain HLOW.out hbz.out)
      have O7' := Lib.hid (O7.out.below' hbz.out)
      have H9' := Lib.hid (H9.out.keep hbz.out)
      have O9' := Lib.hid (O9.out.below' hbz.out)
      have hb' := Lib.hid (below_chain hb.out hbz.out)
      clear hb OG OA HE HF HC O5 H5 H6 H7 HLOW O7 H9 O9
      have hb := hb'; clear hb'
      have OG := OG'; clear OG'
      have OA := OA'; clear OA'
      have HE := HE'; clear HE'
      have HF := HF'; clear HF'
      have HC := HC'; clear HC'
      have O5 := O5'; clear O5'
      have H5 := H5'; clear H5'
      have H6 := H6'; clear H6'
      have H7 := H7'; clear H7'
      have HLOW := HLOW'; clear HLOW'
      have O7 := O7'; clear O7'
      have H9 := H9'; clear H9'
      have O9 := O9'; clear O9'
      clear hbz
      clear ha11 C11
      obtain ⟨V11, hV11⟩ : ∃ W, w5.alloc (.cells #[.int .i64 M11, .slice A11 n11 c11] 26) = W := ⟨_, rfl⟩
      have hbz := Lib.hid (show Below w5.heap.size w5 V11 from by rw [← hV11]; exact alloc_below _ _)
      have O11 := Lib.hid (show Own V11 w5.heap.size 26 [.int .i64 M11, .slice A11 n11 c11] from by rw [← hV11]; exact Own.new _ _ _)
      have OG' := Lib.hid (OG.out.below' hbz.out)
      have OA' := Lib.hid (OA.out.below' hbz.out)
      have HE' := Lib.hid (HE.out.keep hbz.out)
      have HF' := Lib.hid (HF.out.keep hbz.out)
      have HC' := Lib.hid (HC.out.below hbz.out)
      have O5' := Lib.hid (O5.out.below' hbz.out)
      have H5' := Lib.hid (H5.out.keep hbz.out)
      have H6' := Lib.hid (H6.out.keep hbz.out)
      have H7' := Lib.hid (H7.out.keep hbz.out)
      have HLOW' := Lib.hid (below_chain HLOW.out hbz.out)
      have O7' := Lib.hid (O7.out.below' hbz.out)
      have H9' := Lib.hid (H9.out.keep hbz.out)
      have O9' := Lib.hid (O9.out.below' hbz.out)
      have H11' := Lib.hid (H11.out.keep hbz.out)
      have hb' := Lib.hid (below_chain hb.out hbz.out)
      clear hb OG OA HE HF HC O5 H5 H6 H7 HLOW O7 H9 O9 H11
      have hb := hb'; clear hb'
      have OG := OG'; clear OG'
      have OA := OA'; clear OA'
      have HE := HE'; clear HE'
      have HF := HF'; clear HF'
      have HC := HC'; clear HC'
      have O5 := O5'; clear O5'
      have H5 := H5'; clear H5'
      have H6 := H6'; clear H6'
      have H7 := H7'; clear H7'
      have HLOW := HLOW'; clear HLOW'
      have O7 := O7'; clear O7'
      have H9 := H9'; clear H9'
      have O9 := O9'; clear O9'
      have H11 := H11'; clear H11'
      clear hbz
      have C13 := Lib.hid ((readR_any C bn bc f V11 HC.out hb1).mono (fun _ _ he => he.any KM11.out Kx11.out Kl11.out Kn11.out hbn11))
      have qOA := OA.out.cell; have zOA := OA.out.lt; have fOA := OA.out.frozen
      have qO11 := O11.out.cell; have zO11 := O11.out.lt; have fO11 := O11.out.frozen
      go_wp2_with fail
      refine (C13.out).mono ?_
      rintro e w6 ⟨A13, c13, rfl, ha13, hbk⟩
      have hbz := Lib.hid hbk; clear hbk
      have H13 := Lib.hid (ha13)
      clear qOA zOA fOA
      clear qO11 zO11 fO11
      have OG' := Lib.hid (OG.out.below' hbz.out)
      have OA' := Lib.hid (OA.out.below' hbz.out)
      have HE' := Lib.hid (HE.out.keep hbz.out)
      have HF' := Lib.hid (HF.out.keep hbz.out)
      have HC' := Lib.hid (HC.out.below hbz.out)
      have O5' := Lib.hid (O5.out.below' hbz.out)
      have H5' := Lib.hid (H5.out.keep hbz.out)
      have H6' := Lib.hid (H6.out.keep hbz.out)
      have H7' := Lib.hid (H7.out.keep hbz.out)
      have HLOW' := Lib.hid (below_chain HLOW.out hbz.out)
      have O7' := Lib.hid (O7.out.below' hbz.out)
      have H9' := Lib.hid (H9.out.keep hbz.out)
      have O9' := Lib.hid (O9.out.below' hbz.out)
      have H11' := Lib.hid (H11.out.keep hbz.out)
      have O11' := Lib.hid (O11.out.below' hbz.out)
      have hb' := Lib.hid (below_chain hb.out hbz.out)
      clear hb OG OA HE HF HC O5 H5 H6 H7 HLOW O7 H9 O9 H11 O11
      have hb := hb'; clear hb'
      have OG := OG'; clear OG'
      have OA := OA'; clear OA'
      have HE := HE'; clear HE'
      have HF := HF'; clear HF'
      have HC := HC'; clear HC'
      have O5 := O5'; clear O5'
      have H5 := H5'; clear H5'
      have H6 := H6'; clear H6'
      have H7 := H7'; clear H7'
      have HLOW := HLOW'; clear HLOW'
      have O7 := O7'; clear O7'
      have H9 := H9'; clear H9'
      have O9 := O9'; clear O9'
      have H11 := H11'; clear H11'
      have O11 := O11'; clear O11'
      clear hbz
      clear ha13 C13
      obtain ⟨V13, hV13⟩ : ∃ W, w6.alloc (.cells #[.int .i64 M11, .slice A13 n11 c13] 26) = W := ⟨_, rfl⟩
      have hbz := Lib.hid (show Below w6.heap.size w6 V13 from by rw [← hV13]; exact alloc_below _ _)
      have O13 := Lib.hid (show Own V13 w6.heap.size 26 [.int .i64 M11, .slice A13 n11 c13] from by rw [← hV13]; exact Own.new _ _ _)
      have OG' := Lib.hid (OG.out.below' hbz.out)
      have OA' := Lib.hid (OA.out.below' hbz.out)
      have HE' := Lib.hid (HE.out.keep hbz.out)
      have HF' := Lib.hid (HF.out.keep hbz.out)
      have HC' := Lib.hid (HC.out.below hbz.out)
      have O5' := Lib.hid (O5.out.below' hbz.out)
      have H5' := Lib.hid (H5.out.keep hbz.out)
      have H6' := Lib.hid (H6.out.keep hbz.out)
      have H7' := Lib.hid (H7.out.keep hbz.out)
      have HLOW' := Lib.hid (below_chain HLOW.out hbz.out)
      have O7' := Lib.hid (O7.out.below' hbz.out)
      have H9' := Lib.hid (H9.out.keep hbz.out)
      have O9' := Lib.hid (O9.out.below' hbz.out)
      have H11' := Lib.hid (H11.out.keep hbz.out)
      have O11' := Lib.hid (O11.out.below' hbz.out)
      have H13' := Lib.hid (H13.out.keep hbz.out)
      have hb' := Lib.hid (below_chain hb.out hbz.out)
      clear hb OG OA HE HF HC O5 H5 H6 H7 HLOW O7 H9 O9 H11 O11 H13
      have hb := hb'; clear hb'
      have OG := OG'; clear OG'
      have OA := OA'; clear OA'
      have HE := HE'; clear HE'
      have HF := HF'; clear HF'
      have HC := HC'; clear HC'
      have O5 := O5'; clear O5'
      have H5 := H5'; clear H5'
      have H6 := H6'; clear H6'
      have H7 := H7'; clear H7'
      have HLOW := HLOW'; clear HLOW'
      have O7 := O7'; clear O7'
      have H9 := H9'; clear H9'
      have O9 := O9'; clear O9'
      have H11 := H11'; clear H11'
      have O11 := O11'; clear O11'
      have H13 := H13'; clear H13'
      clear hbz
      have qO13 := O13.out.cell; have zO13 := O13.out.lt; have fO13 := O13.out.frozen
      go_wp2_with fail
      clear qO13 zO13 fO13
      have C5 := Lib.hid (fun V (hV : Below V13.heap.size V13 V) => O5.out.below' hV)
      have CGG := Lib.hid (fun V (hV : Below V13.heap.size V13 V) => OG.out.below' hV)
      have C7 := Lib.hid (fun V (hV : Below V13.heap.size V13 V) => O7.out.below' hV)
      have C9 := Lib.hid (fun V (hV : Below V13.heap.size V13 V) => O9.out.below' hV)
      have C11 := Lib.hid (fun V (hV : Below V13.heap.size V13 V) => O11.out.below' hV)
      have C13 := Lib.hid (fun V (hV : Below V13.heap.size V13 V) => O13.out.below' hV)
      have D5 := Lib.hid (fun V (hV : Below V13.heap.size V13 V) => H5.out.keep hV)
      have DE := Lib.hid (fun V (hV : Below V13.heap.size V13 V) => HE.out.keep hV)
      have D7 := Lib.hid (fun V (hV : Below V13.heap.size V13 V) => H7.out.keep hV)
      have D9 := Lib.hid (fun V (hV : Below V13.heap.size V13 V) => H9.out.keep hV)
      have D11 := Lib.hid (fun V (hV : Below V13.heap.size V13 V) => H11.out.keep hV)
      have D13 := Lib.hid (fun V (hV : Below V13.heap.size V13 V) => H13.out.keep hV)
      refine region_posts (by kernel_rfl) (tblE9 N A5 n c5 A c r0 M7 A7 n7 c7 A9 c9 M11 A11 n11 c11 A13 c13 x7 x11) (by kernel_rfl) ?_ ?_
      · skip
        refine .yes rfl (fun a W Q hB hO hD => ?_) ?_
        · have e5 : a.tmps.getD 5 undef = .pointer (some ⟨g5, 0, none⟩) := hO.slot 5 _ rfl rfl
          clear hO hD
          have hO2 := C5.out W hB
          have q := hO2.cell
          have z := hO2.lt
          go_wp2
          exact ⟨_, rfl, Below.refl _ _, rfl⟩
        refine .yes rfl (fun a W Q hB hO hD => ?_) ?_
        · have e61 : a.tmps.getD 61 undef = .agg #[.int .i64 N, .slice A5 n c5] := hD 0 rfl
          clear hO hD
          have hc := Lib.hid (rightG_any N A5 n c5 E W (D5.out W hB))
          rw [Kr0.out] at hc
          go_wp2_with fail
          refine hc.out.mono ?_
          rintro e w' ⟨rfl, hbc⟩
          go_wp2
          exact ⟨_, rfl, hbc, rfl⟩
        refine .yes rfl (fun a W Q hB hO hD => ?_) ?_
        · have e2 : a.tmps.getD 2 undef = .pointer (some ⟨w.heap.size, 0, none⟩) := hO.slot 2 _ rfl rfl
          clear hO hD
          have hO2 := CGG.out W hB
          have q := hO2.cell
          have z := hO2.lt
          go_wp2
          exact ⟨_, rfl, Below.refl _ _, rfl⟩
        refine .yes rfl (fun a W Q hB hO hD => ?_) ?_
        · have e63 : a.tmps.getD 63 undef = .agg #[.int .i64 N, .slice A n c] := hD 2 rfl
          clear hO hD
          have hc := Lib.hid (rightR2_any N A n c E W (DE.out W hB))
          rw [Kr0.out] at hc
          go_wp2_with fail
          refine hc.out.mono ?_
          rintro e w' ⟨rfl, hbc⟩
          go_wp2
          exact ⟨_, rfl, hbc, rfl⟩
        refine .yes rfl (fun a W Q hB hO hD => ?_) ?_
        · have e62 : a.tmps.getD 62 undef = .bool r0 := hD 1 rfl
          have e64 : a.tmps.getD 64 undef = .bool r0 := hD 3 rfl
          clear hO hD
          have hx : (r0 != r0) = false := by simp
          go_wp2
          exact ⟨_, rfl, Below.refl _ _, rfl⟩
        refine .yes rfl (fun a W Q hB hO hD => ?_) ?_
        · have e65 : a.tmps.getD 65 undef = .bool false := hD 4 rfl
          clear hO hD
          go_wp2
          exact ⟨_, rfl, Below.refl _ _, rfl⟩
        refine .yes rfl (fun a W Q hB hO hD => ?_) ?_
        · have e8 : a.tmps.getD 8 undef = .int .i64 x7 := hO.slot 8 _ rfl rfl
          clear hO hD
          go_wp2
          exact ⟨_, rfl, Below.refl _ _, rfl⟩
        refine .yes rfl (fun a W Q hB hO hD => ?_) ?_
        · have e10 : a.tmps.getD 10 undef = .int .i64 x7 := hO.slot 10 _ rfl rfl
          clear hO hD
          go_wp2
          exact ⟨_, rfl, Below.refl _ _, rfl⟩
        refine .yes rfl (fun a W Q hB hO hD => ?_) ?_
        · have e67 : a.tmps.getD 67 undef = .int .i64 x7 := hD 6 rfl
          have e68 : a.tmps.getD 68 undef = .int .i64 x7 := hD 7 rfl
          clear hO hD
          have hx : (x7 != x7) = false := by simp
          go_wp2
          exact ⟨_, rfl, Below.refl _ _, rfl⟩
        refine .yes rfl (fun a W Q hB hO hD => ?_) ?_
        · have e66 : a.tmps.getD 66 undef = .bool false := hD 5 rfl
          have e69 : a.tmps.getD 69 undef = .bool false := hD 8 rfl
          clear hO hD
          go_wp2
          exact ⟨_, rfl, Below.refl _ _, rfl⟩
        refine .yes rfl (fun a W Q hB hO hD => ?_) ?_
        · have e70 : a.tmps.getD 70 undef = .bool false := hD 9 rfl
          clear hO hD
          go_wp2
          exact ⟨_, rfl, Below.refl _ _, rfl⟩
        refine .yes rfl (fun a W Q hB hO hD => ?_) ?_
        · have e12 : a.tmps.getD 12 undef = .int .i64 x11 := hO.slot 12 _ rfl rfl
          clear hO hD
          go_wp2
          exact ⟨_, rfl, Below.refl _ _, rfl⟩
        refine .yes rfl (fun a W Q hB hO hD => ?_) ?_
        · have e14 : a.tmps.getD 14 undef = .int .i64 x11 := hO.slot 14 _ rfl rfl
          clear hO hD
          go_wp2
          exact ⟨_, rfl, Below.refl _ _, rfl⟩
        refine .yes rfl (fun a W Q hB hO hD => ?_) ?_
        · have e72 : a.tmps.getD 72 undef = .int .i64 x11 := hD 11 rfl
          have e73 : a.tmps.getD 73 undef = .int .i64 x11 := hD 12 rfl
          clear hO hD
          have hx : (x11 != x11) = false := by simp
          go_wp2
          exact ⟨_, rfl, Below.refl _ _, rfl⟩
        refine .yes rfl (fun a W Q hB hO hD => ?_) ?_
        · have e71 : a.tmps.getD 71 undef = .bool false := hD 10 rfl
          have e74 : a.tmps.getD 74 undef = .bool false := hD 13 rfl
          clear hO hD
          go_wp2
          exact ⟨_, rfl, Below.refl _ _, rfl⟩
        refine .yes rfl (fun a W Q hB hO hD => ?_) ?_
        · have e75 : a.tmps.getD 75 undef = .bool false := hD 14 rfl
          clear hO hD
          go_wp2
          exact ⟨_, rfl, Below.refl _ _, rfl⟩
        refine .yes rfl (fun a W Q hB hO hD => ?_) ?_
        · have e7 : a.tmps.getD 7 undef = .pointer (some ⟨w3.heap.size, 0, none⟩) := hO.slot 7 _ rfl rfl
          clear hO hD
          have hO2 := C7.out W hB
          have q := hO2.cell
          have z := hO2.lt
          go_wp2
          exact ⟨_, rfl, Below.refl _ _, rfl⟩
        refine .yes rfl (fun a W Q hB hO hD => ?_) ?_
        · have e9 : a.tmps.getD 9 undef = .pointer (some ⟨w4.heap.size, 0, none⟩) := hO.slot 9 _ rfl rfl
          clear hO hD
          have hO2 := C9.out W hB
          have q := hO2.cell
          have z := hO2.lt
          go_wp2
          exact ⟨_, rfl, Below.refl _ _, rfl⟩
        refine .yes rfl (fun a W Q hB hO hD => ?_) ?_
        · have e77 : a.tmps.getD 77 undef = .agg #[.int .i64 M7, .slice A7 n7 c7] := hD 16 rfl
          have e78 : a.tmps.getD 78 undef = .agg #[.int .i64 M7, .slice A9 n7 c9] := hD 17 rfl
          clear hO hD
          have hc := Lib.hid (sameGraph_any M7 M7 A7 A9 c7 c9 n7 n7 l7 l7 W (D7.out W hB) (D9.out W hB))
          rw [self_same] at hc
          go_wp2_with fail
          refine hc.out.mono ?_
          rintro e w' ⟨rfl, hbc⟩
          go_wp2
          exact ⟨_, rfl, hbc, rfl⟩
        refine .yes rfl (fun a W Q hB hO hD => ?_) ?_
        · have e79 : a.tmps.getD 79 undef = .bool true := hD 18 rfl
          clear hO hD
          go_wp2
          exact ⟨_, rfl, Below.refl _ _, rfl⟩
        refine .yes rfl (fun a W Q hB hO hD => ?_) ?_
        · have e76 : a.tmps.getD 76 undef = .bool false := hD 15 rfl
          have e80 : a.tmps.getD 80 undef = .bool false := hD 19 rfl
          clear hO hD
          go_wp2
          exact ⟨_, rfl, Below.refl _ _, rfl⟩
        refine .yes rfl (fun a W Q hB hO hD => ?_) ?_
        · have e81 : a.tmps.getD 81 undef = .bool false := hD 20 rfl
          clear hO hD
          go_wp2
          exact ⟨_, rfl, Below.refl _ _, rfl⟩
        refine .yes rfl (fun a W Q hB hO hD => ?_) ?_
        · have e11 : a.tmps.getD 11 undef = .pointer (some ⟨w5.heap.size, 0, none⟩) := hO.slot 11 _ rfl rfl
          clear hO hD
          have hO2 := C11.out W hB
          have q := hO2.cell
          have z := hO2.lt
          go_wp2
          exact ⟨_, rfl, Below.refl _ _, rfl⟩
        refine .yes rfl (fun a W Q hB hO hD => ?_) ?_
        · have e13 : a.tmps.getD 13 undef = .pointer (some ⟨w6.heap.size, 0, none⟩) := hO.slot 13 _ rfl rfl
          clear hO hD
          have hO2 := C13.out W hB
          have q := hO2.cell
          have z := hO2.lt
          go_wp2
          exact ⟨_, rfl, Below.refl _ _, rfl⟩
        refine .yes rfl (fun a W Q hB hO hD => ?_) ?_
        · have e83 : a.tmps.getD 83 undef = .agg #[.int .i64 M11, .slice A11 n11 c11] := hD 22 rfl
          have e84 : a.tmps.getD 84 undef = .agg #[.int .i64 M11, .slice A13 n11 c13] := hD 23 rfl
          clear hO hD
          have hc := Lib.hid (sameGraph_any M11 M11 A11 A13 c11 c13 n11 n11 l11 l11 W (D11.out W hB) (D13.out W hB))
          rw [self_same] at hc
          go_wp2_with fail
          refine hc.out.mono ?_
          rintro e w' ⟨rfl, hbc⟩
          go_wp2
          exact ⟨_, rfl, hbc, rfl⟩
        refine .yes rfl (fun a W Q hB hO hD => ?_) ?_
        · have e85 : a.tmps.getD 85 undef = .bool true := hD 24 rfl
          clear hO hD
          go_wp2
          exact ⟨_, rfl, Below.refl _ _, rfl⟩
        refine .yes rfl (fun a W Q hB hO hD => ?_) ?_
        · have e82 : a.tmps.getD 82 undef = .bool false := hD 21 rfl
          have e86 : a.tmps.getD 86 undef = .bool false := hD 25 rfl
          clear hO hD
          go_wp2
          exact ⟨_, rfl, Below.refl _ _, rfl⟩
        exact .nil
      · intro f9 V9 hBz hR
        have e26 : f9 26 = .bool false := hR 26 (by decide)
        have hbz := Lib.hid hBz
        clear hBz hR C5 CGG C7 C9 C11 C13 D5 DE D7 D9 D11 D13
        have OG' := Lib.hid (OG.out.below' hbz.out)
        have OA' := Lib.hid (OA.out.below' hbz.out)
        have HE' := Lib.hid (HE.out.keep hbz.out)
        have HF' := Lib.hid (HF.out.keep hbz.out)
        have HC' := Lib.hid (HC.out.below hbz.out)
        have O5' := Lib.hid (O5.out.below' hbz.out)
        have H5' := Lib.hid (H5.out.keep hbz.out)
        have H6' := Lib.hid (H6.out.keep hbz.out)
        have H7' := Lib.hid (H7.out.keep hbz.out)
        have HLOW' := Lib.hid (below_chain HLOW.out hbz.out)
        have O7' := Lib.hid (O7.out.below' hbz.out)
        have H9' := Lib.hid (H9.out.keep hbz.out)
        have O9' := Lib.hid (O9.out.below' hbz.out)
        have H11' := Lib.hid (H11.out.keep hbz.out)
        have O11' := Lib.hid (O11.out.below' hbz.out)
        have H13' := Lib.hid (H13.out.keep hbz.out)
        have O13' := Lib.hid (O13.out.below' hbz.out)
        have hb' := Lib.hid (below_chain hb.out hbz.out)
        clear hb OG OA HE HF HC O5 H5 H6 H7 HLOW O7 H9 O9 H11 O11 H13 O13
        have hb := hb'; clear hb'
        have OG := OG'; clear OG'
        have OA := OA'; clear OA'
        have HE := HE'; clear HE'
        have HF := HF'; clear HF'
        have HC := HC'; clear HC'
        have O5 := O5'; clear O5'
        have H5 := H5'; clear H5'
        have H6 := H6'; clear H6'
        have H7 := H7'; clear H7'
        have HLOW := HLOW'; clear HLOW'
        have O7 := O7'; clear O7'
        have H9 := H9'; clear H9'
        have O9 := O9'; clear O9'
        have H11 := H11'; clear H11'
        have O11 := O11'; clear O11'
        have H13 := H13'; clear H13'
        have O13 := O13'; clear O13'
        clear hbz
        simp only [putAll, Nat.zero_add, Nat.reduceAdd, Act.put, List.setIfInBounds_toArray, List.set_cons_zero, List.set_cons_succ, e26]
        clear e26
        clear O11
        clear O13
        clear H11
        clear H13
        clear H7
        clear H9
        have C14 := Lib.hid ((parse_any l V9 hl9).mono (fun _ _ he => GrE.anyR he KMp.out Kxp.out Klp.out Knp.out hbnp))
        have qOA := OA.out.cell; have zOA := OA.out.lt; have fOA := OA.out.frozen
        go_wp2_with fail
        refine (C14.out).mono ?_
        rintro e w7 ⟨A14, c14, rfl, hr14, hbk⟩
        have hbz := Lib.hid hbk; clear hbk
        have R14 := Lib.hid (hr14)
        clear qOA zOA fOA
        have OG' := Lib.hid (OG.out.below' hbz.out)
        have OA' := Lib.hid (OA.out.below' hbz.out)
        have HE' := Lib.hid (HE.out.keep hbz.out)
        have HF' := Lib.hid (HF.out.keep hbz.out)
        have HC' := Lib.hid (HC.out.below hbz.out)
        have O5' := Lib.hid (O5.out.below' hbz.out)
        have H5' := Lib.hid (H5.out.keep hbz.out)
        have H6' := Lib.hid (H6.out.keep hbz.out)
        have HLOW' := Lib.hid (below_chain HLOW.out hbz.out)
        have O7' := Lib.hid (O7.out.below' hbz.out)
        have O9' := Lib.hid (O9.out.below' hbz.out)
        have hb' := Lib.hid (below_chain hb.out hbz.out)
        clear hb OG OA HE HF HC O5 H5 H6 HLOW O7 O9
        have hb := hb'; clear hb'
        have OG := OG'; clear OG'
        have OA := OA'; clear OA'
        have HE := HE'; clear HE'
        have HF := HF'; clear HF'
        have HC := HC'; clear HC'
        have O5 := O5'; clear O5'
        have H5 := H5'; clear H5'
        have H6 := H6'; clear H6'
        have HLOW := HLOW'; clear HLOW'
        have O7 := O7'; clear O7'
        have O9 := O9'; clear O9'
        clear hbz
        clear hr14 C14
        obtain ⟨X14, hX14⟩ : ∃ W, (w7.setCell ⟨w3.heap.size, 0, none⟩ (.int .i64 Mp)).setCell ⟨w3.heap.size, 1, none⟩ (.slice A14 np c14) = W := ⟨_, rfl⟩
        have hle14 : w3.heap.size ≤ w3.heap.size := Nat.le_refl _
        have HLOW' := Lib.hid (show Below w3.heap.size w3 X14 from by rw [← hX14]; exact (HLOW.out.setCell (p := ⟨w3.heap.size, 0, none⟩) hle14 _).setCell (p := ⟨w3.heap.size, 1, none⟩) hle14 _)
        clear HLOW hle14
        have HLOW := HLOW'; clear HLOW'
        clear OG
        have OG := Lib.hid (OGb.out.below' HLOW.out)
        clear OA
        have OA := Lib.hid (OAb.out.below' HLOW.out)
        clear HE
        have HE := Lib.hid (HEb.out.keep HLOW.out)
        clear HF
        have HF := Lib.hid (HFb.out.keep HLOW.out)
        clear HC
        have HC := Lib.hid (HCb.out.below HLOW.out)
        clear O5
        have O5 := Lib.hid (O5b.out.below' HLOW.out)
        clear H5
        have H5 := Lib.hid (H5b.out.keep HLOW.out)
        clear H6
        have H6 := Lib.hid (H6b.out.keep HLOW.out)
        clear hb
        have hb := Lib.hid (below_chain hb3.out HLOW.out)
        have O9' := Lib.hid (show Own X14 w4.heap.size 26 _ from by rw [← hX14]; exact (O9.out.far (p := ⟨w3.heap.size, 0, none⟩) (Nat.ne_of_gt LT9.out) _).far (p := ⟨w3.heap.size, 1, none⟩) (Nat.ne_of_gt LT9.out) _)
        clear O9
        have O9 := O9'; clear O9'
        have R14' := Lib.hid (show RowE _ X14 _ lp from by rw [← hX14]; exact rowE_box R14.out O7.out _ _)
        clear R14
        have R14 := R14'; clear R14'
        have qO7x := O7.out.cell; have zO7x := O7.out.lt; have fO7x := O7.out.frozen
        have O7' := Lib.hid (show Own X14 w3.heap.size 26 [.int .i64 Mp, .slice A14 np c14] from by rw [← hX14]; exact (O7.out.set 0 (.int .i64 Mp)).set 1 (.slice A14 np c14))
        clear O7
        have O7 := O7'; clear O7'
        have C17 := Lib.hid ((parseR_any l X14 hl9).mono (fun _ _ he => GrE.anyR he KMp.out Kxp.out Klp.out Knp.out hbnp))
        have qOA := OA.out.cell; have zOA := OA.out.lt; have fOA := OA.out.frozen
        go_wp2_with fail
        refine (C17.out).mono ?_
        rintro e w8 ⟨A17, c17, rfl, hr17, hbk⟩
        have hbz := Lib.hid hbk; clear hbk
        have R17 := Lib.hid (hr17)
        clear qOA zOA fOA
        have OG' := Lib.hid (OG.out.below' hbz.out)
        have OA' := Lib.hid (OA.out.below' hbz.out)
        have HE' := Lib.hid (HE.out.keep hbz.out)
        have HF' := Lib.hid (HF.out.keep hbz.out)
        have HC' := Lib.hid (HC.out.below hbz.out)
        have O5' := Lib.hid (O5.out.below' hbz.out)
        have H5' := Lib.hid (H5.out.keep hbz.out)
        have H6' := Lib.hid (H6.out.keep hbz.out)
        have HLOW' := Lib.hid (below_chain HLOW.out hbz.out)
        have O7' := Lib.hid (O7.out.below' hbz.out)
        have O9' := Lib.hid (O9.out.below' hbz.out)
        have R14' := Lib.hid (R14.out.below hbz.out)
        have hb' := Lib.hid (below_chain hb.out hbz.out)
        clear hb OG OA HE HF HC O5 H5 H6 HLOW O7 O9 R14
        have hb := hb'; clear hb'
        have OG := OG'; clear OG'
        have OA := OA'; clear OA'
        have HE := HE'; clear HE'
        have HF := HF'; clear HF'
        have HC := HC'; clear HC'
        have O5 := O5'; clear O5'
        have H5 := H5'; clear H5'
        have H6 := H6'; clear H6'
        have HLOW := HLOW'; clear HLOW'
        have O7 := O7'; clear O7'
        have O9 := O9'; clear O9'
        have R14 := R14'; clear R14'
        clear hbz
        clear hr17 C17 qO7x zO7x fO7x
        obtain ⟨X17, hX17⟩ : ∃ W, (w8.setCell ⟨w4.heap.size, 0, none⟩ (.int .i64 Mp)).setCell ⟨w4.heap.size, 1, none⟩ (.slice A17 np c17) = W := ⟨_, rfl⟩
        have hle17 : w3.heap.size ≤ w4.heap.size := Nat.le_of_lt LT9.out
        have HLOW' := Lib.hid (show Below w3.heap.size w3 X17 from by rw [← hX17]; exact (HLOW.out.setCell (p := ⟨w4.heap.size, 0, none⟩) hle17 _).setCell (p := ⟨w4.heap.size, 1, none⟩) hle17 _)
        clear HLOW hle17
        have HLOW := HLOW'; clear HLOW'
        clear OG
        have OG := Lib.hid (OGb.out.below' HLOW.out)
        clear OA
        have OA := Lib.hid (OAb.out.below' HLOW.out)
        clear HE
        have HE := Lib.hid (HEb.out.keep HLOW.out)
        clear HF
        have HF := Lib.hid (HFb.out.keep HLOW.out)
        clear HC
        have HC := Lib.hid (HCb.out.below HLOW.out)
        clear O5
        have O5 := Lib.hid (O5b.out.below' HLOW.out)
        clear H5
        have H5 := Lib.hid (H5b.out.keep HLOW.out)
        clear H6
        have H6 := Lib.hid (H6b.out.keep HLOW.out)
        clear hb
        have hb := Lib.hid (below_chain hb3.out HLOW.out)
        have O7' := Lib.hid (show Own X17 w3.heap.size 26 _ from by rw [← hX17]; exact (O7.out.far (p := ⟨w4.heap.size, 0, none⟩) (Nat.ne_of_lt LT9.out) _).far (p := ⟨w4.heap.size, 1, none⟩) (Nat.ne_of_lt LT9.out) _)
        clear O7
        have O7 := O7'; clear O7'
        have R14' := Lib.hid (show RowE _ X17 _ lp from by rw [← hX17]; exact rowE_box R14.out O9.out _ _)
        clear R14
        have R14 := R14'; clear R14'
        have R17' := Lib.hid (show RowE _ X17 _ lp from by rw [← hX17]; exact rowE_box R17.out O9.out _ _)
        clear R17
        have R17 := R17'; clear R17'
        have qO9x := O9.out.cell; have zO9x := O9.out.lt; have fO9x := O9.out.frozen
        have O9' := Lib.hid (show Own X17 w4.heap.size 26 [.int .i64 Mp, .slice A17 np c17] from by rw [← hX17]; exact (O9.out.set 0 (.int .i64 Mp)).set 1 (.slice A17 np c17))
        clear O9
        have O9 := O9'; clear O9'
        have C15 := Lib.hid ((bytesG_any N A5 n c5 E X17 H5.out).mono (fun _ _ he => bytesP_any he Kxb.out Knb.out Kfb.out))
        have qO5 := O5.out.cell; have zO5 := O5.out.lt; have fO5 := O5.out.frozen
        go_wp2_with fail
        refine (C15.out).mono ?_
        rintro e w9 ⟨A15, c15, rfl, hr15, hbk⟩
        have hbz := Lib.hid hbk; clear hbk
        have B15 := Lib.hid (hr15)
        clear qO5 zO5 fO5
        have OG' := Lib.hid (OG.out.below' hbz.out)
        have OA' := Lib.hid (OA.out.below' hbz.out)
        have HE' := Lib.hid (HE.out.keep hbz.out)
        have HF' := Lib.hid (HF.out.keep hbz.out)
        have HC' := Lib.hid (HC.out.below hbz.out)
        have O5' := Lib.hid (O5.out.below' hbz.out)
        have H5' := Lib.hid (H5.out.keep hbz.out)
        have H6' := Lib.hid (H6.out.keep hbz.out)
        have HLOW' := Lib.hid (below_chain HLOW.out hbz.out)
        have O7' := Lib.hid (O7.out.below' hbz.out)
        have O9' := Lib.hid (O9.out.below' hbz.out)
        have R14' := Lib.hid (R14.out.below hbz.out)
        have R17' := Lib.hid (R17.out.below hbz.out)
        have hb' := Lib.hid (below_chain hb.out hbz.out)
        clear hb OG OA HE HF HC O5 H5 H6 HLOW O7 O9 R14 R17
        have hb := hb'; clear hb'
        have OG := OG'; clear OG'
        have OA := OA'; clear OA'
        have HE := HE'; clear HE'
        have HF := HF'; clear HF'
        have HC := HC'; clear HC'
        have O5 := O5'; clear O5'
        have H5 := H5'; clear H5'
        have H6 := H6'; clear H6'
        have HLOW := HLOW'; clear HLOW'
        have O7 := O7'; clear O7'
        have O9 := O9'; clear O9'
        have R14 := R14'; clear R14'
        have R17 := R17'; clear R17'
        clear hbz
        clear hr15 C15 qO9x zO9x fO9x
        have C16 := Lib.hid ((bytesR_any N A n c E w9 HE.out).mono (fun _ _ he => bytesP_any he Kxb.out Knb.out Kfb.out))
        have qOG := OG.out.cell; have zOG := OG.out.lt; have fOG := OG.out.frozen
        go_wp2_with fail
        refine (C16.out).mono ?_
        rintro e w10 ⟨A16, c16, rfl, hr16, hbk⟩
        have hbz := Lib.hid hbk; clear hbk
        have B16 := Lib.hid (hr16)
        clear qOG zOG fOG
        have OG' := Lib.hid (OG.out.below' hbz.out)
        have OA' := Lib.hid (OA.out.below' hbz.out)
        have HE' := Lib.hid (HE.out.keep hbz.out)
        have HF' := Lib.hid (HF.out.keep hbz.out)
        have HC' := Lib.hid (HC.out.below hbz.out)
        have O5' := Lib.hid (O5.out.below' hbz.out)
        have H5' := Lib.hid (H5.out.keep hbz.out)
        have H6' := Lib.hid (H6.out.keep hbz.out)
        have HLOW' := Lib.hid (below_chain HLOW.out hbz.out)
        have O7' := Lib.hid (O7.out.below' hbz.out)
        have O9' := Lib.hid (O9.out.below' hbz.out)
        have R14' := Lib.hid (R14.out.below hbz.out)
        have R17' := Lib.hid (R17.out.below hbz.out)
        have B15' := Lib.hid (B15.out.below hbz.out)
        have hb' := Lib.hid (below_chain hb.out hbz.out)
        clear hb OG OA HE HF HC O5 H5 H6 HLOW O7 O9 R14 R17 B15
        have hb := hb'; clear hb'
        have OG := OG'; clear OG'
        have OA := OA'; clear OA'
        have HE := HE'; clear HE'
        have HF := HF'; clear HF'
        have HC := HC'; clear HC'
        have O5 := O5'; clear O5'
        have H5 := H5'; clear H5'
        have H6 := H6'; clear H6'
        have HLOW := HLOW'; clear HLOW'
        have O7 := O7'; clear O7'
        have O9 := O9'; clear O9'
        have R14 := R14'; clear R14'
        have R17 := R17'; clear R17'
        have B15 := B15'; clear B15'
        clear hbz
        clear hr16 C16
        have CT := Lib.hid (text_any N A5 n c5 E w10 H5.out ((HT.out.on hb.out).mono hb.out.size))
        rw [KT.out] at CT
        have qO5 := O5.out.cell; have zO5 := O5.out.lt; have fO5 := O5.out.frozen
        go_wp2_with fail
        refine (CT.out).mono ?_
        rintro e w11 ⟨rfl, hbk⟩
        have hbz := Lib.hid hbk; clear hbk
        clear qO5 zO5 fO5
        have OG' := Lib.hid (OG.out.below' hbz.out)
        have OA' := Lib.hid (OA.out.below' hbz.out)
        have HE' := Lib.hid (HE.out.keep hbz.out)
        have HF' := Lib.hid (HF.out.keep hbz.out)
        have HC' := Lib.hid (HC.out.below hbz.out)
        have O5' := Lib.hid (O5.out.below' hbz.out)
        have H5' := Lib.hid (H5.out.keep hbz.out)
        have H6' := Lib.hid (H6.out.keep hbz.out)
        have HLOW' := Lib.hid (below_chain HLOW.out hbz.out)
        have O7' := Lib.hid (O7.out.below' hbz.out)
        have O9' := Lib.hid (O9.out.below' hbz.out)
        have R14' := Lib.hid (R14.out.below hbz.out)
        have R17' := Lib.hid (R17.out.below hbz.out)
        have B15' := Lib.hid (B15.out.below hbz.out)
        have B16' := Lib.hid (B16.out.below hbz.out)
        have hb' := Lib.hid (below_chain hb.out hbz.out)
        clear hb OG OA HE HF HC O5 H5 H6 HLOW O7 O9 R14 R17 B15 B16
        have hb := hb'; clear hb'
        have OG := OG'; clear OG'
        have OA := OA'; clear OA'
        have HE := HE'; clear HE'
        have HF := HF'; clear HF'
        have HC := HC'; clear HC'
        have O5 := O5'; clear O5'
        have H5 := H5'; clear H5'
        have H6 := H6'; clear H6'
        have HLOW := HLOW'; clear HLOW'
        have O7 := O7'; clear O7'
        have O9 := O9'; clear O9'
        have R14 := R14'; clear R14'
        have R17 := R17'; clear R17'
        have B15 := B15'; clear B15'
        have B16 := B16'; clear B16'
        clear hbz
        clear CT
        have CT := Lib.hid (textS_any N A n c E w11 HE.out)
        rw [KT.out] at CT
        have qOG := OG.out.cell; have zOG := OG.out.lt; have fOG := OG.out.frozen
        go_wp2_with fail
        refine (CT.out).mono ?_
        rintro e w12 ⟨rfl, hbk⟩
        have hbz := Lib.hid hbk; clear hbk
        clear qOG zOG fOG
        have OG' := Lib.hid (OG.out.below' hbz.out)
        have OA' := Lib.hid (OA.out.below' hbz.out)
        have HE' := Lib.hid (HE.out.keep hbz.out)
        have HF' := Lib.hid (HF.out.keep hbz.out)
        have HC' := Lib.hid (HC.out.below hbz.out)
        have O5' := Lib.hid (O5.out.below' hbz.out)
        have H5' := Lib.hid (H5.out.keep hbz.out)
        have H6' := Lib.hid (H6.out.keep hbz.out)
        have HLOW' := Lib.hid (below_chain HLOW.out hbz.out)
        have O7' := Lib.hid (O7.out.below' hbz.out)
        have O9' := Lib.hid (O9.out.below' hbz.out)
        have R14' := Lib.hid (R14.out.below hbz.out)
        have R17' := Lib.hid (R17.out.below hbz.out)
        have B15' := Lib.hid (B15.out.below hbz.out)
        have B16' := Lib.hid (B16.out.below hbz.out)
        have hb' := Lib.hid (below_chain hb.out hbz.out)
        clear hb OG OA HE HF HC O5 H5 H6 HLOW O7 O9 R14 R17 B15 B16
        have hb := hb'; clear hb'
        have OG := OG'; clear OG'
        have OA := OA'; clear OA'
        have HE := HE'; clear HE'
        have HF := HF'; clear HF'
        have HC := HC'; clear HC'
        have O5 := O5'; clear O5'
        have H5 := H5'; clear H5'
        have H6 := H6'; clear H6'
        have HLOW := HLOW'; clear HLOW'
        have O7 := O7'; clear O7'
        have O9 := O9'; clear O9'
        have R14 := R14'; clear R14'
        have R17 := R17'; clear R17'
        have B15 := B15'; clear B15'
        have B16 := B16'; clear B16'
        clear hbz
        clear CT
        have CS := Lib.hid (sameGraph_any Mp Mp A14 A17 c14 c17 np np lp lp w12 (R14.out.toArg hbnp) (R17.out.toArg hbnp))
        rw [self_same] at CS
        have bx : (xp != xp) = false := bne_self_eq_false _
        have by1 : (xb != xb) = false := bne_self_eq_false _
        have bt : (xt != xt) = false := bne_self_eq_false _
        have qO7 := O7.out.cell; have zO7 := O7.out.lt; have fO7 := O7.out.frozen
        have qO9 := O9.out.cell; have zO9 := O9.out.lt; have fO9 := O9.out.frozen
        go_wp2_with fail
        refine (CS.out).mono ?_
        rintro e w13 ⟨rfl, hbk⟩
        have hbz := Lib.hid hbk; clear hbk
        clear qO7 zO7 fO7
        clear qO9 zO9 fO9
        have OG' := Lib.hid (OG.out.below' hbz.out)
        have OA' := Lib.hid (OA.out.below' hbz.out)
        have HE' := Lib.hid (HE.out.keep hbz.out)
        have HF' := Lib.hid (HF.out.keep hbz.out)
        have HC' := Lib.hid (HC.out.below hbz.out)
        have O5' := Lib.hid (O5.out.below' hbz.out)
        have H5' := Lib.hid (H5.out.keep hbz.out)
        have H6' := Lib.hid (H6.out.keep hbz.out)
        have HLOW' := Lib.hid (below_chain HLOW.out hbz.out)
        have O7' := Lib.hid (O7.out.below' hbz.out)
        have O9' := Lib.hid (O9.out.below' hbz.out)
        have R14' := Lib.hid (R14.out.below hbz.out)
        have R17' := Lib.hid (R17.out.below hbz.out)
        have B15' := Lib.hid (B15.out.below hbz.out)
        have B16' := Lib.hid (B16.out.below hbz.out)
        have hb' := Lib.hid (below_chain hb.out hbz.out)
        clear hb OG OA HE HF HC O5 H5 H6 HLOW O7 O9 R14 R17 B15 B16
        have hb := hb'; clear hb'
        have OG := OG'; clear OG'
        have OA := OA'; clear OA'
        have HE := HE'; clear HE'
        have HF := HF'; clear HF'
        have HC := HC'; clear HC'
        have O5 := O5'; clear O5'
        have H5 := H5'; clear H5'
        have H6 := H6'; clear H6'
        have HLOW := HLOW'; clear HLOW'
        have O7 := O7'; clear O7'
        have O9 := O9'; clear O9'
        have R14 := R14'; clear R14'
        have R17 := R17'; clear R17'
        have B15 := B15'; clear B15'
        have B16 := B16'; clear B16'
        clear hbz
        clear CS
        have CS := Lib.hid (sameBytes_any A15 A16 nb c15 nb c16 fb fb w13 B15.out B16.out)
        rw [sameB_self] at CS
        go_wp2_with fail
        refine CS.out.mono ?_
        rintro e _ ⟨rfl, rfl⟩
        clear CS
        clear R14
        clear R17
        clear O7
        clear O9
        clear B15
        clear B16
        have qO5 := O5.out.cell; have zO5 := O5.out.lt; have fO5 := O5.out.frozen
        go_wp2_with fail
        clear qO5 zO5 fO5
        have C5 := Lib.hid (fun V (hV : Below w13.heap.size w13 V) => O5.out.below' hV)
        have CGG := Lib.hid (fun V (hV : Below w13.heap.size w13 V) => OG.out.below' hV)
        have CA := Lib.hid (fun V (hV : Below w13.heap.size w13 V) => OA.out.below' hV)
        have D5 := Lib.hid (fun V (hV : Below w13.heap.size w13 V) => H5.out.keep hV)
        have DE := Lib.hid (fun V (hV : Below w13.heap.size w13 V) => HE.out.keep hV)
        have D6 := Lib.hid (fun V (hV : Below w13.heap.size w13 V) => H6.out.keep hV)
        have DF := Lib.hid (fun V (hV : Below w13.heap.size w13 V) => HF.out.keep hV)
        have TV := Lib.hid (fun V (hV : Below w13.heap.size w13 V) => (HT.out.on (below_chain hb.out hV)).mono (below_chain hb.out hV).size)
        refine region_posts (by kernel_rfl) (tblE19 (w.heap.size + 1) N A5 n c5 A c nc cs X Y p0 A6 m c6 B d) (by kernel_rfl) ?_ ?_
        · skip
          refine .yes rfl (fun a W Q hB hO hD => ?_) ?_
          · have e5 : a.tmps.getD 5 undef = .pointer (some ⟨g5, 0, none⟩) := hO.slot 5 _ rfl rfl
            clear hO hD
            have hO2 := C5.out W hB
            have q := hO2.cell
            have z := hO2.lt
            go_wp2
            exact ⟨_, rfl, Below.refl _ _, rfl⟩
          refine .yes rfl (fun a W Q hB hO hD => ?_) ?_
          · have e150 : a.tmps.getD 150 undef = .agg #[.int .i64 N, .slice A5 n c5] := hD 0 rfl
            clear hO hD
            have hc := Lib.hid ((beside_any N A5 n c5 E W (D5.out W hB)).mono (fun _ _ he => besideP_any he Kcs.out Knc.out hbnc HCS.out))
            go_wp2_with fail
            refine hc.out.mono ?_
            rintro e w' ⟨A9, c9, rfl, hr, hbc⟩
            go_wp2
            exact ⟨_, rfl, hbc, _, _, rfl, hr⟩
          refine .yes rfl (fun a W Q hB hO hD => ?_) ?_
          · have e2 : a.tmps.getD 2 undef = .pointer (some ⟨w.heap.size, 0, none⟩) := hO.slot 2 _ rfl rfl
            clear hO hD
            have hO2 := CGG.out W hB
            have q := hO2.cell
            have z := hO2.lt
            go_wp2
            exact ⟨_, rfl, Below.refl _ _, rfl⟩
          refine .yes rfl (fun a W Q hB hO hD => ?_) ?_
          · have e152 : a.tmps.getD 152 undef = .agg #[.int .i64 N, .slice A n c] := hD 2 rfl
            clear hO hD
            have hc := Lib.hid ((besideR_any N A n c E W (DE.out W hB)).mono (fun _ _ he => besideP_any he Kcs.out Knc.out hbnc HCS.out))
            go_wp2_with fail
            refine hc.out.mono ?_
            rintro e w' ⟨A9, c9, rfl, hr, hbc⟩
            go_wp2
            exact ⟨_, rfl, hbc, _, _, rfl, hr⟩
          refine .yes rfl (fun a W Q hB hO hD => ?_) ?_
          · obtain ⟨A151, c151, e151, h151⟩ : ∃ A c, (a.tmps.getD 151 undef) = .slice A nc c ∧ ArgL W A nc c cs := hD 1 rfl
            obtain ⟨A153, c153, e153, h153⟩ : ∃ A c, (a.tmps.getD 153 undef) = .slice A nc c ∧ ArgL W A nc c cs := hD 3 rfl
            clear hO hD
            have hc := Lib.hid (sameLists_any A151 A153 c151 c153 nc nc cs cs W h151 h153)
            rw [beq_self_eq_true] at hc
            go_wp2_with fail
            refine hc.out.mono ?_
            rintro e w' ⟨rfl, hbc⟩
            go_wp2
            exact ⟨_, rfl, hbc, rfl⟩
          refine .yes rfl (fun a W Q hB hO hD => ?_) ?_
          · have e154 : a.tmps.getD 154 undef = .bool true := hD 4 rfl
            clear hO hD
            go_wp2
            exact ⟨_, rfl, Below.refl _ _, rfl⟩
          refine .yes rfl (fun a W Q hB hO hD => ?_) ?_
          · have e5 : a.tmps.getD 5 undef = .pointer (some ⟨g5, 0, none⟩) := hO.slot 5 _ rfl rfl
            clear hO hD
            have hO2 := C5.out W hB
            have q := hO2.cell
            have z := hO2.lt
            go_wp2
            exact ⟨_, rfl, Below.refl _ _, rfl⟩
          refine .yes rfl (fun a W Q hB hO hD => ?_) ?_
          · have e3 : a.tmps.getD 3 undef = .pointer (some ⟨w.heap.size + 1, 0, none⟩) := hO.slot 3 _ rfl rfl
            clear hO hD
            go_wp2
            exact ⟨_, rfl, Below.refl _ _, rfl⟩
          refine .yes rfl (fun a W Q hB hO hD => ?_) ?_
          · have e157 : a.tmps.getD 157 undef = .pointer (some ⟨w.heap.size + 1, 1, none⟩) := hD 7 rfl
            clear hO hD
            have hO2 := CA.out W hB
            have q := hO2.cell
            have z := hO2.lt
            go_wp2
            exact ⟨_, rfl, Below.refl _ _, rfl⟩
          refine .yes rfl (fun a W Q hB hO hD => ?_) ?_
          · have e3 : a.tmps.getD 3 undef = .pointer (some ⟨w.heap.size + 1, 0, none⟩) := hO.slot 3 _ rfl rfl
            clear hO hD
            go_wp2
            exact ⟨_, rfl, Below.refl _ _, rfl⟩
          refine .yes rfl (fun a W Q hB hO hD => ?_) ?_
          · have e159 : a.tmps.getD 159 undef = .pointer (some ⟨w.heap.size + 1, 2, none⟩) := hD 9 rfl
            clear hO hD
            have hO2 := CA.out W hB
            have q := hO2.cell
            have z := hO2.lt
            go_wp2
            exact ⟨_, rfl, Below.refl _ _, rfl⟩
          refine .yes rfl (fun a W Q hB hO hD => ?_) ?_
          · have e156 : a.tmps.getD 156 undef = .agg #[.int .i64 N, .slice A5 n c5] := hD 6 rfl
            have e158 : a.tmps.getD 158 undef = .int .i64 X := hD 8 rfl
            have e160 : a.tmps.getD 160 undef = .int .i64 Y := hD 10 rfl
            clear hO hD
            have hc := Lib.hid (has_any N A5 n c5 E X Y W (D5.out W hB))
            rw [Kp0.out] at hc
            go_wp2_with fail
            refine hc.out.mono ?_
            rintro e w' ⟨rfl, hbc⟩
            go_wp2
            exact ⟨_, rfl, hbc, rfl⟩
          refine .yes rfl (fun a W Q hB hO hD => ?_) ?_
          · have e2 : a.tmps.getD 2 undef = .pointer (some ⟨w.heap.size, 0, none⟩) := hO.slot 2 _ rfl rfl
            clear hO hD
            have hO2 := CGG.out W hB
            have q := hO2.cell
            have z := hO2.lt
            go_wp2
            exact ⟨_, rfl, Below.refl _ _, rfl⟩
          refine .yes rfl (fun a W Q hB hO hD => ?_) ?_
          · have e3 : a.tmps.getD 3 undef = .pointer (some ⟨w.heap.size + 1, 0, none⟩) := hO.slot 3 _ rfl rfl
            clear hO hD
            go_wp2
            exact ⟨_, rfl, Below.refl _ _, rfl⟩
          refine .yes rfl (fun a W Q hB hO hD => ?_) ?_
          · have e163 : a.tmps.getD 163 undef = .pointer (some ⟨w.heap.size + 1, 1, none⟩) := hD 13 rfl
            clear hO hD
            have hO2 := CA.out W hB
            have q := hO2.cell
            have z := hO2.lt
            go_wp2
            exact ⟨_, rfl, Below.refl _ _, rfl⟩
          refine .yes rfl (fun a W Q hB hO hD => ?_) ?_
          · have e3 : a.tmps.getD 3 undef = .pointer (some ⟨w.heap.size + 1, 0, none⟩) := hO.slot 3 _ rfl rfl
            clear hO hD
            go_wp2
            exact ⟨_, rfl, Below.refl _ _, rfl⟩
          refine .yes rfl (fun a W Q hB hO hD => ?_) ?_
          · have e165 : a.tmps.getD 165 undef = .pointer (some ⟨w.heap.size + 1, 2, none⟩) := hD 15 rfl
            clear hO hD
            have hO2 := CA.out W hB
            have q := hO2.cell
            have z := hO2.lt
            go_wp2
            exact ⟨_, rfl, Below.refl _ _, rfl⟩
          refine .yes rfl (fun a W Q hB hO hD => ?_) ?_
          · have e162 : a.tmps.getD 162 undef = .agg #[.int .i64 N, .slice A n c] := hD 12 rfl
            have e164 : a.tmps.getD 164 undef = .int .i64 X := hD 14 rfl
            have e166 : a.tmps.getD 166 undef = .int .i64 Y := hD 16 rfl
            clear hO hD
            have hc := Lib.hid (hasR_any N A n c E X Y W (DE.out W hB))
            rw [Kp0.out] at hc
            go_wp2_with fail
            refine hc.out.mono ?_
            rintro e w' ⟨rfl, hbc⟩
            go_wp2
            exact ⟨_, rfl, hbc, rfl⟩
          refine .yes rfl (fun a W Q hB hO hD => ?_) ?_
          · have e161 : a.tmps.getD 161 undef = .bool p0 := hD 11 rfl
            have e167 : a.tmps.getD 167 undef = .bool p0 := hD 17 rfl
            clear hO hD
            have hx : (p0 == p0) = true := by simp
            go_wp2
            exact ⟨_, rfl, Below.refl _ _, rfl⟩
          refine .yes rfl (fun a W Q hB hO hD => ?_) ?_
          · have e155 : a.tmps.getD 155 undef = .bool true := hD 5 rfl
            have e168 : a.tmps.getD 168 undef = .bool true := hD 18 rfl
            clear hO hD
            go_wp2
            exact ⟨_, rfl, Below.refl _ _, rfl⟩
          refine .yes rfl (fun a W Q hB hO hD => ?_) ?_
          · have e169 : a.tmps.getD 169 undef = .bool true := hD 19 rfl
            clear hO hD
            go_wp2
            exact ⟨_, rfl, Below.refl _ _, rfl⟩
          refine .yes rfl (fun a W Q hB hO hD => ?_) ?_
          · have e5 : a.tmps.getD 5 undef = .pointer (some ⟨g5, 0, none⟩) := hO.slot 5 _ rfl rfl
            clear hO hD
            have hO2 := C5.out W hB
            have q := hO2.cell
            have z := hO2.lt
            go_wp2
            exact ⟨_, rfl, Below.refl _ _, rfl⟩
          refine .yes rfl (fun a W Q hB hO hD => ?_) ?_
          · have e2 : a.tmps.getD 2 undef = .pointer (some ⟨w.heap.size, 0, none⟩) := hO.slot 2 _ rfl rfl
            clear hO hD
            have hO2 := CGG.out W hB
            have q := hO2.cell
            have z := hO2.lt
            go_wp2
            exact ⟨_, rfl, Below.refl _ _, rfl⟩
          refine .yes rfl (fun a W Q hB hO hD => ?_) ?_
          · have e171 : a.tmps.getD 171 undef = .agg #[.int .i64 N, .slice A5 n c5] := hD 21 rfl
            have e172 : a.tmps.getD 172 undef = .agg #[.int .i64 N, .slice A n c] := hD 22 rfl
            clear hO hD
            have hc := Lib.hid (sameGraph_any N N A5 A c5 c n n E E W (D5.out W hB) (DE.out W hB))
            rw [self_same] at hc
            go_wp2_with fail
            refine hc.out.mono ?_
            rintro e w' ⟨rfl, hbc⟩
            go_wp2
            exact ⟨_, rfl, hbc, rfl⟩
          refine .yes rfl (fun a W Q hB hO hD => ?_) ?_
          · have e170 : a.tmps.getD 170 undef = .bool true := hD 20 rfl
            have e173 : a.tmps.getD 173 undef = .bool true := hD 23 rfl
            clear hO hD
            go_wp2
            exact ⟨_, rfl, Below.refl _ _, rfl⟩
          refine .yes rfl (fun a W Q hB hO hD => ?_) ?_
          · have e174 : a.tmps.getD 174 undef = .bool true := hD 24 rfl
            clear hO hD
            go_wp2
            exact ⟨_, rfl, Below.refl _ _, rfl⟩
          refine .yes rfl (fun a W Q hB hO hD => ?_) ?_
          · have e6 : a.tmps.getD 6 undef = .slice A6 m c6 := hO.slot 6 _ rfl rfl
            clear hO hD
            go_wp2
            exact ⟨_, rfl, Below.refl _ _, rfl⟩
          refine .yes rfl (fun a W Q hB hO hD => ?_) ?_
          · have e3 : a.tmps.getD 3 undef = .pointer (some ⟨w.heap.size + 1, 0, none⟩) := hO.slot 3 _ rfl rfl
            clear hO hD
            go_wp2
            exact ⟨_, rfl, Below.refl _ _, rfl⟩
          refine .yes rfl (fun a W Q hB hO hD => ?_) ?_
          · have e177 : a.tmps.getD 177 undef = .pointer (some ⟨w.heap.size + 1, 3, none⟩) := hD 27 rfl
            clear hO hD
            have hO2 := CA.out W hB
            have q := hO2.cell
            have z := hO2.lt
            go_wp2
            exact ⟨_, rfl, Below.refl _ _, rfl⟩
          refine .yes rfl (fun a W Q hB hO hD => ?_) ?_
          · have e176 : a.tmps.getD 176 undef = .slice A6 m c6 := hD 26 rfl
            have e178 : a.tmps.getD 178 undef = .slice B m d := hD 28 rfl
            clear hO hD
            have hc := Lib.hid (samePairs_any A6 B c6 d m m F F W (D6.out W hB) (DF.out W hB))
            rw [beq_self_eq_true] at hc
            go_wp2_with fail
            refine hc.out.mono ?_
            rintro e w' ⟨rfl, hbc⟩
            go_wp2
            exact ⟨_, rfl, hbc, rfl⟩
          refine .yes rfl (fun a W Q hB hO hD => ?_) ?_
          · have e175 : a.tmps.getD 175 undef = .bool true := hD 25 rfl
            have e179 : a.tmps.getD 179 undef = .bool true := hD 29 rfl
            clear hO hD
            go_wp2
            exact ⟨_, rfl, Below.refl _ _, rfl⟩
          refine .yes rfl (fun a W Q hB hO hD => ?_) ?_
          · have e180 : a.tmps.getD 180 undef = .bool true := hD 30 rfl
            clear hO hD
            go_wp2
            exact ⟨_, rfl, Below.refl _ _, rfl⟩
          refine .yes rfl (fun a W Q hB hO hD => ?_) ?_
          · clear hO hD
            have hc := Lib.hid (awakeG_any W (TV.out W hB))
            go_wp2_with fail
            refine hc.out.mono ?_
            rintro e w' ⟨rfl, hbc⟩
            go_wp2
            exact ⟨_, rfl, hbc, rfl⟩
          refine .yes rfl (fun a W Q hB hO hD => ?_) ?_
          · have e181 : a.tmps.getD 181 undef = .bool true := hD 31 rfl
            have e182 : a.tmps.getD 182 undef = .bool true := hD 32 rfl
            clear hO hD
            go_wp2
            exact ⟨_, rfl, Below.refl _ _, rfl⟩
          refine .yes rfl (fun a W Q hB hO hD => ?_) ?_
          · have e183 : a.tmps.getD 183 undef = .bool true := hD 33 rfl
            clear hO hD
            go_wp2
            exact ⟨_, rfl, Below.refl _ _, rfl⟩
          exact .nil
        · intro f19 V19 hBz hR
          have e34 : f19 34 = .bool true := hR 34 (by decide)
          have HBE := Lib.hid (below_chain hb.out hBz)
          clear hBz hR
          simp only [putAll, Nat.zero_add, Nat.reduceAdd, Act.put, List.setIfInBounds_toArray, List.set_cons_zero, List.set_cons_succ, e34]
          go_wp2
          go_ret
          exact ⟨rfl, HBE.out⟩
end Go.Proofs.YtljihclpgpmfeaaDoor
