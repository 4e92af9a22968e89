/- Walk: fretworklow.SameInts. -/
import Derived.Test.YtljihclpgpmfeaaDoorIa
namespace Go.Proofs.YtljihclpgpmfeaaDoor
set_option maxRecDepth 100000
open Go.RowKit

def tblSIe (b : Nat) (off : Nat) (c : Nat) (d : Nat) (n : Nat) (m : Nat) (k : Nat) (x : Int) (q : Nat) (e : Nat) : List Pst := [Pst.val (.int .i64 (k : Nat)), Pst.val (.slice (some ⟨b, off, none⟩) n c), Pst.val (.int .i64 (n : Nat)), Pst.val (.bool true), Pst.val (.bool true), Pst.val (.int .i64 (k : Nat)), Pst.val (.slice (some ⟨q, e, none⟩) m d), Pst.val (.int .i64 (m : Nat)), Pst.val (.bool true), Pst.val (.bool true), Pst.val (.bool true), Pst.val (.slice (some ⟨b, off, none⟩) n c), Pst.val (.int .i64 (k : Nat)), Pst.val (.pointer (some ⟨b, off + k, none⟩)), Pst.val (.int .i64 x), Pst.val (.slice (some ⟨q, e, none⟩) m d), Pst.val (.int .i64 (k : Nat)), Pst.val (.pointer (some ⟨q, e + k, none⟩)), Pst.val (.int .i64 x), Pst.val (.bool true), Pst.val (.bool true)]
def tblSIn (b : Nat) (off : Nat) (c : Nat) (d : Nat) (n : Nat) (m : Nat) (k : Nat) (x : Int) (y : Int) (q : Nat) (e : Nat) : List Pst := [Pst.val (.int .i64 (k : Nat)), Pst.val (.slice (some ⟨b, off, none⟩) n c), Pst.val (.int .i64 (n : Nat)), Pst.val (.bool true), Pst.val (.bool true), Pst.val (.int .i64 (k : Nat)), Pst.val (.slice (some ⟨q, e, none⟩) m d), Pst.val (.int .i64 (m : Nat)), Pst.val (.bool true), Pst.val (.bool true), Pst.val (.bool true), Pst.val (.slice (some ⟨b, off, none⟩) n c), Pst.val (.int .i64 (k : Nat)), Pst.val (.pointer (some ⟨b, off + k, none⟩)), Pst.val (.int .i64 x), Pst.val (.slice (some ⟨q, e, none⟩) m d), Pst.val (.int .i64 (k : Nat)), Pst.val (.pointer (some ⟨q, e + k, none⟩)), Pst.val (.int .i64 y), Pst.val (.bool false), Pst.val (.bool false)]
def tblSIm (B : Option Addr) (b : Nat) (off : Nat) (c : Nat) (d : Nat) (n : Nat) (m : Nat) (k : Nat) : List Pst := [Pst.val (.int .i64 (k : Nat)), Pst.val (.slice (some ⟨b, off, none⟩) n c), Pst.val (.int .i64 (n : Nat)), Pst.val (.bool true), Pst.val (.bool true), Pst.val (.int .i64 (k : Nat)), Pst.val (.slice B m d), Pst.val (.int .i64 (m : Nat)), Pst.val (.bool false), Pst.val (.bool false), Pst.val (.bool false), Pst.none, Pst.none, Pst.none, Pst.none, Pst.none, Pst.none, Pst.none, Pst.none, Pst.none, Pst.val (.bool false)]
def tblSIz (A : Option Addr) (c : Nat) (n : Nat) (k : Nat) : List Pst := [Pst.val (.int .i64 (k : Nat)), Pst.val (.slice A n c), Pst.val (.int .i64 (n : Nat)), Pst.val (.bool false), Pst.val (.bool false), Pst.none, Pst.none, Pst.none, Pst.none, Pst.val (.bool false), Pst.val (.bool false), Pst.none, Pst.none, Pst.none, Pst.none, Pst.none, Pst.none, Pst.none, Pst.none, Pst.none, Pst.val (.bool false)]
set_option maxRecDepth 100000 in
set_option maxHeartbeats 8000000 in
theorem sameInts_any (A B : Option Addr) (c d n m : Nat) (us vs : List Int) (w : World) (h1 : ArgI w A n c us) (h2 : ArgI w B m d vs) :
    Calls Tryd.prog 37 #[.slice A n c, .slice B m d] w fun e w' => e = .returned (.bool (us == vs)) ∧ Below w.heap.size w w' := by
  have H1 := Lib.hid h1; have H2 := Lib.hid h2
  have hn := h1.le
  have hm := h2.le
  clear h1 h2
  go_enter Tryd.func37, Tryd.ntmps37
  go_wp2
  go_loopw [5] (fun i wr => ∃ k : Nat, k ≤ n ∧ k ≤ m ∧ i = .int .i64 (k : Int) ∧ Hid ((us == vs) = (us.drop k == vs.drop k)) ∧ Hid (Below w.heap.size w wr)) (fun i _ => n - (intOf i).toNat)
  case atStart => exact ⟨0, Nat.zero_le _, Nat.zero_le _, rfl, Lib.hid rfl, Lib.hid (Below.refl _ w)⟩
  case round =>
    obtain ⟨k, hk, hkm, rfl, hS, hBw⟩ := hrel
    by_cases hlt : k < n
    · have HD := Lib.hid (show decide (k < n) = true by rw [decide_eq_true_eq]; exact hlt)
      by_cases hltm : k < m
      · have HE := Lib.hid (show decide (k < m) = true by rw [decide_eq_true_eq]; exact hltm)
        obtain ⟨b, off, rfl, hb, hc1⟩ := rd_int H1.out.rd (by have := H1.out.len; omega)
        obtain ⟨q, e, rfl, hb2, hc2⟩ := rd_int H2.out.rd (by have := H2.out.len; omega)
        obtain ⟨x, hx⟩ : ∃ x, us[k]? = some x := ⟨_, List.getElem?_eq_getElem (by have := H1.out.len; omega)⟩
        obtain ⟨y, hy⟩ : ∃ x, vs[k]? = some x := ⟨_, List.getElem?_eq_getElem (by have := H2.out.len; omega)⟩
        have hst := Lib.hid (hS.out.trans (drop_step hx hy))
        have C1 := Lib.hid (fun V (hV : Below wr.heap.size wr V) => hc1 V (hBw.out.trans (hV.mono hBw.out.size)) k x hx)
        have C2 := Lib.hid (fun V (hV : Below wr.heap.size wr V) => hc2 V (hBw.out.trans (hV.mono hBw.out.size)) k y hy)
        clear hc1 hc2 hx hy hS hb hb2
        by_cases hxy : x = y
        · subst hxy
          have HQ := Lib.hid (show (x == x) = true by simp)
          have hS2 := Lib.hid (hst.out.trans (by rw [HQ.out, Bool.true_and]))
          clear hst
          go_wp2
          refine region_posts (by kernel_rfl) (tblSIe b off c d n m k x q e) (by kernel_rfl) ?_ ?_
          · skip
            refine .yes rfl (fun a W Q hB hO hD => ?_) ?_
            · have e5 : a.tmps.getD 5 undef = .int .i64 (k : Nat) := hO.slot 5 _ rfl rfl
              clear hO hD
              go_wp2
              exact ⟨_, rfl, Below.refl _ _, rfl⟩
            refine .yes rfl (fun a W Q hB hO hD => ?_) ?_
            · have e0 : a.tmps.getD 0 undef = .slice (some ⟨b, off, none⟩) n c := hO.slot 0 _ rfl rfl
              clear hO hD
              go_wp2
              exact ⟨_, rfl, Below.refl _ _, rfl⟩
            refine .yes rfl (fun a W Q hB hO hD => ?_) ?_
            · have e7 : a.tmps.getD 7 undef = .slice (some ⟨b, off, none⟩) n c := hD 1 rfl
              clear hO hD
              go_wp2
              exact ⟨_, rfl, Below.refl _ _, rfl⟩
            refine .yes rfl (fun a W Q hB hO hD => ?_) ?_
            · have e6 : a.tmps.getD 6 undef = .int .i64 (k : Nat) := hD 0 rfl
              have e8 : a.tmps.getD 8 undef = .int .i64 (n : Nat) := hD 2 rfl
              clear hO hD
              have hd := HD.out
              go_wp2
              exact ⟨_, rfl, Below.refl _ _, rfl⟩
            refine .yes rfl (fun a W Q hB hO hD => ?_) ?_
            · have e9 : a.tmps.getD 9 undef = .bool true := hD 3 rfl
              clear hO hD
              go_wp2
              exact ⟨_, rfl, Below.refl _ _, rfl⟩
            refine .yes rfl (fun a W Q hB hO hD => ?_) ?_
            · have e5 : a.tmps.getD 5 undef = .int .i64 (k : Nat) := hO.slot 5 _ rfl rfl
              clear hO hD
              go_wp2
              exact ⟨_, rfl, Below.refl _ _, rfl⟩
            refine .yes rfl (fun a W Q hB hO hD => ?_) ?_
            · have e1 : a.tmps.getD 1 undef = .slice (some ⟨q, e, none⟩) m d := hO.slot 1 _ rfl rfl
              clear hO hD
              go_wp2
              exact ⟨_, rfl, Below.refl _ _, rfl⟩
            refine .yes rfl (fun a W Q hB hO hD => ?_) ?_
            · have e12 : a.tmps.getD 12 undef = .slice (some ⟨q, e, none⟩) m d := hD 6 rfl
              clear hO hD
              go_wp2
              exact ⟨_, rfl, Below.refl _ _, rfl⟩
            refine .yes rfl (fun a W Q hB hO hD => ?_) ?_
            · have e11 : a.tmps.getD 11 undef = .int .i64 (k : Nat) := hD 5 rfl
              have e13 : a.tmps.getD 13 undef = .int .i64 (m : Nat) := hD 7 rfl
              clear hO hD
              have hd := HE.out
              go_wp2
              exact ⟨_, rfl, Below.refl _ _, rfl⟩
            refine .yes rfl (fun a W Q hB hO hD => ?_) ?_
            · have e10 : a.tmps.getD 10 undef = .bool true := hD 4 rfl
              have e14 : a.tmps.getD 14 undef = .bool true := hD 8 rfl
              clear hO hD
              go_wp2
              exact ⟨_, rfl, Below.refl _ _, rfl⟩
            refine .yes rfl (fun a W Q hB hO hD => ?_) ?_
            · have e15 : a.tmps.getD 15 undef = .bool true := hD 9 rfl
              clear hO hD
              go_wp2
              exact ⟨_, rfl, Below.refl _ _, rfl⟩
            refine .yes rfl (fun a W Q hB hO hD => ?_) ?_
            · have e0 : a.tmps.getD 0 undef = .slice (some ⟨b, off, none⟩) n c := hO.slot 0 _ rfl rfl
              clear hO hD
              go_wp2
              exact ⟨_, rfl, Below.refl _ _, rfl⟩
            refine .yes rfl (fun a W Q hB hO hD => ?_) ?_
            · have e5 : a.tmps.getD 5 undef = .int .i64 (k : Nat) := hO.slot 5 _ rfl rfl
              clear hO hD
              go_wp2
              exact ⟨_, rfl, Below.refl _ _, rfl⟩
            refine .yes rfl (fun a W Q hB hO hD => ?_) ?_
            · have e17 : a.tmps.getD 17 undef = .slice (some ⟨b, off, none⟩) n c := hD 11 rfl
              have e18 : a.tmps.getD 18 undef = .int .i64 (k : Nat) := hD 12 rfl
              clear hO hD
              go_wp2
              exact ⟨_, rfl, Below.refl _ _, rfl⟩
            refine .yes rfl (fun a W Q hB hO hD => ?_) ?_
            · have e19 : a.tmps.getD 19 undef = .pointer (some ⟨b, off + k, none⟩) := hD 13 rfl
              clear hO hD
              have hc := C1.out W hB
              go_wp2
              exact ⟨_, rfl, Below.refl _ _, rfl⟩
            refine .yes rfl (fun a W Q hB hO hD => ?_) ?_
            · have e1 : a.tmps.getD 1 undef = .slice (some ⟨q, e, none⟩) m d := hO.slot 1 _ rfl rfl
              clear hO hD
              go_wp2
              exact ⟨_, rfl, Below.refl _ _, rfl⟩
            refine .yes rfl (fun a W Q hB hO hD => ?_) ?_
            · have e5 : a.tmps.getD 5 undef = .int .i64 (k : Nat) := hO.slot 5 _ rfl rfl
              clear hO hD
              go_wp2
              exact ⟨_, rfl, Below.refl _ _, rfl⟩
            refine .yes rfl (fun a W Q hB hO hD => ?_) ?_
            · have e21 : a.tmps.getD 21 undef = .slice (some ⟨q, e, none⟩) m d := hD 15 rfl
              have e22 : a.tmps.getD 22 undef = .int .i64 (k : Nat) := hD 16 rfl
              clear hO hD
              go_wp2
              exact ⟨_, rfl, Below.refl _ _, rfl⟩
            refine .yes rfl (fun a W Q hB hO hD => ?_) ?_
            · have e23 : a.tmps.getD 23 undef = .pointer (some ⟨q, e + k, none⟩) := hD 17 rfl
              clear hO hD
              have hc := C2.out W hB
              go_wp2
              exact ⟨_, rfl, Below.refl _ _, rfl⟩
            refine .yes rfl (fun a W Q hB hO hD => ?_) ?_
            · have e20 : a.tmps.getD 20 undef = .int .i64 x := hD 14 rfl
              have e24 : a.tmps.getD 24 undef = .int .i64 x := hD 18 rfl
              clear hO hD
              have hq := HQ.out
              go_wp2
              exact ⟨_, rfl, Below.refl _ _, rfl⟩
            refine .yes rfl (fun a W Q hB hO hD => ?_) ?_
            · have e16 : a.tmps.getD 16 undef = .bool true := hD 10 rfl
              have e25 : a.tmps.getD 25 undef = .bool true := hD 19 rfl
              clear hO hD
              go_wp2
              exact ⟨_, rfl, Below.refl _ _, rfl⟩
            exact .nil
          · intro f V hBz hR
            have e20 : f 20 = .bool true := hR 20 (by decide)
            have HB2 := Lib.hid (hBw.out.trans (hBz.mono hBw.out.size))
            clear hR hBz
            simp only [putAll, Nat.zero_add, Nat.reduceAdd, Act.put, List.setIfInBounds_toArray, List.set_cons_zero, List.set_cons_succ, e20]
            go_wp2
            go_roundw
            case rel => exact ⟨k + 1, by omega, by omega, by go_num, hS2, HB2⟩
            case measure => simp [intOf]; omega
        · have HQ := Lib.hid (show (x == y) = false by rw [beq_eq_false_iff_ne]; exact hxy)
          have hS2 := Lib.hid (hst.out.trans (by rw [HQ.out, Bool.false_and]))
          have d1 : decide (k = n) = false := by rw [decide_eq_false_iff_not]; omega
          have d2 : ((k : Int) == n) = false := by rw [beq_eq_false_iff_ne]; omega
          clear hst hxy
          go_wp2
          refine region_posts (by kernel_rfl) (tblSIn b off c d n m k x y q e) (by kernel_rfl) ?_ ?_
          · skip
            refine .yes rfl (fun a W Q hB hO hD => ?_) ?_
            · have e5 : a.tmps.getD 5 undef = .int .i64 (k : Nat) := hO.slot 5 _ rfl rfl
              clear hO hD
              go_wp2
              exact ⟨_, rfl, Below.refl _ _, rfl⟩
            refine .yes rfl (fun a W Q hB hO hD => ?_) ?_
            · have e0 : a.tmps.getD 0 undef = .slice (some ⟨b, off, none⟩) n c := hO.slot 0 _ rfl rfl
              clear hO hD
              go_wp2
              exact ⟨_, rfl, Below.refl _ _, rfl⟩
            refine .yes rfl (fun a W Q hB hO hD => ?_) ?_
            · have e7 : a.tmps.getD 7 undef = .slice (some ⟨b, off, none⟩) n c := hD 1 rfl
              clear hO hD
              go_wp2
              exact ⟨_, rfl, Below.refl _ _, rfl⟩
            refine .yes rfl (fun a W Q hB hO hD => ?_) ?_
            · have e6 : a.tmps.getD 6 undef = .int .i64 (k : Nat) := hD 0 rfl
              have e8 : a.tmps.getD 8 undef = .int .i64 (n : Nat) := hD 2 rfl
              clear hO hD
              have hd := HD.out
              go_wp2
              exact ⟨_, rfl, Below.refl _ _, rfl⟩
            refine .yes rfl (fun a W Q hB hO hD => ?_) ?_
            · have e9 : a.tmps.getD 9 undef = .bool true := hD 3 rfl
              clear hO hD
              go_wp2
              exact ⟨_, rfl, Below.refl _ _, rfl⟩
            refine .yes rfl (fun a W Q hB hO hD => ?_) ?_
            · have e5 : a.tmps.getD 5 undef = .int .i64 (k : Nat) := hO.slot 5 _ rfl rfl
              clear hO hD
              go_wp2
              exact ⟨_, rfl, Below.refl _ _, rfl⟩
            refine .yes rfl (fun a W Q hB hO hD => ?_) ?_
            · have e1 : a.tmps.getD 1 undef = .slice (some ⟨q, e, none⟩) m d := hO.slot 1 _ rfl rfl
              clear hO hD
              go_wp2
              exact ⟨_, rfl, Below.refl _ _, rfl⟩
            refine .yes rfl (fun a W Q hB hO hD => ?_) ?_
            · have e12 : a.tmps.getD 12 undef = .slice (some ⟨q, e, none⟩) m d := hD 6 rfl
              clear hO hD
              go_wp2
              exact ⟨_, rfl, Below.refl _ _, rfl⟩
            refine .yes rfl (fun a W Q hB hO hD => ?_) ?_
            · have e11 : a.tmps.getD 11 undef = .int .i64 (k : Nat) := hD 5 rfl
              have e13 : a.tmps.getD 13 undef = .int .i64 (m : Nat) := hD 7 rfl
              clear hO hD
              have hd := HE.out
              go_wp2
              exact ⟨_, rfl, Below.refl _ _, rfl⟩
            refine .yes rfl (fun a W Q hB hO hD => ?_) ?_
            · have e10 : a.tmps.getD 10 undef = .bool true := hD 4 rfl
              have e14 : a.tmps.getD 14 undef = .bool true := hD 8 rfl
              clear hO hD
              go_wp2
              exact ⟨_, rfl, Below.refl _ _, rfl⟩
            refine .yes rfl (fun a W Q hB hO hD => ?_) ?_
            · have e15 : a.tmps.getD 15 undef = .bool true := hD 9 rfl
              clear hO hD
              go_wp2
              exact ⟨_, rfl, Below.refl _ _, rfl⟩
            refine .yes rfl (fun a W Q hB hO hD => ?_) ?_
            · have e0 : a.tmps.getD 0 undef = .slice (some ⟨b, off, none⟩) n c := hO.slot 0 _ rfl rfl
              clear hO hD
              go_wp2
              exact ⟨_, rfl, Below.refl _ _, rfl⟩
            refine .yes rfl (fun a W Q hB hO hD => ?_) ?_
            · have e5 : a.tmps.getD 5 undef = .int .i64 (k : Nat) := hO.slot 5 _ rfl rfl
              clear hO hD
              go_wp2
              exact ⟨_, rfl, Below.refl _ _, rfl⟩
            refine .yes rfl (fun a W Q hB hO hD => ?_) ?_
            · have e17 : a.tmps.getD 17 undef = .slice (some ⟨b, off, none⟩) n c := hD 11 rfl
              have e18 : a.tmps.getD 18 undef = .int .i64 (k : Nat) := hD 12 rfl
              clear hO hD
              go_wp2
              exact ⟨_, rfl, Below.refl _ _, rfl⟩
            refine .yes rfl (fun a W Q hB hO hD => ?_) ?_
            · have e19 : a.tmps.getD 19 undef = .pointer (some ⟨b, off + k, none⟩) := hD 13 rfl
              clear hO hD
              have hc := C1.out W hB
              go_wp2
              exact ⟨_, rfl, Below.refl _ _, rfl⟩
            refine .yes rfl (fun a W Q hB hO hD => ?_) ?_
            · have e1 : a.tmps.getD 1 undef = .slice (some ⟨q, e, none⟩) m d := hO.slot 1 _ rfl rfl
              clear hO hD
              go_wp2
              exact ⟨_, rfl, Below.refl _ _, rfl⟩
            refine .yes rfl (fun a W Q hB hO hD => ?_) ?_
            · have e5 : a.tmps.getD 5 undef = .int .i64 (k : Nat) := hO.slot 5 _ rfl rfl
              clear hO hD
              go_wp2
              exact ⟨_, rfl, Below.refl _ _, rfl⟩
            refine .yes rfl (fun a W Q hB hO hD => ?_) ?_
            · have e21 : a.tmps.getD 21 undef = .slice (some ⟨q, e, none⟩) m d := hD 15 rfl
              have e22 : a.tmps.getD 22 undef = .int .i64 (k : Nat) := hD 16 rfl
              clear hO hD
              go_wp2
              exact ⟨_, rfl, Below.refl _ _, rfl⟩
            refine .yes rfl (fun a W Q hB hO hD => ?_) ?_
            · have e23 : a.tmps.getD 23 undef = .pointer (some ⟨q, e + k, none⟩) := hD 17 rfl
              clear hO hD
              have hc := C2.out W hB
              go_wp2
              exact ⟨_, rfl, Below.refl _ _, rfl⟩
            refine .yes rfl (fun a W Q hB hO hD => ?_) ?_
            · have e20 : a.tmps.getD 20 undef = .int .i64 x := hD 14 rfl
              have e24 : a.tmps.getD 24 undef = .int .i64 y := hD 18 rfl
              clear hO hD
              have hq := HQ.out
              go_wp2
              exact ⟨_, rfl, Below.refl _ _, rfl⟩
            refine .yes rfl (fun a W Q hB hO hD => ?_) ?_
            · have e16 : a.tmps.getD 16 undef = .bool true := hD 10 rfl
              have e25 : a.tmps.getD 25 undef = .bool false := hD 19 rfl
              clear hO hD
              go_wp2
              exact ⟨_, rfl, Below.refl _ _, rfl⟩
            exact .nil
          · intro f V hBz hR
            have e20 : f 20 = .bool false := hR 20 (by decide)
            have HB2 := Lib.hid (hBw.out.trans (hBz.mono hBw.out.size))
            clear hR hBz
            simp only [putAll, Nat.zero_add, Nat.reduceAdd, Act.put, List.setIfInBounds_toArray, List.set_cons_zero, List.set_cons_succ, e20]
            go_wp2
            go_ret
            exact ⟨by rw [hS2.out]; rfl, HB2.out⟩
      · have HE := Lib.hid (show decide (k < m) = false by rw [decide_eq_false_iff_not]; exact hltm)
        obtain ⟨b, off, rfl, hb, hc1⟩ := rd_int H1.out.rd (by have := H1.out.len; omega)
        have hS2 := Lib.hid (hS.out.trans ((drop_end (us := us) (vs := vs) (k := k) (by have := H1.out.len; omega) (by have := H2.out.len; omega) (.inr (by have := H2.out.len; omega))).trans (show _ = false by rw [Bool.and_eq_false_iff]; left; rw [decide_eq_false_iff_not]; have := H1.out.len; omega)))
        have d2 : ((k : Int) == n) = false := by rw [beq_eq_false_iff_ne]; omega
        clear hc1 hb hS
        go_wp2
        refine region_posts (by kernel_rfl) (tblSIm B b off c d n m k) (by kernel_rfl) ?_ ?_
        · skip
          refine .yes rfl (fun a W Q hB hO hD => ?_) ?_
          · have e5 : a.tmps.getD 5 undef = .int .i64 (k : Nat) := hO.slot 5 _ rfl rfl
            clear hO hD
            go_wp2
            exact ⟨_, rfl, Below.refl _ _, rfl⟩
          refine .yes rfl (fun a W Q hB hO hD => ?_) ?_
          · have e0 : a.tmps.getD 0 undef = .slice (some ⟨b, off, none⟩) n c := hO.slot 0 _ rfl rfl
            clear hO hD
            go_wp2
            exact ⟨_, rfl, Below.refl _ _, rfl⟩
          refine .yes rfl (fun a W Q hB hO hD => ?_) ?_
          · have e7 : a.tmps.getD 7 undef = .slice (some ⟨b, off, none⟩) n c := hD 1 rfl
            clear hO hD
            go_wp2
            exact ⟨_, rfl, Below.refl _ _, rfl⟩
          refine .yes rfl (fun a W Q hB hO hD => ?_) ?_
          · have e6 : a.tmps.getD 6 undef = .int .i64 (k : Nat) := hD 0 rfl
            have e8 : a.tmps.getD 8 undef = .int .i64 (n : Nat) := hD 2 rfl
            clear hO hD
            have hd := HD.out
            go_wp2
            exact ⟨_, rfl, Below.refl _ _, rfl⟩
          refine .yes rfl (fun a W Q hB hO hD => ?_) ?_
          · have e9 : a.tmps.getD 9 undef = .bool true := hD 3 rfl
            clear hO hD
            go_wp2
            exact ⟨_, rfl, Below.refl _ _, rfl⟩
          refine .yes rfl (fun a W Q hB hO hD => ?_) ?_
          · have e5 : a.tmps.getD 5 undef = .int .i64 (k : Nat) := hO.slot 5 _ rfl rfl
            clear hO hD
            go_wp2
            exact ⟨_, rfl, Below.refl _ _, rfl⟩
          refine .yes rfl (fun a W Q hB hO hD => ?_) ?_
          · have e1 : a.tmps.getD 1 undef = .slice B m d := hO.slot 1 _ rfl rfl
            clear hO hD
            go_wp2
            exact ⟨_, rfl, Below.refl _ _, rfl⟩
          refine .yes rfl (fun a W Q hB hO hD => ?_) ?_
          · have e12 : a.tmps.getD 12 undef = .slice B m d := hD 6 rfl
            clear hO hD
            go_wp2
            exact ⟨_, rfl, Below.refl _ _, rfl⟩
          refine .yes rfl (fun a W Q hB hO hD => ?_) ?_
          · have e11 : a.tmps.getD 11 undef = .int .i64 (k : Nat) := hD 5 rfl
            have e13 : a.tmps.getD 13 undef = .int .i64 (m : Nat) := hD 7 rfl
            clear hO hD
            have hd := HE.out
            go_wp2
            exact ⟨_, rfl, Below.refl _ _, rfl⟩
          refine .yes rfl (fun a W Q hB hO hD => ?_) ?_
          · have e10 : a.tmps.getD 10 undef = .bool true := hD 4 rfl
            have e14 : a.tmps.getD 14 undef = .bool false := hD 8 rfl
            clear hO hD
            go_wp2
            exact ⟨_, rfl, Below.refl _ _, rfl⟩
          refine .yes rfl (fun a W Q hB hO hD => ?_) ?_
          · have e15 : a.tmps.getD 15 undef = .bool false := hD 9 rfl
            clear hO hD
            go_wp2
            exact ⟨_, rfl, Below.refl _ _, rfl⟩
          refine .no rfl (fun W => trivial) ?_
          refine .no rfl (fun W => trivial) ?_
          refine .no rfl (fun W => trivial) ?_
          refine .no rfl (fun W => trivial) ?_
          refine .no rfl (fun W => trivial) ?_
          refine .no rfl (fun W => trivial) ?_
          refine .no rfl (fun W => trivial) ?_
          refine .no rfl (fun W => trivial) ?_
          refine .no rfl (fun W => trivial) ?_
          refine .yes rfl (fun a W Q hB hO hD => ?_) ?_
          · have e16 : a.tmps.getD 16 undef = .bool false := hD 10 rfl
            clear hO hD
            go_wp2
            exact ⟨_, rfl, Below.refl _ _, rfl⟩
          exact .nil
        · intro f V hBz hR
          have e20 : f 20 = .bool false := hR 20 (by decide)
          have HB2 := Lib.hid (hBw.out.trans (hBz.mono hBw.out.size))
          clear hR hBz
          simp only [putAll, Nat.zero_add, Nat.reduceAdd, Act.put, List.setIfInBounds_toArray, List.set_cons_zero, List.set_cons_succ, e20]
          go_wp2
          go_ret
          exact ⟨by rw [hS2.out]; rfl, HB2.out⟩
    · have HD := Lib.hid (show decide (k < n) = false by rw [decide_eq_false_iff_not]; exact hlt)
      obtain rfl : n = k := by omega
      have hS3 := Lib.hid (hS.out.trans (drop_end (us := us) (vs := vs) (k := n) (by have := H1.out.len; omega) (by have := H2.out.len; omega) (.inl (by have := H1.out.len; omega))))
      clear hS
      by_cases he : n = m
      · subst he
        have hS2 := Lib.hid (hS3.out.trans (show _ = true by rw [Bool.and_eq_true, decide_eq_true_eq, decide_eq_true_eq]; exact ⟨H1.out.len, H2.out.len⟩))
        go_wp2
        refine region_posts (by kernel_rfl) (tblSIz A c n n) (by kernel_rfl) ?_ ?_
        · skip
          refine .yes rfl (fun a W Q hB hO hD => ?_) ?_
          · have e5 : a.tmps.getD 5 undef = .int .i64 (n : Nat) := hO.slot 5 _ rfl rfl
            clear hO hD
            go_wp2
            exact ⟨_, rfl, Below.refl _ _, rfl⟩
          refine .yes rfl (fun a W Q hB hO hD => ?_) ?_
          · have e0 : a.tmps.getD 0 undef = .slice A n c := hO.slot 0 _ rfl rfl
            clear hO hD
            go_wp2
            exact ⟨_, rfl, Below.refl _ _, rfl⟩
          refine .yes rfl (fun a W Q hB hO hD => ?_) ?_
          · have e7 : a.tmps.getD 7 undef = .slice A n c := hD 1 rfl
            clear hO hD
            go_wp2
            exact ⟨_, rfl, Below.refl _ _, rfl⟩
          refine .yes rfl (fun a W Q hB hO hD => ?_) ?_
          · have e6 : a.tmps.getD 6 undef = .int .i64 (n : Nat) := hD 0 rfl
            have e8 : a.tmps.getD 8 undef = .int .i64 (n : Nat) := hD 2 rfl
            clear hO hD
            have hd := HD.out
            go_wp2
            exact ⟨_, rfl, Below.refl _ _, rfl⟩
          refine .yes rfl (fun a W Q hB hO hD => ?_) ?_
          · have e9 : a.tmps.getD 9 undef = .bool false := hD 3 rfl
            clear hO hD
            go_wp2
            exact ⟨_, rfl, Below.refl _ _, rfl⟩
          refine .no rfl (fun W => trivial) ?_
          refine .no rfl (fun W => trivial) ?_
          refine .no rfl (fun W => trivial) ?_
          refine .no rfl (fun W => trivial) ?_
          refine .yes rfl (fun a W Q hB hO hD => ?_) ?_
          · have e10 : a.tmps.getD 10 undef = .bool false := hD 4 rfl
            clear hO hD
            go_wp2
            exact ⟨_, rfl, Below.refl _ _, rfl⟩
          refine .yes rfl (fun a W Q hB hO hD => ?_) ?_
          · have e15 : a.tmps.getD 15 undef = .bool false := hD 9 rfl
            clear hO hD
            go_wp2
            exact ⟨_, rfl, Below.refl _ _, rfl⟩
          refine .no rfl (fun W => trivial) ?_
          refine .no rfl (fun W => trivial) ?_
          refine .no rfl (fun W => trivial) ?_
          refine .no rfl (fun W => trivial) ?_
          refine .no rfl (fun W => trivial) ?_
          refine .no rfl (fun W => trivial) ?_
          refine .no rfl (fun W => trivial) ?_
          refine .no rfl (fun W => trivial) ?_
          refine .no rfl (fun W => trivial) ?_
          refine .yes rfl (fun a W Q hB hO hD => ?_) ?_
          · have e16 : a.tmps.getD 16 undef = .bool false := hD 10 rfl
            clear hO hD
            go_wp2
            exact ⟨_, rfl, Below.refl _ _, rfl⟩
          exact .nil
        · intro f V hBz hR
          have e20 : f 20 = .bool false := hR 20 (by decide)
          have HB2 := Lib.hid (hBw.out.trans (hBz.mono hBw.out.size))
          clear hR hBz
          simp only [putAll, Nat.zero_add, Nat.reduceAdd, Act.put, List.setIfInBounds_toArray, List.set_cons_zero, List.set_cons_succ, e20]
          go_wp2
          go_ret
          exact ⟨by rw [hS2.out]; rfl, HB2.out⟩
      · have hS2 := Lib.hid (hS3.out.trans (show _ = false by rw [Bool.and_eq_false_iff]; right; rw [decide_eq_false_iff_not]; have := H2.out.len; omega))
        have d2 : ((n : Int) == m) = false := by rw [beq_eq_false_iff_ne]; omega
        clear he
        go_wp2
        refine region_posts (by kernel_rfl) (tblSIz A c n n) (by kernel_rfl) ?_ ?_
        · skip
          refine .yes rfl (fun a W Q hB hO hD => ?_) ?_
          · have e5 : a.tmps.getD 5 undef = .int .i64 (n : Nat) := hO.slot 5 _ rfl rfl
            clear hO hD
            go_wp2
            exact ⟨_, rfl, Below.refl _ _, rfl⟩
          refine .yes rfl (fun a W Q hB hO hD => ?_) ?_
          · have e0 : a.tmps.getD 0 undef = .slice A n c := hO.slot 0 _ rfl rfl
            clear hO hD
            go_wp2
            exact ⟨_, rfl, Below.refl _ _, rfl⟩
          refine .yes rfl (fun a W Q hB hO hD => ?_) ?_
          · have e7 : a.tmps.getD 7 undef = .slice A n c := hD 1 rfl
            clear hO hD
            go_wp2
            exact ⟨_, rfl, Below.refl _ _, rfl⟩
          refine .yes rfl (fun a W Q hB hO hD => ?_) ?_
          · have e6 : a.tmps.getD 6 undef = .int .i64 (n : Nat) := hD 0 rfl
            have e8 : a.tmps.getD 8 undef = .int .i64 (n : Nat) := hD 2 rfl
            clear hO hD
            have hd := HD.out
            go_wp2
            exact ⟨_, rfl, Below.refl _ _, rfl⟩
          refine .yes rfl (fun a W Q hB hO hD => ?_) ?_
          · have e9 : a.tmps.getD 9 undef = .bool false := hD 3 rfl
            clear hO hD
            go_wp2
            exact ⟨_, rfl, Below.refl _ _, rfl⟩
          refine .no rfl (fun W => trivial) ?_
          refine .no rfl (fun W => trivial) ?_
          refine .no rfl (fun W => trivial) ?_
          refine .no rfl (fun W => trivial) ?_
          refine .yes rfl (fun a W Q hB hO hD => ?_) ?_
          · have e10 : a.tmps.getD 10 undef = .bool false := hD 4 rfl
            clear hO hD
            go_wp2
            exact ⟨_, rfl, Below.refl _ _, rfl⟩
          refine .yes rfl (fun a W Q hB hO hD => ?_) ?_
          · have e15 : a.tmps.getD 15 undef = .bool false := hD 9 rfl
            clear hO hD
            go_wp2
            exact ⟨_, rfl, Below.refl _ _, rfl⟩
          refine .no rfl (fun W => trivial) ?_
          refine .no rfl (fun W => trivial) ?_
          refine .no rfl (fun W => trivial) ?_
          refine .no rfl (fun W => trivial) ?_
          refine .no rfl (fun W => trivial) ?_
          refine .no rfl (fun W => trivial) ?_
          refine .no rfl (fun W => trivial) ?_
          refine .no rfl (fun W => trivial) ?_
          refine .no rfl (fun W => trivial) ?_
          refine .yes rfl (fun a W Q hB hO hD => ?_) ?_
          · have e16 : a.tmps.getD 16 undef = .bool false := hD 10 rfl
            clear hO hD
            go_wp2
            exact ⟨_, rfl, Below.refl _ _, rfl⟩
          exact .nil
        · intro f V hBz hR
          have e20 : f 20 = .bool false := hR 20 (by decide)
          have HB2 := Lib.hid (hBw.out.trans (hBz.mono hBw.out.size))
          clear hR hBz
          simp only [putAll, Nat.zero_add, Nat.reduceAdd, Act.put, List.setIfInBounds_toArray, List.set_cons_zero, List.set_cons_succ, e20]
          go_wp2
          go_ret
          exact ⟨by rw [hS2.out]; rfl, HB2.out⟩
end Go.Proofs.YtljihclpgpmfeaaDoor
