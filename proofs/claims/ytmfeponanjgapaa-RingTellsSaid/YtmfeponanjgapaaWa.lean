/- Walks: Great, bytes.Compare, bytes.Equal, slices.CompareFunc, ring.Compare. -/
import Derived.Test.YtmfeponanjgapaaWd
import Derived.Test.YtmfeponanjgapaaReg
import Derived.WalkSpells
import Derived.WalkLawsBesides
import Derived.Outline
import Derived.Deep.DeepFit
import Derived.Deep.QuietTactic
import Derived.BigQuiet
import Derived.Deep.RegionHeld3
import Derived.Deep.DeepCutAuto
import Derived.Laws.Externs
namespace Go.Proofs.Ytmfeponanjgapaa
open Go.RowKit

/-- Has a circle more than is looked at? -/
def greatW (ws : List (List UInt8)) : Bool := ws.any (fun l => decide (60 < l.length)) || decide (60 < ws.length)
theorem greatW_yes {ws : List (List UInt8)} {k : Nat} {l : List UInt8} (h : ws[k]? = some l) (hl : 60 < l.length) : greatW ws = true := by
  unfold greatW
  rw [Bool.or_eq_true]
  left
  rw [List.any_eq_true]
  exact ⟨l, List.mem_of_getElem? h, by simpa using hl⟩
theorem greatW_len {ws : List (List UInt8)} (h : ∀ (j : Nat) (l : List UInt8), ws[j]? = some l → l.length ≤ 60) : greatW ws = decide (60 < ws.length) := by
  unfold greatW
  have : ws.any (fun l => decide (60 < l.length)) = false := by
    rw [List.any_eq_false]
    intro l hl
    obtain ⟨j, hj⟩ := List.mem_iff_getElem?.1 hl
    have := h j l hj
    simp; omega
  rw [this, Bool.false_or]
theorem greatW_false {ws : List (List UInt8)} (h : greatW ws = false) : ws.length ≤ 60 ∧ ∀ l ∈ ws, l.length ≤ 60 := by
  unfold greatW at h
  rw [Bool.or_eq_false_iff, List.any_eq_false] at h
  exact ⟨by have := h.2; simp at this; exact this, fun l hl => by have := h.1 l hl; simp at this; exact this⟩

set_option maxRecDepth 100000 in
set_option maxHeartbeats 2000000 in
theorem great_any (A : Option Addr) (c n : Nat) (ws : List (List UInt8)) (w : World) (hr : RdW w A ws) (hl : n = ws.length) (hn : n ≤ 9223372036854775807) :
    Calls Try.prog 7 #[.slice A n c] w fun e w' => e = .returned (.bool (greatW ws)) ∧ w = w' := by
  obtain ⟨b, off, h0, h1⟩ := hr.at
  have H1 := Lib.hid h1; have H0 := Lib.hid h0; have HL := Lib.hid hl
  clear hr h1 h0 hl
  go_enter Try.func7, Try.ntmps7
  go_wp2
  go_loop [3, 6] (fun _ i => ∃ k : Nat, k ≤ n ∧ i = .int .i64 k ∧ Hid (∀ (j : Nat) (l : List UInt8), j < k → ws[j]? = some l → l.length ≤ 60)) (fun _ i => n - (intOf i).toNat)
  case atStart => exact ⟨0, Nat.zero_le _, rfl, Lib.hid fun j l hj => absurd hj (Nat.not_lt_zero _)⟩
  case round =>
    obtain ⟨k, hk, rfl, hS⟩ := hrel
    by_cases hlt : k < n
    · obtain ⟨l, hl⟩ : ∃ l, ws[k]? = some l := ⟨_, List.getElem?_eq_getElem (by have := HL.out; omega)⟩
      have hA := (H0.out (by have := HL.out; omega)).1
      subst hA
      obtain ⟨B, d, hc, _⟩ := H1.out k l hl
      have HLk := Lib.hid hl
      obtain ⟨m, hm⟩ : ∃ m, m = l.length := ⟨_, rfl⟩
      rw [← hm] at hc
      have HM := Lib.hid hm
      clear hl hm
      by_cases hg : 60 < m
      · have hG := Lib.hid (greatW_yes HLk.out (by have := HM.out; omega))
        go_wp2
        go_ret
        exact ⟨by rw [hG.out]; rfl, rfl⟩
      · go_wp2
        go_round
        case rel =>
          refine ⟨k + 1, by omega, by go_num, Lib.hid fun j l' hj hl' => ?_⟩
          rcases Nat.lt_or_ge j k with h | h
          · exact hS.out j l' h hl'
          · obtain rfl : j = k := by omega
            have := HLk.out
            rw [this] at hl'
            injection hl' with hl'
            have := HM.out
            subst hl'
            omega
        case measure => simp [intOf]; omega
    · have hG := Lib.hid (greatW_len (ws := ws) (fun j l hj => hS.out j l (by have h1 := (List.getElem?_eq_some_iff.1 hj).1; have := HL.out; omega) hj))
      go_wp2
      go_ret
      exact ⟨by rw [hG.out]; have := HL.out; subst this; simp; omega, rfl⟩

set_option maxRecDepth 100000 in
theorem bytesCompare_any (A B : Option Addr) (n c m d : Nat) (k l : List UInt8) (w : World) (hn : n = k.length) (hm : m = l.length) (hr : Rd w A (cellsB k)) (hs : Rd w B (cellsB l)) :
    Calls Try.prog 27 #[.slice A n c, .slice B m d] w fun e w' => e = .returned (.int .i64 (Lib.compareBytes k l)) ∧ w = w' := by
  have HR := Lib.hid (run_compareWords A B n c m d k l w hn hm hr hs)
  clear hr hs hn hm
  go_enter Try.func27, Try.ntmps27
  go_wp2
  rw [run_callFunc_extern Try.func37 (by kernel_rfl) (by kernel_rfl) (by kernel_rfl) (e := Extern.BytealgCompare.compare) (by kernel_rfl), HR.out]
  simp only [Result.andThen]
  rw [Oper.upon_value]
  go_wp2
  go_ret
  exact ⟨rfl, rfl⟩
set_option maxRecDepth 100000 in
theorem bytesEqual_any (A B : Option Addr) (n c m d : Nat) (k l : List UInt8) (w : World) (hn : n = k.length) (hm : m = l.length) (hr : Rd w A (cellsB k)) (hs : Rd w B (cellsB l)) :
    Calls Try.prog 35 #[.slice A n c, .slice B m d] w fun e w' => e = .returned (.bool (k == l)) ∧ w = w' := by
  have c1 := conv_word A n c k w hn hr
  have c2 := conv_word B m d l w hm hs
  have HB := Lib.hid (strB_beq k l)
  generalize strB k = X at c1 HB
  generalize strB l = Y at c2 HB
  clear hr hs hn hm
  go_enter Try.func35, Try.ntmps35
  go_wp2
  go_ret
  exact ⟨by rw [← HB.out]; rfl, rfl⟩
/-- How two lists of words stand. -/
def cmpW : List (List UInt8) → List (List UInt8) → Int
  | [], [] => 0
  | [], _ :: _ => -1
  | _ :: _, [] => 1
  | a :: us, b :: vs => if Lib.compareBytes a b = 0 then cmpW us vs else Lib.compareBytes a b
theorem cmpW_step {us vs : List (List UInt8)} {k : Nat} {a b : List UInt8} (ha : us[k]? = some a) (hb : vs[k]? = some b) : cmpW (us.drop k) (vs.drop k) = if Lib.compareBytes a b = 0 then cmpW (us.drop (k + 1)) (vs.drop (k + 1)) else Lib.compareBytes a b := by
  obtain ⟨h1, rfl⟩ := List.getElem?_eq_some_iff.1 ha
  obtain ⟨h2, rfl⟩ := List.getElem?_eq_some_iff.1 hb
  rw [List.drop_eq_getElem_cons h1, List.drop_eq_getElem_cons h2]
  rfl
theorem cmpW_left {us vs : List (List UInt8)} {k : Nat} (ha : us.length ≤ k) (hb : k < vs.length) : cmpW (us.drop k) (vs.drop k) = -1 := by
  rw [List.drop_eq_nil_of_le ha, List.drop_eq_getElem_cons hb]
  rfl
theorem cmpW_right {us vs : List (List UInt8)} {k : Nat} (ha : k < us.length) (hb : vs.length ≤ k) : cmpW (us.drop k) (vs.drop k) = 1 := by
  rw [List.drop_eq_nil_of_le hb, List.drop_eq_getElem_cons ha]
  rfl
theorem cmpW_none {us vs : List (List UInt8)} {k : Nat} (ha : us.length ≤ k) (hb : vs.length ≤ k) : cmpW (us.drop k) (vs.drop k) = 0 := by
  rw [List.drop_eq_nil_of_le hb, List.drop_eq_nil_of_le ha]
  rfl
set_option maxRecDepth 100000 in
set_option maxHeartbeats 2000000 in
theorem compareFunc_any (A B : Option Addr) (c d n m : Nat) (us vs : List (List UInt8)) (w : World) (hr : RdW w A us) (hs : RdW w B vs) (hl : n = us.length) (hk : m = vs.length) (hn : n ≤ 9223372036854775807) :
    Calls Try.prog 26 #[.slice A n c, .slice B m d, .func (.func 27) #[] #[]] w fun e w' => e = .returned (.int .i64 (cmpW us vs)) ∧ w = w' := by
  obtain ⟨b, off, h0, h1⟩ := hr.at
  obtain ⟨b', off', h0', h1'⟩ := hs.at
  have H1 := Lib.hid h1; have H0 := Lib.hid h0; have HL := Lib.hid hl
  have K1 := Lib.hid h1'; have K0 := Lib.hid h0'; have KL := Lib.hid hk
  clear hr h1 h0 hl hs h1' h0' hk
  go_enter Try.func26, Try.ntmps26
  go_wp2
  go_loop [13] (fun i => ∃ k : Nat, k ≤ n ∧ k ≤ m ∧ i = .int .i64 k ∧ Hid (cmpW us vs = cmpW (us.drop k) (vs.drop k))) (fun i => n - (intOf i).toNat)
  case atStart => exact ⟨0, Nat.zero_le _, Nat.zero_le _, rfl, Lib.hid rfl⟩
  case round =>
    obtain ⟨k, hk, hkm, rfl, hS⟩ := hrel
    by_cases hlt : k < n
    · have hA := (H0.out (by have := HL.out; omega)).1
      subst hA
      by_cases hm : k < m
      · have hB := (K0.out (by have := KL.out; omega)).1
        subst hB
        obtain ⟨a, ha⟩ : ∃ l, us[k]? = some l := ⟨_, List.getElem?_eq_getElem (by have := HL.out; omega)⟩
        obtain ⟨x, hx⟩ : ∃ l, vs[k]? = some l := ⟨_, List.getElem?_eq_getElem (by have := KL.out; omega)⟩
        obtain ⟨A', c', hc, hra⟩ := H1.out k a ha
        obtain ⟨B', d', hd, hrb⟩ := K1.out k x hx
        have hst := Lib.hid (hS.out.trans (cmpW_step ha hx))
        have RA := Lib.hid hra; have RB := Lib.hid hrb
        clear ha hx hra hrb hS
        go_wp2_with fail
        refine (bytesCompare_any A' B' a.length c' x.length d' a x _ rfl rfl RA.out RB.out).mono ?_
        rintro e _ ⟨rfl, rfl⟩
        obtain ⟨r, hr⟩ : ∃ r, Lib.compareBytes a x = r := ⟨_, rfl⟩
        rw [hr]
        have HR := Lib.hid hr
        clear hr
        by_cases hz : r = 0
        · subst hz
          have hs2 := Lib.hid (hst.out.trans (if_pos HR.out))
          go_wp2
          go_round
          case rel => exact ⟨k + 1, by omega, by omega, by go_num, hs2⟩
          case measure => simp [intOf]; omega
        · have hs2 := Lib.hid (hst.out.trans ((if_neg (by rw [HR.out]; exact hz)).trans HR.out))
          have hz1 : (r == 0) = false := by simpa using hz
          have hz2 : (r != 0) = true := by simpa using hz
          clear hz
          go_wp2
          go_ret
          exact ⟨by rw [hs2.out]; rfl, rfl⟩
      · have hs2 := Lib.hid (hS.out.trans (cmpW_right (k := k) (by have := HL.out; omega) (by have := KL.out; omega)))
        obtain ⟨a, ha⟩ : ∃ l, us[k]? = some l := ⟨_, List.getElem?_eq_getElem (by have := HL.out; omega)⟩
        obtain ⟨A', c', hc, _⟩ := H1.out k a ha
        clear ha
        go_wp2
        go_ret
        exact ⟨by rw [hs2.out]; rfl, rfl⟩
    · obtain rfl : k = n := by omega
      by_cases hm : k < m
      · have hs2 := Lib.hid (hS.out.trans (cmpW_left (k := k) (by have := HL.out; omega) (by have := KL.out; omega)))
        go_wp2
        go_ret
        exact ⟨by rw [hs2.out]; rfl, rfl⟩
      · have hs2 := Lib.hid (hS.out.trans (cmpW_none (k := k) (by have := HL.out; omega) (by have := KL.out; omega)))
        go_wp2
        go_ret
        exact ⟨by rw [hs2.out]; rfl, rfl⟩
set_option maxRecDepth 100000 in
theorem compare_any (A B : Option Addr) (c d n m : Nat) (us vs : List (List UInt8)) (w : World) (hr : RdW w A us) (hs : RdW w B vs) (hl : n = us.length) (hk : m = vs.length) (hn : n ≤ 9223372036854775807) :
    Calls Try.prog 12 #[.slice A n c, .slice B m d] w fun e w' => e = .returned (.int .i64 (cmpW us vs)) ∧ w = w' := by
  have HH := Lib.hid (compareFunc_any A B c d n m us vs w hr hs hl hk hn)
  clear hr hs hl hk
  go_enter Try.func12, Try.ntmps12
  go_wp2_with fail
  refine HH.out.mono ?_
  rintro e _ ⟨rfl, rfl⟩
  go_wp2
  go_ret
  exact ⟨rfl, rfl⟩
end Go.Proofs.Ytmfeponanjgapaa
