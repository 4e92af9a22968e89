/- Texts of numbers, plainly; walks: graph.number, pair. -/
import Derived.Test.YtljihclpgpmfeaaDoorGf
import Derived.Test.YtljihclpgpmfeaaDoorWd
namespace Go.Proofs.YtljihclpgpmfeaaDoor
set_option maxRecDepth 100000
open Go.RowKit

def isDig (b : UInt8) : Bool := decide (48 ≤ b.toNat) && decide (b.toNat ≤ 57)
/-- How many digits stand at the front (nine at most). -/
def lenD (l : List UInt8) : Nat := ((l.take 9).takeWhile isDig).length
/-- What digits say. -/
def valD (l : List UInt8) : Nat := l.foldl (fun n b => 10 * n + (b.toNat - 48)) 0
theorem valD_snoc (l : List UInt8) (b : UInt8) : valD (l ++ [b]) = 10 * valD l + (b.toNat - 48) := by simp [valD, List.foldl_append]
theorem valD_lt {l : List UInt8} (h : ∀ b ∈ l, isDig b = true) : valD l < 10 ^ l.length := by
  have key : ∀ (l : List UInt8) (a : Nat), (∀ b ∈ l, isDig b = true) → l.foldl (fun n b => 10 * n + (b.toNat - 48)) a < (a + 1) * 10 ^ l.length := by
    intro l
    induction l with
    | nil => intro a _; simp
    | cons b l ih =>
      intro a h
      have h1 := ih (10 * a + (b.toNat - 48)) fun x hx => h x (by simp [hx])
      have h2 := h b (by simp)
      unfold isDig at h2
      rw [Bool.and_eq_true, decide_eq_true_eq, decide_eq_true_eq] at h2
      rw [List.foldl_cons, List.length_cons, Nat.pow_succ]
      refine Nat.lt_of_lt_of_le h1 ?_
      rw [Nat.mul_comm (10 ^ l.length) 10, ← Nat.mul_assoc]
      exact Nat.mul_le_mul_right _ (by omega)
  have := key l 0 h
  simpa [valD] using this
def numG (l : List UInt8) (bh : UInt8) : Option (Nat × List UInt8) :=
  if lenD l = 0 ∨ (1 < lenD l ∧ l[0]? = some 48) then none else if l[lenD l]? = some bh then some (valD (l.take (lenD l)), l.drop (lenD l + 1)) else none
theorem lenD_eq {l : List UInt8} {k : Nat} (h9 : k ≤ 9) (hl : k ≤ l.length) (hd : ∀ t b, t < k → l[t]? = some b → isDig b = true) (he : k = 9 ∨ k = l.length ∨ ∃ b, l[k]? = some b ∧ isDig b = false) : lenD l = k := by
  unfold lenD
  have key : ∀ (l : List UInt8) (k : Nat), k ≤ l.length → (∀ t b, t < k → l[t]? = some b → isDig b = true) → (k = l.length ∨ ∃ b, l[k]? = some b ∧ isDig b = false) → (l.takeWhile isDig).length = k := by
    intro l
    induction l with
    | nil => intro k hk _ _; simp at hk ⊢; omega
    | cons a l ih =>
      intro k hk hd he
      cases k with
      | zero =>
        rcases he with he | ⟨b, hb, hbd⟩
        · simp at he
        · simp at hb
          subst hb
          rw [List.takeWhile_cons, hbd]
          rfl
      | succ k =>
        have h0 := hd 0 a (Nat.succ_pos _) rfl
        rw [List.takeWhile_cons, h0]
        show (l.takeWhile isDig).length + 1 = k + 1
        rw [ih k (by simpa using hk) (fun t b ht hb => hd (t + 1) b (by omega) (by simpa using hb)) (by
          rcases he with he | ⟨b, hb, hbd⟩
          · left; simpa using he
          · right; exact ⟨b, by simpa using hb, hbd⟩)]
  refine key (l.take 9) k (by rw [List.length_take]; omega) (fun t b ht hb => hd t b ht ?_) ?_
  · rw [List.getElem?_take] at hb
    split at hb
    · exact hb
    · cases hb
  · rcases he with he | he | ⟨b, hb, hbd⟩
    · by_cases h : l.length ≤ 9
      · left; rw [List.length_take]; omega
      · left; rw [List.length_take]; omega
    · left; rw [List.length_take]; omega
    · by_cases h : k < 9
      · right; exact ⟨b, by rw [List.getElem?_take, if_pos h]; exact hb, hbd⟩
      · have hkl := (List.getElem?_eq_some_iff.1 hb).1
        left; rw [List.length_take]; omega
theorem strB_get {l : List UInt8} {i : Nat} {b : UInt8} (h : l[i]? = some b) (hi : i < (strB l).size) : (strB l)[i] = b := by
  obtain ⟨h1, h2⟩ := List.getElem?_eq_some_iff.1 h
  exact h2
theorem strB_drop (l : List UInt8) (k : Nat) : (strB l).extract k l.length = strB (l.drop k) := by
  apply ByteArray.ext
  apply Array.ext'
  simp [strB]
  rw [List.take_of_length_le (by simp)]
def NumV (o : Option (Nat × List UInt8)) : Value := match o with
  | none => .tuple #[.int .i64 0, .string ⟨#[]⟩, .bool false]
  | some (n, r) => .tuple #[.int .i64 (n : Int), .string (strB r), .bool true]
def tblN9 (v : Nat) (S : ByteArray) (k : Nat) (S2 : ByteArray) : List Pst := [Pst.val (.int .i64 (v : Nat)), Pst.val (.string S), Pst.val (.int .i64 (k : Nat)), Pst.val (.int .i64 ((k : Int) + 1)), Pst.val (.string S2), Pst.val (.int .i64 (v : Nat)), Pst.val (.string S2), Pst.val (.bool true)]
set_option maxRecDepth 100000 in
set_option maxHeartbeats 16000000 in
theorem number_any (l : List UInt8) (bh : UInt8) (w : World) (hl : l.length ≤ 1000000000) :
    Calls Tryd.prog 64 #[.string (strB l), .int .u8 (bh.toNat : Int)] w fun e w' => e = .returned (NumV (numG l bh)) ∧ Below w.heap.size w w' := by
  have hsz := strB_size l
  go_enter Tryd.func64, Tryd.ntmps64
  go_wp2
  go_loopw [7, 8] (fun s7 s8 wr => ∃ k : Nat, k ≤ 9 ∧ k ≤ l.length ∧ s8 = .int .i64 (k : Int) ∧ s7 = .int .i64 (valD (l.take k) : Nat) ∧ Hid (∀ t b, t < k → l[t]? = some b → isDig b = true) ∧ Hid (wr = w)) (fun _ s8 _ => 9 - (intOf s8).toNat)
  case atStart => exact ⟨0, by omega, by omega, rfl, rfl, Lib.hid (fun t b ht => absurd ht (Nat.not_lt_zero _)), Lib.hid rfl⟩
  case round =>
    obtain ⟨k, hk9, hkl, rfl, rfl, HD, HW⟩ := hrel
    have hw := HW.out
    subst hw
    clear HW
    by_cases h1 : k < l.length
    · have d1 : decide ((k : Int) < (l.length : Int)) = true := decide_eq_true (by omega)
      by_cases h2 : k < 9
      · have d2 : decide ((k : Int) < 9) = true := decide_eq_true (by omega)
        obtain ⟨b, hb⟩ : ∃ b, l[k]? = some b := ⟨_, List.getElem?_eq_getElem h1⟩
        have hg : ∀ hi, (strB l)[k]'hi = b := fun hi => strB_get hb hi
        by_cases h3 : 48 ≤ b.toNat
        · have d3 : decide ((48 : Int) ≤ (b.toNat : Int)) = true := decide_eq_true (by omega)
          by_cases h4 : b.toNat ≤ 57
          · have d4 : decide ((b.toNat : Int) ≤ 57) = true := decide_eq_true (by omega)
            have hbd : isDig b = true := by unfold isDig; rw [decide_eq_true h3, decide_eq_true h4]; rfl
            have HD2 := Lib.hid (show ∀ t c, t < k + 1 → l[t]? = some c → isDig c = true from fun t c ht hc => by
              by_cases e : t = k
              · subst e; rw [hb] at hc; injection hc with hc; rw [← hc]; exact hbd
              · exact HD.out t c (by omega) hc)
            have HST := Lib.hid (show valD (l.take (k + 1)) = 10 * valD (l.take k) + (b.toNat - 48) by rw [List.take_add_one, hb]; exact valD_snoc _ _)
            have hv9 : valD (l.take k) < 1000000000 := by
              have h := valD_lt (l := l.take k) (fun c hc => by
                obtain ⟨t, ht⟩ := List.mem_iff_getElem?.1 hc
                rw [List.getElem?_take] at ht
                split at ht
                · exact HD.out t c (by assumption) ht
                · cases ht)
              refine Nat.lt_of_lt_of_le h ?_
              rw [List.length_take]
              exact Nat.pow_le_pow_right (n := 10) (by omega) (show min k l.length ≤ 9 by omega)
            obtain ⟨v, hv⟩ : ∃ v, valD (l.take k) = v := ⟨_, rfl⟩
            rw [hv] at hv9 HST ⊢
            clear hv hb hbd HD
            go_wp2
            go_roundw
            case rel => exact ⟨k + 1, by omega, by omega, by go_num, by rw [HST.out]; congr 1; omega, HD2, Lib.hid trivial⟩
            case measure => simp [intOf]; omega
          · have d4 : decide ((b.toNat : Int) ≤ 57) = false := decide_eq_false (by omega)
            have KL := Lib.hid (lenD_eq hk9 hkl HD.out (.inr (.inr ⟨b, hb, by unfold isDig; rw [decide_eq_false h4, Bool.and_false]⟩)))
            by_cases t0 : k = 0
            · have HF := Lib.hid (show numG l bh = none from if_pos (.inl (by rw [KL.out, t0])))
              have d5 : ((k : Int) == 0) = true := by rw [beq_iff_eq]; omega
              clear t0
              go_wp2
              go_ret3
              exact ⟨by rw [HF.out]; rfl, Below.refl _ _⟩
            have d5 : ((k : Int) == 0) = false := by rw [beq_eq_false_iff_ne]; omega
            obtain ⟨b0, hb0⟩ : ∃ b, l[0]? = some b := ⟨_, List.getElem?_eq_getElem (by omega)⟩
            have hg0 : ∀ hi, (strB l)[0]'hi = b0 := fun hi => strB_get hb0 hi
            by_cases t1 : 1 < k ∧ b0 = 48
            · have HF := Lib.hid (show numG l bh = none from if_pos (.inr ⟨by rw [KL.out]; exact t1.1, by rw [hb0, t1.2]⟩))
              have d6 : decide ((1 : Int) < (k : Int)) = true := decide_eq_true (by omega)
              have d7 : ((b0.toNat : Int) == 48) = true := by rw [t1.2]; rfl
              have hl0 : 0 < l.length := by omega
              clear t1 t0 hb0
              go_wp2
              go_ret3
              exact ⟨by rw [HF.out]; rfl, Below.refl _ _⟩
            have HPRE := Lib.hid (show ¬ (lenD l = 0 ∨ (1 < lenD l ∧ l[0]? = some 48)) from by
              rintro (h | ⟨h, h2⟩)
              · rw [KL.out] at h; exact t0 h
              · rw [KL.out] at h
                rw [hb0] at h2
                injection h2 with h2
                exact t1 ⟨h, h2⟩)
            have HD67 := Lib.hid (show (decide ((1 : Int) < (k : Int)) && ((b0.toNat : Int) == 48)) = false from by
              rw [Bool.and_eq_false_iff, decide_eq_false_iff_not, beq_eq_false_iff_ne]
              by_cases h1 : 1 < k
              · right
                intro h
                exact t1 ⟨h1, UInt8.toNat_inj.1 (by show b0.toNat = 48; omega)⟩
              · left; omega)
            clear t1 t0
            rcases (show decide ((1 : Int) < (k : Int)) = false ∨ (decide ((1 : Int) < (k : Int)) = true ∧ ((b0.toNat : Int) == 48) = false) from by
                have h := HD67.out
                cases hx : decide ((1 : Int) < (k : Int)) with
                | false => exact .inl rfl
                | true => rw [hx, Bool.true_and] at h; exact .inr ⟨rfl, h⟩) with d6 | ⟨d6, d7⟩
            · skip
              have hl0 : 0 < l.length := List.length_pos_iff.2 (fun h => by rw [h] at hb0; simp at hb0)
              clear hb0
              obtain ⟨cc, hcc⟩ : ∃ b, l[k]? = some b := ⟨_, List.getElem?_eq_getElem (by omega)⟩
              obtain rfl : cc = b := by rw [hb] at hcc; injection hcc with hcc; exact hcc.symm
              clear hb hg
              have hgc : ∀ hi, (strB l)[k]'hi = cc := fun hi => strB_get hcc hi
              have d8 : ((k : Int) == (l.length : Int)) = false := by rw [beq_eq_false_iff_ne]; omega
              have hkl2 : k < l.length := by omega
              by_cases t3 : cc = bh
              · subst t3
                have HF := Lib.hid (show numG l cc = some (valD (l.take k), l.drop (k + 1)) from (if_neg HPRE.out).trans (by rw [KL.out, if_pos hcc]))
                have HSL := Lib.hid (strB_drop l (k + 1)); have HSZ := Lib.hid hsz; have HKL := Lib.hid hkl2
                have d9 : ((cc.toNat : Int) != (cc.toNat : Int)) = false := by simp
                obtain ⟨v, hv⟩ : ∃ v, valD (l.take k) = v := ⟨_, rfl⟩
                rw [hv] at HF ⊢
                clear hv hcc
                go_wp2_with fail
                refine region_posts (by kernel_rfl) (tblN9 v (strB l) k (strB (l.drop (k + 1)))) (by kernel_rfl) ?_ ?_
                · skip
                  refine .yes rfl (fun a W Q hB hO hD => ?_) ?_
                  · have e7 : a.tmps.getD 7 undef = .int .i64 (v : Nat) := hO.slot 7 _ rfl rfl
                    clear hO hD
                    go_wp2
                    exact ⟨_, rfl, Below.refl _ _, rfl⟩
                  refine .yes rfl (fun a W Q hB hO hD => ?_) ?_
                  · have e0 : a.tmps.getD 0 undef = .string (strB l) := hO.slot 0 _ rfl rfl
                    clear hO hD
                    go_wp2
                    exact ⟨_, rfl, Below.refl _ _, rfl⟩
                  refine .yes rfl (fun a W Q hB hO hD => ?_) ?_
                  · have e8 : a.tmps.getD 8 undef = .int .i64 (k : Nat) := hO.slot 8 _ rfl rfl
                    clear hO hD
                    go_wp2
                    exact ⟨_, rfl, Below.refl _ _, rfl⟩
                  refine .yes rfl (fun a W Q hB hO hD => ?_) ?_
                  · have e63 : a.tmps.getD 63 undef = .int .i64 (k : Nat) := hD 2 rfl
                    clear hO hD
                    go_wp2
                    exact ⟨_, rfl, Below.refl _ _, rfl⟩
                  refine .yes rfl (fun a W Q hB hO hD => ?_) ?_
                  · have e62 : a.tmps.getD 62 undef = .string (strB l) := hD 1 rfl
                    have e64 : a.tmps.getD 64 undef = .int .i64 ((k : Int) + 1) := hD 3 rfl
                    clear hO hD
                    have hs := HSL.out
                    have hz := HSZ.out
                    have hk := HKL.out
                    go_wp2
                    exact ⟨_, rfl, Below.refl _ _, rfl⟩
                  refine .yes rfl (fun a W Q hB hO hD => ?_) ?_
                  · have e61 : a.tmps.getD 61 undef = .int .i64 (v : Nat) := hD 0 rfl
                    clear hO hD
                    go_wp2
                    exact ⟨_, rfl, Below.refl _ _, rfl⟩
                  refine .yes rfl (fun a W Q hB hO hD => ?_) ?_
                  · have e65 : a.tmps.getD 65 undef = .string (strB (l.drop (k + 1))) := hD 4 rfl
                    clear hO hD
                    go_wp2
                    exact ⟨_, rfl, Below.refl _ _, rfl⟩
                  refine .yes rfl (fun a W Q hB hO hD => ?_) ?_
                  · clear hO hD
                    go_wp2
                    exact ⟨_, rfl, Below.refl _ _, rfl⟩
                  exact .nil
                · intro f V hBz hR
                  have e5 : f 5 = .int .i64 (v : Nat) := hR 5 (by decide)
                  have e6 : f 6 = .string (strB (l.drop (k + 1))) := hR 6 (by decide)
                  have e7 : f 7 = .bool true := hR 7 (by decide)
                  have HBz := Lib.hid hBz
                  clear hR hBz
                  simp only [putAll, Nat.zero_add, Nat.reduceAdd, Act.put, List.setIfInBounds_toArray, List.set_cons_zero, List.set_cons_succ, e5, e6, e7]
                  go_wp2
                  go_ret3
                  exact ⟨by rw [HF.out]; rfl, HBz.out⟩
              · have HF := Lib.hid (show numG l bh = none from (if_neg HPRE.out).trans (if_neg (by rw [KL.out, hcc]; simp; exact t3)))
                have d9 : ((cc.toNat : Int) != (bh.toNat : Int)) = true := by
                  rw [bne_iff_ne]
                  intro h
                  exact t3 (UInt8.toNat_inj.1 (by omega))
                clear t3 hcc
                go_wp2
                go_ret3
                exact ⟨by rw [HF.out]; rfl, Below.refl _ _⟩
            · skip
              have hl0 : 0 < l.length := List.length_pos_iff.2 (fun h => by rw [h] at hb0; simp at hb0)
              clear hb0
              obtain ⟨cc, hcc⟩ : ∃ b, l[k]? = some b := ⟨_, List.getElem?_eq_getElem (by omega)⟩
              obtain rfl : cc = b := by rw [hb] at hcc; injection hcc with hcc; exact hcc.symm
              clear hb hg
              have hgc : ∀ hi, (strB l)[k]'hi = cc := fun hi => strB_get hcc hi
              have d8 : ((k : Int) == (l.length : Int)) = false := by rw [beq_eq_false_iff_ne]; omega
              have hkl2 : k < l.length := by omega
              by_cases t3 : cc = bh
              · subst t3
                have HF := Lib.hid (show numG l cc = some (valD (l.take k), l.drop (k + 1)) from (if_neg HPRE.out).trans (by rw [KL.out, if_pos hcc]))
                have HSL := Lib.hid (strB_drop l (k + 1)); have HSZ := Lib.hid hsz; have HKL := Lib.hid hkl2
                have d9 : ((cc.toNat : Int) != (cc.toNat : Int)) = false := by simp
                obtain ⟨v, hv⟩ : ∃ v, valD (l.take k) = v := ⟨_, rfl⟩
                rw [hv] at HF ⊢
                clear hv hcc
                go_wp2_with fail
                refine region_posts (by kernel_rfl) (tblN9 v (strB l) k (strB (l.drop (k + 1)))) (by kernel_rfl) ?_ ?_
                · skip
                  refine .yes rfl (fun a W Q hB hO hD => ?_) ?_
                  · have e7 : a.tmps.getD 7 undef = .int .i64 (v : Nat) := hO.slot 7 _ rfl rfl
                    clear hO hD
                    go_wp2
                    exact ⟨_, rfl, Below.refl _ _, rfl⟩
                  refine .yes rfl (fun a W Q hB hO hD => ?_) ?_
                  · have e0 : a.tmps.getD 0 undef = .string (strB l) := hO.slot 0 _ rfl rfl
                    clear hO hD
                    go_wp2
                    exact ⟨_, rfl, Below.refl _ _, rfl⟩
                  refine .yes rfl (fun a W Q hB hO hD => ?_) ?_
                  · have e8 : a.tmps.getD 8 undef = .int .i64 (k : Nat) := hO.slot 8 _ rfl rfl
                    clear hO hD
                    go_wp2
                    exact ⟨_, rfl, Below.refl _ _, rfl⟩
                  refine .yes rfl (fun a W Q hB hO hD => ?_) ?_
                  · have e63 : a.tmps.getD 63 undef = .int .i64 (k : Nat) := hD 2 rfl
                    clear hO hD
                    go_wp2
                    exact ⟨_, rfl, Below.refl _ _, rfl⟩
                  refine .yes rfl (fun a W Q hB hO hD => ?_) ?_
                  · have e62 : a.tmps.getD 62 undef = .string (strB l) := hD 1 rfl
                    have e64 : a.tmps.getD 64 undef = .int .i64 ((k : Int) + 1) := hD 3 rfl
                    clear hO hD
                    have hs := HSL.out
                    have hz := HSZ.out
                    have hk := HKL.out
                    go_wp2
                    exact ⟨_, rfl, Below.refl _ _, rfl⟩
                  refine .yes rfl (fun a W Q hB hO hD => ?_) ?_
                  · have e61 : a.tmps.getD 61 undef = .int .i64 (v : Nat) := hD 0 rfl
                    clear hO hD
                    go_wp2
                    exact ⟨_, rfl, Below.refl _ _, rfl⟩
                  refine .yes rfl (fun a W Q hB hO hD => ?_) ?_
                  · have e65 : a.tmps.getD 65 undef = .string (strB (l.drop (k + 1))) := hD 4 rfl
                    clear hO hD
                    go_wp2
                    exact ⟨_, rfl, Below.refl _ _, rfl⟩
                  refine .yes rfl (fun a W Q hB hO hD => ?_) ?_
                  · clear hO hD
                    go_wp2
                    exact ⟨_, rfl, Below.refl _ _, rfl⟩
                  exact .nil
                · intro f V hBz hR
                  have e5 : f 5 = .int .i64 (v : Nat) := hR 5 (by decide)
                  have e6 : f 6 = .string (strB (l.drop (k + 1))) := hR 6 (by decide)
                  have e7 : f 7 = .bool true := hR 7 (by decide)
                  have HBz := Lib.hid hBz
                  clear hR hBz
                  simp only [putAll, Nat.zero_add, Nat.reduceAdd, Act.put, List.setIfInBounds_toArray, List.set_cons_zero, List.set_cons_succ, e5, e6, e7]
                  go_wp2
                  go_ret3
                  exact ⟨by rw [HF.out]; rfl, HBz.out⟩
              · have HF := Lib.hid (show numG l bh = none from (if_neg HPRE.out).trans (if_neg (by rw [KL.out, hcc]; simp; exact t3)))
                have d9 : ((cc.toNat : Int) != (bh.toNat : Int)) = true := by
                  rw [bne_iff_ne]
                  intro h
                  exact t3 (UInt8.toNat_inj.1 (by omega))
                clear t3 hcc
                go_wp2
                go_ret3
                exact ⟨by rw [HF.out]; rfl, Below.refl _ _⟩
        · have d3 : decide ((48 : Int) ≤ (b.toNat : Int)) = false := decide_eq_false (by omega)
          have KL := Lib.hid (lenD_eq hk9 hkl HD.out (.inr (.inr ⟨b, hb, by unfold isDig; rw [decide_eq_false h3, Bool.false_and]⟩)))
          by_cases t0 : k = 0
          · have HF := Lib.hid (show numG l bh = none from if_pos (.inl (by rw [KL.out, t0])))
            have d5 : ((k : Int) == 0) = true := by rw [beq_iff_eq]; omega
            clear t0
            go_wp2
            go_ret3
            exact ⟨by rw [HF.out]; rfl, Below.refl _ _⟩
          have d5 : ((k : Int) == 0) = false := by rw [beq_eq_false_iff_ne]; omega
          obtain ⟨b0, hb0⟩ : ∃ b, l[0]? = some b := ⟨_, List.getElem?_eq_getElem (by omega)⟩
          have hg0 : ∀ hi, (strB l)[0]'hi = b0 := fun hi => strB_get hb0 hi
          by_cases t1 : 1 < k ∧ b0 = 48
          · have HF := Lib.hid (show numG l bh = none from if_pos (.inr ⟨by rw [KL.out]; exact t1.1, by rw [hb0, t1.2]⟩))
            have d6 : decide ((1 : Int) < (k : Int)) = true := decide_eq_true (by omega)
            have d7 : ((b0.toNat : Int) == 48) = true := by rw [t1.2]; rfl
            have hl0 : 0 < l.length := by omega
            clear t1 t0 hb0
            go_wp2
            go_ret3
            exact ⟨by rw [HF.out]; rfl, Below.refl _ _⟩
          have HPRE := Lib.hid (show ¬ (lenD l = 0 ∨ (1 < lenD l ∧ l[0]? = some 48)) from by
            rintro (h | ⟨h, h2⟩)
            · rw [KL.out] at h; exact t0 h
            · rw [KL.out] at h
              rw [hb0] at h2
              injection h2 with h2
              exact t1 ⟨h, h2⟩)
          have HD67 := Lib.hid (show (decide ((1 : Int) < (k : Int)) && ((b0.toNat : Int) == 48)) = false from by
            rw [Bool.and_eq_false_iff, decide_eq_false_iff_not, beq_eq_false_iff_ne]
            by_cases h1 : 1 < k
            · right
              intro h
              exact t1 ⟨h1, UInt8.toNat_inj.1 (by show b0.toNat = 48; omega)⟩
            · left; omega)
          clear t1 t0
          rcases (show decide ((1 : Int) < (k : Int)) = false ∨ (decide ((1 : Int) < (k : Int)) = true ∧ ((b0.toNat : Int) == 48) = false) from by
              have h := HD67.out
              cases hx : decide ((1 : Int) < (k : Int)) with
              | false => exact .inl rfl
              | true => rw [hx, Bool.true_and] at h; exact .inr ⟨rfl, h⟩) with d6 | ⟨d6, d7⟩
          · skip
            have hl0 : 0 < l.length := List.length_pos_iff.2 (fun h => by rw [h] at hb0; simp at hb0)
            clear hb0
            obtain ⟨cc, hcc⟩ : ∃ b, l[k]? = some b := ⟨_, List.getElem?_eq_getElem (by omega)⟩
            obtain rfl : cc = b := by rw [hb] at hcc; injection hcc with hcc; exact hcc.symm
            clear hb hg
            have hgc : ∀ hi, (strB l)[k]'hi = cc := fun hi => strB_get hcc hi
            have d8 : ((k : Int) == (l.length : Int)) = false := by rw [beq_eq_false_iff_ne]; omega
            have hkl2 : k < l.length := by omega
            by_cases t3 : cc = bh
            · subst t3
              have HF := Lib.hid (show numG l cc = some (valD (l.take k), l.drop (k + 1)) from (if_neg HPRE.out).trans (by rw [KL.out, if_pos hcc]))
              have HSL := Lib.hid (strB_drop l (k + 1)); have HSZ := Lib.hid hsz; have HKL := Lib.hid hkl2
              have d9 : ((cc.toNat : Int) != (cc.toNat : Int)) = false := by simp
              obtain ⟨v, hv⟩ : ∃ v, valD (l.take k) = v := ⟨_, rfl⟩
              rw [hv] at HF ⊢
              clear hv hcc
              go_wp2_with fail
              refine region_posts (by kernel_rfl) (tblN9 v (strB l) k (strB (l.drop (k + 1)))) (by kernel_rfl) ?_ ?_
              · skip
                refine .yes rfl (fun a W Q hB hO hD => ?_) ?_
                · have e7 : a.tmps.getD 7 undef = .int .i64 (v : Nat) := hO.slot 7 _ rfl rfl
                  clear hO hD
                  go_wp2
                  exact ⟨_, rfl, Below.refl _ _, rfl⟩
                refine .yes rfl (fun a W Q hB hO hD => ?_) ?_
                · have e0 : a.tmps.getD 0 undef = .string (strB l) := hO.slot 0 _ rfl rfl
                  clear hO hD
                  go_wp2
                  exact ⟨_, rfl, Below.refl _ _, rfl⟩
                refine .yes rfl (fun a W Q hB hO hD => ?_) ?_
                · have e8 : a.tmps.getD 8 undef = .int .i64 (k : Nat) := hO.slot 8 _ rfl rfl
                  clear hO hD
                  go_wp2
                  exact ⟨_, rfl, Below.refl _ _, rfl⟩
                refine .yes rfl (fun a W Q hB hO hD => ?_) ?_
                · have e63 : a.tmps.getD 63 undef = .int .i64 (k : Nat) := hD 2 rfl
                  clear hO hD
                  go_wp2
                  exact ⟨_, rfl, Below.refl _ _, rfl⟩
                refine .yes rfl (fun a W Q hB hO hD => ?_) ?_
                · have e62 : a.tmps.getD 62 undef = .string (strB l) := hD 1 rfl
                  have e64 : a.tmps.getD 64 undef = .int .i64 ((k : Int) + 1) := hD 3 rfl
                  clear hO hD
                  have hs := HSL.out
                  have hz := HSZ.out
                  have hk := HKL.out
                  go_wp2
                  exact ⟨_, rfl, Below.refl _ _, rfl⟩
                refine .yes rfl (fun a W Q hB hO hD => ?_) ?_
                · have e61 : a.tmps.getD 61 undef = .int .i64 (v : Nat) := hD 0 rfl
                  clear hO hD
                  go_wp2
                  exact ⟨_, rfl, Below.refl _ _, rfl⟩
                refine .yes rfl (fun a W Q hB hO hD => ?_) ?_
                · have e65 : a.tmps.getD 65 undef = .string (strB (l.drop (k + 1))) := hD 4 rfl
                  clear hO hD
                  go_wp2
                  exact ⟨_, rfl, Below.refl _ _, rfl⟩
                refine .yes rfl (fun a W Q hB hO hD => ?_) ?_
                · clear hO hD
                  go_wp2
                  exact ⟨_, rfl, Below.refl _ _, rfl⟩
                exact .nil
              · intro f V hBz hR
                have e5 : f 5 = .int .i64 (v : Nat) := hR 5 (by decide)
                have e6 : f 6 = .string (strB (l.drop (k + 1))) := hR 6 (by decide)
                have e7 : f 7 = .bool true := hR 7 (by decide)
                have HBz := Lib.hid hBz
                clear hR hBz
                simp only [putAll, Nat.zero_add, Nat.reduceAdd, Act.put, List.setIfInBounds_toArray, List.set_cons_zero, List.set_cons_succ, e5, e6, e7]
                go_wp2
                go_ret3
                exact ⟨by rw [HF.out]; rfl, HBz.out⟩
            · have HF := Lib.hid (show numG l bh = none from (if_neg HPRE.out).trans (if_neg (by rw [KL.out, hcc]; simp; exact t3)))
              have d9 : ((cc.toNat : Int) != (bh.toNat : Int)) = true := by
                rw [bne_iff_ne]
                intro h
                exact t3 (UInt8.toNat_inj.1 (by omega))
              clear t3 hcc
              go_wp2
              go_ret3
              exact ⟨by rw [HF.out]; rfl, Below.refl _ _⟩
          · skip
            have hl0 : 0 < l.length := List.length_pos_iff.2 (fun h => by rw [h] at hb0; simp at hb0)
            clear hb0
            obtain ⟨cc, hcc⟩ : ∃ b, l[k]? = some b := ⟨_, List.getElem?_eq_getElem (by omega)⟩
            obtain rfl : cc = b := by rw [hb] at hcc; injection hcc with hcc; exact hcc.symm
            clear hb hg
            have hgc : ∀ hi, (strB l)[k]'hi = cc := fun hi => strB_get hcc hi
            have d8 : ((k : Int) == (l.length : Int)) = false := by rw [beq_eq_false_iff_ne]; omega
            have hkl2 : k < l.length := by omega
            by_cases t3 : cc = bh
            · subst t3
              have HF := Lib.hid (show numG l cc = some (valD (l.take k), l.drop (k + 1)) from (if_neg HPRE.out).trans (by rw [KL.out, if_pos hcc]))
              have HSL := Lib.hid (strB_drop l (k + 1)); have HSZ := Lib.hid hsz; have HKL := Lib.hid hkl2
              have d9 : ((cc.toNat : Int) != (cc.toNat : Int)) = false := by simp
              obtain ⟨v, hv⟩ : ∃ v, valD (l.take k) = v := ⟨_, rfl⟩
              rw [hv] at HF ⊢
              clear hv hcc
              go_wp2_with fail
              refine region_posts (by kernel_rfl) (tblN9 v (strB l) k (strB (l.drop (k + 1)))) (by kernel_rfl) ?_ ?_
              · skip
                refine .yes rfl (fun a W Q hB hO hD => ?_) ?_
                · have e7 : a.tmps.getD 7 undef = .int .i64 (v : Nat) := hO.slot 7 _ rfl rfl
                  clear hO hD
                  go_wp2
                  exact ⟨_, rfl, Below.refl _ _, rfl⟩
                refine .yes rfl (fun a W Q hB hO hD => ?_) ?_
                · have e0 : a.tmps.getD 0 undef = .string (strB l) := hO.slot 0 _ rfl rfl
                  clear hO hD
                  go_wp2
                  exact ⟨_, rfl, Below.refl _ _, rfl⟩
                refine .yes rfl (fun a W Q hB hO hD => ?_) ?_
                · have e8 : a.tmps.getD 8 undef = .int .i64 (k : Nat) := hO.slot 8 _ rfl rfl
                  clear hO hD
                  go_wp2
                  exact ⟨_, rfl, Below.refl _ _, rfl⟩
                refine .yes rfl (fun a W Q hB hO hD => ?_) ?_
                · have e63 : a.tmps.getD 63 undef = .int .i64 (k : Nat) := hD 2 rfl
                  clear hO hD
                  go_wp2
                  exact ⟨_, rfl, Below.refl _ _, rfl⟩
                refine .yes rfl (fun a W Q hB hO hD => ?_) ?_
                · have e62 : a.tmps.getD 62 undef = .string (strB l) := hD 1 rfl
                  have e64 : a.tmps.getD 64 undef = .int .i64 ((k : Int) + 1) := hD 3 rfl
                  clear hO hD
                  have hs := HSL.out
                  have hz := HSZ.out
                  have hk := HKL.out
                  go_wp2
                  exact ⟨_, rfl, Below.refl _ _, rfl⟩
                refine .yes rfl (fun a W Q hB hO hD => ?_) ?_
                · have e61 : a.tmps.getD 61 undef = .int .i64 (v : Nat) := hD 0 rfl
                  clear hO hD
                  go_wp2
                  exact ⟨_, rfl, Below.refl _ _, rfl⟩
                refine .yes rfl (fun a W Q hB hO hD => ?_) ?_
                · have e65 : a.tmps.getD 65 undef = .string (strB (l.drop (k + 1))) := hD 4 rfl
                  clear hO hD
                  go_wp2
                  exact ⟨_, rfl, Below.refl _ _, rfl⟩
                refine .yes rfl (fun a W Q hB hO hD => ?_) ?_
                · clear hO hD
                  go_wp2
                  exact ⟨_, rfl, Below.refl _ _, rfl⟩
                exact .nil
              · intro f V hBz hR
                have e5 : f 5 = .int .i64 (v : Nat) := hR 5 (by decide)
                have e6 : f 6 = .string (strB (l.drop (k + 1))) := hR 6 (by decide)
                have e7 : f 7 = .bool true := hR 7 (by decide)
                have HBz := Lib.hid hBz
                clear hR hBz
                simp only [putAll, Nat.zero_add, Nat.reduceAdd, Act.put, List.setIfInBounds_toArray, List.set_cons_zero, List.set_cons_succ, e5, e6, e7]
                go_wp2
                go_ret3
                exact ⟨by rw [HF.out]; rfl, HBz.out⟩
            · have HF := Lib.hid (show numG l bh = none from (if_neg HPRE.out).trans (if_neg (by rw [KL.out, hcc]; simp; exact t3)))
              have d9 : ((cc.toNat : Int) != (bh.toNat : Int)) = true := by
                rw [bne_iff_ne]
                intro h
                exact t3 (UInt8.toNat_inj.1 (by omega))
              clear t3 hcc
              go_wp2
              go_ret3
              exact ⟨by rw [HF.out]; rfl, Below.refl _ _⟩
      · have d2 : decide ((k : Int) < 9) = false := decide_eq_false (by omega)
        have KL := Lib.hid (lenD_eq hk9 hkl HD.out (.inl (by omega)))
        by_cases t0 : k = 0
        · have HF := Lib.hid (show numG l bh = none from if_pos (.inl (by rw [KL.out, t0])))
          have d5 : ((k : Int) == 0) = true := by rw [beq_iff_eq]; omega
          clear t0
          go_wp2
          go_ret3
          exact ⟨by rw [HF.out]; rfl, Below.refl _ _⟩
        have d5 : ((k : Int) == 0) = false := by rw [beq_eq_false_iff_ne]; omega
        obtain ⟨b0, hb0⟩ : ∃ b, l[0]? = some b := ⟨_, List.getElem?_eq_getElem (by omega)⟩
        have hg0 : ∀ hi, (strB l)[0]'hi = b0 := fun hi => strB_get hb0 hi
        by_cases t1 : 1 < k ∧ b0 = 48
        · have HF := Lib.hid (show numG l bh = none from if_pos (.inr ⟨by rw [KL.out]; exact t1.1, by rw [hb0, t1.2]⟩))
          have d6 : decide ((1 : Int) < (k : Int)) = true := decide_eq_true (by omega)
          have d7 : ((b0.toNat : Int) == 48) = true := by rw [t1.2]; rfl
          have hl0 : 0 < l.length := by omega
          clear t1 t0 hb0
          go_wp2
          go_ret3
          exact ⟨by rw [HF.out]; rfl, Below.refl _ _⟩
        have HPRE := Lib.hid (show ¬ (lenD l = 0 ∨ (1 < lenD l ∧ l[0]? = some 48)) from by
          rintro (h | ⟨h, h2⟩)
          · rw [KL.out] at h; exact t0 h
          · rw [KL.out] at h
            rw [hb0] at h2
            injection h2 with h2
            exact t1 ⟨h, h2⟩)
        have HD67 := Lib.hid (show (decide ((1 : Int) < (k : Int)) && ((b0.toNat : Int) == 48)) = false from by
          rw [Bool.and_eq_false_iff, decide_eq_false_iff_not, beq_eq_false_iff_ne]
          by_cases h1 : 1 < k
          · right
            intro h
            exact t1 ⟨h1, UInt8.toNat_inj.1 (by show b0.toNat = 48; omega)⟩
          · left; omega)
        clear t1 t0
        rcases (show decide ((1 : Int) < (k : Int)) = false ∨ (decide ((1 : Int) < (k : Int)) = true ∧ ((b0.toNat : Int) == 48) = false) from by
            have h := HD67.out
            cases hx : decide ((1 : Int) < (k : Int)) with
            | false => exact .inl rfl
            | true => rw [hx, Bool.true_and] at h; exact .inr ⟨rfl, h⟩) with d6 | ⟨d6, d7⟩
        · skip
          have hl0 : 0 < l.length := List.length_pos_iff.2 (fun h => by rw [h] at hb0; simp at hb0)
          clear hb0
          obtain ⟨cc, hcc⟩ : ∃ b, l[k]? = some b := ⟨_, List.getElem?_eq_getElem (by omega)⟩
          have hgc : ∀ hi, (strB l)[k]'hi = cc := fun hi => strB_get hcc hi
          have d8 : ((k : Int) == (l.length : Int)) = false := by rw [beq_eq_false_iff_ne]; omega
          have hkl2 : k < l.length := by omega
          by_cases t3 : cc = bh
          · subst t3
            have HF := Lib.hid (show numG l cc = some (valD (l.take k), l.drop (k + 1)) from (if_neg HPRE.out).trans (by rw [KL.out, if_pos hcc]))
            have HSL := Lib.hid (strB_drop l (k + 1)); have HSZ := Lib.hid hsz; have HKL := Lib.hid hkl2
            have d9 : ((cc.toNat : Int) != (cc.toNat : Int)) = false := by simp
            obtain ⟨v, hv⟩ : ∃ v, valD (l.take k) = v := ⟨_, rfl⟩
            rw [hv] at HF ⊢
            clear hv hcc
            go_wp2_with fail
            refine region_posts (by kernel_rfl) (tblN9 v (strB l) k (strB (l.drop (k + 1)))) (by kernel_rfl) ?_ ?_
            · skip
              refine .yes rfl (fun a W Q hB hO hD => ?_) ?_
              · have e7 : a.tmps.getD 7 undef = .int .i64 (v : Nat) := hO.slot 7 _ rfl rfl
                clear hO hD
                go_wp2
                exact ⟨_, rfl, Below.refl _ _, rfl⟩
              refine .yes rfl (fun a W Q hB hO hD => ?_) ?_
              · have e0 : a.tmps.getD 0 undef = .string (strB l) := hO.slot 0 _ rfl rfl
                clear hO hD
                go_wp2
                exact ⟨_, rfl, Below.refl _ _, rfl⟩
              refine .yes rfl (fun a W Q hB hO hD => ?_) ?_
              · have e8 : a.tmps.getD 8 undef = .int .i64 (k : Nat) := hO.slot 8 _ rfl rfl
                clear hO hD
                go_wp2
                exact ⟨_, rfl, Below.refl _ _, rfl⟩
              refine .yes rfl (fun a W Q hB hO hD => ?_) ?_
              · have e63 : a.tmps.getD 63 undef = .int .i64 (k : Nat) := hD 2 rfl
                clear hO hD
                go_wp2
                exact ⟨_, rfl, Below.refl _ _, rfl⟩
              refine .yes rfl (fun a W Q hB hO hD => ?_) ?_
              · have e62 : a.tmps.getD 62 undef = .string (strB l) := hD 1 rfl
                have e64 : a.tmps.getD 64 undef = .int .i64 ((k : Int) + 1) := hD 3 rfl
                clear hO hD
                have hs := HSL.out
                have hz := HSZ.out
                have hk := HKL.out
                go_wp2
                exact ⟨_, rfl, Below.refl _ _, rfl⟩
              refine .yes rfl (fun a W Q hB hO hD => ?_) ?_
              · have e61 : a.tmps.getD 61 undef = .int .i64 (v : Nat) := hD 0 rfl
                clear hO hD
                go_wp2
                exact ⟨_, rfl, Below.refl _ _, rfl⟩
              refine .yes rfl (fun a W Q hB hO hD => ?_) ?_
              · have e65 : a.tmps.getD 65 undef = .string (strB (l.drop (k + 1))) := hD 4 rfl
                clear hO hD
                go_wp2
                exact ⟨_, rfl, Below.refl _ _, rfl⟩
              refine .yes rfl (fun a W Q hB hO hD => ?_) ?_
              · clear hO hD
                go_wp2
                exact ⟨_, rfl, Below.refl _ _, rfl⟩
              exact .nil
            · intro f V hBz hR
              have e5 : f 5 = .int .i64 (v : Nat) := hR 5 (by decide)
              have e6 : f 6 = .string (strB (l.drop (k + 1))) := hR 6 (by decide)
              have e7 : f 7 = .bool true := hR 7 (by decide)
              have HBz := Lib.hid hBz
              clear hR hBz
              simp only [putAll, Nat.zero_add, Nat.reduceAdd, Act.put, List.setIfInBounds_toArray, List.set_cons_zero, List.set_cons_succ, e5, e6, e7]
              go_wp2
              go_ret3
              exact ⟨by rw [HF.out]; rfl, HBz.out⟩
          · have HF := Lib.hid (show numG l bh = none from (if_neg HPRE.out).trans (if_neg (by rw [KL.out, hcc]; simp; exact t3)))
            have d9 : ((cc.toNat : Int) != (bh.toNat : Int)) = true := by
              rw [bne_iff_ne]
              intro h
              exact t3 (UInt8.toNat_inj.1 (by omega))
            clear t3 hcc
            go_wp2
            go_ret3
            exact ⟨by rw [HF.out]; rfl, Below.refl _ _⟩
        · skip
          have hl0 : 0 < l.length := List.length_pos_iff.2 (fun h => by rw [h] at hb0; simp at hb0)
          clear hb0
          obtain ⟨cc, hcc⟩ : ∃ b, l[k]? = some b := ⟨_, List.getElem?_eq_getElem (by omega)⟩
          have hgc : ∀ hi, (strB l)[k]'hi = cc := fun hi => strB_get hcc hi
          have d8 : ((k : Int) == (l.length : Int)) = false := by rw [beq_eq_false_iff_ne]; omega
          have hkl2 : k < l.length := by omega
          by_cases t3 : cc = bh
          · subst t3
            have HF := Lib.hid (show numG l cc = some (valD (l.take k), l.drop (k + 1)) from (if_neg HPRE.out).trans (by rw [KL.out, if_pos hcc]))
            have HSL := Lib.hid (strB_drop l (k + 1)); have HSZ := Lib.hid hsz; have HKL := Lib.hid hkl2
            have d9 : ((cc.toNat : Int) != (cc.toNat : Int)) = false := by simp
            obtain ⟨v, hv⟩ : ∃ v, valD (l.take k) = v := ⟨_, rfl⟩
            rw [hv] at HF ⊢
            clear hv hcc
            go_wp2_with fail
            refine region_posts (by kernel_rfl) (tblN9 v (strB l) k (strB (l.drop (k + 1)))) (by kernel_rfl) ?_ ?_
            · skip
              refine .yes rfl (fun a W Q hB hO hD => ?_) ?_
              · have e7 : a.tmps.getD 7 undef = .int .i64 (v : Nat) := hO.slot 7 _ rfl rfl
                clear hO hD
                go_wp2
                exact ⟨_, rfl, Below.refl _ _, rfl⟩
              refine .yes rfl (fun a W Q hB hO hD => ?_) ?_
              · have e0 : a.tmps.getD 0 undef = .string (strB l) := hO.slot 0 _ rfl rfl
                clear hO hD
                go_wp2
                exact ⟨_, rfl, Below.refl _ _, rfl⟩
              refine .yes rfl (fun a W Q hB hO hD => ?_) ?_
              · have e8 : a.tmps.getD 8 undef = .int .i64 (k : Nat) := hO.slot 8 _ rfl rfl
                clear hO hD
                go_wp2
                exact ⟨_, rfl, Below.refl _ _, rfl⟩
              refine .yes rfl (fun a W Q hB hO hD => ?_) ?_
              · have e63 : a.tmps.getD 63 undef = .int .i64 (k : Nat) := hD 2 rfl
                clear hO hD
                go_wp2
                exact ⟨_, rfl, Below.refl _ _, rfl⟩
              refine .yes rfl (fun a W Q hB hO hD => ?_) ?_
              · have e62 : a.tmps.getD 62 undef = .string (strB l) := hD 1 rfl
                have e64 : a.tmps.getD 64 undef = .int .i64 ((k : Int) + 1) := hD 3 rfl
                clear hO hD
                have hs := HSL.out
                have hz := HSZ.out
                have hk := HKL.out
                go_wp2
                exact ⟨_, rfl, Below.refl _ _, rfl⟩
              refine .yes rfl (fun a W Q hB hO hD => ?_) ?_
              · have e61 : a.tmps.getD 61 undef = .int .i64 (v : Nat) := hD 0 rfl
                clear hO hD
                go_wp2
                exact ⟨_, rfl, Below.refl _ _, rfl⟩
              refine .yes rfl (fun a W Q hB hO hD => ?_) ?_
              · have e65 : a.tmps.getD 65 undef = .string (strB (l.drop (k + 1))) := hD 4 rfl
                clear hO hD
                go_wp2
                exact ⟨_, rfl, Below.refl _ _, rfl⟩
              refine .yes rfl (fun a W Q hB hO hD => ?_) ?_
              · clear hO hD
                go_wp2
                exact ⟨_, rfl, Below.refl _ _, rfl⟩
              exact .nil
            · intro f V hBz hR
              have e5 : f 5 = .int .i64 (v : Nat) := hR 5 (by decide)
              have e6 : f 6 = .string (strB (l.drop (k + 1))) := hR 6 (by decide)
              have e7 : f 7 = .bool true := hR 7 (by decide)
              have HBz := Lib.hid hBz
              clear hR hBz
              simp only [putAll, Nat.zero_add, Nat.reduceAdd, Act.put, List.setIfInBounds_toArray, List.set_cons_zero, List.set_cons_succ, e5, e6, e7]
              go_wp2
              go_ret3
              exact ⟨by rw [HF.out]; rfl, HBz.out⟩
          · have HF := Lib.hid (show numG l bh = none from (if_neg HPRE.out).trans (if_neg (by rw [KL.out, hcc]; simp; exact t3)))
            have d9 : ((cc.toNat : Int) != (bh.toNat : Int)) = true := by
              rw [bne_iff_ne]
              intro h
              exact t3 (UInt8.toNat_inj.1 (by omega))
            clear t3 hcc
            go_wp2
            go_ret3
            exact ⟨by rw [HF.out]; rfl, Below.refl _ _⟩
    · have d1 : decide ((k : Int) < (l.length : Int)) = false := decide_eq_false (by omega)
      have KL := Lib.hid (lenD_eq hk9 hkl HD.out (.inr (.inl (by omega))))
      by_cases t0 : k = 0
      · have HF := Lib.hid (show numG l bh = none from if_pos (.inl (by rw [KL.out, t0])))
        have d5 : ((k : Int) == 0) = true := by rw [beq_iff_eq]; omega
        clear t0
        go_wp2
        go_ret3
        exact ⟨by rw [HF.out]; rfl, Below.refl _ _⟩
      have d5 : ((k : Int) == 0) = false := by rw [beq_eq_false_iff_ne]; omega
      obtain ⟨b0, hb0⟩ : ∃ b, l[0]? = some b := ⟨_, List.getElem?_eq_getElem (by omega)⟩
      have hg0 : ∀ hi, (strB l)[0]'hi = b0 := fun hi => strB_get hb0 hi
      by_cases t1 : 1 < k ∧ b0 = 48
      · have HF := Lib.hid (show numG l bh = none from if_pos (.inr ⟨by rw [KL.out]; exact t1.1, by rw [hb0, t1.2]⟩))
        have d6 : decide ((1 : Int) < (k : Int)) = true := decide_eq_true (by omega)
        have d7 : ((b0.toNat : Int) == 48) = true := by rw [t1.2]; rfl
        have hl0 : 0 < l.length := by omega
        clear t1 t0 hb0
        go_wp2
        go_ret3
        exact ⟨by rw [HF.out]; rfl, Below.refl _ _⟩
      have HPRE := Lib.hid (show ¬ (lenD l = 0 ∨ (1 < lenD l ∧ l[0]? = some 48)) from by
        rintro (h | ⟨h, h2⟩)
        · rw [KL.out] at h; exact t0 h
        · rw [KL.out] at h
          rw [hb0] at h2
          injection h2 with h2
          exact t1 ⟨h, h2⟩)
      have HD67 := Lib.hid (show (decide ((1 : Int) < (k : Int)) && ((b0.toNat : Int) == 48)) = false from by
        rw [Bool.and_eq_false_iff, decide_eq_false_iff_not, beq_eq_false_iff_ne]
        by_cases h1 : 1 < k
        · right
          intro h
          exact t1 ⟨h1, UInt8.toNat_inj.1 (by show b0.toNat = 48; omega)⟩
        · left; omega)
      clear t1 t0
      rcases (show decide ((1 : Int) < (k : Int)) = false ∨ (decide ((1 : Int) < (k : Int)) = true ∧ ((b0.toNat : Int) == 48) = false) from by
          have h := HD67.out
          cases hx : decide ((1 : Int) < (k : Int)) with
          | false => exact .inl rfl
          | true => rw [hx, Bool.true_and] at h; exact .inr ⟨rfl, h⟩) with d6 | ⟨d6, d7⟩
      · skip
        have hl0 : 0 < l.length := List.length_pos_iff.2 (fun h => by rw [h] at hb0; simp at hb0)
        clear hb0
        have HF := Lib.hid (show numG l bh = none from (if_neg HPRE.out).trans (if_neg (by rw [KL.out, List.getElem?_eq_none (by omega)]; simp)))
        have d8 : ((k : Int) == (l.length : Int)) = true := by rw [beq_iff_eq]; omega
        go_wp2
        go_ret3
        exact ⟨by rw [HF.out]; rfl, Below.refl _ _⟩
      · skip
        have hl0 : 0 < l.length := List.length_pos_iff.2 (fun h => by rw [h] at hb0; simp at hb0)
        clear hb0
        have HF := Lib.hid (show numG l bh = none from (if_neg HPRE.out).trans (if_neg (by rw [KL.out, List.getElem?_eq_none (by omega)]; simp)))
        have d8 : ((k : Int) == (l.length : Int)) = true := by rw [beq_iff_eq]; omega
        go_wp2
        go_ret3
        exact ⟨by rw [HF.out]; rfl, Below.refl _ _⟩
end Go.Proofs.YtljihclpgpmfeaaDoor
