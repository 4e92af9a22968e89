/- Bundle of texts: Gr Gt Gu. -/
import Derived.Test.YtljihclpgpmfeaaDoorUg
import Derived.Test.YtljihclpgpmfeaaDoorWd
/- Texts of numbers, plainly; walks: graph.number, pair. -/
namespace Go.Proofs.YtljihclpgpmfeaaDoor
set_option maxRecDepth 100000
open Go.RowKit

def isDig (b : UInt8) : Bool := decide (48 ≤ b.toNat) && decide (b.toNat ≤ 57)
/-- How many digits stand at the front (nine at most). -/
def lenD (l : List UInt8) : Nat := ((l.take 9).takeWhile isDig).length
/-- What digits say. -/
def valD (l : List UInt8) : Nat := l.foldl (fun n b => 10 * n + (b.toNat - 48)) 0
theorem valD_snoc (l : List UInt8) (b : UInt8) : valD (l ++ [b]) = 10 * valD l + (b.toNat - 48) := by simp [valD, List.foldl_append]
theorem valD_lt {l : List UInt8} (h : ∀ b ∈ l, isDig b = true) : valD l < 10 ^ l.length := by
  have key : ∀ (l : List UInt8) (a : Nat), (∀ b ∈ l, isDig b = true) → l.foldl (fun n b => 10 * n + (b.toNat - 48)) a < (a + 1) * 10 ^ l.length := by
    intro l
    induction l with
    | nil => intro a _; simp
    | cons b l ih =>
      intro a h
      have h1 := ih (10 * a + (b.toNat - 48)) fun x hx => h x (by simp [hx])
      have h2 := h b (by simp)
      unfold isDig at h2
      rw [Bool.and_eq_true, decide_eq_true_eq, decide_eq_true_eq] at h2
      rw [List.foldl_cons, List.length_cons, Nat.pow_succ]
      refine Nat.lt_of_lt_of_le h1 ?_
      rw [Nat.mul_comm (10 ^ l.length) 10, ← Nat.mul_assoc]
      exact Nat.mul_le_mul_right _ (by omega)
  have := key l 0 h
  simpa [valD] using this
def numG (l : List UInt8) (bh : UInt8) : Option (Nat × List UInt8) :=
  if lenD l = 0 ∨ (1 < lenD l ∧ l[0]? = some 48) then none else if l[lenD l]? = some bh then some (valD (l.take (lenD l)), l.drop (lenD l + 1)) else none
theorem lenD_eq {l : List UInt8} {k : Nat} (h9 : k ≤ 9) (hl : k ≤ l.length) (hd : ∀ t b, t < k → l[t]? = some b → isDig b = true) (he : k = 9 ∨ k = l.length ∨ ∃ b, l[k]? = some b ∧ isDig b = false) : lenD l = k := by
  unfold lenD
  have key : ∀ (l : List UInt8) (k : Nat), k ≤ l.length → (∀ t b, t < k → l[t]? = some b → isDig b = true) → (k = l.length ∨ ∃ b, l[k]? = some b ∧ isDig b = false) → (l.takeWhile isDig).length = k := by
    intro l
    induction l with
    | nil => intro k hk _ _; simp at hk ⊢; omega
    | cons a l ih =>
      intro k hk hd he
      cases k with
      | zero =>
        rcases he with he | ⟨b, hb, hbd⟩
        · simp at he
        · simp at hb
          subst hb
          rw [List.takeWhile_cons, hbd]
          rfl
      | succ k =>
        have h0 := hd 0 a (Nat.succ_pos _) rfl
        rw [List.takeWhile_cons, h0]
        show (l.takeWhile isDig).length + 1 = k + 1
        rw [ih k (by simpa using hk) (fun t b ht hb => hd (t + 1) b (by omega) (by simpa using hb)) (by
          rcases he with he | ⟨b, hb, hbd⟩
          · left; simpa using he
          · right; exact ⟨b, by simpa using hb, hbd⟩)]
  refine key (l.take 9) k (by rw [List.length_take]; omega) (fun t b ht hb => hd t b ht ?_) ?_
  · rw [List.getElem?_take] at hb
    split at hb
    · exact hb
    · cases hb
  · rcases he with he | he | ⟨b, hb, hbd⟩
    · by_cases h : l.length ≤ 9
      · left; rw [List.length_take]; omega
      · left; rw [List.length_take]; omega
    · left; rw [List.length_take]; omega
    · by_cases h : k < 9
      · right; exact ⟨b, by rw [List.getElem?_take, if_pos h]; exact hb, hbd⟩
      · have hkl := (List.getElem?_eq_some_iff.1 hb).1
        left; rw [List.length_take]; omega
theorem strB_get {l : List UInt8} {i : Nat} {b : UInt8} (h : l[i]? = some b) (hi : i < (strB l).size) : (strB l)[i] = b := by
  obtain ⟨h1, h2⟩ := List.getElem?_eq_some_iff.1 h
  exact h2
theorem strB_drop (l : List UInt8) (k : Nat) : (strB l).extract k l.length = strB (l.drop k) := by
  apply ByteArray.ext
  apply Array.ext'
  simp [strB]
  rw [List.take_of_length_le (by simp)]
def NumV (o : Option (Nat × List UInt8)) : Value := match o with
  | none => .tuple #[.int .i64 0, .string ⟨#[]⟩, .bool false]
  | some (n, r) => .tuple #[.int .i64 (n : Int), .string (strB r), .bool true]
def tblN9 (v : Nat) (S : ByteArray) (k : Nat) (S2 : ByteArray) : List Pst := [Pst.val (.int .i64 (v : Nat)), Pst.val (.string S), Pst.val (.int .i64 (k : Nat)), Pst.val (.int .i64 ((k : Int) + 1)), Pst.val (.string S2), Pst.val (.int .i64 (v : Nat)), Pst.val (.string S2), Pst.val (.bool true)]
set_option maxRecDepth 100000 in
set_option maxHeartbeats 16000000 in
theorem number_any (l : List UInt8) (bh : UInt8) (w : World) (hl : l.length ≤ 1000000000) :
    Calls Tryd.prog 64 #[.string (strB l), .int .u8 (bh.toNat : Int)] w fun e w' => e = .returned (NumV (numG l bh)) ∧ Below w.heap.size w w' := by
  have hsz := strB_size l
  go_enter Tryd.func64, Tryd.ntmps64
  go_wp2
  go_loopw [7, 8] (fun s7 s8 wr => ∃ k : Nat, k ≤ 9 ∧ k ≤ l.length ∧ s8 = .int .i64 (k : Int) ∧ s7 = .int .i64 (valD (l.take k) : Nat) ∧ Hid (∀ t b, t < k → l[t]? = some b → isDig b = true) ∧ Hid (wr = w)) (fun _ s8 _ => 9 - (intOf s8).toNat)
  case atStart => exact ⟨0, by omega, by omega, rfl, rfl, Lib.hid (fun t b ht => absurd ht (Nat.not_lt_zero _)), Lib.hid rfl⟩
  case round =>
    obtain ⟨k, hk9, hkl, rfl, rfl, HD, HW⟩ := hrel
    have hw := HW.out
    subst hw
    clear HW
    by_cases h1 : k < l.length
    · have d1 : decide ((k : Int) < (l.length : Int)) = true := decide_eq_true (by omega)
      by_cases h2 : k < 9
      · have d2 : decide ((k : Int) < 9) = true := decide_eq_true (by omega)
        obtain ⟨b, hb⟩ : ∃ b, l[k]? = some b := ⟨_, List.getElem?_eq_getElem h1⟩
        have hg : ∀ hi, (strB l)[k]'hi = b := fun hi => strB_get hb hi
        by_cases h3 : 48 ≤ b.toNat
        · have d3 : decide ((48 : Int) ≤ (b.toNat : Int)) = true := decide_eq_true (by omega)
          by_cases h4 : b.toNat ≤ 57
          · have d4 : decide ((b.toNat : Int) ≤ 57) = true := decide_eq_true (by omega)
            have hbd : isDig b = true := by unfold isDig; rw [decide_eq_true h3, decide_eq_true h4]; rfl
            have HD2 := Lib.hid (show ∀ t c, t < k + 1 → l[t]? = some c → isDig c = true from fun t c ht hc => by
              by_cases e : t = k
              · subst e; rw [hb] at hc; injection hc with hc; rw [← hc]; exact hbd
              · exact HD.out t c (by omega) hc)
            have HST := Lib.hid (show valD (l.take (k + 1)) = 10 * valD (l.take k) + (b.toNat - 48) by rw [List.take_add_one, hb]; exact valD_snoc _ _)
            have hv9 : valD (l.take k) < 1000000000 := by
              have h := valD_lt (l := l.take k) (fun c hc => by
                obtain ⟨t, ht⟩ := List.mem_iff_getElem?.1 hc
                rw [List.getElem?_take] at ht
                split at ht
                · exact HD.out t c (by assumption) ht
                · cases ht)
              refine Nat.lt_of_lt_of_le h ?_
              rw [List.length_take]
              exact Nat.pow_le_pow_right (n := 10) (by omega) (show min k l.length ≤ 9 by omega)
            obtain ⟨v, hv⟩ : ∃ v, valD (l.take k) = v := ⟨_, rfl⟩
            rw [hv] at hv9 HST ⊢
            clear hv hb hbd HD
            go_wp2
            go_roundw
            case rel => exact ⟨k + 1, by omega, by omega, by go_num, by rw [HST.out]; congr 1; omega, HD2, Lib.hid trivial⟩
            case measure => simp [intOf]; omega
          · have d4 : decide ((b.toNat : Int) ≤ 57) = false := decide_eq_false (by omega)
            have KL := Lib.hid (lenD_eq hk9 hkl HD.out (.inr (.inr ⟨b, hb, by unfold isDig; rw [decide_eq_false h4, Bool.and_false]⟩)))
            by_cases t0 : k = 0
            · have HF := Lib.hid (show numG l bh = none from if_pos (.inl (by rw [KL.out, t0])))
              have d5 : ((k : Int) == 0) = true := by rw [beq_iff_eq]; omega
              clear t0
              go_wp2
              go_ret3
              exact ⟨by rw [HF.out]; rfl, Below.refl _ _⟩
            have d5 : ((k : Int) == 0) = false := by rw [beq_eq_false_iff_ne]; omega
            obtain ⟨b0, hb0⟩ : ∃ b, l[0]? = some b := ⟨_, List.getElem?_eq_getElem (by omega)⟩
            have hg0 : ∀ hi, (strB l)[0]'hi = b0 := fun hi => strB_get hb0 hi
            by_cases t1 : 1 < k ∧ b0 = 48
            · have HF := Lib.hid (show numG l bh = none from if_pos (.inr ⟨by rw [KL.out]; exact t1.1, by rw [hb0, t1.2]⟩))
              have d6 : decide ((1 : Int) < (k : Int)) = true := decide_eq_true (by omega)
              have d7 : ((b0.toNat : Int) == 48) = true := by rw [t1.2]; rfl
              have hl0 : 0 < l.length := by omega
              clear t1 t0 hb0
              go_wp2
              go_ret3
              exact ⟨by rw [HF.out]; rfl, Below.refl _ _⟩
            have HPRE := Lib.hid (show ¬ (lenD l = 0 ∨ (1 < lenD l ∧ l[0]? = some 48)) from by
              rintro (h | ⟨h, h2⟩)
              · rw [KL.out] at h; exact t0 h
              · rw [KL.out] at h
                rw [hb0] at h2
                injection h2 with h2
                exact t1 ⟨h, h2⟩)
            have HD67 := Lib.hid (show (decide ((1 : Int) < (k : Int)) && ((b0.toNat : Int) == 48)) = false from by
              rw [Bool.and_eq_false_iff, decide_eq_false_iff_not, beq_eq_false_iff_ne]
              by_cases h1 : 1 < k
              · right
                intro h
                exact t1 ⟨h1, UInt8.toNat_inj.1 (by show b0.toNat = 48; omega)⟩
              · left; omega)
            clear t1 t0
            rcases (show decide ((1 : Int) < (k : Int)) = false ∨ (decide ((1 : Int) < (k : Int)) = true ∧ ((b0.toNat : Int) == 48) = false) from by
                have h := HD67.out
                cases hx : decide ((1 : Int) < (k : Int)) with
                | false => exact .inl rfl
                | true => rw [hx, Bool.true_and] at h; exact .inr ⟨rfl, h⟩) with d6 | ⟨d6, d7⟩
            · skip
              have hl0 : 0 < l.length := List.length_pos_iff.2 (fun h => by rw [h] at hb0; simp at hb0)
              clear hb0
              obtain ⟨cc, hcc⟩ : ∃ b, l[k]? = some b := ⟨_, List.getElem?_eq_getElem (by omega)⟩
              obtain rfl : cc = b := by rw [hb] at hcc; injection hcc with hcc; exact hcc.symm
              clear hb hg
              have hgc : ∀ hi, (strB l)[k]'hi = cc := fun hi => strB_get hcc hi
              have d8 : ((k : Int) == (l.length : Int)) = false := by rw [beq_eq_false_iff_ne]; omega
              have hkl2 : k < l.length := by omega
              by_cases t3 : cc = bh
              · subst t3
                have HF := Lib.hid (show numG l cc = some (valD (l.take k), l.drop (k + 1)) from (if_neg HPRE.out).trans (by rw [KL.out, if_pos hcc]))
                have HSL := Lib.hid (strB_drop l (k + 1)); have HSZ := Lib.hid hsz; have HKL := Lib.hid hkl2
                have d9 : ((cc.toNat : Int) != (cc.toNat : Int)) = false := by simp
                obtain ⟨v, hv⟩ : ∃ v, valD (l.take k) = v := ⟨_, rfl⟩
                rw [hv] at HF ⊢
                clear hv hcc
                go_wp2_with fail
                refine region_posts (by kernel_rfl) (tblN9 v (strB l) k (strB (l.drop (k + 1)))) (by kernel_rfl) ?_ ?_
                · skip
                  refine .yes rfl (fun a W Q hB hO hD => ?_) ?_
                  · have e7 : a.tmps.getD 7 undef = .int .i64 (v : Nat) := hO.slot 7 _ rfl rfl
                    clear hO hD
                    go_wp2
                    exact ⟨_, rfl, Below.refl _ _, rfl⟩
                  refine .yes rfl (fun a W Q hB hO hD => ?_) ?_
                  · have e0 : a.tmps.getD 0 undef = .string (strB l) := hO.slot 0 _ rfl rfl
                    clear hO hD
                    go_wp2
                    exact ⟨_, rfl, Below.refl _ _, rfl⟩
                  refine .yes rfl (fun a W Q hB hO hD => ?_) ?_
                  · have e8 : a.tmps.getD 8 undef = .int .i64 (k : Nat) := hO.slot 8 _ rfl rfl
                    clear hO hD
                    go_wp2
                    exact ⟨_, rfl, Below.refl _ _, rfl⟩
                  refine .yes rfl (fun a W Q hB hO hD => ?_) ?_
                  · have e63 : a.tmps.getD 63 undef = .int .i64 (k : Nat) := hD 2 rfl
                    clear hO hD
                    go_wp2
                    exact ⟨_, rfl, Below.refl _ _, rfl⟩
                  refine .yes rfl (fun a W Q hB hO hD => ?_) ?_
                  · have e62 : a.tmps.getD 62 undef = .string (strB l) := hD 1 rfl
                    have e64 : a.tmps.getD 64 undef = .int .i64 ((k : Int) + 1) := hD 3 rfl
                    clear hO hD
                    have hs := HSL.out
                    have hz := HSZ.out
                    have hk := HKL.out
                    go_wp2
                    exact ⟨_, rfl, Below.refl _ _, rfl⟩
                  refine .yes rfl (fun a W Q hB hO hD => ?_) ?_
                  · have e61 : a.tmps.getD 61 undef = .int .i64 (v : Nat) := hD 0 rfl
                    clear hO hD
                    go_wp2
                    exact ⟨_, rfl, Below.refl _ _, rfl⟩
                  refine .yes rfl (fun a W Q hB hO hD => ?_) ?_
                  · have e65 : a.tmps.getD 65 undef = .string (strB (l.drop (k + 1))) := hD 4 rfl
                    clear hO hD
                    go_wp2
                    exact ⟨_, rfl, Below.refl _ _, rfl⟩
                  refine .yes rfl (fun a W Q hB hO hD => ?_) ?_
                  · clear hO hD
                    go_wp2
                    exact ⟨_, rfl, Below.refl _ _, rfl⟩
                  exact .nil
                · intro f V hBz hR
                  have e5 : f 5 = .int .i64 (v : Nat) := hR 5 (by decide)
                  have e6 : f 6 = .string (strB (l.drop (k + 1))) := hR 6 (by decide)
                  have e7 : f 7 = .bool true := hR 7 (by decide)
                  have HBz := Lib.hid hBz
                  clear hR hBz
                  simp only [putAll, Nat.zero_add, Nat.reduceAdd, Act.put, List.setIfInBounds_toArray, List.set_cons_zero, List.set_cons_succ, e5, e6, e7]
                  go_wp2
                  go_ret3
                  exact ⟨by rw [HF.out]; rfl, HBz.out⟩
              · have HF := Lib.hid (show numG l bh = none from (if_neg HPRE.out).trans (if_neg (by rw [KL.out, hcc]; simp; exact t3)))
                have d9 : ((cc.toNat : Int) != (bh.toNat : Int)) = true := by
                  rw [bne_iff_ne]
                  intro h
                  exact t3 (UInt8.toNat_inj.1 (by omega))
                clear t3 hcc
                go_wp2
                go_ret3
                exact ⟨by rw [HF.out]; rfl, Below.refl _ _⟩
            · skip
              have hl0 : 0 < l.length := List.length_pos_iff.2 (fun h => by rw [h] at hb0; simp at hb0)
              clear hb0
              obtain ⟨cc, hcc⟩ : ∃ b, l[k]? = some b := ⟨_, List.getElem?_eq_getElem (by omega)⟩
              obtain rfl : cc = b := by rw [hb] at hcc; injection hcc with hcc; exact hcc.symm
              clear hb hg
              have hgc : ∀ hi, (strB l)[k]'hi = cc := fun hi => strB_get hcc hi
              have d8 : ((k : Int) == (l.length : Int)) = false := by rw [beq_eq_false_iff_ne]; omega
              have hkl2 : k < l.length := by omega
              by_cases t3 : cc = bh
              · subst t3
                have HF := Lib.hid (show numG l cc = some (valD (l.take k), l.drop (k + 1)) from (if_neg HPRE.out).trans (by rw [KL.out, if_pos hcc]))
                have HSL := Lib.hid (strB_drop l (k + 1)); have HSZ := Lib.hid hsz; have HKL := Lib.hid hkl2
                have d9 : ((cc.toNat : Int) != (cc.toNat : Int)) = false := by simp
                obtain ⟨v, hv⟩ : ∃ v, valD (l.take k) = v := ⟨_, rfl⟩
                rw [hv] at HF ⊢
                clear hv hcc
                go_wp2_with fail
                refine region_posts (by kernel_rfl) (tblN9 v (strB l) k (strB (l.drop (k + 1)))) (by kernel_rfl) ?_ ?_
                · skip
                  refine .yes rfl (fun a W Q hB hO hD => ?_) ?_
                  · have e7 : a.tmps.getD 7 undef = .int .i64 (v : Nat) := hO.slot 7 _ rfl rfl
                    clear hO hD
                    go_wp2
                    exact ⟨_, rfl, Below.refl _ _, rfl⟩
                  refine .yes rfl (fun a W Q hB hO hD => ?_) ?_
                  · have e0 : a.tmps.getD 0 undef = .string (strB l) := hO.slot 0 _ rfl rfl
                    clear hO hD
                    go_wp2
                    exact ⟨_, rfl, Below.refl _ _, rfl⟩
                  refine .yes rfl (fun a W Q hB hO hD => ?_) ?_
                  · have e8 : a.tmps.getD 8 undef = .int .i64 (k : Nat) := hO.slot 8 _ rfl rfl
                    clear hO hD
                    go_wp2
                    exact ⟨_, rfl, Below.refl _ _, rfl⟩
                  refine .yes rfl (fun a W Q hB hO hD => ?_) ?_
                  · have e63 : a.tmps.getD 63 undef = .int .i64 (k : Nat) := hD 2 rfl
                    clear hO hD
                    go_wp2
                    exact ⟨_, rfl, Below.refl _ _, rfl⟩
                  refine .yes rfl (fun a W Q hB hO hD => ?_) ?_
                  · have e62 : a.tmps.getD 62 undef = .string (strB l) := hD 1 rfl
                    have e64 : a.tmps.getD 64 undef = .int .i64 ((k : Int) + 1) := hD 3 rfl
                    clear hO hD
                    have hs := HSL.out
                    have hz := HSZ.out
                    have hk := HKL.out
                    go_wp2
                    exact ⟨_, rfl, Below.refl _ _, rfl⟩
                  refine .yes rfl (fun a W Q hB hO hD => ?_) ?_
                  · have e61 : a.tmps.getD 61 undef = .int .i64 (v : Nat) := hD 0 rfl
                    clear hO hD
                    go_wp2
                    exact ⟨_, rfl, Below.refl _ _, rfl⟩
                  refine .yes rfl (fun a W Q hB hO hD => ?_) ?_
                  · have e65 : a.tmps.getD 65 undef = .string (strB (l.drop (k + 1))) := hD 4 rfl
                    clear hO hD
                    go_wp2
                    exact ⟨_, rfl, Below.refl _ _, rfl⟩
                  refine .yes rfl (fun a W Q hB hO hD => ?_) ?_
                  · clear hO hD
                    go_wp2
                    exact ⟨_, rfl, Below.refl _ _, rfl⟩
                  exact .nil
                · intro f V hBz hR
                  have e5 : f 5 = .int .i64 (v : Nat) := hR 5 (by decide)
                  have e6 : f 6 = .string (strB (l.drop (k + 1))) := hR 6 (by decide)
                  have e7 : f 7 = .bool true := hR 7 (by decide)
                  have HBz := Lib.hid hBz
                  clear hR hBz
                  simp only [putAll, Nat.zero_add, Nat.reduceAdd, Act.put, List.setIfInBounds_toArray, List.set_cons_zero, List.set_cons_succ, e5, e6, e7]
                  go_wp2
                  go_ret3
                  exact ⟨by rw [HF.out]; rfl, HBz.out⟩
              · have HF := Lib.hid (show numG l bh = none from (if_neg HPRE.out).trans (if_neg (by rw [KL.out, hcc]; simp; exact t3)))
                have d9 : ((cc.toNat : Int) != (bh.toNat : Int)) = true := by
                  rw [bne_iff_ne]
                  intro h
                  exact t3 (UInt8.toNat_inj.1 (by omega))
                clear t3 hcc
                go_wp2
                go_ret3
                exact ⟨by rw [HF.out]; rfl, Below.refl _ _⟩
        · have d3 : decide ((48 : Int) ≤ (b.toNat : Int)) = false := decide_eq_false (by omega)
          have KL := Lib.hid (lenD_eq hk9 hkl HD.out (.inr (.inr ⟨b, hb, by unfold isDig; rw [decide_eq_false h3, Bool.false_and]⟩)))
          by_cases t0 : k = 0
          · have HF := Lib.hid (show numG l bh = none from if_pos (.inl (by rw [KL.out, t0])))
            have d5 : ((k : Int) == 0) = true := by rw [beq_iff_eq]; omega
            clear t0
            go_wp2
            go_ret3
            exact ⟨by rw [HF.out]; rfl, Below.refl _ _⟩
          have d5 : ((k : Int) == 0) = false := by rw [beq_eq_false_iff_ne]; omega
          obtain ⟨b0, hb0⟩ : ∃ b, l[0]? = some b := ⟨_, List.getElem?_eq_getElem (by omega)⟩
          have hg0 : ∀ hi, (strB l)[0]'hi = b0 := fun hi => strB_get hb0 hi
          by_cases t1 : 1 < k ∧ b0 = 48
          · have HF := Lib.hid (show numG l bh = none from if_pos (.inr ⟨by rw [KL.out]; exact t1.1, by rw [hb0, t1.2]⟩))
            have d6 : decide ((1 : Int) < (k : Int)) = true := decide_eq_true (by omega)
            have d7 : ((b0.toNat : Int) == 48) = true := by rw [t1.2]; rfl
            have hl0 : 0 < l.length := by omega
            clear t1 t0 hb0
            go_wp2
            go_ret3
            exact ⟨by rw [HF.out]; rfl, Below.refl _ _⟩
          have HPRE := Lib.hid (show ¬ (lenD l = 0 ∨ (1 < lenD l ∧ l[0]? = some 48)) from by
            rintro (h | ⟨h, h2⟩)
            · rw [KL.out] at h; exact t0 h
            · rw [KL.out] at h
              rw [hb0] at h2
              injection h2 with h2
              exact t1 ⟨h, h2⟩)
          have HD67 := Lib.hid (show (decide ((1 : Int) < (k : Int)) && ((b0.toNat : Int) == 48)) = false from by
            rw [Bool.and_eq_false_iff, decide_eq_false_iff_not, beq_eq_false_iff_ne]
            by_cases h1 : 1 < k
            · right
              intro h
              exact t1 ⟨h1, UInt8.toNat_inj.1 (by show b0.toNat = 48; omega)⟩
            · left; omega)
          clear t1 t0
          rcases (show decide ((1 : Int) < (k : Int)) = false ∨ (decide ((1 : Int) < (k : Int)) = true ∧ ((b0.toNat : Int) == 48) = false) from by
              have h := HD67.out
              cases hx : decide ((1 : Int) < (k : Int)) with
              | false => exact .inl rfl
              | true => rw [hx, Bool.true_and] at h; exact .inr ⟨rfl, h⟩) with d6 | ⟨d6, d7⟩
          · skip
            have hl0 : 0 < l.length := List.length_pos_iff.2 (fun h => by rw [h] at hb0; simp at hb0)
            clear hb0
            obtain ⟨cc, hcc⟩ : ∃ b, l[k]? = some b := ⟨_, List.getElem?_eq_getElem (by omega)⟩
            obtain rfl : cc = b := by rw [hb] at hcc; injection hcc with hcc; exact hcc.symm
            clear hb hg
            have hgc : ∀ hi, (strB l)[k]'hi = cc := fun hi => strB_get hcc hi
            have d8 : ((k : Int) == (l.length : Int)) = false := by rw [beq_eq_false_iff_ne]; omega
            have hkl2 : k < l.length := by omega
            by_cases t3 : cc = bh
            · subst t3
              have HF := Lib.hid (show numG l cc = some (valD (l.take k), l.drop (k + 1)) from (if_neg HPRE.out).trans (by rw [KL.out, if_pos hcc]))
              have HSL := Lib.hid (strB_drop l (k + 1)); have HSZ := Lib.hid hsz; have HKL := Lib.hid hkl2
              have d9 : ((cc.toNat : Int) != (cc.toNat : Int)) = false := by simp
              obtain ⟨v, hv⟩ : ∃ v, valD (l.take k) = v := ⟨_, rfl⟩
              rw [hv] at HF ⊢
              clear hv hcc
              go_wp2_with fail
              refine region_posts (by kernel_rfl) (tblN9 v (strB l) k (strB (l.drop (k + 1)))) (by kernel_rfl) ?_ ?_
              · skip
                refine .yes rfl (fun a W Q hB hO hD => ?_) ?_
                · have e7 : a.tmps.getD 7 undef = .int .i64 (v : Nat) := hO.slot 7 _ rfl rfl
                  clear hO hD
                  go_wp2
                  exact ⟨_, rfl, Below.refl _ _, rfl⟩
                refine .yes rfl (fun a W Q hB hO hD => ?_) ?_
                · have e0 : a.tmps.getD 0 undef = .string (strB l) := hO.slot 0 _ rfl rfl
                  clear hO hD
                  go_wp2
                  exact ⟨_, rfl, Below.refl _ _, rfl⟩
                refine .yes rfl (fun a W Q hB hO hD => ?_) ?_
                · have e8 : a.tmps.getD 8 undef = .int .i64 (k : Nat) := hO.slot 8 _ rfl rfl
                  clear hO hD
                  go_wp2
                  exact ⟨_, rfl, Below.refl _ _, rfl⟩
                refine .yes rfl (fun a W Q hB hO hD => ?_) ?_
                · have e63 : a.tmps.getD 63 undef = .int .i64 (k : Nat) := hD 2 rfl
                  clear hO hD
                  go_wp2
                  exact ⟨_, rfl, Below.refl _ _, rfl⟩
                refine .yes rfl (fun a W Q hB hO hD => ?_) ?_
                · have e62 : a.tmps.getD 62 undef = .string (strB l) := hD 1 rfl
                  have e64 : a.tmps.getD 64 undef = .int .i64 ((k : Int) + 1) := hD 3 rfl
                  clear hO hD
                  have hs := HSL.out
                  have hz := HSZ.out
                  have hk := HKL.out
                  go_wp2
                  exact ⟨_, rfl, Below.refl _ _, rfl⟩
                refine .yes rfl (fun a W Q hB hO hD => ?_) ?_
                · have e61 : a.tmps.getD 61 undef = .int .i64 (v : Nat) := hD 0 rfl
                  clear hO hD
                  go_wp2
                  exact ⟨_, rfl, Below.refl _ _, rfl⟩
                refine .yes rfl (fun a W Q hB hO hD => ?_) ?_
                · have e65 : a.tmps.getD 65 undef = .string (strB (l.drop (k + 1))) := hD 4 rfl
                  clear hO hD
                  go_wp2
                  exact ⟨_, rfl, Below.refl _ _, rfl⟩
                refine .yes rfl (fun a W Q hB hO hD => ?_) ?_
                · clear hO hD
                  go_wp2
                  exact ⟨_, rfl, Below.refl _ _, rfl⟩
                exact .nil
              · intro f V hBz hR
                have e5 : f 5 = .int .i64 (v : Nat) := hR 5 (by decide)
                have e6 : f 6 = .string (strB (l.drop (k + 1))) := hR 6 (by decide)
                have e7 : f 7 = .bool true := hR 7 (by decide)
                have HBz := Lib.hid hBz
                clear hR hBz
                simp only [putAll, Nat.zero_add, Nat.reduceAdd, Act.put, List.setIfInBounds_toArray, List.set_cons_zero, List.set_cons_succ, e5, e6, e7]
                go_wp2
                go_ret3
                exact ⟨by rw [HF.out]; rfl, HBz.out⟩
            · have HF := Lib.hid (show numG l bh = none from (if_neg HPRE.out).trans (if_neg (by rw [KL.out, hcc]; simp; exact t3)))
              have d9 : ((cc.toNat : Int) != (bh.toNat : Int)) = true := by
                rw [bne_iff_ne]
                intro h
                exact t3 (UInt8.toNat_inj.1 (by omega))
              clear t3 hcc
              go_wp2
              go_ret3
              exact ⟨by rw [HF.out]; rfl, Below.refl _ _⟩
          · skip
            have hl0 : 0 < l.length := List.length_pos_iff.2 (fun h => by rw [h] at hb0; simp at hb0)
            clear hb0
            obtain ⟨cc, hcc⟩ : ∃ b, l[k]? = some b := ⟨_, List.getElem?_eq_getElem (by omega)⟩
            obtain rfl : cc = b := by rw [hb] at hcc; injection hcc with hcc; exact hcc.symm
            clear hb hg
            have hgc : ∀ hi, (strB l)[k]'hi = cc := fun hi => strB_get hcc hi
            have d8 : ((k : Int) == (l.length : Int)) = false := by rw [beq_eq_false_iff_ne]; omega
            have hkl2 : k < l.length := by omega
            by_cases t3 : cc = bh
            · subst t3
              have HF := Lib.hid (show numG l cc = some (valD (l.take k), l.drop (k + 1)) from (if_neg HPRE.out).trans (by rw [KL.out, if_pos hcc]))
              have HSL := Lib.hid (strB_drop l (k + 1)); have HSZ := Lib.hid hsz; have HKL := Lib.hid hkl2
              have d9 : ((cc.toNat : Int) != (cc.toNat : Int)) = false := by simp
              obtain ⟨v, hv⟩ : ∃ v, valD (l.take k) = v := ⟨_, rfl⟩
              rw [hv] at HF ⊢
              clear hv hcc
              go_wp2_with fail
              refine region_posts (by kernel_rfl) (tblN9 v (strB l) k (strB (l.drop (k + 1)))) (by kernel_rfl) ?_ ?_
              · skip
                refine .yes rfl (fun a W Q hB hO hD => ?_) ?_
                · have e7 : a.tmps.getD 7 undef = .int .i64 (v : Nat) := hO.slot 7 _ rfl rfl
                  clear hO hD
                  go_wp2
                  exact ⟨_, rfl, Below.refl _ _, rfl⟩
                refine .yes rfl (fun a W Q hB hO hD => ?_) ?_
                · have e0 : a.tmps.getD 0 undef = .string (strB l) := hO.slot 0 _ rfl rfl
                  clear hO hD
                  go_wp2
                  exact ⟨_, rfl, Below.refl _ _, rfl⟩
                refine .yes rfl (fun a W Q hB hO hD => ?_) ?_
                · have e8 : a.tmps.getD 8 undef = .int .i64 (k : Nat) := hO.slot 8 _ rfl rfl
                  clear hO hD
                  go_wp2
                  exact ⟨_, rfl, Below.refl _ _, rfl⟩
                refine .yes rfl (fun a W Q hB hO hD => ?_) ?_
                · have e63 : a.tmps.getD 63 undef = .int .i64 (k : Nat) := hD 2 rfl
                  clear hO hD
                  go_wp2
                  exact ⟨_, rfl, Below.refl _ _, rfl⟩
                refine .yes rfl (fun a W Q hB hO hD => ?_) ?_
                · have e62 : a.tmps.getD 62 undef = .string (strB l) := hD 1 rfl
                  have e64 : a.tmps.getD 64 undef = .int .i64 ((k : Int) + 1) := hD 3 rfl
                  clear hO hD
                  have hs := HSL.out
                  have hz := HSZ.out
                  have hk := HKL.out
                  go_wp2
                  exact ⟨_, rfl, Below.refl _ _, rfl⟩
                refine .yes rfl (fun a W Q hB hO hD => ?_) ?_
                · have e61 : a.tmps.getD 61 undef = .int .i64 (v : Nat) := hD 0 rfl
                  clear hO hD
                  go_wp2
                  exact ⟨_, rfl, Below.refl _ _, rfl⟩
                refine .yes rfl (fun a W Q hB hO hD => ?_) ?_
                · have e65 : a.tmps.getD 65 undef = .string (strB (l.drop (k + 1))) := hD 4 rfl
                  clear hO hD
                  go_wp2
                  exact ⟨_, rfl, Below.refl _ _, rfl⟩
                refine .yes rfl (fun a W Q hB hO hD => ?_) ?_
                · clear hO hD
                  go_wp2
                  exact ⟨_, rfl, Below.refl _ _, rfl⟩
                exact .nil
              · intro f V hBz hR
                have e5 : f 5 = .int .i64 (v : Nat) := hR 5 (by decide)
                have e6 : f 6 = .string (strB (l.drop (k + 1))) := hR 6 (by decide)
                have e7 : f 7 = .bool true := hR 7 (by decide)
                have HBz := Lib.hid hBz
                clear hR hBz
                simp only [putAll, Nat.zero_add, Nat.reduceAdd, Act.put, List.setIfInBounds_toArray, List.set_cons_zero, List.set_cons_succ, e5, e6, e7]
                go_wp2
                go_ret3
                exact ⟨by rw [HF.out]; rfl, HBz.out⟩
            · have HF := Lib.hid (show numG l bh = none from (if_neg HPRE.out).trans (if_neg (by rw [KL.out, hcc]; simp; exact t3)))
              have d9 : ((cc.toNat : Int) != (bh.toNat : Int)) = true := by
                rw [bne_iff_ne]
                intro h
                exact t3 (UInt8.toNat_inj.1 (by omega))
              clear t3 hcc
              go_wp2
              go_ret3
              exact ⟨by rw [HF.out]; rfl, Below.refl _ _⟩
      · have d2 : decide ((k : Int) < 9) = false := decide_eq_false (by omega)
        have KL := Lib.hid (lenD_eq hk9 hkl HD.out (.inl (by omega)))
        by_cases t0 : k = 0
        · have HF := Lib.hid (show numG l bh = none from if_pos (.inl (by rw [KL.out, t0])))
          have d5 : ((k : Int) == 0) = true := by rw [beq_iff_eq]; omega
          clear t0
          go_wp2
          go_ret3
          exact ⟨by rw [HF.out]; rfl, Below.refl _ _⟩
        have d5 : ((k : Int) == 0) = false := by rw [beq_eq_false_iff_ne]; omega
        obtain ⟨b0, hb0⟩ : ∃ b, l[0]? = some b := ⟨_, List.getElem?_eq_getElem (by omega)⟩
        have hg0 : ∀ hi, (strB l)[0]'hi = b0 := fun hi => strB_get hb0 hi
        by_cases t1 : 1 < k ∧ b0 = 48
        · have HF := Lib.hid (show numG l bh = none from if_pos (.inr ⟨by rw [KL.out]; exact t1.1, by rw [hb0, t1.2]⟩))
          have d6 : decide ((1 : Int) < (k : Int)) = true := decide_eq_true (by omega)
          have d7 : ((b0.toNat : Int) == 48) = true := by rw [t1.2]; rfl
          have hl0 : 0 < l.length := by omega
          clear t1 t0 hb0
          go_wp2
          go_ret3
          exact ⟨by rw [HF.out]; rfl, Below.refl _ _⟩
        have HPRE := Lib.hid (show ¬ (lenD l = 0 ∨ (1 < lenD l ∧ l[0]? = some 48)) from by
          rintro (h | ⟨h, h2⟩)
          · rw [KL.out] at h; exact t0 h
          · rw [KL.out] at h
            rw [hb0] at h2
            injection h2 with h2
            exact t1 ⟨h, h2⟩)
        have HD67 := Lib.hid (show (decide ((1 : Int) < (k : Int)) && ((b0.toNat : Int) == 48)) = false from by
          rw [Bool.and_eq_false_iff, decide_eq_false_iff_not, beq_eq_false_iff_ne]
          by_cases h1 : 1 < k
          · right
            intro h
            exact t1 ⟨h1, UInt8.toNat_inj.1 (by show b0.toNat = 48; omega)⟩
          · left; omega)
        clear t1 t0
        rcases (show decide ((1 : Int) < (k : Int)) = false ∨ (decide ((1 : Int) < (k : Int)) = true ∧ ((b0.toNat : Int) == 48) = false) from by
            have h := HD67.out
            cases hx : decide ((1 : Int) < (k : Int)) with
            | false => exact .inl rfl
            | true => rw [hx, Bool.true_and] at h; exact .inr ⟨rfl, h⟩) with d6 | ⟨d6, d7⟩
        · skip
          have hl0 : 0 < l.length := List.length_pos_iff.2 (fun h => by rw [h] at hb0; simp at hb0)
          clear hb0
          obtain ⟨cc, hcc⟩ : ∃ b, l[k]? = some b := ⟨_, List.getElem?_eq_getElem (by omega)⟩
          have hgc : ∀ hi, (strB l)[k]'hi = cc := fun hi => strB_get hcc hi
          have d8 : ((k : Int) == (l.length : Int)) = false := by rw [beq_eq_false_iff_ne]; omega
          have hkl2 : k < l.length := by omega
          by_cases t3 : cc = bh
          · subst t3
            have HF := Lib.hid (show numG l cc = some (valD (l.take k), l.drop (k + 1)) from (if_neg HPRE.out).trans (by rw [KL.out, if_pos hcc]))
            have HSL := Lib.hid (strB_drop l (k + 1)); have HSZ := Lib.hid hsz; have HKL := Lib.hid hkl2
            have d9 : ((cc.toNat : Int) != (cc.toNat : Int)) = false := by simp
            obtain ⟨v, hv⟩ : ∃ v, valD (l.take k) = v := ⟨_, rfl⟩
            rw [hv] at HF ⊢
            clear hv hcc
            go_wp2_with fail
            refine region_posts (by kernel_rfl) (tblN9 v (strB l) k (strB (l.drop (k + 1)))) (by kernel_rfl) ?_ ?_
            · skip
              refine .yes rfl (fun a W Q hB hO hD => ?_) ?_
              · have e7 : a.tmps.getD 7 undef = .int .i64 (v : Nat) := hO.slot 7 _ rfl rfl
                clear hO hD
                go_wp2
                exact ⟨_, rfl, Below.refl _ _, rfl⟩
              refine .yes rfl (fun a W Q hB hO hD => ?_) ?_
              · have e0 : a.tmps.getD 0 undef = .string (strB l) := hO.slot 0 _ rfl rfl
                clear hO hD
                go_wp2
                exact ⟨_, rfl, Below.refl _ _, rfl⟩
              refine .yes rfl (fun a W Q hB hO hD => ?_) ?_
              · have e8 : a.tmps.getD 8 undef = .int .i64 (k : Nat) := hO.slot 8 _ rfl rfl
                clear hO hD
                go_wp2
                exact ⟨_, rfl, Below.refl _ _, rfl⟩
              refine .yes rfl (fun a W Q hB hO hD => ?_) ?_
              · have e63 : a.tmps.getD 63 undef = .int .i64 (k : Nat) := hD 2 rfl
                clear hO hD
                go_wp2
                exact ⟨_, rfl, Below.refl _ _, rfl⟩
              refine .yes rfl (fun a W Q hB hO hD => ?_) ?_
              · have e62 : a.tmps.getD 62 undef = .string (strB l) := hD 1 rfl
                have e64 : a.tmps.getD 64 undef = .int .i64 ((k : Int) + 1) := hD 3 rfl
                clear hO hD
                have hs := HSL.out
                have hz := HSZ.out
                have hk := HKL.out
                go_wp2
                exact ⟨_, rfl, Below.refl _ _, rfl⟩
              refine .yes rfl (fun a W Q hB hO hD => ?_) ?_
              · have e61 : a.tmps.getD 61 undef = .int .i64 (v : Nat) := hD 0 rfl
                clear hO hD
                go_wp2
                exact ⟨_, rfl, Below.refl _ _, rfl⟩
              refine .yes rfl (fun a W Q hB hO hD => ?_) ?_
              · have e65 : a.tmps.getD 65 undef = .string (strB (l.drop (k + 1))) := hD 4 rfl
                clear hO hD
                go_wp2
                exact ⟨_, rfl, Below.refl _ _, rfl⟩
              refine .yes rfl (fun a W Q hB hO hD => ?_) ?_
              · clear hO hD
                go_wp2
                exact ⟨_, rfl, Below.refl _ _, rfl⟩
              exact .nil
            · intro f V hBz hR
              have e5 : f 5 = .int .i64 (v : Nat) := hR 5 (by decide)
              have e6 : f 6 = .string (strB (l.drop (k + 1))) := hR 6 (by decide)
              have e7 : f 7 = .bool true := hR 7 (by decide)
              have HBz := Lib.hid hBz
              clear hR hBz
              simp only [putAll, Nat.zero_add, Nat.reduceAdd, Act.put, List.setIfInBounds_toArray, List.set_cons_zero, List.set_cons_succ, e5, e6, e7]
              go_wp2
              go_ret3
              exact ⟨by rw [HF.out]; rfl, HBz.out⟩
          · have HF := Lib.hid (show numG l bh = none from (if_neg HPRE.out).trans (if_neg (by rw [KL.out, hcc]; simp; exact t3)))
            have d9 : ((cc.toNat : Int) != (bh.toNat : Int)) = true := by
              rw [bne_iff_ne]
              intro h
              exact t3 (UInt8.toNat_inj.1 (by omega))
            clear t3 hcc
            go_wp2
            go_ret3
            exact ⟨by rw [HF.out]; rfl, Below.refl _ _⟩
        · skip
          have hl0 : 0 < l.length := List.length_pos_iff.2 (fun h => by rw [h] at hb0; simp at hb0)
          clear hb0
          obtain ⟨cc, hcc⟩ : ∃ b, l[k]? = some b := ⟨_, List.getElem?_eq_getElem (by omega)⟩
          have hgc : ∀ hi, (strB l)[k]'hi = cc := fun hi => strB_get hcc hi
          have d8 : ((k : Int) == (l.length : Int)) = false := by rw [beq_eq_false_iff_ne]; omega
          have hkl2 : k < l.length := by omega
          by_cases t3 : cc = bh
          · subst t3
            have HF := Lib.hid (show numG l cc = some (valD (l.take k), l.drop (k + 1)) from (if_neg HPRE.out).trans (by rw [KL.out, if_pos hcc]))
            have HSL := Lib.hid (strB_drop l (k + 1)); have HSZ := Lib.hid hsz; have HKL := Lib.hid hkl2
            have d9 : ((cc.toNat : Int) != (cc.toNat : Int)) = false := by simp
            obtain ⟨v, hv⟩ : ∃ v, valD (l.take k) = v := ⟨_, rfl⟩
            rw [hv] at HF ⊢
            clear hv hcc
            go_wp2_with fail
            refine region_posts (by kernel_rfl) (tblN9 v (strB l) k (strB (l.drop (k + 1)))) (by kernel_rfl) ?_ ?_
            · skip
              refine .yes rfl (fun a W Q hB hO hD => ?_) ?_
              · have e7 : a.tmps.getD 7 undef = .int .i64 (v : Nat) := hO.slot 7 _ rfl rfl
                clear hO hD
                go_wp2
                exact ⟨_, rfl, Below.refl _ _, rfl⟩
              refine .yes rfl (fun a W Q hB hO hD => ?_) ?_
              · have e0 : a.tmps.getD 0 undef = .string (strB l) := hO.slot 0 _ rfl rfl
                clear hO hD
                go_wp2
                exact ⟨_, rfl, Below.refl _ _, rfl⟩
              refine .yes rfl (fun a W Q hB hO hD => ?_) ?_
              · have e8 : a.tmps.getD 8 undef = .int .i64 (k : Nat) := hO.slot 8 _ rfl rfl
                clear hO hD
                go_wp2
                exact ⟨_, rfl, Below.refl _ _, rfl⟩
              refine .yes rfl (fun a W Q hB hO hD => ?_) ?_
              · have e63 : a.tmps.getD 63 undef = .int .i64 (k : Nat) := hD 2 rfl
                clear hO hD
                go_wp2
                exact ⟨_, rfl, Below.refl _ _, rfl⟩
              refine .yes rfl (fun a W Q hB hO hD => ?_) ?_
              · have e62 : a.tmps.getD 62 undef = .string (strB l) := hD 1 rfl
                have e64 : a.tmps.getD 64 undef = .int .i64 ((k : Int) + 1) := hD 3 rfl
                clear hO hD
                have hs := HSL.out
                have hz := HSZ.out
                have hk := HKL.out
                go_wp2
                exact ⟨_, rfl, Below.refl _ _, rfl⟩
              refine .yes rfl (fun a W Q hB hO hD => ?_) ?_
              · have e61 : a.tmps.getD 61 undef = .int .i64 (v : Nat) := hD 0 rfl
                clear hO hD
                go_wp2
                exact ⟨_, rfl, Below.refl _ _, rfl⟩
              refine .yes rfl (fun a W Q hB hO hD => ?_) ?_
              · have e65 : a.tmps.getD 65 undef = .string (strB (l.drop (k + 1))) := hD 4 rfl
                clear hO hD
                go_wp2
                exact ⟨_, rfl, Below.refl _ _, rfl⟩
              refine .yes rfl (fun a W Q hB hO hD => ?_) ?_
              · clear hO hD
                go_wp2
                exact ⟨_, rfl, Below.refl _ _, rfl⟩
              exact .nil
            · intro f V hBz hR
              have e5 : f 5 = .int .i64 (v : Nat) := hR 5 (by decide)
              have e6 : f 6 = .string (strB (l.drop (k + 1))) := hR 6 (by decide)
              have e7 : f 7 = .bool true := hR 7 (by decide)
              have HBz := Lib.hid hBz
              clear hR hBz
              simp only [putAll, Nat.zero_add, Nat.reduceAdd, Act.put, List.setIfInBounds_toArray, List.set_cons_zero, List.set_cons_succ, e5, e6, e7]
              go_wp2
              go_ret3
              exact ⟨by rw [HF.out]; rfl, HBz.out⟩
          · have HF := Lib.hid (show numG l bh = none from (if_neg HPRE.out).trans (if_neg (by rw [KL.out, hcc]; simp; exact t3)))
            have d9 : ((cc.toNat : Int) != (bh.toNat : Int)) = true := by
              rw [bne_iff_ne]
              intro h
              exact t3 (UInt8.toNat_inj.1 (by omega))
            clear t3 hcc
            go_wp2
            go_ret3
            exact ⟨by rw [HF.out]; rfl, Below.refl _ _⟩
    · have d1 : decide ((k : Int) < (l.length : Int)) = false := decide_eq_false (by omega)
      have KL := Lib.hid (lenD_eq hk9 hkl HD.out (.inr (.inl (by omega))))
      by_cases t0 : k = 0
      · have HF := Lib.hid (show numG l bh = none from if_pos (.inl (by rw [KL.out, t0])))
        have d5 : ((k : Int) == 0) = true := by rw [beq_iff_eq]; omega
        clear t0
        go_wp2
        go_ret3
        exact ⟨by rw [HF.out]; rfl, Below.refl _ _⟩
      have d5 : ((k : Int) == 0) = false := by rw [beq_eq_false_iff_ne]; omega
      obtain ⟨b0, hb0⟩ : ∃ b, l[0]? = some b := ⟨_, List.getElem?_eq_getElem (by omega)⟩
      have hg0 : ∀ hi, (strB l)[0]'hi = b0 := fun hi => strB_get hb0 hi
      by_cases t1 : 1 < k ∧ b0 = 48
      · have HF := Lib.hid (show numG l bh = none from if_pos (.inr ⟨by rw [KL.out]; exact t1.1, by rw [hb0, t1.2]⟩))
        have d6 : decide ((1 : Int) < (k : Int)) = true := decide_eq_true (by omega)
        have d7 : ((b0.toNat : Int) == 48) = true := by rw [t1.2]; rfl
        have hl0 : 0 < l.length := by omega
        clear t1 t0 hb0
        go_wp2
        go_ret3
        exact ⟨by rw [HF.out]; rfl, Below.refl _ _⟩
      have HPRE := Lib.hid (show ¬ (lenD l = 0 ∨ (1 < lenD l ∧ l[0]? = some 48)) from by
        rintro (h | ⟨h, h2⟩)
        · rw [KL.out] at h; exact t0 h
        · rw [KL.out] at h
          rw [hb0] at h2
          injection h2 with h2
          exact t1 ⟨h, h2⟩)
      have HD67 := Lib.hid (show (decide ((1 : Int) < (k : Int)) && ((b0.toNat : Int) == 48)) = false from by
        rw [Bool.and_eq_false_iff, decide_eq_false_iff_not, beq_eq_false_iff_ne]
        by_cases h1 : 1 < k
        · right
          intro h
          exact t1 ⟨h1, UInt8.toNat_inj.1 (by show b0.toNat = 48; omega)⟩
        · left; omega)
      clear t1 t0
      rcases (show decide ((1 : Int) < (k : Int)) = false ∨ (decide ((1 : Int) < (k : Int)) = true ∧ ((b0.toNat : Int) == 48) = false) from by
          have h := HD67.out
          cases hx : decide ((1 : Int) < (k : Int)) with
          | false => exact .inl rfl
          | true => rw [hx, Bool.true_and] at h; exact .inr ⟨rfl, h⟩) with d6 | ⟨d6, d7⟩
      · skip
        have hl0 : 0 < l.length := List.length_pos_iff.2 (fun h => by rw [h] at hb0; simp at hb0)
        clear hb0
        have HF := Lib.hid (show numG l bh = none from (if_neg HPRE.out).trans (if_neg (by rw [KL.out, List.getElem?_eq_none (by omega)]; simp)))
        have d8 : ((k : Int) == (l.length : Int)) = true := by rw [beq_iff_eq]; omega
        go_wp2
        go_ret3
        exact ⟨by rw [HF.out]; rfl, Below.refl _ _⟩
      · skip
        have hl0 : 0 < l.length := List.length_pos_iff.2 (fun h => by rw [h] at hb0; simp at hb0)
        clear hb0
        have HF := Lib.hid (show numG l bh = none from (if_neg HPRE.out).trans (if_neg (by rw [KL.out, List.getElem?_eq_none (by omega)]; simp)))
        have d8 : ((k : Int) == (l.length : Int)) = true := by rw [beq_iff_eq]; omega
        go_wp2
        go_ret3
        exact ⟨by rw [HF.out]; rfl, Below.refl _ _⟩
end Go.Proofs.YtljihclpgpmfeaaDoor
/- Walks: graph.pair, Parse. -/
namespace Go.Proofs.YtljihclpgpmfeaaDoor
set_option maxRecDepth 100000
open Go.RowKit

def pairG (l : List UInt8) : Option ((Nat × Nat) × List UInt8) :=
  (numG l 32).bind fun x => (numG x.2 10).map fun y => ((x.1, y.1), y.2)
def PairV (o : Option ((Nat × Nat) × List UInt8)) : Value := match o with
  | none => .tuple #[.agg #[.int .i64 0, .int .i64 0], .string ⟨#[]⟩, .bool false]
  | some ((a, b), r) => .tuple #[.agg #[.int .i64 (a : Int), .int .i64 (b : Int)], .string (strB r), .bool true]
theorem numG_len {l r : List UInt8} {bh : UInt8} {n : Nat} (h : numG l bh = some (n, r)) : r.length ≤ l.length ∧ n < 1000000000 := by
  unfold numG at h
  split at h
  · cases h
  · split at h
    · injection h with h
      injection h with h1 h2
      subst h1 h2
      refine ⟨by rw [List.length_drop]; omega, ?_⟩
      have hd : ∀ b ∈ l.take (lenD l), isDig b = true := by
        have e : l.take (lenD l) = (l.take 9).takeWhile isDig := by
          have h1 : (l.take 9).takeWhile isDig <+: l := (List.takeWhile_prefix _).trans (List.take_prefix _ _)
          exact ((List.prefix_iff_eq_take.1 h1).symm ▸ rfl)
        intro b hb
        rw [e] at hb
        exact List.all_eq_true.1 List.all_takeWhile b hb
      refine Nat.lt_of_lt_of_le (valD_lt hd) ?_
      rw [List.length_take]
      have h9 : lenD l ≤ 9 := by
        unfold lenD
        refine Nat.le_trans ((List.takeWhile_prefix _).length_le) ?_
        rw [List.length_take]; omega
      exact Nat.pow_le_pow_right (n := 10) (by omega) (show min (lenD l) l.length ≤ 9 by omega)
    · cases h
theorem pairG_len {l r : List UInt8} {a b : Nat} (h : pairG l = some ((a, b), r)) : r.length ≤ l.length ∧ a < 1000000000 ∧ b < 1000000000 := by
  unfold pairG at h
  cases h1 : numG l 32 with
  | none => rw [h1] at h; cases h
  | some x =>
    obtain ⟨n, r1⟩ := x
    rw [h1] at h
    cases h2 : numG r1 10 with
    | none => simp [h2] at h
    | some y =>
      obtain ⟨m, r2⟩ := y
      simp [h2] at h
      obtain ⟨⟨rfl, rfl⟩, rfl⟩ := h
      have e1 := numG_len h1
      have e2 := numG_len h2
      exact ⟨by omega, e1.2, e2.2⟩
set_option maxRecDepth 100000 in
set_option maxHeartbeats 8000000 in
theorem pairS_any (l : List UInt8) (w : World) (hl : l.length ≤ 1000000000) :
    Calls Tryd.prog 43 #[.string (strB l)] w fun e w' => e = .returned (PairV (pairG l)) ∧ Below w.heap.size w w' := by
  have O0 := Lib.hid (Own.new' (t := 49) (w := w) (vs := [.int .i64 0, .int .i64 0]) rfl)
  have HB0 := Lib.hid (alloc_below w (.cells #[.int .i64 0, .int .i64 0] 49))
  have N1 := Lib.hid (number_any l 32 (w.alloc (.cells #[.int .i64 0, .int .i64 0] 49)) hl)
  obtain ⟨o1, ho1⟩ : ∃ o, numG l 32 = o := ⟨_, rfl⟩
  rw [ho1] at N1
  have K1 := Lib.hid ho1
  clear ho1
  go_enter Tryd.func43, Tryd.ntmps43
  go_wp2_with fail
  refine N1.out.mono ?_
  rintro e w1 ⟨rfl, hb⟩
  have O1 := Lib.hid (O0.out.below' hb)
  have HB1 := Lib.hid (HB0.out.trans (hb.mono HB0.out.size))
  clear hb
  have yR := O1.out.lt; have fR := O1.out.frozen; have qR := O1.out.cell
  cases o1 with
  | none =>
    have HX := Lib.hid (show pairG l = none by unfold pairG; rw [K1.out]; rfl)
    unfold NumV
    go_wp2
    have hF := (O1.out.set 0 (.int .i64 0)).set 1 (.int .i64 0)
    have r0 := hF.cell 0
    have r1 := hF.cell 1
    simp only [List.set_cons_zero, List.set_cons_succ, List.getElem?_cons_zero, List.getElem?_cons_succ] at r0 r1
    exact bodyPost_ret (v := .tuple #[.agg #[.int .i64 0, .int .i64 0], .string ⟨#[]⟩, .bool false]) (by simp [results, Tryd.results43, go_sem, r0, r1]) rfl ⟨by rw [HX.out]; rfl, (HB1.out.setCell (by simp; try omega) _).setCell (by simp; try omega) _⟩
  | some x =>
    obtain ⟨a, r⟩ := x
    have hr := numG_len K1.out
    have ha := hr.2
    have N2 := Lib.hid (fun V => number_any r 10 V (by omega))
    obtain ⟨o2, ho2⟩ : ∃ o, numG r 10 = o := ⟨_, rfl⟩
    rw [ho2] at N2
    have K2 := Lib.hid ho2
    clear ho2 hr
    unfold NumV
    go_wp2_with fail
    refine (N2.out _).mono ?_
    rintro e w2 ⟨rfl, hb⟩
    have O2 := Lib.hid (O1.out.below' hb)
    have HB2 := Lib.hid (HB1.out.trans (hb.mono HB1.out.size))
    clear hb yR fR qR
    have yR := O2.out.lt; have fR := O2.out.frozen; have qR := O2.out.cell
    cases o2 with
    | none =>
      have HX := Lib.hid (show pairG l = none by unfold pairG; rw [K1.out]; show (numG r 10).map _ = none; rw [K2.out]; rfl)
      unfold NumV
      go_wp2
      have hF := (O2.out.set 0 (.int .i64 0)).set 1 (.int .i64 0)
      have r0 := hF.cell 0
      have r1 := hF.cell 1
      simp only [List.set_cons_zero, List.set_cons_succ, List.getElem?_cons_zero, List.getElem?_cons_succ] at r0 r1
      exact bodyPost_ret (v := .tuple #[.agg #[.int .i64 0, .int .i64 0], .string ⟨#[]⟩, .bool false]) (by simp [results, Tryd.results43, go_sem, r0, r1]) rfl ⟨by rw [HX.out]; rfl, (HB2.out.setCell (by simp; try omega) _).setCell (by simp; try omega) _⟩
    | some y =>
      obtain ⟨b, r2⟩ := y
      have HX := Lib.hid (show pairG l = some ((a, b), r2) by unfold pairG; rw [K1.out]; show (numG r 10).map _ = _; rw [K2.out]; rfl)
      unfold NumV
      go_wp2
      have hF := (O2.out.set 0 (.int .i64 (a : Int))).set 1 (.int .i64 (b : Int))
      have r0 := hF.cell 0
      have r1 := hF.cell 1
      simp only [List.set_cons_zero, List.set_cons_succ, List.getElem?_cons_zero, List.getElem?_cons_succ] at r0 r1
      exact bodyPost_ret (v := .tuple #[.agg #[.int .i64 (a : Int), .int .i64 (b : Int)], .string (strB r2), .bool true]) (by simp [results, Tryd.results43, go_sem, r0, r1]) rfl ⟨by rw [HX.out]; rfl, (HB2.out.setCell (by simp; try omega) _).setCell (by simp; try omega) _⟩
/-- So many lines, and what is left. -/
def linesG : Nat → List UInt8 → Option (List (Int × Int) × List UInt8)
  | 0, r => some ([], r)
  | m + 1, r => (pairG r).bind fun x => (linesG m x.2).map fun y => (((x.1.1 : Int), (x.1.2 : Int)) :: y.1, y.2)
theorem linesG_step {m : Nat} {r r2 : List UInt8} {a b : Nat} (h : pairG r = some ((a, b), r2)) : linesG (m + 1) r = (linesG m r2).map fun y => (((a : Int), (b : Int)) :: y.1, y.2) := by
  show (pairG r).bind _ = _
  rw [h]
  rfl
theorem linesG_none {m : Nat} {r : List UInt8} (h : pairG r = none) : linesG (m + 1) r = none := by
  show (pairG r).bind _ = _
  rw [h]
  rfl
theorem linesG_len : ∀ {m : Nat} {r r2 : List UInt8} {E : List (Int × Int)}, linesG m r = some (E, r2) → E.length = m
  | 0, r, r2, E, h => by
    injection h with h
    injection h with h1 h2
    subst h1; rfl
  | m + 1, r, r2, E, h => by
    cases hp : pairG r with
    | none => rw [linesG_none hp] at h; cases h
    | some x =>
      obtain ⟨⟨a, b⟩, r3⟩ := x
      rw [linesG_step hp] at h
      cases hl : linesG m r3 with
      | none => rw [hl] at h; cases h
      | some y =>
        rw [hl] at h
        injection h with h
        injection h with h1 h2
        subst h1
        have := linesG_len (E := y.1) (r2 := y.2) hl
        simp [this]
def parN (l : List UInt8) : Int := ((pairG l).map fun x => ((x.1.1 : Nat) : Int)).getD 0
def parO (l : List UInt8) : Except Int (List (Int × Int)) :=
  match pairG l with
  | none => .error 20
  | some ((n, m), r) => if 200 < n ∨ 594 < m then .error 21 else match linesG m r with
    | none => .error 20
    | some (E, r2) => if r2 = [] then newO (n : Int) E else .error 20
theorem set_edgeT (a b : Int) (R : List (Int × Int)) : ∀ (T : List (Int × Int)), ((cellsE (T ++ (0, 0) :: R)).set (T.length * 2) (.int .i64 a)).set (T.length * 2 + 1) (.int .i64 b) = cellsE (T ++ (a, b) :: R)
  | [] => rfl
  | f :: T => by
    have ih := set_edgeT a b R T
    rw [List.cons_append, cellsE_cons, List.cons_append, cellsE_cons, List.length_cons, show (T.length + 1) * 2 = T.length * 2 + 1 + 1 from by omega, List.set_cons_succ, List.set_cons_succ, List.set_cons_succ, List.set_cons_succ, ih]
end Go.Proofs.YtljihclpgpmfeaaDoor
/- Walk: graph.Parse. -/
namespace Go.Proofs.YtljihclpgpmfeaaDoor
set_option maxRecDepth 100000
open Go.RowKit

theorem rowE_box {B g : Nat} {W : World} {v : Value} {l : List (Int × Int)} {vs : List Value} (h : RowE B W v l) (ho : Own W g 26 vs) (x y : Value) : RowE B ((W.setCell ⟨g, 0, none⟩ x).setCell ⟨g, 1, none⟩ y) v l := by
  rcases h with h | ⟨g1, cap, more, e, hgb, h1, h⟩
  · exact .inl h
  · have hn := h1.ne ho (by decide)
    exact .inr ⟨g1, cap, more, e, hgb, (h1.far (p := ⟨g, 0, none⟩) hn x).far (p := ⟨g, 1, none⟩) hn y, h⟩
set_option maxRecDepth 100000 in
set_option maxHeartbeats 16000000 in
theorem parse_any (l : List UInt8) (w : World) (hl : l.length ≤ 1000000000) :
    Calls Tryd.prog 15 #[.string (strB l)] w (GrE w (parN l) (parO l)) := by
  have O0 := Lib.hid (Own.new' (t := 26) (w := w) (vs := [.int .i64 0, .slice none 0 0]) rfl)
  have HB0 := Lib.hid (alloc_below w (.cells #[.int .i64 0, .slice none 0 0] 26))
  have N1 := Lib.hid (pairS_any l (w.alloc (.cells #[.int .i64 0, .slice none 0 0] 26)) hl)
  obtain ⟨o1, ho1⟩ : ∃ o, pairG l = o := ⟨_, rfl⟩
  rw [ho1] at N1
  have K1 := Lib.hid ho1
  clear ho1
  go_enter Tryd.func15, Tryd.ntmps15
  go_wp2_with fail
  refine N1.out.mono ?_
  rintro e w1 ⟨rfl, hb⟩
  have O1 := Lib.hid (O0.out.below' hb)
  have HB1 := Lib.hid (HB0.out.trans (hb.mono HB0.out.size))
  clear hb
  cases o1 with
  | none =>
    have HX := Lib.hid (show parO l = .error 20 by unfold parO; rw [K1.out])
    have O2 := Lib.hid (O1.out.alloc (.cells #[.int .i64 0, .int .i64 0] 49))
    have HB2 := Lib.hid (HB1.out.alloc HB1.out.size (.cells #[.int .i64 0, .int .i64 0] 49))
    have yR := O2.out.lt; have fR := O2.out.frozen; have qR := O2.out.cell
    unfold PairV
    go_wp2
    have hF := (O2.out.set 0 (.int .i64 0)).set 1 (.slice none 0 0)
    have r0 := hF.cell 0
    have r1 := hF.cell 1
    simp only [List.set_cons_zero, List.set_cons_succ, List.getElem?_cons_zero, List.getElem?_cons_succ] at r0 r1
    exact bodyPost_ret (v := .tuple #[.agg #[.int .i64 0, .slice none 0 0], .int .i64 20]) (by simp [results, Tryd.results15, go_sem, r0, r1]) rfl (by show GrE w (parN l) (parO l) _ _; rw [HX.out]; exact ⟨rfl, (HB2.out.setCell (by simp; try omega) _).setCell (by simp; try omega) _⟩)
  | some x =>
    obtain ⟨⟨n, m⟩, r⟩ := x
    have hr := pairG_len K1.out
    have hn9 := hr.2.1; have hm9 := hr.2.2
    have HRL := Lib.hid (show r.length ≤ 1000000000 by omega)
    have HN := Lib.hid (show parN l = (n : Int) by unfold parN; rw [K1.out]; rfl)
    have O2 := Lib.hid (O1.out.alloc (.cells #[.int .i64 n, .int .i64 m] 49))
    have HB2 := Lib.hid (HB1.out.alloc HB1.out.size (.cells #[.int .i64 n, .int .i64 m] 49))
    have OH := Lib.hid (Own.new' (t := 49) (w := w1) (vs := [.int .i64 n, .int .i64 m]) rfl)
    have yR := O2.out.lt; have fR := O2.out.frozen; have qR := O2.out.cell
    clear hr
    unfold PairV
    by_cases hbig : 200 < n ∨ 594 < m
    · have HX := Lib.hid (show parO l = .error 21 by unfold parO; rw [K1.out]; exact if_pos hbig)
      by_cases h1 : 200 < n
      · have d1 : decide ((200 : Int) < (n : Int)) = true := decide_eq_true (by omega)
        clear hbig h1
        go_wp2
        have hF := (O2.out.set 0 (.int .i64 0)).set 1 (.slice none 0 0)
        have r0 := hF.cell 0
        have r1 := hF.cell 1
        simp only [List.set_cons_zero, List.set_cons_succ, List.getElem?_cons_zero, List.getElem?_cons_succ] at r0 r1
        exact bodyPost_ret (v := .tuple #[.agg #[.int .i64 0, .slice none 0 0], .int .i64 21]) (by simp [results, Tryd.results15, go_sem, r0, r1]) rfl (by show GrE w (parN l) (parO l) _ _; rw [HX.out]; exact ⟨rfl, (HB2.out.setCell (by simp; try omega) _).setCell (by simp; try omega) _⟩)
      · have d1 : decide ((200 : Int) < (n : Int)) = false := decide_eq_false (by omega)
        have d2 : decide ((594 : Int) < (m : Int)) = true := decide_eq_true (by omega)
        clear hbig h1
        go_wp2
        have hF := (O2.out.set 0 (.int .i64 0)).set 1 (.slice none 0 0)
        have r0 := hF.cell 0
        have r1 := hF.cell 1
        simp only [List.set_cons_zero, List.set_cons_succ, List.getElem?_cons_zero, List.getElem?_cons_succ] at r0 r1
        exact bodyPost_ret (v := .tuple #[.agg #[.int .i64 0, .slice none 0 0], .int .i64 21]) (by simp [results, Tryd.results15, go_sem, r0, r1]) rfl (by show GrE w (parN l) (parO l) _ _; rw [HX.out]; exact ⟨rfl, (HB2.out.setCell (by simp; try omega) _).setCell (by simp; try omega) _⟩)
    · have d1 : decide ((200 : Int) < (n : Int)) = false := decide_eq_false (by omega)
      have d2 : decide ((594 : Int) < (m : Int)) = false := decide_eq_false (by omega)
      have HX := Lib.hid (show parO l = (match linesG m r with
          | none => .error 20
          | some (E, r2) => if r2 = [] then newO (n : Int) E else .error 20) by unfold parO; rw [K1.out]; exact if_neg hbig)
      have hm : m ≤ 594 := by omega
      have hmk := mk_edges m m (Nat.le_refl _) (by omega) (w1.alloc (.cells #[.int .i64 n, .int .i64 m] 49))
      obtain ⟨W2, hW2⟩ : ∃ W, w1.alloc (.cells #[.int .i64 n, .int .i64 m] 49) = W := ⟨_, rfl⟩
      have HE0 := Lib.hid (Own.new' (w := W2) (t := 49) (g := W2.heap.size) (vs := cellsE (List.replicate m (0, 0))) rfl)
      have HW2 := Lib.hid hW2
      have O2' := Lib.hid (show Own W2 w.heap.size 26 [.int .i64 0, .slice none 0 0] from by rw [← hW2]; exact O2.out)
      have OH' := Lib.hid (show Own W2 w1.heap.size 49 [.int .i64 n, .int .i64 m] from by rw [← hW2]; exact OH.out)
      have HB2' := Lib.hid (show Below w.heap.size w W2 from by rw [← hW2]; exact HB2.out)
      have HBL := Lib.hid (alloc_below W2 (.cells (cellsE (List.replicate m (0, 0))).toArray 49))
      have q9 := OH'.out.cell; have z9 := OH'.out.lt
      clear hbig yR fR qR O2 OH HB2
      rw [hW2] at hmk
      go_wp2_with fail
      go_loopw [0, 3, 5, 7, 31] (fun s0 _ _ _ i wr => ∃ (k : Nat) (rk : List UInt8) (Ek : List (Int × Int)), k ≤ m ∧ i = .int .i64 (k : Int) ∧ s0 = .string (strB rk) ∧ Hid (rk.length ≤ 1000000000) ∧ Hid (Ek.length = k) ∧ Hid (linesG m r = (linesG (m - k) rk).map fun y => (Ek ++ y.1, y.2)) ∧ Hid (Own wr W2.heap.size 49 (cellsE (Ek ++ List.replicate (m - k) (0, 0)))) ∧ Hid (Below W2.heap.size W2 wr)) (fun _ _ _ _ i _ => m - (intOf i).toNat)
      case atStart => exact ⟨0, r, [], Nat.zero_le _, rfl, rfl, HRL, Lib.hid rfl, Lib.hid (by cases linesG m r <;> rfl), HE0, HBL⟩
      case round =>
        obtain ⟨k, rk, Ek, hk, rfl, rfl, HRK, HEK, HLN, HO, HB⟩ := hrel
        by_cases hlt : k < m
        · obtain ⟨j, hj⟩ : ∃ j, m - k = j + 1 := ⟨m - k - 1, by omega⟩
          have HJ := Lib.hid hj
          obtain ⟨o2, ho2⟩ : ∃ o, pairG rk = o := ⟨_, rfl⟩
          have N2 := Lib.hid (pairS_any rk wr HRK.out)
          rw [ho2] at N2
          have K2 := Lib.hid ho2
          clear ho2 hj
          go_wp2_with fail
          refine N2.out.mono ?_
          rintro e w3 ⟨rfl, hb⟩
          have HO3 := Lib.hid (show Own w3 W2.heap.size 49 (cellsE (Ek ++ (0, 0) :: List.replicate j (0, 0))) from by have h := HO.out.below' hb; rw [HJ.out, List.replicate_succ] at h; exact h)
          have HB3 := Lib.hid (below_chain HB.out hb)
          clear hb
          have hat : (Ek ++ (0, 0) :: List.replicate j ((0 : Int), (0 : Int)))[k]? = some (0, 0) := by rw [List.getElem?_append_right (by rw [HEK.out]; exact Nat.le_refl _), HEK.out, Nat.sub_self]; rfl
          have c5 : w3.cell? ⟨W2.heap.size, k * 2, none⟩ = some (.int .i64 0) := (HO3.out.cell _).trans (cellsE_at hat).1
          have c6 : w3.cell? ⟨W2.heap.size, k * 2 + 1, none⟩ = some (.int .i64 0) := (HO3.out.cell _).trans (cellsE_at hat).2
          have f5 := HO3.out.frozen (k * 2)
          have f6 := HO3.out.frozen (k * 2 + 1)
          have z5 := HO3.out.lt
          clear hat
          cases o2 with
          | none =>
            have HF := Lib.hid (show parO l = .error 20 from by
              rw [HX.out, HLN.out, HJ.out, linesG_none K2.out]; rfl)
            have OR := Lib.hid (O2'.out.below' HB3.out)
            have yR := OR.out.lt; have fR := OR.out.frozen; have qR := OR.out.cell
            have HBF := Lib.hid (HB2'.out.trans (HB3.out.mono HB2'.out.size))
            have hzz := HB2'.out.size
            have hzs := O2'.out.lt
            unfold PairV
            go_wp2
            have hF := (((OR.out.far (p := ⟨W2.heap.size, k * 2, none⟩) (by simp; omega) (.int .i64 0)).far (p := ⟨W2.heap.size, k * 2 + 1, none⟩) (by simp; omega) (.int .i64 0)).set 0 (.int .i64 0)).set 1 (.slice none 0 0)
            have r0 := hF.cell 0
            have r1 := hF.cell 1
            simp only [List.set_cons_zero, List.set_cons_succ, List.getElem?_cons_zero, List.getElem?_cons_succ] at r0 r1
            exact bodyPost_ret (v := .tuple #[.agg #[.int .i64 0, .slice none 0 0], .int .i64 20]) (by simp [results, Tryd.results15, go_sem, r0, r1]) rfl (by show GrE w (parN l) (parO l) _ _; rw [HF.out]; exact ⟨rfl, ((((HBF.out.setCell (p := ⟨W2.heap.size, k * 2, none⟩) hzz _).setCell (p := ⟨W2.heap.size, k * 2 + 1, none⟩) hzz _).setCell (by simp; try omega) _).setCell (by simp; try omega) _)⟩)
          | some y =>
            obtain ⟨⟨a, b⟩, r3⟩ := y
            have HL3 := Lib.hid (show r3.length ≤ 1000000000 by have := (pairG_len K2.out).1; have := HRK.out; omega)
            have HST := Lib.hid (show ((cellsE (Ek ++ (0, 0) :: List.replicate j (0, 0))).set (k * 2) (.int .i64 (a : Int))).set (k * 2 + 1) (.int .i64 (b : Int)) = cellsE ((Ek ++ [((a : Int), (b : Int))]) ++ List.replicate (m - (k + 1)) (0, 0)) from by
              have h := set_edgeT (a : Int) (b : Int) (List.replicate j (0, 0)) Ek
              rw [HEK.out] at h
              rw [h, show m - (k + 1) = j by have := HJ.out; omega, List.append_assoc]
              rfl)
            have HLN2 := Lib.hid (show linesG m r = (linesG (m - (k + 1)) r3).map fun y => ((Ek ++ [((a : Int), (b : Int))]) ++ y.1, y.2) from by
              rw [HLN.out, HJ.out, linesG_step K2.out, show m - (k + 1) = j by have := HJ.out; omega]
              cases linesG j r3 with
              | none => rfl
              | some y => simp)
            unfold PairV
            go_wp2
            go_roundw
            case rel => exact ⟨k + 1, r3, Ek ++ [((a : Int), (b : Int))], by omega, by go_num, rfl, HL3, Lib.hid (by rw [List.length_append, HEK.out]; rfl), HLN2, Lib.hid (by have h := (HO3.out.set (k * 2) (.int .i64 (a : Int))).set (k * 2 + 1) (.int .i64 (b : Int)); rw [HST.out] at h; exact h), Lib.hid ((HB3.out.setCell (p := ⟨W2.heap.size, k * 2, none⟩) (Nat.le_refl _) _).setCell (p := ⟨W2.heap.size, k * 2 + 1, none⟩) (Nat.le_refl _) _)⟩
            case measure => simp [intOf]; omega
        · obtain rfl : k = m := by omega
          have HLF := Lib.hid (show linesG k r = some (Ek, rk) from by rw [HLN.out, Nat.sub_self]; show some (Ek ++ [], rk) = _; rw [List.append_nil])
          have HOF := Lib.hid (show Own wr W2.heap.size 49 (cellsE Ek) from by have h := HO.out; rw [Nat.sub_self, List.replicate_zero, List.append_nil] at h; exact h)
          have OR := Lib.hid (O2'.out.below' HB.out)
          have OHr := Lib.hid (OH'.out.below' HB.out)
          have yR := OR.out.lt; have fR := OR.out.frozen; have qR := OR.out.cell
          have q9' := OHr.out.cell; have z9' := OHr.out.lt
          have HBF := Lib.hid (HB2'.out.trans (HB.out.mono HB2'.out.size))
          have hzz := HB2'.out.size
          by_cases hrk : rk = []
          · subst hrk
            have HF := Lib.hid (show parO l = newO (n : Int) Ek from by rw [HX.out, HLF.out]; exact if_pos rfl)
            have hemp : (strB []).toList.isEmpty = true := by rw [strB_toList]; rfl
            have HA := Lib.hid (show ArgE wr (some ⟨W2.heap.size, 0, none⟩) k k Ek from ⟨HOF.out.rd, HEK.out.symm, by omega, Nat.le_refl _⟩)
            go_wp2_with fail
            refine (newG_any (n : Int) _ k k Ek wr HA.out).mono ?_
            rintro e w4 he
            have HRS := Lib.hid he
            clear he
            cases hno : newO (n : Int) Ek with
            | error x =>
              have HNO := Lib.hid hno
              have h := HRS.out
              rw [hno] at h
              obtain ⟨rfl, hb⟩ := h
              have OR4 := Lib.hid (OR.out.below' hb)
              have yR4 := OR4.out.lt; have fR4 := OR4.out.frozen; have qR4 := OR4.out.cell
              have BF4 := Lib.hid (below_chain HBF.out hb)
              clear hb HRS hno yR fR qR
              go_wp2
              have hF := (OR4.out.set 0 (.int .i64 0)).set 1 (.slice none 0 0)
              have r0 := hF.cell 0
              have r1 := hF.cell 1
              simp only [List.set_cons_zero, List.set_cons_succ, List.getElem?_cons_zero, List.getElem?_cons_succ] at r0 r1
              exact bodyPost_ret (v := .tuple #[.agg #[.int .i64 0, .slice none 0 0], .int .i64 x]) (by simp [results, Tryd.results15, go_sem, r0, r1]) rfl (by show GrE w (parN l) (parO l) _ _; rw [HF.out, HNO.out]; exact ⟨rfl, (BF4.out.setCell (by simp; try omega) _).setCell (by simp; try omega) _⟩)
            | ok E =>
              have HNO := Lib.hid hno
              have h := HRS.out
              rw [hno] at h
              obtain ⟨v, rfl, hv, hb⟩ := h
              have OR4 := Lib.hid (OR.out.below' hb)
              have yR4 := OR4.out.lt; have fR4 := OR4.out.frozen; have qR4 := OR4.out.cell
              have BF4 := Lib.hid (below_chain HBF.out hb)
              have HV := Lib.hid (hv.base HBF.out.size)
              obtain ⟨A4, c4, rfl, _, _⟩ := hv.rd
              clear hv hb HRS hno yR fR qR
              go_wp2
              have hF := (OR4.out.set 0 (.int .i64 (n : Int))).set 1 (.slice A4 E.length c4)
              have r0 := hF.cell 0
              have r1 := hF.cell 1
              simp only [List.set_cons_zero, List.set_cons_succ, List.getElem?_cons_zero, List.getElem?_cons_succ] at r0 r1
              have h2 := rowE_box HV.out OR4.out (.int .i64 (n : Int)) (.slice A4 E.length c4)
              exact bodyPost_ret (v := .tuple #[.agg #[.int .i64 (n : Int), .slice A4 E.length c4], .int .i64 0]) (by simp [results, Tryd.results15, go_sem, r0, r1]) rfl (by show GrE w (parN l) (parO l) _ _; rw [HF.out, HNO.out, HN.out]; exact ⟨_, rfl, h2, (BF4.out.setCell (by simp; try omega) _).setCell (by simp; try omega) _⟩)
          · have HF := Lib.hid (show parO l = .error 20 from by rw [HX.out, HLF.out]; exact if_neg hrk)
            have hemp : (strB rk).toList.isEmpty = false := by rw [strB_toList]; cases rk with
              | nil => exact absurd rfl hrk
              | cons a t => rfl
            go_wp2
            have hF := (OR.out.set 0 (.int .i64 0)).set 1 (.slice none 0 0)
            have r0 := hF.cell 0
            have r1 := hF.cell 1
            simp only [List.set_cons_zero, List.set_cons_succ, List.getElem?_cons_zero, List.getElem?_cons_succ] at r0 r1
            exact bodyPost_ret (v := .tuple #[.agg #[.int .i64 0, .slice none 0 0], .int .i64 20]) (by simp [results, Tryd.results15, go_sem, r0, r1]) rfl (by show GrE w (parN l) (parO l) _ _; rw [HF.out]; exact ⟨rfl, ((HBF.out.setCell (by simp; try omega) _).setCell (by simp; try omega) _)⟩)
end Go.Proofs.YtljihclpgpmfeaaDoor
