/- Walk: strand.Cut. -/
import Derived.Test.YtnhlenagojbigaaStrK
namespace Go.Proofs.Ytnhlenagojbigaa
open Go.RowKit

/-- The bits from the place p on, ahead of q. -/
def cutF (f : Nat → Bool) (p l i : Nat) : Bool := f (p + i) && decide (i < l)
/-- .. the first m of them, whole. -/
def cutPart (f : Nat → Bool) (p m i : Nat) : Bool := f (p + i) && decide (i < m)
theorem cutPart_zero (f : Nat → Bool) (p : Nat) : cutPart f p 0 = fun _ => false := by funext i; simp [cutPart]
set_option maxRecDepth 100000 in
set_option maxHeartbeats 2000000 in
theorem cut_bits (A : Option Addr) (n c : Nat) (L p q : Int) (f : Nat → Bool) (w : World) (hr : Rd w A (cellsF f n)) (hf : ∀ i, 8 * n ≤ i → f i = false) (hn : n ≤ 140737488351232) (hL0 : -9223372036854775808 ≤ L) (hL1 : L ≤ 9223372036854775807)
   (h1 : rightB L n f = false) : Calls Try.prog 22 #[.agg #[.slice A n c, .int .i64 L], .int .i64 p, .int .i64 q] w (BadS w 11) := by
  have HR := Lib.hid hr; have HF := Lib.hid hf
  clear hr hf
  · skip
    go_enter Try.func22, Try.ntmps22
    go_wp2_with fail
    refine (right_any A n c L f _ ((HR.out.alloc _).alloc _) HF.out hn hL0 hL1).mono ?_
    rintro e w1 ⟨rfl, hb1⟩
    have hb := Lib.hid ((((Below.refl w.heap.size w).alloc (by simp) _).alloc (by simp) _).trans (hb1.mono (by simp; omega)))
    have oA := Own.below' ((Own.new' (w := w) rfl).alloc _) hb1
    have oC := Own.below' (Own.new' (w := w.alloc _) rfl) hb1
    have hs := hb1.size
    simp only [World.size_alloc] at hs oA oC
    have qA := oA.cell; have qC := oC.cell; have fC := oC.frozen
    have OA := Lib.hid oA; have OC := Lib.hid oC
    have z0 : w.heap.size < w1.heap.size := by omega
    have z1 : w.heap.size + 1 < w1.heap.size := by omega
    have HR1 := Lib.hid (HR.out.below hb.out)
    clear hb1 oA oC
    go_wp2
    have hF := (OC.out.set 0 (.slice none 0 0)).set 1 (.int .i64 0)
    have q0 := hF.cell 0
    have q1 := hF.cell 1
    simp only [List.set_cons_zero, List.set_cons_succ, List.getElem?_cons_zero, List.getElem?_cons_succ] at q0 q1
    exact bodyPost_ret (v := .tuple #[.agg #[.slice none 0 0, .int .i64 0], .int .i64 11]) (by simp [results, Try.results22, go_sem, q0, q1]) rfl ⟨rfl, (hb.out.setCell (by simp; try omega) _).setCell (by simp; try omega) _⟩
set_option maxRecDepth 100000 in
set_option maxHeartbeats 2000000 in
theorem cut_arg (A : Option Addr) (n c L : Nat) (p q : Int) (f : Nat → Bool) (w : World) (hr : Rd w A (cellsF f n)) (hs : RS L n f)
   (h : ¬ (0 ≤ p ∧ p ≤ q ∧ q ≤ L)) : Calls Try.prog 22 #[.agg #[.slice A n c, .int .i64 L], .int .i64 p, .int .i64 q] w (BadS w 2) := by
  have h1 := hs.rightB
  have hle := hs.le
  have HF := Lib.hid (show ∀ i, 8 * n ≤ i → f i = false from fun i hi => hs.zero i (by have := hs.len; omega))
  have hn : n ≤ 140737488351232 := by have := hs.len; omega
  have hL0 : -9223372036854775808 ≤ (L : Int) := by omega
  have hL1 : (L : Int) ≤ 9223372036854775807 := by omega
  have HR := Lib.hid hr; have HS := Lib.hid hs
  clear hr hs
  by_cases c0 : p < 0
  · clear h
    go_enter Try.func22, Try.ntmps22
    go_wp2_with fail
    refine (right_any A n c L f _ ((HR.out.alloc _).alloc _) HF.out hn hL0 hL1).mono ?_
    rintro e w1 ⟨rfl, hb1⟩
    have hb := Lib.hid ((((Below.refl w.heap.size w).alloc (by simp) _).alloc (by simp) _).trans (hb1.mono (by simp; omega)))
    have oA := Own.below' ((Own.new' (w := w) rfl).alloc _) hb1
    have oC := Own.below' (Own.new' (w := w.alloc _) rfl) hb1
    have hs := hb1.size
    simp only [World.size_alloc] at hs oA oC
    have qA := oA.cell; have qC := oC.cell; have fC := oC.frozen
    have OA := Lib.hid oA; have OC := Lib.hid oC
    have z0 : w.heap.size < w1.heap.size := by omega
    have z1 : w.heap.size + 1 < w1.heap.size := by omega
    have HR1 := Lib.hid (HR.out.below hb.out)
    clear hb1 oA oC
    go_wp2
    have hF := (OC.out.set 0 (.slice none 0 0)).set 1 (.int .i64 0)
    have q0 := hF.cell 0
    have q1 := hF.cell 1
    simp only [List.set_cons_zero, List.set_cons_succ, List.getElem?_cons_zero, List.getElem?_cons_succ] at q0 q1
    exact bodyPost_ret (v := .tuple #[.agg #[.slice none 0 0, .int .i64 0], .int .i64 2]) (by simp [results, Try.results22, go_sem, q0, q1]) rfl ⟨rfl, (hb.out.setCell (by simp; try omega) _).setCell (by simp; try omega) _⟩
  by_cases c1 : q < p
  · clear h
    go_enter Try.func22, Try.ntmps22
    go_wp2_with fail
    refine (right_any A n c L f _ ((HR.out.alloc _).alloc _) HF.out hn hL0 hL1).mono ?_
    rintro e w1 ⟨rfl, hb1⟩
    have hb := Lib.hid ((((Below.refl w.heap.size w).alloc (by simp) _).alloc (by simp) _).trans (hb1.mono (by simp; omega)))
    have oA := Own.below' ((Own.new' (w := w) rfl).alloc _) hb1
    have oC := Own.below' (Own.new' (w := w.alloc _) rfl) hb1
    have hs := hb1.size
    simp only [World.size_alloc] at hs oA oC
    have qA := oA.cell; have qC := oC.cell; have fC := oC.frozen
    have OA := Lib.hid oA; have OC := Lib.hid oC
    have z0 : w.heap.size < w1.heap.size := by omega
    have z1 : w.heap.size + 1 < w1.heap.size := by omega
    have HR1 := Lib.hid (HR.out.below hb.out)
    clear hb1 oA oC
    go_wp2
    have hF := (OC.out.set 0 (.slice none 0 0)).set 1 (.int .i64 0)
    have q0 := hF.cell 0
    have q1 := hF.cell 1
    simp only [List.set_cons_zero, List.set_cons_succ, List.getElem?_cons_zero, List.getElem?_cons_succ] at q0 q1
    exact bodyPost_ret (v := .tuple #[.agg #[.slice none 0 0, .int .i64 0], .int .i64 2]) (by simp [results, Try.results22, go_sem, q0, q1]) rfl ⟨rfl, (hb.out.setCell (by simp; try omega) _).setCell (by simp; try omega) _⟩
  · have c4 : (L : Int) < q := by omega
    clear h
    go_enter Try.func22, Try.ntmps22
    go_wp2_with fail
    refine (right_any A n c L f _ ((HR.out.alloc _).alloc _) HF.out hn hL0 hL1).mono ?_
    rintro e w1 ⟨rfl, hb1⟩
    have hb := Lib.hid ((((Below.refl w.heap.size w).alloc (by simp) _).alloc (by simp) _).trans (hb1.mono (by simp; omega)))
    have oA := Own.below' ((Own.new' (w := w) rfl).alloc _) hb1
    have oC := Own.below' (Own.new' (w := w.alloc _) rfl) hb1
    have hs := hb1.size
    simp only [World.size_alloc] at hs oA oC
    have qA := oA.cell; have qC := oC.cell; have fC := oC.frozen
    have OA := Lib.hid oA; have OC := Lib.hid oC
    have z0 : w.heap.size < w1.heap.size := by omega
    have z1 : w.heap.size + 1 < w1.heap.size := by omega
    have HR1 := Lib.hid (HR.out.below hb.out)
    clear hb1 oA oC
    go_wp2
    have hF := (OC.out.set 0 (.slice none 0 0)).set 1 (.int .i64 0)
    have q0 := hF.cell 0
    have q1 := hF.cell 1
    simp only [List.set_cons_zero, List.set_cons_succ, List.getElem?_cons_zero, List.getElem?_cons_succ] at q0 q1
    exact bodyPost_ret (v := .tuple #[.agg #[.slice none 0 0, .int .i64 0], .int .i64 2]) (by simp [results, Try.results22, go_sem, q0, q1]) rfl ⟨rfl, (hb.out.setCell (by simp; try omega) _).setCell (by simp; try omega) _⟩
theorem cut_first (f : Nat → Bool) (p i : Nat) :
    ((byteF f (p / 8 + i) : Nat) : Int) * 2 ^ (p % 8) % 256 = ((byteF f (p / 8 + i) * 2 ^ (p % 8) % 256 : Nat) : Int) := by simp
/-- Byte i, where nothing is left behind it. -/
theorem cut_one (f : Nat → Bool) (p i n : Nat) (hf : ∀ i, 8 * n ≤ i → f i = false) (h : n ≤ p / 8 + i + 1) :
    byteF f (p / 8 + i) * 2 ^ (p % 8) % 256 = byteF (cutPart f p (8 * (i + 1))) i := by
  refine eq_byteF (Nat.mod_lt _ (by omega)) (fun t ht => ?_)
  rw [show 256 = 2 ^ 8 from rfl, Nat.testBit_mod_two_pow, Nat.testBit_mul_two_pow, testBit_byteF]
  unfold cutPart
  have h1 : 8 * i + (7 - t) < 8 * (i + 1) := by omega
  by_cases h2 : p % 8 ≤ t
  · have e : 8 * (p / 8 + i) + (7 - (t - p % 8)) = p + (8 * i + (7 - t)) := by omega
    have h3 : t - p % 8 < 8 := by omega
    simp [ht, h1, h2, h3, e]
  · rw [hf (p + (8 * i + (7 - t))) (by omega)]
    simp [h2]
/-- Byte i, out of two. -/
theorem cut_two (f : Nat → Bool) (p i : Nat) :
    bits BinOp.or IntKind.u8 ((byteF f (p / 8 + i) * 2 ^ (p % 8) % 256 : Nat) : Int) (((byteF f (p / 8 + i + 1) : Nat) : Int) / 2 ^ (8 - p % 8)) = ((byteF (cutPart f p (8 * (i + 1))) i : Nat) : Int) := by
  have e : ((byteF f (p / 8 + i + 1) : Nat) : Int) / 2 ^ (8 - p % 8) = ((byteF f (p / 8 + i + 1) / 2 ^ (8 - p % 8) : Nat) : Int) := by simp
  have hd : byteF f (p / 8 + i + 1) / 2 ^ (8 - p % 8) < 256 := Nat.lt_of_le_of_lt (Nat.div_le_self _ _) (byteF_lt _ _)
  have hm : byteF f (p / 8 + i) * 2 ^ (p % 8) % 256 < 256 := Nat.mod_lt _ (by omega)
  rw [e, u8_or_nat _ _ hm hd]
  congr 1
  refine eq_byteF (Nat.or_lt_two_pow (n := 8) hm hd) (fun t ht => ?_)
  rw [Nat.testBit_or, show 256 = 2 ^ 8 from rfl, Nat.testBit_mod_two_pow, Nat.testBit_mul_two_pow, testBit_byteF, Nat.testBit_div_two_pow, testBit_byteF]
  unfold cutPart
  have h1 : 8 * i + (7 - t) < 8 * (i + 1) := by omega
  by_cases h2 : p % 8 ≤ t
  · have e : 8 * (p / 8 + i) + (7 - (t - p % 8)) = p + (8 * i + (7 - t)) := by omega
    have h3 : t - p % 8 < 8 := by omega
    have h4 : ¬ t + (8 - p % 8) < 8 := by omega
    simp [ht, h1, h2, h3, h4, e]
  · have e : 8 * (p / 8 + i + 1) + (7 - (t + (8 - p % 8))) = p + (8 * i + (7 - t)) := by omega
    have h4 : t + (8 - p % 8) < 8 := by omega
    simp [h1, h2, h4, e]
theorem cut_far (f : Nat → Bool) (p i j : Nat) (h : j / 8 ≠ i) : cutPart f p (8 * (i + 1)) j = cutPart f p (8 * i) j := by
  unfold cutPart
  have : j < 8 * (i + 1) ↔ j < 8 * i := by omega
  simp only [this]
theorem cutTo_eq (f : Nat → Bool) (p l k : Nat) (hk : k = (l + 7) / 8) : cutTo (cutPart f p (8 * k)) l = cutF f p l := by
  funext i
  unfold cutTo cutPart cutF
  by_cases h : i < l
  · have : i < 8 * k := by omega
    simp [h, this]
  · simp [h]

set_option maxRecDepth 100000 in
set_option maxHeartbeats 4000000 in
theorem cut_good (A : Option Addr) (n c L : Nat) (p q : Nat) (f : Nat → Bool) (w : World) (hr : Rd w A (cellsF f n)) (hs : RS L n f)
   (hpq : p ≤ q) (hq : q ≤ L) : Calls Try.prog 22 #[.agg #[.slice A n c, .int .i64 L], .int .i64 p, .int .i64 q] w (GoodS w (q - p) (cutF f p (q - p))) := by
  have h1 := hs.rightB
  have hle := hs.le
  have HF := Lib.hid (show ∀ i, 8 * n ≤ i → f i = false from fun i hi => hs.zero i (by have := hs.len; omega))
  have hn : n ≤ 140737488351232 := by have := hs.len; omega
  have hL0 : -9223372036854775808 ≤ (L : Int) := by omega
  have hL1 : (L : Int) ≤ 9223372036854775807 := by omega
  have HR := Lib.hid hr; have HS := Lib.hid hs
  clear hr hs
  obtain ⟨l, hl⟩ : ∃ l, l = q - p := ⟨_, rfl⟩
  rw [← hl]
  have hll : (q : Int) - p = l := by omega
  obtain ⟨k, hk⟩ : ∃ k, k = (l + 7) / 8 := ⟨_, rfl⟩
  have hkk : ((l : Int) + 7) / 8 = k := by omega
  have hkb : k ≤ 1000000 := by omega
  have hlb : l ≤ 4194304 := by omega
  have hln : p + l ≤ 8 * n := by have := HS.out.len; omega
  have hmk := mk_bytes k (by omega)
  have HK := Lib.hid hk
  have HL := Lib.hid hl
  clear hk hl
  · skip
    go_enter Try.func22, Try.ntmps22
    go_wp2_with fail
    refine (right_any A n c L f _ ((HR.out.alloc _).alloc _) HF.out hn hL0 hL1).mono ?_
    rintro e w1 ⟨rfl, hb1⟩
    have hb := Lib.hid ((((Below.refl w.heap.size w).alloc (by simp) _).alloc (by simp) _).trans (hb1.mono (by simp; omega)))
    have oA := Own.below' ((Own.new' (w := w) rfl).alloc _) hb1
    have oC := Own.below' (Own.new' (w := w.alloc _) rfl) hb1
    have hs := hb1.size
    simp only [World.size_alloc] at hs oA oC
    have qA := oA.cell; have qC := oC.cell; have fC := oC.frozen
    have OA := Lib.hid oA; have OC := Lib.hid oC
    have z0 : w.heap.size < w1.heap.size := by omega
    have z1 : w.heap.size + 1 < w1.heap.size := by omega
    have HR1 := Lib.hid (HR.out.below hb.out)
    clear hb1 oA oC
    go_wp2_with fail
    refine (size_any _ _ (by omega) (by omega)).mono ?_
    rintro e w' ⟨rfl, rfl⟩
    go_wp2
    go_loopw [11, 47] (fun _ v wr => ∃ i : Nat, i ≤ k ∧ v = .int .i64 i ∧ Hid (Own wr w1.heap.size 5 (cellsF (cutPart f p (8 * i)) k)) ∧ Hid (Own wr w.heap.size 24 [.slice A n c, .int .i64 L]) ∧ Hid (Own wr (w.heap.size + 1) 24 [.slice none 0 0, .int .i64 0]) ∧
         Hid (Own wr (w1.heap.size + 1) 24 [.slice (some ⟨w1.heap.size, 0, none⟩) k k, .int .i64 l]) ∧ Hid (Below w.heap.size w wr))
       (fun _ v _ => k - (intOf v).toNat)
    case atStart => exact ⟨0, by omega, rfl, by rw [Nat.mul_zero, cutPart_zero]; exact (Own.new' rfl).alloc _, (OA.out.alloc _).alloc _, (OC.out.alloc _).alloc _, Own.new' (by simp), (hb.out.alloc hb.out.size _).alloc (by simp; omega) _⟩
    case round =>
      obtain ⟨i, hi, rfl, HG, HA, HC, HS3, HW⟩ := hrel
      by_cases hlt : i < k
      · have hin : p / 8 + i < n := by have := HK.out; omega
        obtain ⟨b, off, rfl, hbb, hcc⟩ := HR.out (by rw [length_cellsF]; omega)
        have c1 : wr.cell? ⟨b, off + (p / 8 + i), none⟩ = some (.int .u8 (byteF f (p / 8 + i) : Nat)) := (HW.out.cell (p := ⟨b, off + (p / 8 + i), none⟩) hbb).trans (hcc _ _ (cellsF_at _ _ _ hin))
        clear qA qC fC
        have qA := HA.out.cell
        have qS := HS3.out.cell
        have gi : wr.cell? ⟨w1.heap.size, i, none⟩ = some (.int .u8 (byteF (cutPart f p (8 * i)) i : Nat)) := (HG.out.cell _).trans (cellsF_at _ _ _ hlt)
        have gf := HG.out.frozen
        have CF := Lib.hid (cut_first f p i)
        have S1 := Lib.hid (cellsF_set (f := cutPart f p (8 * i)) (g := cutPart f p (8 * (i + 1))) (k := k) (q := i) rfl (fun j _ hj => cut_far f p i j hj))
        by_cases h2 : p / 8 + i + 1 < n
        · have c2 : wr.cell? ⟨b, off + (p / 8 + i + 1), none⟩ = some (.int .u8 (byteF f (p / 8 + i + 1) : Nat)) := (HW.out.cell (p := ⟨b, off + (p / 8 + i + 1), none⟩) hbb).trans (hcc _ _ (cellsF_at _ _ _ h2))
          have CT := Lib.hid (cut_two f p i)
          clear hcc
          go_wp2
          refine region_tail 13 (by kernel_rfl) (by kernel_rfl) ?_
          simp only [List.take_succ_cons, List.take_zero, List.drop_succ_cons, List.drop_zero]
          repeat (refine still_step rfl rfl (fun K hK => ?_); go_wp2)
          refine wpStill_nil ?_
          go_wp2
          refine region_tail 18 (by kernel_rfl) (by kernel_rfl) ?_
          simp only [List.take_succ_cons, List.take_zero, List.drop_succ_cons, List.drop_zero]
          repeat (refine still_step rfl rfl (fun K hK => ?_); go_wp2)
          refine wpStill_nil ?_
          go_wp2
          go_roundw
          case rel =>
            refine ⟨i + 1, by omega, by go_num, ?_, ?_, ?_, ?_, ?_⟩
            · rw [CF.out, CT.out, ← S1.out]
              have h := ((HG.out.set i (.int .u8 (byteF f (p / 8 + i) * 2 ^ (p % 8) % 256 : Nat))).set i (.int .u8 (byteF (cutPart f p (8 * (i + 1))) i : Nat))).drew.drew
              rw [List.set_set] at h
              exact h
            · exact ((HA.out.far (by simp; omega) _).far (by simp; omega) _).drew.drew
            · exact ((HC.out.far (by simp; omega) _).far (by simp; omega) _).drew.drew
            · exact ((HS3.out.far (by simp) _).far (by simp) _).drew.drew
            · exact ((HW.out.setCell (by simp; omega) _).setCell (by simp; omega) _).drew.drew
          case measure => simp [intOf]; omega
        · have CO := Lib.hid (cut_one f p i n HF.out (by omega))
          clear hcc
          go_wp2
          refine region_tail 13 (by kernel_rfl) (by kernel_rfl) ?_
          simp only [List.take_succ_cons, List.take_zero, List.drop_succ_cons, List.drop_zero]
          repeat (refine still_step rfl rfl (fun K hK => ?_); go_wp2)
          refine wpStill_nil ?_
          go_wp2
          go_roundw
          case rel =>
            refine ⟨i + 1, by omega, by go_num, ?_, ?_, ?_, ?_, ?_⟩
            · rw [CF.out, CO.out, ← S1.out] ; exact (HG.out.set _ _).drew
            · exact (HA.out.far (by simp; omega) _).drew
            · exact (HC.out.far (by simp; omega) _).drew
            · exact (HS3.out.far (by simp) _).drew
            · exact (HW.out.setCell (by simp; omega) _).drew
          case measure => simp [intOf]; omega
      · obtain rfl : i = k := by omega
        have CE := Lib.hid (cutTo_eq f p l i HK.out)
        clear qA qC fC
        have qS := HS3.out.cell; have qC := HC.out.cell; have fC := HC.out.frozen
        have hfr := HG.out.frozen
        have hc2 := HG.out.cell
        by_cases hu : l % 8 = 0
        · have hu' : ((l : Int) % 8 != 0) = false := by rw [bne_eq_false_iff_eq]; omega
          have HU := Lib.hid hu
          clear hu hc2
          go_wp2
          have hF := (HC.out.set 0 (.slice (some ⟨w1.heap.size, 0, none⟩) i i)).set 1 (.int .i64 (l : Int))
          have q0 := hF.cell 0
          have q1 := hF.cell 1
          simp only [List.set_cons_zero, List.set_cons_succ, List.getElem?_cons_zero, List.getElem?_cons_succ] at q0 q1
          refine bodyPost_ret (v := .tuple #[.agg #[.slice (some ⟨w1.heap.size, 0, none⟩) i i, .int .i64 (l : Int)], .int .i64 0]) (by simp [results, Try.results22, go_sem, q0, q1]) rfl ⟨_, by rw [← HK.out], by omega, ?_, ?_⟩
          · rw [← HK.out, ← CE.out, cutTo_even _ l i HK.out HU.out]
            exact (HG.out.far (by simp; omega) _).far (by simp; omega) _
          · exact (HW.out.setCell (by simp) _).setCell (by simp) _
        · have hu' : ((l : Int) % 8 != 0) = true := by rw [bne_iff_ne]; omega
          have hk1 : 1 ≤ i := by have := HK.out; omega
          have hcell : wr.cell? ⟨w1.heap.size, i - 1, none⟩ = some (.int .u8 (byteF (cutPart f p (8 * i)) (i - 1) : Nat)) := (hc2 _).trans (cellsF_at _ _ _ (by omega))
          have HM := Lib.hid (and_mask (cutPart f p (8 * i)) l i HK.out hu)
          have HG1 := Lib.hid (cellsF_set (f := cutPart f p (8 * i)) (g := cutTo (cutPart f p (8 * i)) l) (k := i) (q := i - 1) rfl (fun j hj hj2 => cutTo_far _ l i j HK.out hj hj2))
          clear hu hc2
          go_wp2
          refine region_tail 13 (by kernel_rfl) (by kernel_rfl) ?_
          simp only [List.take_succ_cons, List.take_zero, List.drop_succ_cons, List.drop_zero]
          repeat (refine still_step rfl rfl (fun K hK => ?_); go_wp2)
          refine wpStill_nil ?_
          go_wp2
          rw [HM.out]
          have hF := (((HC.out.far (p := ⟨w1.heap.size, i - 1, none⟩) (by simp; omega) (.int .u8 (byteF (cutTo (cutPart f p (8 * i)) l) (i - 1) : Nat))).set 0 (.slice (some ⟨w1.heap.size, 0, none⟩) i i)).set 1 (.int .i64 (l : Int))).drew
          have q0 := hF.cell 0
          have q1 := hF.cell 1
          simp only [List.set_cons_zero, List.set_cons_succ, List.getElem?_cons_zero, List.getElem?_cons_succ] at q0 q1
          refine bodyPost_ret (v := .tuple #[.agg #[.slice (some ⟨w1.heap.size, 0, none⟩) i i, .int .i64 (l : Int)], .int .i64 0]) (by simp [results, Try.results22, go_sem, q0, q1]) rfl ⟨_, by rw [← HK.out], by omega, ?_, ?_⟩
          · rw [← HK.out, ← CE.out, ← HG1.out]
            exact (((HG.out.set _ _).far (by simp; omega) _).far (by simp; omega) _).drew
          · exact (((HW.out.setCell (by simp; omega) _).setCell (by simp) _).setCell (by simp) _).drew
end Go.Proofs.Ytnhlenagojbigaa
