/- Walk: fretworklaw01.awake. -/
import Derived.Test.YtnhlenagojbigaaLow
import Derived.Test.YtnhlenagojbigaaStrF
import Derived.Test.YtnhlenagojbigaaStrI
import Derived.Test.YtnhlenagojbigaaStrJ
import Derived.Test.YtnhlenagojbigaaStrL
import Derived.Test.YtnhlenagojbigaaStrM
namespace Go.Proofs.Ytnhlenagojbigaa
open Go.RowKit

theorem knot4_L : knotL 4 = 5 := by decide +kernel
theorem knot4_RS : RS 5 1 (knotF 4) := ⟨by omega, by omega, fun i hi => by
  have hd : digits 4 = 3 := by decide +kernel
  unfold knotF putF
  rw [hd]
  simp [noF]; omega⟩
theorem knot4_z0 : zerosF (knotF 4) 0 (min 64 (5 - 0)) = 2 := by decide +kernel
theorem knot4_z1 : zerosF (knotF 4) 1 (min 64 (5 - 1)) = 1 := by decide +kernel
theorem knot4_n0 : numF (knotF 4) (0 + 2) (2 + 1) - 1 = 4 := by decide +kernel
theorem knot4_n1 : numF (knotF 4) (1 + 1) (1 + 1) - 1 = 1 := by decide +kernel
theorem pack4_byte : (byteF (packF (knotF 4) 5) 0) = 44 := by decide +kernel
theorem pack0_byte : (byteF (packF noF 0) 0) = 128 := by decide +kernel
theorem field_byte : (byteF (putF noF 0 5 4) 0) = 80 := by decide +kernel
/-- The bits of the one byte 44. -/
def f44 : Nat → Bool := bitsOf [44]
theorem f44_byte : byteF f44 0 = 44 := by decide +kernel
theorem f44_L : unpackL f44 1 = 5 := by decide +kernel
theorem same4 : sameS (knotF 4) 1 5 (cutTo f44 5) 1 5 = true := by decide +kernel
theorem cells_1 (f : Nat → Bool) : cellsF f 1 = [.int .u8 (byteF f 0 : Nat)] := rfl
theorem noF_byte : byteF noF 0 = 0 := by decide +kernel
theorem str_44 : strF (packF (knotF 4) 5) 1 = { data := #[44] } := by decide +kernel
theorem str_128 : strF (packF noF 0) 1 = { data := #[128] } := by decide +kernel
theorem str_80 : strF (putF noF 0 5 4) 1 = { data := #[80] } := by decide +kernel

theorem getKnot4 (A : Option Addr) (c p m q : Nat) (w : World) (hr : Rd w A (cellsF (knotF 4) 1)) (h : p = 0 ∧ m = 4 ∧ q = 5 ∨ p = 1 ∧ m = 1 ∧ q = 4) :
    Calls Try.prog 19 #[.agg #[.slice A 1 c, .int .i64 5], .int .i64 p] w fun e w' => e = .returned (.tuple #[.int .u64 m, .int .i64 q, .int .i64 0]) ∧ Below w.heap.size w w' := by
  rcases h with ⟨rfl, rfl, rfl⟩ | ⟨rfl, rfl, rfl⟩
  · refine (getKnot_any A 1 c 5 0 (knotF 4) w hr knot4_RS (by omega)).mono ?_
    intro e w' h
    rw [knot4_z0] at h
    rcases h with ⟨h, _⟩ | ⟨_, h, _⟩ | ⟨_, _, h, hb⟩
    · omega
    · omega
    · rw [knot4_n0] at h
      exact ⟨h, hb⟩
  · refine (getKnot_any A 1 c 5 1 (knotF 4) w hr knot4_RS (by omega)).mono ?_
    intro e w' h
    rw [knot4_z1] at h
    rcases h with ⟨h, _⟩ | ⟨_, h, _⟩ | ⟨_, _, h, hb⟩
    · omega
    · omega
    · rw [knot4_n1] at h
      exact ⟨h, hb⟩
theorem conv_hid {A : Option Addr} {n : Nat} {f : Nat → Bool} {X : ByteArray} (h : strF f n = X) {w : World} (hr : Rd w A (cellsF f n)) (c : Nat) : (convert 22 9 (.slice A n c)).run Try.prog w = .ok (.string X) w := by rw [← h]; exact conv_bytes A n c f w hr

set_option maxRecDepth 100000 in
set_option maxHeartbeats 8000000 in
theorem awake_true (w : World) : Calls Try.prog 10 #[] w fun e w' => e = .returned (.bool true) ∧ Below w.heap.size w w' := by
  go_enter Try.func10, Try.ntmps10
  go_wp2_with fail
  refine (knots_one _ _ 4 _ ((Own.new' (w := w) (vs := [.int .u64 4]) rfl).rd) (by omega)).mono ?_
  rintro e w1 ⟨g, rfl, hg, hO, hb1⟩
  rw [knot4_L] at hO ⊢
  have hb := Lib.hid (((Below.refl w.heap.size w).alloc (by simp) _).trans (hb1.mono (by simp)))
  have hs := hb1.size
  simp only [World.size_alloc] at hs hg
  have OG := Lib.hid hO
  clear hb1 hO
  go_wp2_with fail
  refine (pack_good _ 1 1 5 (knotF 4) _ (OG.out.alloc _).rd knot4_RS).mono ?_
  rintro e w2 ⟨gb, rfl, hgb, hOb, hbk⟩
  have OG' := Lib.hid ((OG.out.alloc _).below' hbk)
  have OS' := Lib.hid (Own.below' (Own.new' (w := w1) rfl) hbk)
  have hb' := Lib.hid ((hb.out.alloc (by have := hb.out.size; simp; try omega) _).trans (hbk.mono (by have := hb.out.size; simp; try omega)))
  have hs2 := hbk.size
  simp only [World.size_alloc] at hs2
  clear hb hbk OG
  have hb := hb'; clear hb'
  have OG := OG'; clear OG'
  have OS := OS'; clear OS'
  have OB := Lib.hid hOb; clear hOb
  have z2 : w1.heap.size < w2.heap.size := OS.out.lt
  have qS := OS.out.cell
  go_wp2_with fail
  refine (getKnot4 _ 1 0 4 5 _ OG.out.rd (Or.inl ⟨rfl, rfl, rfl⟩)).mono ?_
  rintro e w3 ⟨rfl, hbk⟩
  have OG' := Lib.hid (OG.out.below' hbk)
  have OS' := Lib.hid (OS.out.below' hbk)
  have OB' := Lib.hid (OB.out.below' hbk)
  have hb' := Lib.hid (hb.out.trans (hbk.mono (by have := hb.out.size; simp; try omega)))
  have hs3 := hbk.size
  clear qS
  clear hb hbk OG OS OB
  have hb := hb'; clear hb'
  have OG := OG'; clear OG'
  have OS := OS'; clear OS'
  have OB := OB'; clear OB'
  have z3 : w1.heap.size < w3.heap.size := OS.out.lt
  have qS := OS.out.cell
  go_wp2_with fail
  refine (getKnot4 _ 1 1 1 4 _ OG.out.rd (Or.inr ⟨rfl, rfl, rfl⟩)).mono ?_
  rintro e w4 ⟨rfl, hbk⟩
  have OG' := Lib.hid (OG.out.below' hbk)
  have OS' := Lib.hid (OS.out.below' hbk)
  have OB' := Lib.hid (OB.out.below' hbk)
  have hb' := Lib.hid (hb.out.trans (hbk.mono (by have := hb.out.size; simp; try omega)))
  have hs4 := hbk.size
  clear qS
  clear hb hbk OG OS OB
  have hb := hb'; clear hb'
  have OG := OG'; clear OG'
  have OS := OS'; clear OS'
  have OB := OB'; clear OB'
  go_wp2_with fail
  refine (pack_good none 0 0 0 noF _ (Rd.zero rfl) noF_RS).mono ?_
  rintro e w5 ⟨gn, rfl, hgn, hOn, hbk⟩
  have OG' := Lib.hid (OG.out.below' hbk)
  have OS' := Lib.hid (OS.out.below' hbk)
  have OB' := Lib.hid (OB.out.below' hbk)
  have hb' := Lib.hid (hb.out.trans (hbk.mono (by have := hb.out.size; simp; try omega)))
  have hs5 := hbk.size
  clear hb hbk OG OS OB
  have hb := hb'; clear hb'
  have OG := OG'; clear OG'
  have OS := OS'; clear OS'
  have OB := OB'; clear OB'
  have ON := Lib.hid hOn; clear hOn
  go_wp2_with fail
  refine (unpack_zero none 0 0 noF _ (Rd.zero rfl) (by omega) (by omega)).mono ?_
  rintro e w6 ⟨rfl, hbk⟩
  have OG' := Lib.hid (OG.out.below' hbk)
  have OS' := Lib.hid (OS.out.below' hbk)
  have OB' := Lib.hid (OB.out.below' hbk)
  have ON' := Lib.hid (ON.out.below' hbk)
  have hb' := Lib.hid (hb.out.trans (hbk.mono (by have := hb.out.size; simp; try omega)))
  have hs6 := hbk.size
  clear hb hbk OG OS OB ON
  have hb := hb'; clear hb'
  have OG := OG'; clear OG'
  have OS := OS'; clear OS'
  have OB := OB'; clear OB'
  have ON := ON'; clear ON'
  go_wp2_with fail
  refine (unpack_zero _ 1 1 noF _ ((Own.new' (vs := [.int .u8 0]) (by simp)).rd) (by omega) (fun _ => noF_byte)).mono ?_
  rintro e w7 ⟨rfl, hbk⟩
  have OG' := Lib.hid (((OG.out.alloc _).alloc _).below' hbk)
  have OS' := Lib.hid (((OS.out.alloc _).alloc _).below' hbk)
  have OB' := Lib.hid (((OB.out.alloc _).alloc _).below' hbk)
  have ON' := Lib.hid (((ON.out.alloc _).alloc _).below' hbk)
  have hb' := Lib.hid (((hb.out.alloc (by have := hb.out.size; simp; try omega) _).alloc (by have := hb.out.size; simp; try omega) _).trans (hbk.mono (by have := hb.out.size; simp; try omega)))
  have hs7 := hbk.size
  simp only [World.size_alloc] at hs7
  clear hb hbk OG OS OB ON
  have hb := hb'; clear hb'
  have OG := OG'; clear OG'
  have OS := OS'; clear OS'
  have OB := OB'; clear OB'
  have ON := ON'; clear ON'
  go_wp2_with fail
  refine (unpack_good _ 1 1 f44 _ ((Own.new' (vs := [.int .u8 44]) (by simp)).rd) (by omega) (by omega) (by rw [f44_byte]; omega) (by rw [f44_L]; omega)).mono ?_
  rintro e w8 ⟨gt, rfl, hgt, hOt, hbk⟩
  have OG' := Lib.hid (((OG.out.alloc _).alloc _).below' hbk)
  have OS' := Lib.hid (((OS.out.alloc _).alloc _).below' hbk)
  have OB' := Lib.hid (((OB.out.alloc _).alloc _).below' hbk)
  have ON' := Lib.hid (((ON.out.alloc _).alloc _).below' hbk)
  have hb' := Lib.hid (((hb.out.alloc (by have := hb.out.size; simp; try omega) _).alloc (by have := hb.out.size; simp; try omega) _).trans (hbk.mono (by have := hb.out.size; simp; try omega)))
  have hs8 := hbk.size
  simp only [World.size_alloc] at hs8
  clear hb hbk OG OS OB ON
  have hb := hb'; clear hb'
  have OG := OG'; clear OG'
  have OS := OS'; clear OS'
  have OB := OB'; clear OB'
  have ON := ON'; clear ON'
  rw [f44_L] at hOt ⊢
  have OT := Lib.hid hOt; clear hOt
  have z8 : w1.heap.size < w8.heap.size := OS.out.lt
  have qS := OS.out.cell
  have qT := (Own.new' (w := w8) (t := 24) (vs := [.slice (some ⟨gt, 0, none⟩) 1 1, .int .i64 5]) rfl).cell
  go_wp2_with fail
  refine (same_any _ _ 1 1 1 1 5 5 (knotF 4) (cutTo f44 5) _ (OG.out.alloc _).rd (OT.out.alloc _).rd).mono ?_
  rintro e w9 ⟨rfl, hbk⟩
  have OG' := Lib.hid ((OG.out.alloc _).below' hbk)
  have OS' := Lib.hid ((OS.out.alloc _).below' hbk)
  have OB' := Lib.hid ((OB.out.alloc _).below' hbk)
  have ON' := Lib.hid ((ON.out.alloc _).below' hbk)
  have OT' := Lib.hid ((OT.out.alloc _).below' hbk)
  have hb' := Lib.hid ((hb.out.alloc (by have := hb.out.size; simp; try omega) _).trans (hbk.mono (by have := hb.out.size; simp; try omega)))
  have hs9 := hbk.size
  simp only [World.size_alloc] at hs9
  clear qS qT
  clear hb hbk OG OS OB ON OT
  have hb := hb'; clear hb'
  have OG := OG'; clear OG'
  have OS := OS'; clear OS'
  have OB := OB'; clear OB'
  have ON := ON'; clear ON'
  have OT := OT'; clear OT'
  rw [same4]
  have z9 : w1.heap.size < w9.heap.size := OS.out.lt
  have qS := OS.out.cell
  go_wp2_with fail
  refine (field_good none 0 0 0 4 5 noF _ (Rd.zero rfl) noF_RS (by omega) (by omega) (by omega)).mono ?_
  rintro e w10 ⟨gu, rfl, hgu, hOu, hbk⟩
  have OG' := Lib.hid (OG.out.below' hbk)
  have OS' := Lib.hid (OS.out.below' hbk)
  have OB' := Lib.hid (OB.out.below' hbk)
  have ON' := Lib.hid (ON.out.below' hbk)
  have OT' := Lib.hid (OT.out.below' hbk)
  have hb' := Lib.hid (hb.out.trans (hbk.mono (by have := hb.out.size; simp; try omega)))
  have hs10 := hbk.size
  clear qS
  clear hb hbk OG OS OB ON OT
  have hb := hb'; clear hb'
  have OG := OG'; clear OG'
  have OS := OS'; clear OS'
  have OB := OB'; clear OB'
  have ON := ON'; clear ON'
  have OT := OT'; clear OT'
  have OU := Lib.hid hOu; clear hOu
  have c1 := fun o : Obj => conv_hid str_80 (OU.out.alloc o).rd 1
  have c2 := fun o : Obj => conv_hid str_44 (OB.out.alloc o).rd 1
  have c3 := fun o : Obj => conv_hid str_128 (ON.out.alloc o).rd 1
  go_wp2
  go_ret
  exact ⟨rfl, hb.out.alloc hb.out.size _⟩
end Go.Proofs.Ytnhlenagojbigaa
