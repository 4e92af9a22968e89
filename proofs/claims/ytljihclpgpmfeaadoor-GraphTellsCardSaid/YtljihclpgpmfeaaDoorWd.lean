/- Words (lists of bytes) in memory; strings of them. No function is walked. -/
import Derived.Test.YtljihclpgpmfeaaDoorProg
import Derived.Test.YtljihclpgpmfeaaDoorUa
import Derived.Lib.Bytealg
import Derived.Lib.BytesEntry
import Derived.Lib.SlFresh
import Derived.Laws.BytesArg
import Derived.Lib.Hide
namespace Go.Proofs.YtljihclpgpmfeaaDoor
set_option maxRecDepth 100000
open Go.RowKit

/-- The cells of a word. -/
def cellsB (l : List UInt8) : List Value := (Lib.numsL l).map (Value.int .u8)
theorem length_cellsB (l : List UInt8) : (cellsB l).length = l.length := by simp [cellsB, Lib.numsL]
theorem cellsB_at (l : List UInt8) (i : Nat) : (cellsB l)[i]? = (l[i]?).map fun b => Value.int .u8 (b.toNat : Int) := by
  simp [cellsB, Lib.numsL, List.getElem?_map]
  rfl
theorem cellsB_append (a b : List UInt8) : cellsB (a ++ b) = cellsB a ++ cellsB b := by simp [cellsB, Lib.numsL]
theorem cellsB_one {l : List UInt8} : ∀ v ∈ cellsB l, v.oneCell' = true := by
  intro v hv
  obtain ⟨n, _, rfl⟩ := List.mem_map.1 hv
  rfl
def strB (l : List UInt8) : ByteArray := ⟨l.toArray⟩
theorem strB_size (l : List UInt8) : (strB l).size = l.length := by
  show l.toArray.size = _
  simp
theorem strB_nums (l : List UInt8) : strOfNums (Lib.numsL l) = strB l := by
  unfold strOfNums strB Lib.numsL
  congr 2
  rw [List.map_map]
  conv => rhs; rw [← List.map_id l]
  refine List.map_congr_left fun i _ => ?_
  simp
theorem strB_toList (l : List UInt8) : (strB l).toList = l := by
  rw [← strB_nums, Lib.strOfNums_toList, Lib.bytesOf_numsL]
theorem strB_beq (k l : List UInt8) : ((strB k).toList == (strB l).toList) = (k == l) := by rw [strB_toList, strB_toList]
theorem conv_word (A : Option Addr) (n c : Nat) (l : List UInt8) (w : World) (hn : n = l.length) (hr : Rd w A (cellsB l)) : (convert 22 9 (.slice A n c)).run Tryd.prog w = .ok (.string (strB l)) w := by
  subst hn
  by_cases h0 : l.length = 0
  · obtain rfl : l = [] := List.eq_nil_of_length_eq_zero h0
    rw [run_convert_bytes_string w 22 9 5 A _ c Tryd.underlying22 Tryd.underlying5 Tryd.underlying9]
    cases A with
    | none => simp [Conv.bytesToString]; rfl
    | some a =>
      show (Conv.bytesToString (.slice (some a) 0 c)).run _ _ = _
      rw [run_bytesToString w a 0 c [] (by simp [loadCells, loadCellsFrom])]
      rfl
  · obtain ⟨b, off, rfl, hb, hc⟩ := hr (by rw [length_cellsB]; omega)
    rw [← strB_nums]
    refine run_convert_bytes_arg w 22 5 Tryd.underlying22 Tryd.underlying5 b off l.length c (Lib.numsL l) (Lib.numsL_length l) (fun i hi => hc i _ ?_) 9 Tryd.underlying9
    have hi' : i < (Lib.numsL l).length := by rw [Lib.numsL_length]; exact hi
    unfold cellsB
    rw [List.getElem?_map, List.getD_eq_getElem?_getD, List.getElem?_eq_getElem hi']
    rfl
/-- A value that is the word l. -/
def Wd (w : World) (v : Value) (l : List UInt8) : Prop := ∃ A c, v = .slice A l.length c ∧ Rd w A (cellsB l)
/-- A slice that reads as a list of words. -/
def RdW (w : World) (A : Option Addr) (ws : List (List UInt8)) : Prop := ∃ vs : List Value, vs.length = ws.length ∧ Rd w A vs ∧ ∀ (i : Nat) (v : Value) (l : List UInt8), vs[i]? = some v → ws[i]? = some l → Wd w v l
section
variable {w w' : World} {A : Option Addr} {v : Value} {l : List UInt8} {ws : List (List UInt8)}
theorem Wd.below (h : Wd w v l) (hb : Below w.heap.size w w') : Wd w' v l := by
  obtain ⟨A, c, e, hr⟩ := h
  exact ⟨A, c, e, hr.below hb⟩
theorem RdW.below (h : RdW w A ws) (hb : Below w.heap.size w w') : RdW w' A ws := by
  obtain ⟨vs, h1, h2, h3⟩ := h
  exact ⟨vs, h1, h2.below hb, fun i v l hv hl => (h3 i v l hv hl).below hb⟩
theorem RdW.alloc (h : RdW w A ws) (o : Obj) : RdW (w.alloc o) A ws := h.below ((Below.refl _ w).alloc (Nat.le_refl _) o)
theorem RdW.drew (h : RdW w A ws) : RdW w.drew A ws := h
/-- The cell of a word, and the word. -/
theorem RdW.at (h : RdW w A ws) : ∃ b off, (0 < ws.length → A = some ⟨b, off, none⟩ ∧ b < w.heap.size) ∧
    ∀ (i : Nat) (l : List UInt8), ws[i]? = some l → ∃ B c, w.cell? ⟨b, off + i, none⟩ = some (.slice B l.length c) ∧ Rd w B (cellsB l) := by
  obtain ⟨vs, h1, h2, h3⟩ := h
  obtain ⟨b, off, h4, h5⟩ := h2.head
  refine ⟨b, off, fun h => h4 (by omega), fun i l hl => ?_⟩
  have hi : i < vs.length := by rw [h1]; exact (List.getElem?_eq_some_iff.1 hl).1
  have hv := List.getElem?_eq_getElem hi
  obtain ⟨B, c, e, hr⟩ := h3 i _ l hv hl
  exact ⟨B, c, by rw [h5 i _ hv, e], hr⟩
end
/-- How two words stand. -/
theorem run_compareWords (A B : Option Addr) (n c m d : Nat) (k l : List UInt8) (w : World) (hn : n = k.length) (hm : m = l.length) (hr : Rd w A (cellsB k)) (hs : Rd w B (cellsB l)) :
    (Extern.BytealgCompare.compare #[.slice A n c, .slice B m d]).run Tryd.prog w = .ok (.int .i64 (Lib.compareBytes k l)) w := by
  subst hn hm
  have key : ∀ (A : Option Addr) (c : Nat) (l : List UInt8), Rd w A (cellsB l) → (Extern.Bytes.bytesOf (.slice A l.length c)).run Tryd.prog w = .ok (strB l) w := by
    intro A c l hr
    cases A with
    | none =>
      have hl : l = [] := by
        rcases Nat.eq_zero_or_pos l.length with h | h
        · exact List.eq_nil_of_length_eq_zero h
        · obtain ⟨b, off, e, _⟩ := hr (by rw [length_cellsB]; exact h)
          cases e
      subst hl
      rfl
    | some a =>
      have h1 := Lib.run_loadBytesX (P := Tryd.prog) w (Lib.numsL l) a .empty (fun j x hj => by
        have hl : j < (Lib.numsL l).length := (List.getElem?_eq_some_iff.1 hj).1
        rw [Lib.numsL_length] at hl
        obtain ⟨b, off, e, _, hc⟩ := hr (by rw [length_cellsB]; omega)
        injection e with e
        subst e
        have e : (⟨b, off, none⟩ : Addr).add j = ⟨b, off + j, none⟩ := by unfold Addr.add; split <;> simp_all
        rw [e]
        exact hc j _ (by unfold cellsB; rw [List.getElem?_map, hj]; rfl))
      rw [Lib.numsL_length, Lib.bytesOf_numsL] at h1
      have e : (⟨ByteArray.empty.data ++ l.toArray⟩ : ByteArray) = strB l := by
        apply ByteArray.ext
        simp [strB, ByteArray.empty, ByteArray.emptyWithCapacity]
        rfl
      rw [e] at h1
      exact h1
  change Sem.run Tryd.prog (do pure (goInt (Extern.BytealgCompare.cmp (← Extern.Bytes.bytesOf (.slice A k.length c)) (← Extern.Bytes.bytesOf (.slice B l.length d))))) w = _
  simp only [Sem.run_bind, key A c k hr, key B d l hs, Sem.run_pure, Result.andThen]
  rw [Lib.cmp_eq]
  rfl
end Go.Proofs.YtljihclpgpmfeaaDoor
