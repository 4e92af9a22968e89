/- Walks: fretworklow.SameBytes; fretworklaw01.Same, Great. -/
import Derived.Test.YtnhlenagojbigaaStrD
import Derived.Laws.BytesArg
import Derived.Lib.Bytes
namespace Go.Proofs.Ytnhlenagojbigaa
open Go.RowKit

/-- The numbers of n bytes f. -/
def numsF (f : Nat → Bool) (n : Nat) : List Int := (List.range n).map fun q => ((byteF f q : Nat) : Int)
theorem numsF_map (f : Nat → Bool) (n : Nat) : (numsF f n).map (Value.int .u8) = cellsF f n := by simp [numsF, cellsF]
theorem length_numsF (f : Nat → Bool) (n : Nat) : (numsF f n).length = n := by simp [numsF]
/-- The text of n bytes f. -/
def strF (f : Nat → Bool) (n : Nat) : ByteArray := strOfNums (numsF f n)
theorem numsF_at (f : Nat → Bool) (n i : Nat) (h : i < n) : (numsF f n).getD i 0 = ((byteF f i : Nat) : Int) := by simp [numsF, h]
theorem strF_toList (f : Nat → Bool) (n : Nat) : (strF f n).toList = (List.range n).map fun q => UInt8.ofNat (byteF f q) := by
  unfold strF
  rw [Lib.strOfNums_toList]
  simp [Lib.bytesOf, numsF]
/-- Are the bytes the same? -/
def sameB (f : Nat → Bool) (n : Nat) (g : Nat → Bool) (m : Nat) : Bool := decide (n = m) && (List.range (8 * n)).all fun i => f i == g i
theorem sameB_iff {f g : Nat → Bool} {n m : Nat} : sameB f n g m = true ↔ n = m ∧ ∀ i, i < 8 * n → f i = g i := by
  simp [sameB]
theorem strF_beq (f g : Nat → Bool) (n m : Nat) : ((strF f n).toList == (strF g m).toList) = sameB f n g m := by
  rw [Bool.eq_iff_iff, sameB_iff, beq_iff_eq, strF_toList, strF_toList]
  constructor
  · intro h
    have hl := congrArg List.length h
    simp at hl
    subst hl
    refine ⟨rfl, fun i hi => ?_⟩
    have h1 := congrArg (fun l => l[i / 8]?) h
    have hq : i / 8 < n := by omega
    simp [hq] at h1
    have h2 := congrArg UInt8.toNat h1
    have e1 := byteF_lt f (i / 8); have e2 := byteF_lt g (i / 8)
    rw [UInt8.toNat_ofNat', UInt8.toNat_ofNat', Nat.mod_eq_of_lt e1, Nat.mod_eq_of_lt e2] at h2
    have h3 := byteF_inj h2 (i % 8) (by omega)
    have e : 8 * (i / 8) + i % 8 = i := by omega
    rwa [e] at h3
  · rintro ⟨rfl, h⟩
    apply List.map_congr_left
    intro q hq
    have hq := List.mem_range.1 hq
    rw [byteF_congr (f := f) (g := g) (q := q) (p := q) (fun i hi => h _ (by omega))]

theorem conv_bytes (A : Option Addr) (n c : Nat) (f : Nat → Bool) (w : World) (hr : Rd w A (cellsF f n)) : (convert 22 9 (.slice A n c)).run Try.prog w = .ok (.string (strF f n)) w := by
  by_cases h0 : n = 0
  · subst h0
    rw [run_convert_bytes_string w 22 9 5 A 0 c Try.underlying22 Try.underlying5 Try.underlying9]
    cases A with
    | none => simp [Conv.bytesToString]; rfl
    | some a =>
      rw [run_bytesToString w a 0 c [] (by simp [loadCells, loadCellsFrom])]
      rfl
  · obtain ⟨b, off, rfl, hb, hc⟩ := hr (by rw [length_cellsF]; omega)
    exact run_convert_bytes_arg w 22 5 Try.underlying22 Try.underlying5 b off n c (numsF f n) (length_numsF f n) (fun i hi => by rw [numsF_at f n i hi]; exact hc i _ (cellsF_at f n i hi)) 9 Try.underlying9

set_option maxHeartbeats 1000000 in
theorem sameBytes_any (A B : Option Addr) (n c m d : Nat) (f g : Nat → Bool) (w : World) (hr : Rd w A (cellsF f n)) (hs : Rd w B (cellsF g m)) :
    Calls Try.prog 14 #[.slice A n c, .slice B m d] w fun e w' => e = .returned (.bool (sameB f n g m)) ∧ w = w' := by
  have c1 := conv_bytes A n c f w hr
  have c2 := conv_bytes B m d g w hs
  have HB := Lib.hid (strF_beq f g n m)
  generalize strF f n = X at c1 HB
  generalize strF g m = Y at c2 HB
  clear hr hs
  go_enter Try.func14, Try.ntmps14
  go_wp2
  go_ret
  exact ⟨by rw [← HB.out]; rfl, rfl⟩

/-- Are two strands the same? -/
def sameS (f : Nat → Bool) (n : Nat) (L : Int) (g : Nat → Bool) (m : Nat) (M : Int) : Bool := decide (L = M) && sameB f n g m
set_option maxRecDepth 100000 in
set_option maxHeartbeats 1000000 in
theorem same_any (A B : Option Addr) (n c m d : Nat) (L M : Int) (f g : Nat → Bool) (w : World) (hr : Rd w A (cellsF f n)) (hs : Rd w B (cellsF g m)) :
    Calls Try.prog 16 #[.agg #[.slice A n c, .int .i64 L], .agg #[.slice B m d, .int .i64 M]] w fun e w' => e = .returned (.bool (sameS f n L g m M)) ∧ Below w.heap.size w w' := by
  have HR := Lib.hid hr; have HS := Lib.hid hs
  clear hr hs
  by_cases h : L = M
  · subst h
    have hS := Lib.hid (show sameS f n L g m L = sameB f n g m by simp [sameS])
    go_enter Try.func16, Try.ntmps16
    go_wp2_with fail
    refine (sameBytes_any A B n c m d f g _ ((HR.out.alloc _).alloc _) ((HS.out.alloc _).alloc _)).mono ?_
    rintro e w1 ⟨rfl, rfl⟩
    go_wp2
    go_ret
    exact ⟨by rw [hS.out]; rfl, ((Below.refl _ _).alloc (by simp) _).alloc (by simp) _⟩
  · have h' : (L == M) = false := by rw [beq_eq_false_iff_ne]; exact h
    have hS := Lib.hid (show sameS f n L g m M = false by simp [sameS, h])
    go_enter Try.func16, Try.ntmps16
    go_wp2
    go_ret
    exact ⟨by rw [hS.out]; rfl, ((Below.refl _ _).alloc (by simp) _).alloc (by simp) _⟩
/-- Is a strand more than is looked at? -/
def greatB (n : Nat) (L : Int) : Bool := decide (2000 < L) || decide (250 < (n : Int))
set_option maxRecDepth 100000 in
set_option maxHeartbeats 1000000 in
theorem great_any (A : Option Addr) (n c : Nat) (L : Int) (w : World) :
    Calls Try.prog 15 #[.agg #[.slice A n c, .int .i64 L]] w fun e w' => e = .returned (.bool (greatB n L)) ∧ Below w.heap.size w w' := by
  by_cases h : 2000 < L
  · have hS := Lib.hid (show greatB n L = true by simp [greatB, h])
    go_enter Try.func15, Try.ntmps15
    go_wp2
    go_ret
    exact ⟨by rw [hS.out]; rfl, (Below.refl _ _).alloc (by simp) _⟩
  · have h' : decide (2000 < L) = false := by simpa using h
    have hS := Lib.hid (show greatB n L = decide (250 < (n : Int)) by simp [greatB, h])
    go_enter Try.func15, Try.ntmps15
    go_wp2
    go_ret
    exact ⟨by rw [hS.out]; rfl, (Below.refl _ _).alloc (by simp) _⟩
end Go.Proofs.Ytnhlenagojbigaa
