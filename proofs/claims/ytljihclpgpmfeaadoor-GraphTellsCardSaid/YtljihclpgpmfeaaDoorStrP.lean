/- Words for a strand that is handed in. -/
import Derived.Test.YtljihclpgpmfeaaDoorUo
namespace Go.Proofs.YtljihclpgpmfeaaDoor
set_option maxRecDepth 100000
open Go.RowKit

/-- A strand that is handed in, right or not. -/
structure ArgS (w : World) (A : Option Addr) (n : Nat) (L : Int) (f : Nat → Bool) : Prop where
  rd : Rd w A (cellsF f n)
  zero : ∀ i, 8 * n ≤ i → f i = false
  lo : -9223372036854775808 ≤ L
  hi : L ≤ 9223372036854775807
theorem ArgS.keep {w w' : World} {A : Option Addr} {n : Nat} {L : Int} {f : Nat → Bool} (h : ArgS w A n L f) (hb : Below w.heap.size w w') : ArgS w' A n L f := ⟨h.rd.below hb, h.zero, h.lo, h.hi⟩
theorem ArgS.alloc {w : World} {A : Option Addr} {n : Nat} {L : Int} {f : Nat → Bool} (h : ArgS w A n L f) (o : Obj) : ArgS (w.alloc o) A n L f := ⟨h.rd.alloc o, h.zero, h.lo, h.hi⟩
theorem ArgS.right {w : World} {A : Option Addr} {n : Nat} {L : Int} {f : Nat → Bool} (h : ArgS w A n L f) (hR : rightB L n f = true) : ∃ l : Nat, L = l ∧ RS l n f := by
  have h1 := (rightB_iff h.zero).1 hR
  exact ⟨L.toNat, by omega, h1.2⟩
theorem right_any' (A : Option Addr) (n c : Nat) (L : Int) (f : Nat → Bool) (w : World) (h : ArgS w A n L f) (hn : n ≤ 140737488351232) :
    Calls Tryd.prog 58 #[.agg #[.slice A n c, .int .i64 L]] w fun e w' => e = .returned (.bool (rightB L n f)) ∧ Below w.heap.size w w' :=
  right_any A n c L f w h.rd h.zero hn h.lo h.hi
theorem ArgS.of {w : World} {A : Option Addr} {n L : Nat} {f : Nat → Bool} (hr : Rd w A (cellsF f n)) (hs : RS L n f) : ArgS w A n L f :=
  ⟨hr, fun i hi => hs.zero i (by have := hs.len; omega), by omega, by have := hs.le; omega⟩
end Go.Proofs.YtljihclpgpmfeaaDoor
