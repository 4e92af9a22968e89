/- A map from numbers to numbers that the call made and in which each entry is 1: a set. No function is walked. -/
import Derived.Test.YtljihclpgpmfeaaDoorProg
import Derived.Test.YtljihclpgpmfeaaDoorMem
import Derived.Maps.OwnOps
import Derived.Maps.Views
import Derived.WalkKit
import Derived.Lib.Hide
namespace Go.Proofs.YtljihclpgpmfeaaDoor
set_option maxRecDepth 100000
open Go.RowKit Go.Maps

theorem lawInt : Keyed Tryd.prog 3 := int_keyed Tryd.underlying3
theorem zeroInt (w : World) : (zeroValue 3).run Tryd.prog w = .ok (.int .i64 0) w := by kernel_rfl
def oneD : DataW Unit := .lit (.int .i64 1)
def keysI (S : List Int) : List Lit := S.map (Lit.int .i64)
/-- Block B is a map of at most k entries, each number of S taken to 1. -/
def MapI (w : World) (B k : Nat) (S : List Int) : Prop := w.ownsMap Tryd.prog 3 (plainElem (H := Unit) Tryd.prog 3) B k (setOf oneD (keysI S))
def bitI (x : Bool) : Int := if x then 1 else 0
section
variable {w w' : World} {B k : Nat} {S : List Int}
theorem MapI.lt (h : MapI w B k S) : B < w.heap.size := World.ownsMap.lt h
theorem MapI.below (h : MapI w B k S) (hb : Below w.heap.size w w') : MapI w' B k S := World.ownsMap.kept h (row := none) (grown_of_below hb) (by simp)
theorem MapI.alloc (h : MapI w B k S) (o : Obj) : MapI (w.alloc o) B k S := World.ownsMap.alloc h o
theorem MapI.drew (h : MapI w B k S) : MapI w.drew B k S := h
theorem MapI.made (w : World) : MapI (w.alloc (.map #[] 0)) w.heap.size 0 [] := World.ownsMap_made _ _ _ _
theorem MapI.far (h : MapI w B k S) {row : Nat} (hg : w.grownBy w' (some row)) (hne : B ≠ row) : MapI w' B k S := World.ownsMap.kept h hg (by simpa using hne)
theorem keyI (x : Int) (hw : (Lit.int .i64 x).wf = true) : keyOf Tryd.prog 3 (.int .i64 x) = some (.int .i64 x) := keyOf_int_mk Tryd.underlying3 hw
theorem isKeyI {x : Int} : WideAt.IsKeyLit (.int .i64 x) := trivial
theorem atKey_fold (x : Int) (hx : (Lit.int .i64 x).wf = true) : ∀ (T : List Int) (m : DataW Unit), IsMap m → (keysI T |>.foldl (fun m x => m.put x oneD) m).atKey (.int .i64 x) (.lit (.int .i64 0)) = if T.contains x then oneD else m.atKey (.int .i64 x) (.lit (.int .i64 0))
  | [], m, _ => by simp [keysI]
  | y :: T, m, hm => by
    have ih := atKey_fold x hx T (m.put (.int .i64 y) oneD) (hm.put _ _)
    unfold keysI at ih ⊢
    rw [List.map_cons, List.foldl_cons, ih]
    by_cases hT : T.contains x = true
    · rw [if_pos hT, if_pos (by simp at hT ⊢; exact .inr hT)]
    · rw [if_neg hT]
      by_cases hxy : x = y
      · subst hxy
        rw [if_pos (by simp), atKey_put_same hm isKeyI]
      · rw [if_neg (by simp at hT ⊢; exact ⟨hxy, hT⟩), atKey_put_other (by simpa using hxy)]
theorem atKey_set (x : Int) (hx : (Lit.int .i64 x).wf = true) (S : List Int) : (setOf oneD (keysI S)).atKey (.int .i64 x) (.lit (.int .i64 0)) = .lit (.int .i64 (bitI (S.contains x))) := by
  unfold setOf
  rw [atKey_fold x hx S _ isMap_empty]
  cases h : S.contains x
  · rw [if_neg (by simp)]; rfl
  · rw [if_pos rfl]; rfl
/-- The entry of a number, as the walk reads it. -/
theorem MapI.look {t : TypeId} (ht : Tryd.prog.underlying t = some (.map 3 3)) (h : MapI w B k S) (x : Int) (hx : (Lit.int .i64 x).wf = true) : (Instr.lookup t (.map (some B)) (.int .i64 x) false).run Tryd.prog w = .ok (.int .i64 (bitI (S.contains x))) w := by
  obtain ⟨c, hrun, hat, _⟩ := World.ownsMap.lookup_int h lawInt ht Tryd.underlying3 (zeroInt w) (keyI x hx)
  rw [atKey_set x hx] at hat
  injection hat with hat
  injection hat with _ hat
  rw [hrun, hat]
theorem MapI.put {x : Int} (h : World.ownsMap w Tryd.prog 3 (plainElem (H := Unit) Tryd.prog 3) B k (DataW.put (setOf oneD (keysI S)) (.int .i64 x) (.lit (.int .i64 1)))) : MapI w B k (S ++ [x]) := by
  unfold MapI keysI
  rw [List.map_append, List.map_singleton, setOf_snoc]
  exact h
theorem wpList_put_one {t : TypeId} (ht : Tryd.prog.underlying t = some (.map 3 3)) {ops : Array Oper} {rest : List Oper} {o : Oper} {a : Act} {Q : Exit → Act → World → Prop} (hg : o.guard = none) (m x v : Operand) (hop : o.op = Op.mapUpdate t m x v)
    (hm : a.eval m = .map (some B)) (h : MapI w B k S) (hk : k < 1000000) (y : Int) (hx : a.eval x = .int .i64 y) (hv : a.eval v = .int .i64 1) (hy : (Lit.int .i64 y).wf = true)
    (hK : ∀ w', MapI w' B (k + 1) (S ++ [y]) → w.grownBy w' (some B) → wpList Tryd.prog ops Q rest (a.put o.dst undef) w') : wpList Tryd.prog ops Q (o :: rest) a w :=
  wpList_mapUpdate_own w hg m x v t hop 3 3 lawInt ht _ B k _ hm h (by unfold maxLen; omega) _ _ _ hx hv (keyI y hy) _ [] (plainElem_int Tryd.underlying3 (by decide)) fun w' h1 h2 => hK w' (MapI.put h1) h2
/-- How many entries there are. -/
theorem MapI.size (h : MapI w B k S) : ∃ es clock, w.heap[B]? = some (.map es clock) ∧ es.size = Maps.size (setOf oneD (keysI S)) := by
  obtain ⟨es, clock, hb, F, hs, hD⟩ := h
  refine ⟨es, clock, hb, ?_⟩
  rw [hD, size_eq, length_sorted]
  simp
end
end Go.Proofs.YtljihclpgpmfeaaDoor
