/- A map from edges to numbers that the call made: which edges it has. No function is walked. -/
import Derived.Test.YtljihclpgpmfeaaDoorGc
import Derived.Maps.OwnOps
import Derived.Maps.OwnSet
import Derived.Maps.Views
import Derived.WideKeyPair
namespace Go.Proofs.YtljihclpgpmfeaaDoor
set_option maxRecDepth 100000
open Go.RowKit Go.Maps Go.WideMaps

theorem arrE : ArrKey Tryd.prog 49 3 2 := ⟨Tryd.underlying49, by kernel_rfl, by kernel_rfl, by kernel_rfl⟩
theorem lawE : Keyed Tryd.prog 49 := Keyed.of_law arrE.law
theorem typesE : ∃ m, Tryd.prog.types.size = m + 1 := ⟨Tryd.prog.types.size - 1, by kernel_rfl⟩
theorem zeroE (w : World) : (zeroValue 3).run Tryd.prog w = .ok (.int .i64 0) w := by kernel_rfl
def pairV (e : Int × Int) : Value := .agg #[.int .i64 e.1, .int .i64 e.2]
def litE (e : Int × Int) : Lit := .string (keyBytes [.int .i64 e.1, .int .i64 e.2])
def wfE (e : Int × Int) : Prop := (Lit.int .i64 e.1).wf = true ∧ (Lit.int .i64 e.2).wf = true
theorem keyE {e : Int × Int} (h : wfE e) : keyOf Tryd.prog 49 (pairV e) = some (litE e) := keyOf_pair arrE Tryd.underlying3 typesE h.1 h.2
theorem litE_inj {e f : Int × Int} (h : wfE e) (k : wfE f) (hl : litE e = litE f) : e = f := by
  have := lawE.inj (keyE h) (hl ▸ keyE k)
  unfold pairV at this
  simp at this
  exact Prod.ext this.1 this.2
theorem isKeyE {e : Int × Int} (h : wfE e) : WideAt.IsKeyLit (litE e) := lawE.key (keyE h)
/-- Block B is a map of at most k entries, whose keys are the edges of S. -/
def MapE (w : World) (B k : Nat) (S : List (Int × Int)) : Prop := ∃ D, w.ownsMap Tryd.prog 49 (plainElem (H := Unit) Tryd.prog 3) B k D ∧ ∀ e, wfE e → (e ∈ S → ∃ c, ∀ zd, D.atKey (litE e) zd = .lit (.int .i64 c)) ∧ (e ∉ S → ∀ zd, D.atKey (litE e) zd = zd)
section
variable {w w' : World} {B k : Nat} {S : List (Int × Int)}
theorem MapE.lt (h : MapE w B k S) : B < w.heap.size := h.elim fun _ h => World.ownsMap.lt h.1
theorem MapE.below (h : MapE w B k S) (hb : Below w.heap.size w w') : MapE w' B k S := h.elim fun D h => ⟨D, World.ownsMap.kept h.1 (row := none) (grown_of_below hb) (by simp), h.2⟩
theorem MapE.made (w : World) : MapE (w.alloc (.map #[] 0)) w.heap.size 0 [] := ⟨_, World.ownsMap_made _ _ _ _, fun e _ => ⟨fun h => absurd h (by simp), fun _ zd => rfl⟩⟩
theorem MapE.far (h : MapE w B k S) {row : Nat} (hg : w.grownBy w' (some row)) (hne : B ≠ row) : MapE w' B k S := h.elim fun D h => ⟨D, World.ownsMap.kept h.1 hg (by simpa using hne), h.2⟩
theorem MapE.look {t : TypeId} (ht : Tryd.prog.underlying t = some (.map 49 3)) (h : MapE w B k S) {e : Int × Int} (hw : wfE e) :
    ∃ c, (Instr.lookup t (.map (some B)) (.agg #[.int .i64 e.1, .int .i64 e.2]) true).run Tryd.prog w = .ok (.tuple #[.int .i64 c, .bool (S.contains e)]) w := by
  obtain ⟨D, ⟨es, clock, hb, F, _, rfl⟩, hD⟩ := h
  obtain ⟨d1, d2⟩ := hD e hw
  rcases fit_look true lawE ht (zeroE w) hb F (keyE hw) with ⟨hrun, _, hat⟩ | ⟨e0, y, _, _, hrun, hRv, hat, _⟩
  · have hn : e ∉ S := fun hm => by
      obtain ⟨c, hc⟩ := d1 hm
      have h1 := (hat (.lit (.int .i64 (c + 1)))).symm.trans (hc _)
      simp at h1
      omega
    refine ⟨0, ?_⟩
    rw [show S.contains e = false by rw [← Bool.not_eq_true, List.contains_iff_mem]; exact hn]
    exact hrun
  · have hm : e ∈ S := by
      refine Classical.byContradiction fun hn => ?_
      have h0 := (hat (.lit (.int .i64 0))).symm.trans (d2 hn _)
      have h1 := (hat (.lit (.int .i64 1))).symm.trans (d2 hn _)
      rw [h0] at h1
      simp at h1
    obtain ⟨c, hc, _, _⟩ := plainElem_int_inv Tryd.underlying3 hRv
    refine ⟨c, ?_⟩
    rw [show S.contains e = true by rw [List.contains_iff_mem]; exact hm]
    rw [hc] at hrun
    exact hrun
theorem wpList_put_edge {t : TypeId} (ht : Tryd.prog.underlying t = some (.map 49 3)) {ops : Array Oper} {rest : List Oper} {o : Oper} {a : Act} {Q : Exit → Act → World → Prop} (hg : o.guard = none) (m x v : Operand) (hop : o.op = Op.mapUpdate t m x v)
    (hm : a.eval m = .map (some B)) (h : MapE w B k S) (hk : k < 1000000) (e : Int × Int) (hx : a.eval x = .agg #[.int .i64 e.1, .int .i64 e.2]) (c : Int) (hv : a.eval v = .int .i64 c) (hc : (Lit.int .i64 c).wf = true) (hw : wfE e)
    (hK : ∀ w', MapE w' B (k + 1) (S ++ [e]) → w.grownBy w' (some B) → wpList Tryd.prog ops Q rest (a.put o.dst undef) w') : wpList Tryd.prog ops Q (o :: rest) a w := by
  obtain ⟨D, hO, hD⟩ := h
  refine wpList_mapUpdate_own w hg m x v t hop 49 3 lawE ht _ B k D hm hO (by unfold maxLen; omega) _ _ _ hx hv (keyE hw) _ [] (plainElem_int Tryd.underlying3 hc) fun w' h1 h2 => hK w' ⟨_, h1, fun f hf => ?_⟩ h2
  by_cases hfe : f = e
  · subst hfe
    exact ⟨fun _ => ⟨c, fun zd => atKey_put_same hO.isMap (isKeyE hw) _ _⟩, fun hn => absurd (by simp) hn⟩
  · have hne : litE f ≠ litE e := fun h => hfe (litE_inj hf hw h)
    obtain ⟨d1, d2⟩ := hD f hf
    refine ⟨fun hm => ?_, fun hn zd => ?_⟩
    · obtain ⟨c2, hc2⟩ := d1 (by simpa [hfe] using hm)
      exact ⟨c2, fun zd => (atKey_put_other hne _ _).trans (hc2 zd)⟩
    · exact (atKey_put_other hne _ _).trans (d2 (by simp at hn; exact hn.1) zd)
end
end Go.Proofs.YtljihclpgpmfeaaDoor
