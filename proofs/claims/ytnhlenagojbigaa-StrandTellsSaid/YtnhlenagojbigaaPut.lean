/- A frame that is not looked into: what a slot holds behind some puts. No program is named. -/
import Derived.WalkKit
namespace Go.Proofs.Ytnhlenagojbigaa
open Go.RowKit

theorem slot_put_same {a : Act} {d : Tmp} {v : Value} (h : d < a.tmps.size) : (a.put (some d) v).tmps[d]? = some v := by
  simp [Act.put, h]
theorem slot_put_other {a : Act} {d t : Tmp} {v : Value} (h : d ≠ t) : (a.put (some d) v).tmps[t]? = a.tmps[t]? := by
  simp [Act.put, h]
theorem size_put {a : Act} {d : Option Tmp} {v : Value} : (a.put d v).tmps.size = a.tmps.size := by
  cases d <;> simp [Act.put]
theorem put_put_same {a : Act} {d : Tmp} {u v : Value} : (a.put (some d) u).put (some d) v = a.put (some d) v := by
  simp [Act.put]
theorem put_comm {a : Act} {d t : Tmp} {u v : Value} (h : d ≠ t) : (a.put (some d) u).put (some t) v = (a.put (some t) v).put (some d) u := by
  simp [Act.put, Array.setIfInBounds_comm _ _ h]
theorem put_at38 {a0 : Act} {v38 v39 v40 v41 v7 v8 u : Value} : ((((((a0.put (some 38) v38).put (some 39) v39).put (some 40) v40).put (some 41) v41).put (some 7) v7).put (some 8) v8).put (some 38) u = ((((((a0.put (some 38) u).put (some 39) v39).put (some 40) v40).put (some 41) v41).put (some 7) v7).put (some 8) v8) := by rw [put_comm (d := 8) (t := 38) (by decide), put_comm (d := 7) (t := 38) (by decide), put_comm (d := 41) (t := 38) (by decide), put_comm (d := 40) (t := 38) (by decide), put_comm (d := 39) (t := 38) (by decide), put_put_same]
theorem put_at39 {a0 : Act} {v38 v39 v40 v41 v7 v8 u : Value} : ((((((a0.put (some 38) v38).put (some 39) v39).put (some 40) v40).put (some 41) v41).put (some 7) v7).put (some 8) v8).put (some 39) u = ((((((a0.put (some 38) v38).put (some 39) u).put (some 40) v40).put (some 41) v41).put (some 7) v7).put (some 8) v8) := by rw [put_comm (d := 8) (t := 39) (by decide), put_comm (d := 7) (t := 39) (by decide), put_comm (d := 41) (t := 39) (by decide), put_comm (d := 40) (t := 39) (by decide), put_put_same]
theorem put_at40 {a0 : Act} {v38 v39 v40 v41 v7 v8 u : Value} : ((((((a0.put (some 38) v38).put (some 39) v39).put (some 40) v40).put (some 41) v41).put (some 7) v7).put (some 8) v8).put (some 40) u = ((((((a0.put (some 38) v38).put (some 39) v39).put (some 40) u).put (some 41) v41).put (some 7) v7).put (some 8) v8) := by rw [put_comm (d := 8) (t := 40) (by decide), put_comm (d := 7) (t := 40) (by decide), put_comm (d := 41) (t := 40) (by decide), put_put_same]
theorem put_at41 {a0 : Act} {v38 v39 v40 v41 v7 v8 u : Value} : ((((((a0.put (some 38) v38).put (some 39) v39).put (some 40) v40).put (some 41) v41).put (some 7) v7).put (some 8) v8).put (some 41) u = ((((((a0.put (some 38) v38).put (some 39) v39).put (some 40) v40).put (some 41) u).put (some 7) v7).put (some 8) v8) := by rw [put_comm (d := 8) (t := 41) (by decide), put_comm (d := 7) (t := 41) (by decide), put_put_same]
theorem put_at7 {a0 : Act} {v38 v39 v40 v41 v7 v8 u : Value} : ((((((a0.put (some 38) v38).put (some 39) v39).put (some 40) v40).put (some 41) v41).put (some 7) v7).put (some 8) v8).put (some 7) u = ((((((a0.put (some 38) v38).put (some 39) v39).put (some 40) v40).put (some 41) v41).put (some 7) u).put (some 8) v8) := by rw [put_comm (d := 8) (t := 7) (by decide), put_put_same]
theorem put_at8 {a0 : Act} {v38 v39 v40 v41 v7 v8 u : Value} : ((((((a0.put (some 38) v38).put (some 39) v39).put (some 40) v40).put (some 41) v41).put (some 7) v7).put (some 8) v8).put (some 8) u = ((((((a0.put (some 38) v38).put (some 39) v39).put (some 40) v40).put (some 41) v41).put (some 7) v7).put (some 8) u) := by rw [put_put_same]
theorem put_self {a : Act} {t : Tmp} {v : Value} (h : a.tmps[t]? = some v) : a.put (some t) v = a := by
  obtain ⟨tmps, d⟩ := a
  simp only [Act.put]
  congr 1
  refine Array.ext_getElem? fun i => ?_
  rw [Array.getElem?_setIfInBounds]
  split
  · rename_i e; subst e
    split
    · exact h.symm
    · rename_i h2
      have h3 := Array.getElem?_eq_none (xs := tmps) (i := t) (by simpa using h2)
      rw [h] at h3
      cases h3
  · rfl
theorem six_self {a0 : Act} (h1 : a0.tmps[(38 : Tmp)]? = some undef) (h2 : a0.tmps[(39 : Tmp)]? = some undef) (h3 : a0.tmps[(40 : Tmp)]? = some undef) (h4 : a0.tmps[(41 : Tmp)]? = some undef) (h5 : a0.tmps[(7 : Tmp)]? = some undef) (h6 : a0.tmps[(8 : Tmp)]? = some undef) :
    a0 = (((((a0.put (some 38) undef).put (some 39) undef).put (some 40) undef).put (some 41) undef).put (some 7) undef).put (some 8) undef := by
  rw [put_self h1, put_self h2, put_self h3, put_self h4, put_self h5, put_self h6]
theorem getD_of {a : Act} {t : Tmp} {v : Value} (h : a.tmps[t]? = some v) : a.tmps.getD t undef = v := by rw [Array.getD_eq_getD_getElem?, h]; rfl
theorem six_other {a0 a : Act} {v38 v39 v40 v41 v7 v8 : Value} {t : Tmp} {v : Value} (e : ((((((a0.put (some 38) v38).put (some 39) v39).put (some 40) v40).put (some 41) v41).put (some 7) v7).put (some 8) v8) = a) (h : a0.tmps[t]? = some v) (h1 : 38 ≠ t) (h2 : 39 ≠ t) (h3 : 40 ≠ t) (h4 : 41 ≠ t) (h5 : 7 ≠ t) (h6 : 8 ≠ t) : a.tmps[t]? = some v := by
  rw [← e, slot_put_other h6, slot_put_other h5, slot_put_other h4, slot_put_other h3, slot_put_other h2, slot_put_other h1, h]
theorem six_38 {a0 a : Act} {v38 v39 v40 v41 v7 v8 : Value} (e : ((((((a0.put (some 38) v38).put (some 39) v39).put (some 40) v40).put (some 41) v41).put (some 7) v7).put (some 8) v8) = a) (h : 38 < a0.tmps.size) : a.tmps[(38 : Tmp)]? = some v38 := by
  rw [← e, slot_put_other (d := 8) (t := 38) (by decide), slot_put_other (d := 7) (t := 38) (by decide), slot_put_other (d := 41) (t := 38) (by decide), slot_put_other (d := 40) (t := 38) (by decide), slot_put_other (d := 39) (t := 38) (by decide), slot_put_same (by simpa [size_put] using h)]
theorem six_39 {a0 a : Act} {v38 v39 v40 v41 v7 v8 : Value} (e : ((((((a0.put (some 38) v38).put (some 39) v39).put (some 40) v40).put (some 41) v41).put (some 7) v7).put (some 8) v8) = a) (h : 39 < a0.tmps.size) : a.tmps[(39 : Tmp)]? = some v39 := by
  rw [← e, slot_put_other (d := 8) (t := 39) (by decide), slot_put_other (d := 7) (t := 39) (by decide), slot_put_other (d := 41) (t := 39) (by decide), slot_put_other (d := 40) (t := 39) (by decide), slot_put_same (by simpa [size_put] using h)]
theorem six_40 {a0 a : Act} {v38 v39 v40 v41 v7 v8 : Value} (e : ((((((a0.put (some 38) v38).put (some 39) v39).put (some 40) v40).put (some 41) v41).put (some 7) v7).put (some 8) v8) = a) (h : 40 < a0.tmps.size) : a.tmps[(40 : Tmp)]? = some v40 := by
  rw [← e, slot_put_other (d := 8) (t := 40) (by decide), slot_put_other (d := 7) (t := 40) (by decide), slot_put_other (d := 41) (t := 40) (by decide), slot_put_same (by simpa [size_put] using h)]
theorem six_41 {a0 a : Act} {v38 v39 v40 v41 v7 v8 : Value} (e : ((((((a0.put (some 38) v38).put (some 39) v39).put (some 40) v40).put (some 41) v41).put (some 7) v7).put (some 8) v8) = a) (h : 41 < a0.tmps.size) : a.tmps[(41 : Tmp)]? = some v41 := by
  rw [← e, slot_put_other (d := 8) (t := 41) (by decide), slot_put_other (d := 7) (t := 41) (by decide), slot_put_same (by simpa [size_put] using h)]
theorem six_7 {a0 a : Act} {v38 v39 v40 v41 v7 v8 : Value} (e : ((((((a0.put (some 38) v38).put (some 39) v39).put (some 40) v40).put (some 41) v41).put (some 7) v7).put (some 8) v8) = a) (h : 7 < a0.tmps.size) : a.tmps[(7 : Tmp)]? = some v7 := by
  rw [← e, slot_put_other (d := 8) (t := 7) (by decide), slot_put_same (by simpa [size_put] using h)]
theorem six_8 {a0 a : Act} {v38 v39 v40 v41 v7 v8 : Value} (e : ((((((a0.put (some 38) v38).put (some 39) v39).put (some 40) v40).put (some 41) v41).put (some 7) v7).put (some 8) v8) = a) (h : 8 < a0.tmps.size) : a.tmps[(8 : Tmp)]? = some v8 := by
  rw [← e, slot_put_same (by simpa [size_put] using h)]
end Go.Proofs.Ytnhlenagojbigaa
