/- Edges in another order, turned about, plainly; numbers of 16 bits in memory; walk: the closure of fretworklaw02.shown. -/
import Derived.Test.YtljihclpgpmfeaaDoorTx
import Derived.Test.YtljihclpgpmfeaaDoorGm
namespace Go.Proofs.YtljihclpgpmfeaaDoor
set_option maxRecDepth 100000
open Go.RowKit

def cellsU (l : List Nat) : List Value := l.map fun (x : Nat) => Value.int .u16 (x : Int)
theorem length_cellsU (l : List Nat) : (cellsU l).length = l.length := by simp [cellsU]
theorem cellsU_at {l : List Nat} {i x : Nat} (h : l[i]? = some x) : (cellsU l)[i]? = some (.int .u16 (x : Int)) := by
  unfold cellsU
  rw [List.getElem?_map, h]
  rfl
/-- Numbers of 16 bits that came in. -/
structure ArgU (w : World) (A : Option Addr) (n c : Nat) (l : List Nat) : Prop where
  rd : Rd w A (cellsU l)
  len : n = l.length
  le : n ≤ 9223372036854775807
  cap : n ≤ c
  small : ∀ x ∈ l, x < 65536
theorem ArgU.keep {w w' : World} {A : Option Addr} {n c : Nat} {l : List Nat} (h : ArgU w A n c l) (hb : Below w.heap.size w w') : ArgU w' A n c l := ⟨h.rd.below hb, h.len, h.le, h.cap, h.small⟩
/-- The number at a place, or the place itself. -/
def atO (us : List Nat) (i : Nat) : Nat := us.getD i i
theorem atO_in {us : List Nat} {i x : Nat} (h : us[i]? = some x) : atO us i = x := by unfold atO; rw [List.getD_eq_getElem?_getD, h]; rfl
theorem atO_out {us : List Nat} {i : Nat} (h : us.length ≤ i) : atO us i = i := by unfold atO; rw [List.getD_eq_getElem?_getD, List.getElem?_eq_none h]; rfl
theorem atO_small {us : List Nat} (h : ∀ x ∈ us, x < 65536) {i : Nat} (hi : i < 65536) : atO us i < 65536 := by
  by_cases hl : i < us.length
  · have := List.getElem?_eq_getElem hl
    rw [atO_in this]
    exact h _ (List.getElem_mem hl)
  · rw [atO_out (by omega)]; exact hi
def swapE (l : List (Int × Int)) (i k : Nat) : List (Int × Int) := (l.set i (l.getD k (0, 0))).set k (l.getD i (0, 0))
def flipE (l : List (Int × Int)) (i : Nat) : List (Int × Int) := l.set i ((l.getD i (0, 0)).2, (l.getD i (0, 0)).1)
def placeS (us : List Nat) (n i : Nat) : Nat := i + atO us i / 2 % (n - i)
def stepS (us : List Nat) (l : List (Int × Int)) (i : Nat) : List (Int × Int) :=
  if atO us i % 2 = 1 then flipE (swapE l i (placeS us l.length i)) i else swapE l i (placeS us l.length i)
def shufK (us : List Nat) (l : List (Int × Int)) : Nat → List (Int × Int)
  | 0 => l
  | i + 1 => stepS us (shufK us l i) i
theorem swapE_len (l : List (Int × Int)) (i k : Nat) : (swapE l i k).length = l.length := by unfold swapE; rw [List.length_set, List.length_set]
theorem flipE_len (l : List (Int × Int)) (i : Nat) : (flipE l i).length = l.length := by unfold flipE; rw [List.length_set]
theorem stepS_len (us : List Nat) (l : List (Int × Int)) (i : Nat) : (stepS us l i).length = l.length := by
  unfold stepS
  split
  · rw [flipE_len, swapE_len]
  · rw [swapE_len]
theorem shufK_len (us : List Nat) (l : List (Int × Int)) : ∀ i, (shufK us l i).length = l.length
  | 0 => rfl
  | i + 1 => by
    show (stepS us (shufK us l i) i).length = _
    rw [stepS_len, shufK_len us l i]
theorem place_lt {us : List Nat} {n i : Nat} (hi : i < n) : placeS us n i < n := by
  unfold placeS
  have := Nat.mod_lt (atO us i / 2) (show 0 < n - i by omega)
  omega
theorem getD_at {l : List (Int × Int)} {i : Nat} {e : Int × Int} (h : l[i]? = some e) : l.getD i (0, 0) = e := by rw [List.getD_eq_getElem?_getD, h]; rfl
theorem swapE_perm {l : List (Int × Int)} {i k : Nat} (hi : i < l.length) (hk : k < l.length) : (swapE l i k).Perm l := by
  unfold swapE
  rw [getD_at (List.getElem?_eq_getElem hi), getD_at (List.getElem?_eq_getElem hk)]
  exact List.set_set_perm hi hk
theorem flipE_norm {l : List (Int × Int)} {i : Nat} (hi : i < l.length) : (flipE l i).map normE = l.map normE := by
  unfold flipE
  rw [List.map_set, getD_at (List.getElem?_eq_getElem hi), norm_swap]
  have : (l.map normE)[i]'(by simpa using hi) = normE (l[i].1, l[i].2) := by simp
  rw [← this, List.set_getElem_self]
theorem stepS_perm {us : List Nat} {l : List (Int × Int)} {i : Nat} (hi : i < l.length) : ((stepS us l i).map normE).Perm (l.map normE) := by
  have hk := place_lt (us := us) hi
  have h1 : ((swapE l i (placeS us l.length i)).map normE).Perm (l.map normE) := (swapE_perm hi hk).map normE
  unfold stepS
  split
  · rw [flipE_norm (by rw [swapE_len]; exact hi)]
    exact h1
  · exact h1
theorem shufK_perm (us : List Nat) (l : List (Int × Int)) : ∀ i, i ≤ l.length → ((shufK us l i).map normE).Perm (l.map normE)
  | 0, _ => List.Perm.refl _
  | i + 1, h => (stepS_perm (by rw [shufK_len]; omega)).trans (shufK_perm us l i (by omega))
/-- What the text of a right graph's edges in another order is parsed to. -/
theorem shuf_few {N : Int} {E F : List (Int × Int)} (h : RightE N E) (hp : (F.map normE).Perm (E.map normE)) : FewE F := by
  intro e he
  have hm : normE e ∈ E.map normE := hp.mem_iff.1 (List.mem_map_of_mem he)
  obtain ⟨f, hf, hfe⟩ := List.mem_map.1 hm
  rw [norm_valid (h.valid f hf)] at hfe
  obtain ⟨v0, v1, v2⟩ := h.valid f hf
  rw [hfe] at v0 v1 v2
  have hn := h.n1
  have v0 : 0 ≤ min e.1 e.2 := v0
  have v2 : max e.1 e.2 < N := v2
  omega
theorem right_norm {N : Int} {E : List (Int × Int)} (h : RightE N E) : E.map normE = E := by
  conv => rhs; rw [← List.map_id E]
  exact List.map_congr_left fun e he => norm_valid (h.valid e he)
theorem shown_parse {N : Int} {E : List (Int × Int)} (us : List Nat) (h : RightE N E) : parO (textG N (shufK us E E.length)) = .ok E ∧ parN (textG N (shufK us E E.length)) = N := by
  have hp := shufK_perm us E E.length (Nat.le_refl _)
  have hf := shuf_few h hp
  obtain ⟨p1, p2⟩ := parO_text h.n0 h.n1 (by rw [shufK_len]; exact h.len) hf
  refine ⟨p1.trans (newO_shown h ?_), p2⟩
  rw [right_norm h] at hp
  exact hp
theorem swap_cells {l : List (Int × Int)} {i k : Nat} {x y : Int × Int} (hi : l[i]? = some x) (hk : l[k]? = some y) :
    ((((cellsE l).set (i * 2) (.int .i64 y.1)).set (i * 2 + 1) (.int .i64 y.2)).set (k * 2) (.int .i64 x.1)).set (k * 2 + 1) (.int .i64 x.2) = cellsE (swapE l i k) := by
  have key : ∀ (l : List (Int × Int)) (i : Nat) (e : Int × Int), ((cellsE l).set (i * 2) (.int .i64 e.1)).set (i * 2 + 1) (.int .i64 e.2) = cellsE (l.set i e) := by
    intro l
    induction l with
    | nil => intro i e; rfl
    | cons f l ih =>
      intro i e
      cases i with
      | zero => rfl
      | succ i =>
        rw [List.set_cons_succ, cellsE_cons, cellsE_cons, show (i + 1) * 2 = i * 2 + 1 + 1 from by omega, List.set_cons_succ, List.set_cons_succ, List.set_cons_succ, List.set_cons_succ, ih]
  rw [key, key]
  unfold swapE
  rw [getD_at hi, getD_at hk]
theorem flip_cells {l : List (Int × Int)} {i : Nat} {x : Int × Int} (hi : l[i]? = some x) :
    ((cellsE l).set (i * 2) (.int .i64 x.2)).set (i * 2 + 1) (.int .i64 x.1) = cellsE (flipE l i) := by
  have key : ∀ (l : List (Int × Int)) (i : Nat) (e : Int × Int), ((cellsE l).set (i * 2) (.int .i64 e.1)).set (i * 2 + 1) (.int .i64 e.2) = cellsE (l.set i e) := by
    intro l
    induction l with
    | nil => intro i e; rfl
    | cons f l ih =>
      intro i e
      cases i with
      | zero => rfl
      | succ i =>
        rw [List.set_cons_succ, cellsE_cons, cellsE_cons, show (i + 1) * 2 = i * 2 + 1 + 1 from by omega, List.set_cons_succ, List.set_cons_succ, List.set_cons_succ, List.set_cons_succ, ih]
  have h := key l i (x.2, x.1)
  unfold flipE
  rw [getD_at hi]
  exact h
theorem strB_app (a b : List UInt8) : strB a ++ strB b = strB (a ++ b) := by
  apply ByteArray.ext
  apply Array.ext'
  simp [strB]
set_option maxRecDepth 100000 in
set_option maxHeartbeats 2000000 in
theorem shownAt_any (b : Nat) (A : Option Addr) (n c i : Nat) (us : List Nat) (w : World) (h : ArgU w A n c us) (hb : w.cell? ⟨b, 0, none⟩ = some (.slice A n c)) (hi : i ≤ 100000) :
    Calls Tryd.prog 45 #[.int .i64 (i : Int), .pointer (some ⟨b, 0, none⟩)] w fun e w' => e = .returned (.int .i64 (atO us i : Nat)) ∧ w = w' := by
  have HL := h.len
  by_cases hlt : i < n
  · obtain ⟨x, hx⟩ : ∃ x, us[i]? = some x := ⟨_, List.getElem?_eq_getElem (by omega)⟩
    have hxs := h.small x (List.mem_of_getElem? hx)
    obtain ⟨b2, off, rfl, hb2, hc⟩ := h.rd (by rw [length_cellsU]; omega)
    have q := hc i _ (cellsU_at hx)
    rw [atO_in hx]
    have d1 : decide ((i : Int) < (n : Int)) = true := decide_eq_true (by omega)
    have wX : IntKind.i64.wrap (x : Int) = x := by rw [IntKind.wrap_i64]; omega
    clear h hc hx HL
    go_enter Tryd.func45, Tryd.ntmps45
    go_wp2
    go_ret
    exact ⟨rfl, rfl⟩
  · rw [atO_out (by omega)]
    have d1 : decide ((i : Int) < (n : Int)) = false := decide_eq_false (by omega)
    clear h HL
    go_enter Tryd.func45, Tryd.ntmps45
    go_wp2
    go_ret
    exact ⟨rfl, rfl⟩
end Go.Proofs.YtljihclpgpmfeaaDoor
