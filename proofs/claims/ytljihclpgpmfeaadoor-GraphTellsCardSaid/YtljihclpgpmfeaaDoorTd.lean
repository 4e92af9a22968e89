/- What the walk of fretworklaw02.GraphTells asks: answers of two that are asked the same, in one form; great. -/
import Derived.Test.YtljihclpgpmfeaaDoorJa
import Derived.Test.YtljihclpgpmfeaaDoorBs
import Derived.Test.YtljihclpgpmfeaaDoorUj
import Derived.Test.YtljihclpgpmfeaaDoorGw
import Derived.Test.YtljihclpgpmfeaaDoorMa
import Derived.Test.YtljihclpgpmfeaaDoorUi
namespace Go.Proofs.YtljihclpgpmfeaaDoor
set_option maxRecDepth 100000
open Go.RowKit
attribute [local go_sem] Oper.semAt_some

def grN (N : Int) : Except Int (List (Int × Int)) → Int
  | .ok _ => N
  | .error _ => 0
def grL : Except Int (List (Int × Int)) → List (Int × Int)
  | .ok l => l
  | .error _ => []
def grX : Except Int (List (Int × Int)) → Int
  | .ok _ => 0
  | .error c => c
section
variable {w w' : World} {e : Ending} {x : Int} {n : Nat}
theorem GrE.any {N M : Int} {o : Except Int (List (Int × Int))} {l : List (Int × Int)} (h : GrE w N o e w') (hM : grN N o = M) (hx : grX o = x) (hl : grL o = l) (hn : l.length = n) (hn1 : n ≤ 100000) : ∃ A c, e = .returned (.tuple #[.agg #[.int .i64 M, .slice A n c], .int .i64 x]) ∧ ArgE w' A n c l ∧ Below w.heap.size w w' := by
  subst hn hl hx hM
  cases o with
  | error c =>
    obtain ⟨rfl, hb⟩ := h
    exact ⟨none, 0, rfl, ⟨Rd.nil, rfl, Nat.zero_le _, Nat.le_refl _⟩, hb⟩
  | ok l =>
    obtain ⟨v, rfl, hr, hb⟩ := h
    obtain ⟨A, c, rfl, ha⟩ := hr.arg hn1
    exact ⟨A, c, rfl, ha, hb⟩
def byX : Option (Nat × (Nat → Bool)) → Int
  | none => 20
  | some _ => 0
def byN : Option (Nat × (Nat → Bool)) → Nat
  | none => 0
  | some s => s.1 / 8 + 1
def byF : Option (Nat × (Nat → Bool)) → Nat → Bool
  | none => fun _ => false
  | some s => packF s.2 s.1
theorem bytesP_any {o : Option (Nat × (Nat → Bool))} {f : Nat → Bool} (h : BytesPost w o e w') (hx : byX o = x) (hm : byN o = n) (hf : byF o = f) : ∃ A c, e = .returned (.tuple #[.slice A n c, .int .i64 x]) ∧ Rd w' A (cellsF f n) ∧ Below w.heap.size w w' := by
  subst hx hm hf
  cases o with
  | none =>
    obtain ⟨rfl, hb⟩ := h
    exact ⟨none, 0, rfl, Rd.zero (by simp [byN, cellsF]), hb⟩
  | some s =>
    obtain ⟨g, rfl, _, ho, hb⟩ := h
    exact ⟨_, _, rfl, ho.rd, hb⟩
theorem textV_parts (o : Option (List UInt8)) : ∃ (S : ByteArray) (x : Int), TextV o = .tuple #[.string S, .int .i64 x] := by
  cases o with
  | none => exact ⟨_, _, rfl⟩
  | some l => exact ⟨_, _, rfl⟩
theorem RowsD.args {B gl : Nat} {V : World} {vs : List Value} {cs : List (List Int)} (h : RowsD B V gl vs cs) (hl : cs.length ≤ 100000) (hc : ∀ c ∈ cs, c.length ≤ 100000) : ArgL V (some ⟨gl, 0, none⟩) cs.length cs.length cs :=
  ⟨⟨vs, h.len, h.own.rd, fun i v l hv hl => by
    obtain ⟨A, c, e, ha⟩ := (h.row i v l hv hl).arg (hc l (List.mem_of_getElem? hl))
    exact ⟨A, c, e, ha⟩⟩, rfl, by omega⟩
theorem besideP_any {o : Option (List (List Int))} {cs : List (List Int)} (h : BesideP w o e w') (hc : o.getD [] = cs) (hn : cs.length = n) (hn1 : n ≤ 100000) (hs : ∀ c ∈ cs, c.length ≤ 100000) : ∃ A c, e = .returned (.slice A n c) ∧ ArgL w' A n c cs ∧ Below w.heap.size w w' := by
  subst hc hn
  cases o with
  | none =>
    obtain ⟨rfl, hb⟩ := h
    exact ⟨none, 0, rfl, ⟨⟨[], rfl, Rd.nil, fun i v l hv => by simp at hv⟩, rfl, Nat.zero_le _⟩, hb⟩
  | some cs =>
    obtain ⟨gl, vs, rfl, hr, hb⟩ := h
    exact ⟨_, _, rfl, hr.args hn1 hs, hb⟩
end
theorem beside_few {N : Int} {E : List (Int × Int)} {cs : List (List Int)} (hc : (besideG N E).getD [] = cs) : cs.length ≤ 100000 ∧ ∀ c ∈ cs, c.length ≤ 100000 := by
  subst hc
  unfold besideG
  by_cases h : rightG N E = true
  · rw [if_pos h]
    have hr := rightG_iff.1 h
    show (besideK N.toNat E).length ≤ 100000 ∧ ∀ c ∈ besideK N.toNat E, c.length ≤ 100000
    rw [besideK_len]
    refine ⟨by have := hr.n1; omega, fun c hc => ?_⟩
    have := besideK_small N.toNat E E.length c (by rw [List.take_of_length_le (Nat.le_refl _)]; exact hc)
    have := hr.len
    omega
  · rw [if_neg h]
    exact ⟨Nat.zero_le _, fun c hc => by simp at hc⟩
theorem grL_new {N : Int} {L : List (Int × Int)} : (grL (newO N L)).length ≤ 100000 := by
  cases h : newO N L with
  | error c => simp [grL]
  | ok l => have := (newO_right h).1.len; show l.length ≤ _; omega
theorem grL_par {l : List UInt8} : (grL (parO l)).length ≤ 100000 := by
  unfold parO
  split
  · simp [grL]
  · split
    · simp [grL]
    · split
      · simp [grL]
      · split
        · exact grL_new
        · simp [grL]
def Pst.rows (n : Nat) (cs : List (List Int)) : Pst := Pst.mk' (fun v W => ∃ A c, v = .slice A n c ∧ ArgL W A n c cs) (fun ⟨A, c, e, h⟩ hb => ⟨A, c, e, h.keep hb⟩)
def Pst.gra (B : Nat) (N : Int) (n : Nat) (E : List (Int × Int)) : Pst := Pst.mk' (fun v W => ∃ A c, v = .agg #[.int .i64 N, .slice A n c] ∧ RowE B W (.slice A n c) E) (fun ⟨A, c, e, h⟩ hb => ⟨A, c, e, h.below hb⟩)
theorem wpIn_buildG {F : Fence} {nn : Nat} {a : Act} {W : World} {K : Act → World → Prop} {Q : Exit → Act → World → Prop} {o : Oper} {x y : Operand} {N : Int} {A : Option Addr} {n c : Nat} (ho : o.op = .build 26 #[(0, x), (1, y)]) (hx : a.eval x = .int .i64 N) (hy : a.eval y = .slice A n c)
    (h : K (a.put o.dst (.agg #[.int .i64 N, .slice A n c])) W) : o.wpIn F nn Tryd.prog a W K Q := by
  unfold Oper.wpIn
  refine ⟨by simp [Oper.about, ho], ?_⟩
  rw [Oper.semAt_plain F _ _ (by rw [ho]; intro c hc'; cases hc')]
  have hr : (Instr.build 26 #[(0, .int .i64 N), (1, .slice A n c)]).run Tryd.prog W = .ok (.agg #[.int .i64 N, .slice A n c]) W := run_build W 26 _ _ (by kernel_rfl)
  simp [execOp, ho, hx, hy, hr, Result.andThen]
  exact h
/-- What great tells. -/
def GreatP (N M : Int) (n m bn k : Nat) (w : World) (e : Ending) (w' : World) : Prop := ∃ r, e = .returned (.bool r) ∧ (r = false → N ≤ 300 ∧ n ≤ 700 ∧ M ≤ 300 ∧ m ≤ 700 ∧ bn ≤ 1000 ∧ k ≤ 3000) ∧ Below w.heap.size w w'
set_option maxRecDepth 100000 in
set_option maxHeartbeats 8000000 in
theorem greatA_any (N M X Y : Int) (A B C : Option Addr) (n c m d bn bc : Nat) (l : List UInt8) (w : World) :
    Calls Tryd.prog 26 #[.agg #[.int .i64 N, .slice A n c], .agg #[.int .i64 M, .int .i64 X, .int .i64 Y, .slice B m d, .slice C bn bc, .string (strB l)]] w (GreatP N M n m bn l.length w) := by
  have hsz := strB_size l
  have HB := Lib.hid ((alloc_below w (.cells #[.int .i64 N, .slice A n c] 26)).trans ((alloc_below (w.alloc (.cells #[.int .i64 N, .slice A n c] 26)) (.cells #[.int .i64 M, .int .i64 X, .int .i64 Y, .slice B m d, .slice C bn bc, .string (strB l)] 56)).mono (by simp)))
  by_cases g0 : 300 < N
  · have k0 : decide ((300 : Int) < N) = true := decide_eq_true (by omega)
    clear g0
    go_enter Tryd.func26, Tryd.ntmps26
    go_wp2
    go_ret
    exact ⟨true, rfl, fun h => (by cases h), HB.out⟩
  have k0 : decide ((300 : Int) < N) = false := decide_eq_false (by omega)
  by_cases g1 : 700 < n
  · have k1 : decide ((700 : Int) < (n : Int)) = true := decide_eq_true (by omega)
    have l1 : decide (700 < n) = true := decide_eq_true g1
    clear g1
    go_enter Tryd.func26, Tryd.ntmps26
    go_wp2
    go_ret
    exact ⟨true, rfl, fun h => (by cases h), HB.out⟩
  have k1 : decide ((700 : Int) < (n : Int)) = false := decide_eq_false (by omega)
  have l1 : decide (700 < n) = false := decide_eq_false g1
  by_cases g2 : 300 < M
  · have k2 : decide ((300 : Int) < M) = true := decide_eq_true (by omega)
    clear g2
    go_enter Tryd.func26, Tryd.ntmps26
    go_wp2
    go_ret
    exact ⟨true, rfl, fun h => (by cases h), HB.out⟩
  have k2 : decide ((300 : Int) < M) = false := decide_eq_false (by omega)
  by_cases g3 : 700 < m
  · have k3 : decide ((700 : Int) < (m : Int)) = true := decide_eq_true (by omega)
    have l3 : decide (700 < m) = true := decide_eq_true g3
    clear g3
    go_enter Tryd.func26, Tryd.ntmps26
    go_wp2
    go_ret
    exact ⟨true, rfl, fun h => (by cases h), HB.out⟩
  have k3 : decide ((700 : Int) < (m : Int)) = false := decide_eq_false (by omega)
  have l3 : decide (700 < m) = false := decide_eq_false g3
  by_cases g4 : 1000 < bn
  · have k4 : decide ((1000 : Int) < (bn : Int)) = true := decide_eq_true (by omega)
    have l4 : decide (1000 < bn) = true := decide_eq_true g4
    clear g4
    go_enter Tryd.func26, Tryd.ntmps26
    go_wp2
    go_ret
    exact ⟨true, rfl, fun h => (by cases h), HB.out⟩
  have k4 : decide ((1000 : Int) < (bn : Int)) = false := decide_eq_false (by omega)
  have l4 : decide (1000 < bn) = false := decide_eq_false g4
  by_cases g5 : 3000 < l.length
  · have k5 : decide ((3000 : Int) < (l.length : Int)) = true := decide_eq_true (by omega)
    have l5 : decide (3000 < l.length) = true := decide_eq_true g5
    clear g5
    go_enter Tryd.func26, Tryd.ntmps26
    go_wp2
    go_ret
    exact ⟨true, rfl, fun h => (by cases h), HB.out⟩
  have k5 : decide ((3000 : Int) < (l.length : Int)) = false := decide_eq_false (by omega)
  have l5 : decide (3000 < l.length) = false := decide_eq_false g5
  go_enter Tryd.func26, Tryd.ntmps26
  go_wp2
  go_ret
  exact ⟨false, rfl, fun _ => ⟨by omega, by omega, by omega, by omega, by omega, by omega⟩, HB.out⟩
end Go.Proofs.YtljihclpgpmfeaaDoor
