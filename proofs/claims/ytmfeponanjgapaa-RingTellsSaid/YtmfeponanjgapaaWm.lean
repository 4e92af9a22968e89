/- Walk: the closure that Least asks. -/
import Derived.Test.YtmfeponanjgapaaLst
import Derived.Test.YtmfeponanjgapaaWl
namespace Go.Proofs.Ytmfeponanjgapaa
open Go.RowKit

theorem mod_int {a b n c : Nat} (h : (a + b) % n = c) : ((a : Int) + (b : Int)) % (n : Int) = (c : Int) := by
  rw [← h, Int.natCast_emod, Int.natCast_add]
theorem circ_of {r : List Int} {n a c : Nat} (h : a % n = c) : circ (av r) n a = av r c := by unfold circ; rw [h]
set_option maxRecDepth 100000 in
set_option maxHeartbeats 2000000 in
theorem lesser_any (b5 b6 b8 b4 b7 g n i j s : Nat) (r : List Int) (W : World) (h5 : W.cell? ⟨b5, 0, none⟩ = some (.slice (some ⟨g, 0, none⟩) n n)) (h6 : W.cell? ⟨b6, 0, none⟩ = some (.int .i64 (i : Int))) (h8 : W.cell? ⟨b8, 0, none⟩ = some (.int .i64 (s : Int)))
   (h4 : W.cell? ⟨b4, 0, none⟩ = some (.int .i64 (n : Int))) (h7 : W.cell? ⟨b7, 0, none⟩ = some (.int .i64 (j : Int))) (hg : Own W g 3 (cellsI r)) (hl : n = r.length) (hn0 : 0 < n) (hn : n ≤ 1000) (hi : i ≤ 2000) (hj : j ≤ 2000) (hs : s ≤ 1000) (hb : ∀ a, a < n → 0 ≤ av r a ∧ av r a ≤ 1000) :
    Calls Try.prog 23 #[.pointer (some ⟨b5, 0, none⟩), .pointer (some ⟨b6, 0, none⟩), .pointer (some ⟨b8, 0, none⟩), .pointer (some ⟨b4, 0, none⟩), .pointer (some ⟨b7, 0, none⟩)] W fun e w' => e = .returned (.int .i64 (circ (av r) n (i + s) - circ (av r) n (j + s))) ∧ w' = W.drew := by
  obtain ⟨a, ha⟩ : ∃ a, (i + s) % n = a := ⟨_, rfl⟩
  obtain ⟨c, hc⟩ : ∃ a, (j + s) % n = a := ⟨_, rfl⟩
  have la : a < n := by rw [← ha]; exact Nat.mod_lt _ hn0
  have lc : c < n := by rw [← hc]; exact Nat.mod_lt _ hn0
  rw [circ_of ha, circ_of hc]
  have ia := mod_int ha
  have ic := mod_int hc
  have ca : W.drew.cell? ⟨g, a, none⟩ = some (.int .i64 (av r a)) := (hg.cell a).trans (cellsI_at (av_at (by omega)))
  have cc : W.drew.cell? ⟨g, c, none⟩ = some (.int .i64 (av r c)) := (hg.cell c).trans (cellsI_at (av_at (by omega)))
  have ba := hb a la
  have bc := hb c lc
  have g5 : W.drew.cell? ⟨b5, 0, none⟩ = some (.slice (some ⟨g, 0, none⟩) n n) := h5
  have g6 : W.drew.cell? ⟨b6, 0, none⟩ = some (.int .i64 (i : Int)) := h6
  have g8 : W.drew.cell? ⟨b8, 0, none⟩ = some (.int .i64 (s : Int)) := h8
  have g4 : W.drew.cell? ⟨b4, 0, none⟩ = some (.int .i64 (n : Int)) := h4
  have g7 : W.drew.cell? ⟨b7, 0, none⟩ = some (.int .i64 (j : Int)) := h7
  clear h5 h6 h8 h4 h7 hg hl hb ha hc
  generalize av r a = x at *
  generalize av r c = y at *
  have hz : ((n : Int) == 0) = false := by rw [beq_eq_false_iff_ne]; omega
  go_enter Try.func23, Try.ntmps23
  go_wp2
  refine region_tail 17 (by kernel_rfl) (by kernel_rfl) ?_
  simp only [List.take_succ_cons, List.take_zero, List.drop_succ_cons, List.drop_zero]
  repeat (refine still_step rfl rfl (fun K hK => ?_); go_wp2)
  refine wpStill_nil ?_
  go_wp2
  go_ret
  exact ⟨rfl, rfl⟩
end Go.Proofs.Ytmfeponanjgapaa
