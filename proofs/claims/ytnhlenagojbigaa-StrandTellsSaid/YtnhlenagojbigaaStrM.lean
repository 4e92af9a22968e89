/- Walk: fretworklaw01.knots, of one number. -/
import Derived.Test.YtnhlenagojbigaaStrH
namespace Go.Proofs.Ytnhlenagojbigaa
open Go.RowKit

/-- No bit at all. -/
def noF (_ : Nat) : Bool := false
theorem noF_RS : RS 0 0 noF := ⟨by omega, by omega, fun _ _ => rfl⟩
/-- How long a number's knot is; its bits. -/
def knotL (m : Nat) : Nat := 2 * digits m - 1
def knotF (m : Nat) : Nat → Bool := putF noF (digits m - 1) (m + 1) (digits m)
theorem digits_bound (m : Nat) (hm : m < 18446744073709551615) : 1 ≤ digits m ∧ digits m ≤ 64 := by
  have h := bitLen_spec (m + 1) (by omega)
  exact ⟨(h.2.1 (by omega)).1, h.2.2⟩
theorem knot_first (A : Option Addr) (c m : Nat) (hm : m < 18446744073709551615) (hA : A = none) (w : World) :
    Calls Try.prog 20 #[.agg #[.slice A 0 c, .int .i64 0], .int .u64 m] w (GoodS w (knotL m) (knotF m)) := by
  have hd := digits_bound m hm
  have h := knot_good A 0 c 0 m noF w (by subst hA; exact Rd.zero (by simp [cellsF])) noF_RS hm (by omega)
  simp only [Nat.zero_add] at h
  exact h
set_option maxRecDepth 100000 in
set_option maxHeartbeats 2000000 in
theorem knots_one (A : Option Addr) (c m : Nat) (w : World) (hr : Rd w A [.int .u64 m]) (hm : m < 18446744073709551615) :
    Calls Try.prog 17 #[.slice A 1 c] w (FreshS w (knotL m) (knotF m)) := by
  obtain ⟨b, off, rfl, hbb, hc⟩ := hr (by simp)
  have hc0 := hc 0 _ rfl
  rw [Nat.add_zero] at hc0
  have HC := Lib.hid hc0
  have HK := fun W : World => Lib.hid (knot_first none 0 m hm rfl W)
  clear hr hc hc0
  obtain ⟨L, hL⟩ : ∃ L, L = knotL m := ⟨_, rfl⟩
  obtain ⟨f, hf⟩ : ∃ f, f = knotF m := ⟨_, rfl⟩
  rw [← hL, ← hf] at HK ⊢
  clear hL hf hm
  go_enter Try.func17, Try.ntmps17
  go_wp2
  go_loopw [8] (fun v wr => Hid (Below w.heap.size w wr) ∧ Hid (Own wr w.heap.size 24 [.slice none 0 0, .int .i64 0]) ∧ ((v = .int .i64 0 ∧ Hid (Own wr (w.heap.size + 1) 24 [.slice none 0 0, .int .i64 0])) ∨
     (v = .int .i64 1 ∧ ∃ g, w.heap.size + 2 ≤ g ∧ Hid (Own wr g 5 (cellsF f ((L + 7) / 8))) ∧ Hid (Own wr (w.heap.size + 1) 24 [.slice (some ⟨g, 0, none⟩) ((L + 7) / 8) ((L + 7) / 8), .int .i64 L]))))
    (fun v _ => 1 - (intOf v).toNat)
  case atStart => exact ⟨((Below.refl _ _).alloc (by simp) _).alloc (by simp) _, (Own.new' rfl).alloc _, Or.inl ⟨rfl, Own.new' (by simp)⟩⟩
  case round =>
    obtain ⟨HB, HR, h⟩ := hrel
    rcases h with ⟨rfl, HS⟩ | ⟨rfl, g, hg, HO, HS⟩
    · have qS := HS.out.cell
      have hc1 : wr.cell? ⟨b, off, none⟩ = some (.int .u64 m) := (HB.out.cell (p := ⟨b, off, none⟩) hbb).trans HC.out
      go_wp2_with fail
      refine (HK _).out.mono ?_
      rintro e w1 ⟨g, rfl, hg, hO, hb1⟩
      have oS := HS.out.below' hb1
      have oR := HR.out.below' hb1
      have HB1 := Lib.hid (below_chain HB.out hb1)
      have hs0 := HB.out.size
      have hlt := HS.out.lt
      have z := hO.lt
      have HO := Lib.hid hO
      clear qS hO hb1 hc1
      have fS := oS.frozen; have qS := oS.cell
      have OS := Lib.hid oS; have OR := Lib.hid oR
      clear oS oR
      go_wp2
      go_roundw
      case rel =>
        refine ⟨(HB1.out.setCell (by simp; try omega) _).setCell (by simp; try omega) _, (OR.out.far (by simp) _).far (by simp) _, Or.inr ⟨rfl, g, by omega, (HO.out.far (by simp; omega) _).far (by simp; omega) _, ?_⟩⟩
        exact (OS.out.set 0 _).set 1 _
      case measure => simp [intOf]
    · have qS := HS.out.cell
      have fR := HR.out.frozen; have qR := HR.out.cell
      go_wp2
      have hF := (HR.out.set 0 (.slice (some ⟨g, 0, none⟩) ((L + 7) / 8) ((L + 7) / 8))).set 1 (.int .i64 L)
      have q0 := hF.cell 0
      have q1 := hF.cell 1
      simp only [List.set_cons_zero, List.set_cons_succ, List.getElem?_cons_zero, List.getElem?_cons_succ] at q0 q1
      refine bodyPost_ret (v := .agg #[.slice (some ⟨g, 0, none⟩) ((L + 7) / 8) ((L + 7) / 8), .int .i64 L]) (by simp [results, Try.results17, go_sem, q0, q1]) rfl ⟨g, rfl, by omega, ?_, ?_⟩
      · exact (HO.out.far (by simp; omega) _).far (by simp; omega) _
      · exact (HB.out.setCell (by simp) _).setCell (by simp) _
end Go.Proofs.Ytnhlenagojbigaa
