/- Walk: ring.Least. -/
import Derived.Test.YtmfeponanjgapaaWm
import Derived.Test.YtmfeponanjgapaaPlc
import Derived.Deep.LoopGhost
import Derived.Deep.CutBlock
namespace Go.Proofs.Ytmfeponanjgapaa
open Go.RowKit

/-- The boxes of Least's variables, and what stands in them. -/
structure Bxs (w w1 : World) (n g : Nat) (r : List Int) (i j s : Nat) (wr : World) : Prop where
  b6 : Own wr (w1.heap.size + 1) 3 [.int .i64 (i : Int)]
  b7 : Own wr (w1.heap.size + 1 + 1) 3 [.int .i64 (j : Int)]
  b8 : Own wr (w1.heap.size + 1 + 1 + 1) 3 [.int .i64 (s : Int)]
  b5 : Own wr w1.heap.size 25 [.slice (some ⟨g, 0, none⟩) n n]
  b4 : Own wr w.heap.size 3 [.int .i64 (n : Int)]
  row : Own wr g 3 (cellsI r)
  bel : Below w.heap.size w wr
def LsS (w w1 : World) (n g : Nat) (r : List Int) (k : Nat) (wr : World) : Prop :=
  ∃ i j s, TwoP (circ (av r) n) n i j s ∧ 10 * n ≤ k + 2 * (i + j) + s ∧ Bxs w w1 n g r i j s wr
def LsM (w w1 : World) (n g : Nat) (r : List Int) (p : Nat) (s11 s12 : Value) (wr : World) : Prop :=
  ∃ i j s st : Nat, s11 = .int .i64 (p : Int) ∧ s12 = .int .i64 (st : Int) ∧ st ≤ r.length ∧ LeastFP (circ (av r) r.length) st ∧ Bxs w w1 n g r i j s wr
def PlS (wc : World) (n st c0 : Nat) (s13 s14 : Value) (wr : World) : Prop :=
  ∃ k : Nat, k < n + st ∧ s14 = .int .i64 (k : Int) ∧ k % st = c0 ∧ RowI wc.heap.size wr s13 ((plL st c0 k).map (Int.ofNat ·)) ∧ Below wc.heap.size wc wr
def LsE (w w1 : World) (n g : Nat) (r : List Int) (wr : World) : Prop :=
  ∃ i j s, TwoP (circ (av r) n) n i j s ∧ (n ≤ i ∨ n ≤ j ∨ n ≤ s) ∧ Bxs w w1 n g r i j s wr
section
variable {w w1 wr : World} {n g : Nat} {r : List Int} {i j s : Nat}
theorem Bxs.below {W : World} (h : Bxs w w1 n g r i j s wr) (hb : Below wr.heap.size wr W) : Bxs w w1 n g r i j s W := ⟨h.b6.below' hb, h.b7.below' hb, h.b8.below' hb, h.b5.below' hb, h.b4.below' hb, h.row.below' hb, h.bel.trans (hb.mono h.bel.size)⟩
theorem Bxs.drew (h : Bxs w w1 n g r i j s wr) : Bxs w w1 n g r i j s wr.drew := ⟨h.b6.drew, h.b7.drew, h.b8.drew, h.b5.drew, h.b4.drew, h.row.drew, below_drewN h.bel 1⟩
variable (hz : w.heap.size < w1.heap.size) (hg : g < w1.heap.size)
include hz hg
theorem Bxs.set6 (h : Bxs w w1 n g r i j s wr) (x : Nat) (v : Int) (hv : v = x) : Bxs w w1 n g r x j s (wr.setCell ⟨w1.heap.size + 1, 0, none⟩ (.int .i64 v)) := by
  subst hv
  exact ⟨h.b6.set 0 _, h.b7.far (p := ⟨w1.heap.size + 1, 0, none⟩) (by simp; try omega) _, h.b8.far (p := ⟨w1.heap.size + 1, 0, none⟩) (by simp; try omega) _, h.b5.far (p := ⟨w1.heap.size + 1, 0, none⟩) (by simp; try omega) _, h.b4.far (p := ⟨w1.heap.size + 1, 0, none⟩) (by simp; try omega) _, h.row.far (p := ⟨w1.heap.size + 1, 0, none⟩) (by simp; try omega) _, h.bel.setCell (p := ⟨w1.heap.size + 1, 0, none⟩) (by simp; try omega) _⟩
theorem Bxs.set7 (h : Bxs w w1 n g r i j s wr) (x : Nat) (v : Int) (hv : v = x) : Bxs w w1 n g r i x s (wr.setCell ⟨w1.heap.size + 1 + 1, 0, none⟩ (.int .i64 v)) := by
  subst hv
  exact ⟨h.b6.far (p := ⟨w1.heap.size + 1 + 1, 0, none⟩) (by simp; try omega) _, h.b7.set 0 _, h.b8.far (p := ⟨w1.heap.size + 1 + 1, 0, none⟩) (by simp; try omega) _, h.b5.far (p := ⟨w1.heap.size + 1 + 1, 0, none⟩) (by simp; try omega) _, h.b4.far (p := ⟨w1.heap.size + 1 + 1, 0, none⟩) (by simp; try omega) _, h.row.far (p := ⟨w1.heap.size + 1 + 1, 0, none⟩) (by simp; try omega) _, h.bel.setCell (p := ⟨w1.heap.size + 1 + 1, 0, none⟩) (by simp; try omega) _⟩
theorem Bxs.set8 (h : Bxs w w1 n g r i j s wr) (x : Nat) (v : Int) (hv : v = x) : Bxs w w1 n g r i j x (wr.setCell ⟨w1.heap.size + 1 + 1 + 1, 0, none⟩ (.int .i64 v)) := by
  subst hv
  exact ⟨h.b6.far (p := ⟨w1.heap.size + 1 + 1 + 1, 0, none⟩) (by simp; try omega) _, h.b7.far (p := ⟨w1.heap.size + 1 + 1 + 1, 0, none⟩) (by simp; try omega) _, h.b8.set 0 _, h.b5.far (p := ⟨w1.heap.size + 1 + 1 + 1, 0, none⟩) (by simp; try omega) _, h.b4.far (p := ⟨w1.heap.size + 1 + 1 + 1, 0, none⟩) (by simp; try omega) _, h.row.far (p := ⟨w1.heap.size + 1 + 1 + 1, 0, none⟩) (by simp; try omega) _, h.bel.setCell (p := ⟨w1.heap.size + 1 + 1 + 1, 0, none⟩) (by simp; try omega) _⟩
end
/-- The places of all turns that are the least one. -/
def placesW (ws : List (List UInt8)) (p : Nat) : List Int := ((List.range ws.length).filter fun k => turnW ws k == turnW ws p).map (Int.ofNat ·)
def LeastPost (w : World) (ws : List (List UInt8)) (e : Ending) (w' : World) : Prop :=
  ∃ A n c v p, e = .returned (.tuple #[.slice A n c, v]) ∧ p < ws.length ∧ (∀ q, q < ws.length → 0 ≤ cmpW (turnW ws q) (turnW ws p)) ∧ n = (placesW ws p).length ∧ Rd w' A (cellsI (placesW ws p)) ∧ RowW w.heap.size w' v (turnW ws p) ∧ Below w.heap.size w w'
set_option maxRecDepth 100000 in
set_option maxHeartbeats 4000000 in
theorem least_pos (A : Option Addr) (c m : Nat) (ws : List (List UInt8)) (w : World) (hr : RdW w A ws) (hl : m + 1 = ws.length) (hn : m + 1 ≤ 1000) (hc : m + 1 ≤ c) (hs : ∀ l ∈ ws, l.length ≤ 1000) :
    Calls Try.prog 9 #[.slice A (m + 1) c] w (LeastPost w ws) := by
  have HR := Lib.hid hr; have HL := Lib.hid hl; have HS := Lib.hid hs
  clear hr hl hs
  have HK := Lib.hid (fun (V : World) (hV : Below w.heap.size w V) => ranks_any A c m ws V (HR.out.below hV) HL.out hn)
  obtain ⟨n, hnm⟩ : ∃ n, n = m + 1 := ⟨_, rfl⟩
  have HN := Lib.hid hnm
  have hn0 : 0 < n := by omega
  have hn1 : n ≤ 1000 := by omega
  rw [← hnm] at HK hc ⊢
  clear hnm hn
  have hz0 : ((n : Int) == 0) = false := by rw [beq_eq_false_iff_ne]; omega
  go_enter Try.func9, Try.ntmps9
  go_wp2_with fail
  refine (HK.out _ ((Below.refl _ w).alloc (Nat.le_refl _) _)).mono ?_
  rintro e w1 ⟨g, r, rfl, hg, hO, hR, hb⟩
  have el : ws.length = n := by rw [← HL.out, ← HN.out]
  rw [el]
  have hgz : g < w1.heap.size := hO.lt
  have hzz : w.heap.size < w1.heap.size := by have := hb.size; simp at this; omega
  have hg0 : w.heap.size < g := by simp at hg; omega
  have HRL := Lib.hid (show n = r.length by rw [hR.len, el])
  have HRK := Lib.hid hR
  have HBX := Lib.hid (show Bxs w w1 n g r 0 1 0 ((((w1.alloc (.cells #[.slice (some ⟨g, 0, none⟩) n n] 25)).alloc (.cells #[.int .i64 0] 3)).alloc (.cells #[.int .i64 1] 3)).alloc (.cells #[.int .i64 0] 3)) from
    ⟨((Own.new' (g := w1.heap.size + 1) (vs := [.int .i64 0]) (by simp)).alloc _).alloc _, (Own.new' (g := w1.heap.size + 1 + 1) (vs := [.int .i64 1]) (by simp)).alloc _, Own.new' (g := w1.heap.size + 1 + 1 + 1) (vs := [.int .i64 0]) (by simp),
     (((Own.new' (g := w1.heap.size) (vs := [.slice (some ⟨g, 0, none⟩) n n]) rfl).alloc _).alloc _).alloc _, (((((Own.new' (g := w.heap.size) (vs := [.int .i64 (n : Int)]) rfl).below' hb).alloc _).alloc _).alloc _).alloc _, (((hO.alloc _).alloc _).alloc _).alloc _,
     (((((Below.refl w.heap.size w).alloc (Nat.le_refl _) _).trans (hb.mono (by simp))).trans (below_chain (below_chain (alloc_below w1 _) (alloc_below _ _)) (below_chain (alloc_below _ _) (alloc_below _ _)) |>.mono (by omega))))⟩)
  have hbd := Lib.hid (show ∀ a, a < n → 0 ≤ av r a ∧ av r a ≤ 1000 from fun a ha => ⟨hR.lo a (by omega), by have := hR.hi a (by omega); unfold av; omega⟩)
  clear hO hR hb el hg
  go_upto_block 0 with (fail)
  go_cut [10] (fun _ V => LsE w w1 n g r V)
  case first =>
    go_wp2_with fail
    go_loopg [10] (10 * n) (fun k _ wr => LsS w w1 n g r k wr)
    case atStart => exact ⟨0, 1, 0, TwoP.start hn0, by omega, HBX.out⟩
    case round =>
      obtain ⟨i, j, s, ht, hk, hx⟩ := hrel
      have HT := Lib.hid ht; have HX := Lib.hid hx
      have bi := ht.bi; have bj := ht.bj; have bs := ht.le
      have q6 : wr.cell? ⟨w1.heap.size + 1, 0, none⟩ = some (.int .i64 (i : Int)) := hx.b6.cell 0
      have q7 : wr.cell? ⟨w1.heap.size + 1 + 1, 0, none⟩ = some (.int .i64 (j : Int)) := hx.b7.cell 0
      have q8 : wr.cell? ⟨w1.heap.size + 1 + 1 + 1, 0, none⟩ = some (.int .i64 (s : Int)) := hx.b8.cell 0
      have q4 : wr.cell? ⟨w.heap.size, 0, none⟩ = some (.int .i64 (n : Int)) := hx.b4.cell 0
      clear ht hx
      by_cases hi : i < n
      · by_cases hj : j < n
        · by_cases hs : s < n
          · have HQ := Lib.hid (lesser_any w1.heap.size (w1.heap.size + 1) (w1.heap.size + 1 + 1 + 1) w.heap.size (w1.heap.size + 1 + 1) g n i j s r wr (HX.out.b5.cell 0) q6 q8 q4 q7 HX.out.row HRL.out hn0 hn1 (by omega) (by omega) (by omega) hbd.out)
            go_wp2_with fail
            refine HQ.out.mono ?_
            rintro e _ ⟨rfl, rfl⟩
            obtain ⟨d, hd⟩ : ∃ d, circ (av r) n (i + s) - circ (av r) n (j + s) = d := ⟨_, rfl⟩
            rw [hd]
            have HD := Lib.hid hd
            have f6 : wr.frozen? ⟨w1.heap.size + 1, 0, none⟩ = false := HX.out.b6.frozen 0
            have f7 : wr.frozen? ⟨w1.heap.size + 1 + 1, 0, none⟩ = false := HX.out.b7.frozen 0
            have f8 : wr.frozen? ⟨w1.heap.size + 1 + 1 + 1, 0, none⟩ = false := HX.out.b8.frozen 0
            have HI := Lib.hid hi; have HJ := Lib.hid hj; have HSn := Lib.hid hs
            clear hd HQ
            rcases Int.lt_trichotomy d 0 with h0 | h0 | h0
            · have e1 : (d == 0) = false := by rw [beq_eq_false_iff_ne]; omega
              have e2 : decide (0 < d) = false := by rw [decide_eq_false_iff_not]; omega
              have HLT := Lib.hid (show circ (av r) n (i + s) < circ (av r) n (j + s) by have := HD.out; omega)
              clear h0
              by_cases he : j + s + 1 = i
              · have HE := Lib.hid he
                have e3 : ((i : Int) == (j : Int) + ((s : Int) + 1)) = true := by rw [beq_iff_eq]; omega
                clear he
                go_wp2
                go_roundg (gk - 1)
                case rel =>
                  have h1 := HT.out.rightB HI.out HSn.out HLT.out HE.out
                  have h2 := (((HX.out.set7 hzz hgz (j + s + 1) ((j : Int) + ((s : Int) + 1)) (by omega)).set7 hzz hgz (i + 1) ((j : Int) + ((s : Int) + 1) + 1) (by have := HE.out; omega)).set8 hzz hgz 0 0 rfl).drew
                  exact ⟨i, i + 1, 0, h1, by have := HE.out; omega, h2⟩
                all_goals omega
              · have HE := Lib.hid he
                have e3 : ((i : Int) == (j : Int) + ((s : Int) + 1)) = false := by rw [beq_eq_false_iff_ne]; omega
                clear he
                go_wp2
                go_roundg (gk - 1)
                case rel =>
                  have h1 := HT.out.right HI.out HJ.out HSn.out HLT.out HE.out
                  have h2 := ((HX.out.set7 hzz hgz (j + s + 1) ((j : Int) + ((s : Int) + 1)) (by omega)).set8 hzz hgz 0 0 rfl).drew
                  exact ⟨i, j + s + 1, 0, h1, by omega, h2⟩
                all_goals omega
            · subst h0
              have HEQ := Lib.hid (show circ (av r) n (i + s) = circ (av r) n (j + s) by have := HD.out; omega)
              go_wp2
              go_roundg (gk - 1)
              case rel =>
                exact ⟨i, j, s + 1, HT.out.on HSn.out HEQ.out, by omega, (HX.out.set8 hzz hgz (s + 1) ((s : Int) + 1) (by omega)).drew⟩
              all_goals omega
            · have e1 : (d == 0) = false := by rw [beq_eq_false_iff_ne]; omega
              have e2 : decide (0 < d) = true := by rw [decide_eq_true_eq]; omega
              have HLT := Lib.hid (show circ (av r) n (j + s) < circ (av r) n (i + s) by have := HD.out; omega)
              clear h0
              by_cases he : i + s + 1 = j
              · have HE := Lib.hid he
                have e3 : ((i : Int) + ((s : Int) + 1) == (j : Int)) = true := by rw [beq_iff_eq]; omega
                clear he
                go_wp2
                go_roundg (gk - 1)
                case rel =>
                  have h1 := HT.out.leftB HJ.out HSn.out HLT.out HE.out
                  have h2 := (((HX.out.set6 hzz hgz (i + s + 1) ((i : Int) + ((s : Int) + 1)) (by omega)).set7 hzz hgz (j + 1) ((j : Int) + 1) (by omega)).set8 hzz hgz 0 0 rfl).drew
                  exact ⟨i + s + 1, j + 1, 0, h1, by omega, h2⟩
                all_goals omega
              · have HE := Lib.hid he
                have e3 : ((i : Int) + ((s : Int) + 1) == (j : Int)) = false := by rw [beq_eq_false_iff_ne]; omega
                clear he
                go_wp2
                go_roundg (gk - 1)
                case rel =>
                  have h1 := HT.out.left HI.out HJ.out HSn.out HLT.out HE.out
                  have h2 := ((HX.out.set6 hzz hgz (i + s + 1) ((i : Int) + ((s : Int) + 1)) (by omega)).set8 hzz hgz 0 0 rfl).drew
                  exact ⟨i + s + 1, j, 0, h1, by omega, h2⟩
                all_goals omega
          · go_wp2_with fail
            go_meet
            exact ⟨i, j, s, HT.out, .inr (.inr (by omega)), HX.out⟩
        · go_wp2_with fail
          go_meet
          exact ⟨i, j, s, HT.out, .inr (.inl (by omega)), HX.out⟩
      · go_wp2_with fail
        go_meet
        exact ⟨i, j, s, HT.out, .inl (by omega), HX.out⟩
  case rest =>
    obtain ⟨i, j, s, ht, hd, hx⟩ := hcut
    have hdone := ht.done hn0 (circ_n _ _) hd
    obtain ⟨p, hp⟩ : ∃ p, min i j = p := ⟨_, rfl⟩
    have hpi : min (i : Int) (j : Int) = (p : Int) := by omega
    have HX := Lib.hid hx
    have HP := Lib.hid hdone
    rw [hp] at HP
    have q6 : wc.drew.cell? ⟨w1.heap.size + 1, 0, none⟩ = some (.int .i64 (i : Int)) := hx.b6.cell 0
    have q7 : wc.drew.cell? ⟨w1.heap.size + 1 + 1, 0, none⟩ = some (.int .i64 (j : Int)) := hx.b7.cell 0
    have q5 : wc.drew.cell? ⟨w1.heap.size, 0, none⟩ = some (.slice (some ⟨g, 0, none⟩) n n) := hx.b5.cell 0
    have bi := ht.bi; have bj := ht.bj
    have hb6 := hx.b6; have hb7 := hx.b7; have hb5 := hx.b5
    clear ht hd hx hp hdone
    have z6 := hb6.lt; have z7 := hb7.lt; have z5 := hb5.lt
    have HPd := Lib.hid (period_any (some ⟨g, 0, none⟩) n n r wc.drew HX.out.row.rd HRL.out hn0 hn1)
    have KP := Lib.hid (fun (V : World) (hV : Below wc.drew.heap.size wc.drew V) => (⟨((below_cells hV).1 _ _ z6).trans q6, ((below_cells hV).1 _ _ z7).trans q7, ((below_cells hV).1 _ _ z5).trans q5⟩ : V.cell? ⟨w1.heap.size + 1, 0, none⟩ = some (.int .i64 (i : Int)) ∧ V.cell? ⟨w1.heap.size + 1 + 1, 0, none⟩ = some (.int .i64 (j : Int)) ∧ V.cell? ⟨w1.heap.size, 0, none⟩ = some (.slice (some ⟨g, 0, none⟩) n n)))
    clear hb6 hb7 hb5 z6 z7 z5
    go_upto_region 17 with (fail)
    go_cut [11, 12] (fun s11 s12 V => LsM w w1 n g r p s11 s12 V)
    case first =>
      go_region_held3 (fun V => V.cell? ⟨w1.heap.size + 1, 0, none⟩ = some (.int .i64 (i : Int)) ∧ V.cell? ⟨w1.heap.size + 1 + 1, 0, none⟩ = some (.int .i64 (j : Int)) ∧ V.cell? ⟨w1.heap.size, 0, none⟩ = some (.slice (some ⟨g, 0, none⟩) n n))
        (first | exact ⟨q6, q7, q5⟩ | exact KP.out _ hbk)
        (first | (go_at_call 24; (with_reducible refine HPd.out.mono ?_); rintro e w2 ⟨st, rfl, hst, hls, hbk⟩))
      all_goals (
        have HM := Lib.hid (show Bxs w w1 n g r i j s w2 from HX.out.drew.below hbk)
        have HLs := Lib.hid hls
        clear hls hbk
        go_wp2_with fail
        go_meet
        exact ⟨i, j, s, st, rfl, rfl, hst, HLs.out, HM.out⟩)
    case rest =>
      obtain ⟨i2, j2, s2, st, rfl, rfl, hst, hls, hx⟩ := hcut
      have X4 := Lib.hid hx.b4; have XB := Lib.hid hx.bel
      have x4z := hx.b4.lt
      have HLs := Lib.hid hls
      have hst0 := hls.pos
      have hpn := HP.out.1
      have hstn : st ≤ n := by have := HRL.out; omega
      clear hx hls hst q6 q7 q5 HPd KP bi bj HX
      obtain ⟨c0, hc0⟩ : ∃ c, p % st = c := ⟨_, rfl⟩
      have hcm : (p : Int) % (st : Int) = (c0 : Int) := by rw [← hc0, Int.natCast_emod]
      have hcl : c0 < st := by rw [← hc0]; exact Nat.mod_lt _ hst0
      have hsz : ((st : Int) == 0) = false := by rw [beq_eq_false_iff_ne]; omega
      have HC0 := Lib.hid hc0
      clear hc0
      have HCM := Lib.hid hcm
      clear hcm
      go_wp2
      go_loopw [13, 14] (fun s13 s14 wr => PlS wc n st c0 s13 s14 wr) (fun _ s14 _ => n + st - (intOf s14).toNat)
      case atStart => exact ⟨c0, by omega, by rw [HCM.out], Nat.mod_eq_of_lt hcl, .inl ⟨by rw [plL_start hcl]; rfl, rfl⟩, Below.refl _ _⟩
      case round =>
        obtain ⟨k, hk, rfl, hkm, hrow, hbw⟩ := hrel
        have HW := Lib.hid hrow; have HB := Lib.hid hbw; have HM := Lib.hid hkm
        have q4 : wr.cell? ⟨w.heap.size, 0, none⟩ = some (.int .i64 (n : Int)) := (X4.out.below hbw x4z).cell 0
        have hbz := hbw.size
        clear hrow hbw hkm
        by_cases hlt : k < n
        · obtain ⟨Z, hZ⟩ : ∃ Z, Z = (plL st c0 k).map (Int.ofNat ·) := ⟨_, rfl⟩
          have hlen : Z.length ≤ 1000 := by
            rw [hZ, List.length_map]
            unfold plL
            have := List.length_filter_le (fun x => x % st == c0) (List.range k)
            rw [List.length_range] at this
            omega
          rw [← hZ] at HW
          have HZ := Lib.hid (show Z ++ [(k : Int)] = (plL st c0 (k + st)).map (Int.ofNat ·) by rw [plL_step hst0 HM.out, List.map_append, ← hZ]; rfl)
          clear hZ
          have hba := Lib.hid (alloc_below wr (.cells #[.int .i64 (k : Int)] 3))
          go_wp2_with (at_builtin; refine wpList_append_int rfl (.tmp 72) (.tmp 74) rfl (k : Int) wr.heap.size rfl rfl (HW.out.below hba.out) (Own.new' (vs := [.int .i64 (k : Int)]) rfl) (by omega) (by simp; omega) ?_)
          intro g2 cap2 w3 hr3 hb3
          have HR3 := Lib.hid (show RowI wc.heap.size w3 (.slice (some ⟨g2, 0, none⟩) (Z.length + 1) cap2) ((plL st c0 (k + st)).map (Int.ofNat ·)) by rw [← HZ.out]; exact hr3)
          have HB3 := Lib.hid ((HB.out.alloc hbz (.cells #[.int .i64 (k : Int)] 3)).trans hb3)
          clear hr3 hb3 hlen
          go_wp2
          go_roundw
          case rel => exact ⟨k + st, by omega, by go_num, by rw [Nat.add_mod_right]; exact HM.out, HR3.out, HB3.out⟩
          case measure => simp [intOf]; omega
        · obtain ⟨A3, c3, e3, hr3⟩ := HW.out.rd
          subst e3
          have HR3 := Lib.hid hr3
          generalize hgl : ((plL st c0 k).map (Int.ofNat ·)).length = nl at *
          have HGL := Lib.hid hgl
          clear hgl hr3
          have HT := Lib.hid (turn_any A c n (p : Int) ws wr (HR.out.below (XB.out.trans (HB.out.mono (by omega)))) (by rw [← HL.out]; exact HN.out) hn1 hc HS.out)
          go_wp2_with fail
          refine HT.out.mono ?_
          rintro e w4 ⟨v, rfl, hrv, hb4⟩
          have HV := Lib.hid hrv; have HB4 := Lib.hid hb4
          clear hrv hb4 HT
          go_wp2
          go_ret2
          have el : ws.length = n := by rw [← HL.out]; exact HN.out.symm
          have ek : turnK n (p : Int) = p := by unfold turnK; rw [← Int.natCast_emod, Nat.mod_eq_of_lt hpn]; rfl
          have hbig := XB.out.trans ((HB.out.mono (show w.heap.size ≤ wc.heap.size by omega)).trans (HB4.out.mono (by omega)))
          have epl : (plL st c0 k).map (Int.ofNat ·) = placesW ws p := by
            unfold placesW
            rw [← HC0.out, plL_done HRK.out (by rw [el]; have := HLs.out; rw [← HRL.out] at this; exact this) (by omega) (by omega) (by omega) (by rw [HC0.out]; exact HM.out)]
          refine ⟨A3, nl, c3, v, p, rfl, by omega, fun q hq => ?_, by rw [← epl]; exact HGL.out.symm, by rw [← epl]; exact HR3.out.below HB4.out, ?_, hbig⟩
          · have h1 := HP.out.2 q
            have h2 := (turn_lt HRK.out hq (show p < ws.length by omega))
            rw [el] at h2
            exact Int.not_lt.1 fun h => h1 (h2.1 h)
          · have h := HV.out
            rw [ek] at h
            exact h.base (by omega)
end Go.Proofs.Ytmfeponanjgapaa
