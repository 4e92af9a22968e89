/- Walk: fretworklaw16.awake. -/
import Derived.Test.YtmfeponanjgapaaWn
import Derived.Lib.SlBytesConst
import Derived.Lib.SmallJoins
namespace Go.Proofs.Ytmfeponanjgapaa
open Go.RowKit

theorem least_any (A : Option Addr) (n c : Nat) (ws : List (List UInt8)) (w : World) (hr : RdW w A ws) (hl : n = ws.length) (h0 : 0 < n) (hn : n ≤ 1000) (hc : n ≤ c) (hs : ∀ l ∈ ws, l.length ≤ 1000) :
    Calls Try.prog 9 #[.slice A n c] w (LeastPost w ws) := by
  obtain ⟨m, rfl⟩ : ∃ m, n = m + 1 := ⟨n - 1, by omega⟩
  exact least_pos A c m ws w hr hl hn hc hs
/-- Where the least turn stands is told by it alone. -/
theorem least_at {ws : List (List UInt8)} {p q : Nat} (hp : ∀ x, x < ws.length → 0 ≤ cmpW (turnW ws x) (turnW ws p)) (hq : ∀ x, x < ws.length → 0 ≤ cmpW (turnW ws x) (turnW ws q)) (hpl : p < ws.length) (hql : q < ws.length) : turnW ws p = turnW ws q := by
  have h1 := hp q hql
  have h2 := hq p hpl
  have h3 := cmpW_neg (turnW ws p) (turnW ws q)
  exact cmpW_zero (by omega)
theorem places_of {ws : List (List UInt8)} {p q : Nat} (h : turnW ws p = turnW ws q) : placesW ws p = placesW ws q := by
  unfold placesW
  rw [h]
/-- The first example. -/
theorem ex1 {p : Nat} (hpl : p < 4) (hp : ∀ x, x < 4 → 0 ≤ cmpW (turnW [[98], [97], [98], [97]] x) (turnW [[98], [97], [98], [97]] p)) : turnW [[98], [97], [98], [97]] p = [[97], [98], [97], [98]] ∧ placesW [[98], [97], [98], [97]] p = [1, 3] := by
  have e := least_at (ws := [[98], [97], [98], [97]]) (p := p) (q := 1) hp (by decide +kernel) hpl (by decide)
  rw [places_of e, e]
  decide +kernel
theorem ex2 {p : Nat} (hpl : p < 2) (hp : ∀ x, x < 2 → 0 ≤ cmpW (turnW [[97, 98], [97]] x) (turnW [[97, 98], [97]] p)) : turnW [[97, 98], [97]] p = [[97], [97, 98]] ∧ placesW [[97, 98], [97]] p = [1] := by
  have e := least_at (ws := [[97, 98], [97]]) (p := p) (q := 1) hp (by decide +kernel) hpl (by decide)
  rw [places_of e, e]
  decide +kernel
theorem ex3 : bytesW [[97, 98]] = [0, 0, 0, 1, 0, 0, 0, 2, 97, 98] := by decide +kernel
theorem RowW.some {B : Nat} {W : World} {v : Value} {ws : List (List UInt8)} (h : RowW B W v ws) (h0 : 0 < ws.length) : ∃ g cap, v = .slice (some ⟨g, 0, none⟩) ws.length cap ∧ ws.length ≤ cap ∧ RdW W (some ⟨g, 0, none⟩) ws := by
  rcases h with ⟨rfl, _⟩ | ⟨g, cap, vs, more, e, hg, ho, h1, h2, h3, h4, h5⟩
  · exact absurd h0 (by simp)
  · exact ⟨g, cap, e, h2, vs, h1, rd_front ho, fun i v l hv hl => (h5 i v l hv hl).wd⟩
theorem wd_lit {W : World} {g : Nat} {l : List UInt8} {fr : Nat × Nat} {cs : Array Value} (h : W.heap[g]? = some (.cells cs 5 fr)) (hc : cs = (cellsB l).toArray) (n c : Nat) (hn : n = l.length) : Wd W (.slice (some ⟨g, 0, none⟩) n c) l := by
  subst hc hn
  exact ⟨_, c, rfl, OwnM.rd ⟨fr, h⟩⟩
theorem heap_keep {W W' : World} {g : Nat} {o : Obj} (h : W.heap[g]? = some o) (hb : Below W.heap.size W W') : W'.heap[g]? = some o := (hb.block g (Array.getElem?_eq_some_iff.1 h).1).trans h
theorem heap_new' {W : World} {g : Nat} (o : Obj) (h : g = W.heap.size) : (W.alloc o).heap[g]? = some o := h ▸ heap_alloc_new W o
theorem rdw_one {W : World} {g : Nat} {v : Value} {l : List UInt8} (h : Own W g 36 [v]) (hv : Wd W v l) : RdW W (some ⟨g, 0, none⟩) [l] := by
  refine ⟨[v], rfl, h.rd, fun i u k hu hk => ?_⟩
  have hi := (List.getElem?_eq_some_iff.1 hu).1
  obtain rfl : i = 0 := by simpa using hi
  simp at hu hk
  subst hu hk
  exact hv
theorem rdw_two {W : World} {g : Nat} {v u : Value} {l k : List UInt8} (h : Own W g 36 [v, u]) (hv : Wd W v l) (hu : Wd W u k) : RdW W (some ⟨g, 0, none⟩) [l, k] := by
  refine ⟨[v, u], rfl, h.rd, fun i x y hx hy => ?_⟩
  have hi := (List.getElem?_eq_some_iff.1 hx).1
  rcases (show i = 0 ∨ i = 1 by simp at hi; omega) with rfl | rfl
  · simp at hx hy
    subst hx hy
    exact hv
  · simp at hx hy
    subst hx hy
    exact hu
set_option maxRecDepth 100000 in
set_option maxHeartbeats 8000000 in
theorem awake_true (w : World) : Calls Try.prog 8 #[] w fun e w' => e = .returned (.bool true) ∧ Below w.heap.size w w' := by
  have kc := fun (w : World) (C : Array Value) (n c g : Nat) (hg : g = w.heap.size) => Go.Joins.run_convert_bytes_const_at (P := Try.prog) w 36 5 C n c g hg Try.underlying36 Try.underlying5
  go_enter Try.func8, Try.ntmps8
  go_wp2_with fail
  refine (words_any 4 [98, 97, 98, 97] _ rfl (by decide)).mono ?_
  rintro e w1 ⟨v1, rfl, hr1, hb1⟩
  obtain ⟨g1, c1, rfl, hc1, hd1⟩ := hr1.some (by decide)
  have HB1 := Lib.hid hb1
  clear hr1 hb1
  go_wp2_with fail
  refine (least_any _ 4 c1 [[98], [97], [98], [97]] _ hd1 rfl (by decide) (by decide) hc1 (by decide)).mono ?_
  rintro e w2 ⟨A2, n2, c2, v2, p, rfl, hp, hm, hn2, hi2, hr2, hb2⟩
  obtain ⟨e1, e2⟩ := ex1 hp hm
  rw [e1] at hr2
  rw [e2] at hn2 hi2
  obtain ⟨g2, d2, rfl, hc2, hd2⟩ := hr2.some (by decide)
  have n2e : n2 = 2 := hn2
  subst n2e
  have HI2 := Lib.hid hi2; have HD2 := Lib.hid hd2; have HB2 := Lib.hid (HB1.out.trans (hb2.mono HB1.out.size))
  clear hp hm hn2 hi2 hr2 hb2 e1 e2 hd1 hd2 HB1
  go_wp2_with fail
  have a1 : RdW (((w2.alloc (.cells #[.int .u8 97, .int .u8 98] 5 (2, 3))).alloc (.cells #[.int .u8 97] 5 (1, 2))).alloc (.cells #[.slice (some ⟨w2.heap.size, 0, none⟩) 2 2, .slice (some ⟨w2.heap.size + 1, 0, none⟩) 1 1] 36)) (some ⟨w2.heap.size + 1 + 1, 0, none⟩) [[97, 98], [97]] :=
    rdw_two (Own.new' (by simp)) (wd_lit (heap_keep (heap_keep (heap_new' _ rfl) (alloc_below _ _)) (alloc_below _ _)) rfl 2 2 rfl) (wd_lit (heap_keep (heap_new' _ (by simp)) (alloc_below _ _)) rfl 1 1 rfl)
  refine (least_any _ 2 2 [[97, 98], [97]] _ a1 rfl (by decide) (by decide) (by decide) (by decide)).mono ?_
  rintro e w3 ⟨A3, n3, c3, v3, p3, rfl, hp, hm, hn3, hi3, hr3, hb3⟩
  obtain ⟨e1, e2⟩ := ex2 hp hm
  rw [e1] at hr3
  rw [e2] at hn3 hi3
  obtain ⟨g3, d3, rfl, hc3, hd3⟩ := hr3.some (by decide)
  have n3e : n3 = 1 := hn3
  subst n3e
  have hal := below_chain (below_chain (alloc_below w2 (.cells #[.int .u8 97, .int .u8 98] 5 (2, 3))) (alloc_below _ (.cells #[.int .u8 97] 5 (1, 2)))) (alloc_below _ (.cells #[.slice (some ⟨w2.heap.size, 0, none⟩) 2 2, .slice (some ⟨w2.heap.size + 1, 0, none⟩) 1 1] 36))
  have hch := below_chain hal hb3
  have HI2' := Lib.hid (HI2.out.below hch); have HD2' := Lib.hid (HD2.out.below hch); have HB3 := Lib.hid (HB2.out.trans (hch.mono HB2.out.size))
  have HI3 := Lib.hid hi3; have HD3 := Lib.hid hd3
  clear hp hm hn3 hi3 hr3 hb3 e1 e2 hd3 HB2 hal hch HI2 HD2 a1
  go_wp2_with fail
  refine (sameInts_any A2 _ c2 2 2 2 [1, 3] [1, 3] _ (HI2'.out.alloc _) (Own.new' (vs := [.int .i64 1, .int .i64 3]) rfl).rd rfl rfl (by decide)).mono ?_
  rintro e w4 ⟨rfl, hb4⟩
  have hch := below_chain (alloc_below w3 (.cells #[.int .i64 1, .int .i64 3] 3)) hb4
  have J2 := Lib.hid (HD2'.out.below hch); have J3 := Lib.hid (HD3.out.below hch); have JI := Lib.hid (HI3.out.below hch); have HB4 := Lib.hid (HB3.out.trans (hch.mono HB3.out.size))
  clear hb4 hch HI2' HD2' HD3 HI3 HB3
  rw [show (([1, 3] : List Int) == [1, 3]) = true from by decide]
  go_wp2_with fail
  refine (words_any 4 [97, 98, 97, 98] _ rfl (by decide)).mono ?_
  rintro e w5 ⟨v5, rfl, hr5, hb5⟩
  obtain ⟨g5, c5, rfl, hc5, hd5⟩ := hr5.some (by decide)
  have K2 := Lib.hid (J2.out.below hb5); have K3 := Lib.hid (J3.out.below hb5); have KI := Lib.hid (JI.out.below hb5); have HB5 := Lib.hid (HB4.out.trans (hb5.mono HB4.out.size)); have K5 := Lib.hid hd5
  clear hb5 hr5 hd5 J2 J3 JI HB4
  go_wp2_with fail
  refine (same_any _ _ d2 c5 4 4 [[97], [98], [97], [98]] [[97], [98], [97], [98]] _ K2.out K5.out rfl rfl (by decide)).mono ?_
  rintro e w6 ⟨rfl, hb6⟩
  have J3 := Lib.hid (K3.out.below hb6); have JI := Lib.hid (KI.out.below hb6); have HB6 := Lib.hid (HB5.out.trans (hb6.mono HB5.out.size))
  clear hb6 K2 K3 KI K5 HB5
  rw [show (([[97], [98], [97], [98]] : List (List UInt8)) == [[97], [98], [97], [98]]) = true from by decide]
  go_wp2_with fail
  refine (sameInts_any A3 _ c3 1 1 1 [1] [1] _ (JI.out.alloc _) (Own.new' (vs := [.int .i64 1]) rfl).rd rfl rfl (by decide)).mono ?_
  rintro e w7 ⟨rfl, hb7⟩
  have hch := below_chain (alloc_below w6 (.cells #[.int .i64 1] 3)) hb7
  have K3 := Lib.hid (J3.out.below hch); have HB7 := Lib.hid (HB6.out.trans (hch.mono HB6.out.size))
  clear hb7 hch J3 JI HB6
  rw [show (([1] : List Int) == [1]) = true from by decide]
  go_wp2_with fail
  have a2 : RdW (((w7.alloc (.cells #[.int .u8 97] 5 (1, 2))).alloc (.cells #[.int .u8 97, .int .u8 98] 5 (2, 3))).alloc (.cells #[.slice (some ⟨w7.heap.size, 0, none⟩) 1 1, .slice (some ⟨w7.heap.size + 1, 0, none⟩) 2 2] 36)) (some ⟨w7.heap.size + 1 + 1, 0, none⟩) [[97], [97, 98]] :=
    rdw_two (Own.new' (by simp)) (wd_lit (heap_keep (heap_keep (heap_new' _ rfl) (alloc_below _ _)) (alloc_below _ _)) rfl 1 1 rfl) (wd_lit (heap_keep (heap_new' _ (by simp)) (alloc_below _ _)) rfl 2 2 rfl)
  have hal := below_chain (below_chain (alloc_below w7 (.cells #[.int .u8 97] 5 (1, 2))) (alloc_below _ (.cells #[.int .u8 97, .int .u8 98] 5 (2, 3)))) (alloc_below _ (.cells #[.slice (some ⟨w7.heap.size, 0, none⟩) 1 1, .slice (some ⟨w7.heap.size + 1, 0, none⟩) 2 2] 36))
  refine (same_any _ _ d3 2 2 2 [[97], [97, 98]] [[97], [97, 98]] _ (K3.out.below hal) a2 rfl rfl (by decide)).mono ?_
  rintro e w8 ⟨rfl, hb8⟩
  have HB8 := Lib.hid (HB7.out.trans ((below_chain hal hb8).mono HB7.out.size))
  clear hb8 hal a2 K3 HB7
  rw [show (([[97], [97, 98]] : List (List UInt8)) == [[97], [97, 98]]) = true from by decide]
  go_wp2_with fail
  have a3 : RdW ((w8.alloc (.cells #[.int .u8 97, .int .u8 98] 5 (2, 3))).alloc (.cells #[.slice (some ⟨w8.heap.size, 0, none⟩) 2 2] 36)) (some ⟨w8.heap.size + 1, 0, none⟩) [[97, 98]] :=
    rdw_one (Own.new' (by simp)) (wd_lit (heap_keep (heap_new' _ rfl) (alloc_below _ _)) rfl 2 2 rfl)
  have hal := below_chain (alloc_below w8 (.cells #[.int .u8 97, .int .u8 98] 5 (2, 3))) (alloc_below _ (.cells #[.slice (some ⟨w8.heap.size, 0, none⟩) 2 2] 36))
  refine (bytes_any _ 1 1 [[97, 98]] _ a3 rfl (by decide) (by decide)).mono ?_
  rintro e w9 ⟨v9, rfl, hr9, hb9⟩
  have HB9 := Lib.hid (HB8.out.trans ((below_chain hal hb9).mono HB8.out.size))
  rw [ex3] at hr9
  obtain ⟨A9, c9, rfl, hd9⟩ := hr9.rd
  have cv := conv_word A9 10 c9 [0, 0, 0, 1, 0, 0, 0, 2, 97, 98] w9 rfl hd9
  have ce := strB_beq [0, 0, 0, 1, 0, 0, 0, 2, 97, 98] [0, 0, 0, 1, 0, 0, 0, 2, 97, 98]
  have hq : strB [0, 0, 0, 1, 0, 0, 0, 2, 97, 98] = { data := #[0, 0, 0, 1, 0, 0, 0, 2, 97, 98] } := rfl
  rw [hq] at cv
  clear hr9 hb9 hd9 hal a3 HB8 hq ce
  go_wp2
  go_ret
  exact ⟨by simp, HB9.out⟩
end Go.Proofs.Ytmfeponanjgapaa
