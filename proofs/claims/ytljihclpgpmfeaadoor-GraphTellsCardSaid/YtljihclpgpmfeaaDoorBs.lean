/- Walk: graph.Beside. -/
import Derived.Test.YtljihclpgpmfeaaDoorBa
import Derived.Test.YtljihclpgpmfeaaDoorGm
namespace Go.Proofs.YtljihclpgpmfeaaDoor
set_option maxRecDepth 100000
open Go.RowKit
attribute [local go_sem] Oper.semAt_some

theorem infoS : (Tryd.prog.info? 44).map (fun i => (i.zero, i.size, i.bytes)) = some (some (.slice none 0 0), 1, 24) := by kernel_rfl
theorem mk_rows (n : Nat) (hn : n ≤ 100000) (W : World) : (Instr.makeSlice 42 (.int .i64 (n : Int)) (.int .i64 (n : Int))).run Tryd.prog W = .ok (.slice (some ⟨W.heap.size, 0, none⟩) n n) (W.alloc (.cells (List.replicate n (Value.slice none 0 0)).toArray 44)) := by
  obtain ⟨i0, hi, hz0, hz1, hz2⟩ := info_parts infoS
  have hmk := run_make (P := Tryd.prog) W 42 44 i0 _ Tryd.underlying42 hi hz0 .i64 .i64 n n (by omega) (by omega) (by rw [hz2]; omega) (by omega)
  rw [hz1] at hmk
  simp only [Int.toNat_natCast, Value.cells, replicate_cells, Nat.mul_one] at hmk
  exact hmk
theorem RowI.shown {B : Nat} {W : World} {v : Value} {l : List Int} (h : RowI B W v l) : ∃ A n c, v = .slice A n c := by
  obtain ⟨A, c, e, _⟩ := h.rd
  exact ⟨A, _, c, e⟩
def pushR (cs : List (List Int)) (i : Nat) (x : Int) : List (List Int) := cs.set i ((cs[i]?).getD [] ++ [x])
def sideE (cs : List (List Int)) (e : Int × Int) : List (List Int) := pushR (pushR cs e.1.toNat e.2) e.2.toNat e.1
def besideK (n : Nat) (E : List (Int × Int)) : List (List Int) := E.foldl sideE (List.replicate n [])
theorem pushR_len (cs : List (List Int)) (i : Nat) (x : Int) : (pushR cs i x).length = cs.length := List.length_set
theorem sideE_len (cs : List (List Int)) (e : Int × Int) : (sideE cs e).length = cs.length := by unfold sideE; rw [pushR_len, pushR_len]
theorem besideK_step {n k : Nat} {E : List (Int × Int)} {e : Int × Int} (h : E[k]? = some e) : besideK n (E.take (k + 1)) = sideE (besideK n (E.take k)) e := by
  unfold besideK
  rw [List.take_add_one, h, Option.toList_some, List.foldl_append]
  rfl
theorem besideK_len (n : Nat) (E : List (Int × Int)) : (besideK n E).length = n := by
  unfold besideK
  have : ∀ (E : List (Int × Int)) (cs : List (List Int)), (E.foldl sideE cs).length = cs.length := by
    intro E
    induction E with
    | nil => intro cs; rfl
    | cons e E ih => intro cs; rw [List.foldl_cons, ih, sideE_len]
  rw [this, List.length_replicate]
def SmallR (m : Nat) (cs : List (List Int)) : Prop := ∀ c ∈ cs, c.length ≤ m
theorem pushR_small {m i : Nat} {cs : List (List Int)} {x : Int} (h : SmallR m cs) : SmallR (m + 1) (pushR cs i x) := by
  intro c hc
  unfold pushR at hc
  rcases List.mem_or_eq_of_mem_set hc with h2 | rfl
  · have := h c h2; omega
  · rw [List.length_append]
    cases hi : cs[i]? with
    | none => simp
    | some d => have := h d (List.mem_of_getElem? hi); simp; omega
theorem besideK_small (n : Nat) (E : List (Int × Int)) : ∀ k, SmallR (2 * k) (besideK n (E.take k)) := by
  intro k
  induction k with
  | zero =>
    intro c hc
    have : c = [] := List.eq_of_mem_replicate (n := n) hc
    simp [this]
  | succ k ih =>
    cases hk : E[k]? with
    | none =>
      rw [show E.take (k + 1) = E.take k by rw [List.take_add_one, hk]; simp]
      intro c hc
      have := ih c hc
      omega
    | some e =>
      rw [besideK_step hk]
      have h1 : SmallR (2 * (k + 1)) (sideE (besideK n (E.take k)) e) := by
        have h2 : 2 * (k + 1) = 2 * k + 1 + 1 := by omega
        rw [h2]
        exact pushR_small (pushR_small ih)
      exact h1
theorem RowsD.start {B n : Nat} {V : World} (hB : B ≤ V.heap.size) : RowsD B (V.alloc (.cells (List.replicate n (Value.slice none 0 0)).toArray 44)) V.heap.size (List.replicate n (.slice none 0 0)) (List.replicate n []) :=
  ⟨Own.new _ _ _, by simp, hB, fun i u c hu hc => by
    have h1 : u = .slice none 0 0 := List.eq_of_mem_replicate (List.mem_of_getElem? hu)
    have h2 : c = [] := List.eq_of_mem_replicate (List.mem_of_getElem? hc)
    exact .inl ⟨h2, h1⟩, fun i j u u' _ hu _ => by
    have h1 : u = .slice none 0 0 := List.eq_of_mem_replicate (List.mem_of_getElem? hu)
    left; rw [h1]; rfl⟩
/-- What stands at a place, and what of it is another block. -/
theorem RowsD.at {B gl : Nat} {V : World} {vs : List Value} {cs : List (List Int)} (h : RowsD B V gl vs cs) {i : Nat} (hi : i < cs.length) :
    ∃ u L, vs[i]? = some u ∧ cs[i]? = some L ∧ RowI B V u L ∧ some gl ≠ u.ownBlock ∧ (∀ (b : Nat) (t : TypeId) (xs : List Value), Own V b t xs → 3 ≠ t → some b ≠ u.ownBlock) ∧ ∀ g, V.heap.size ≤ g → some g ≠ u.ownBlock := by
  obtain ⟨L, hL⟩ : ∃ c, cs[i]? = some c := ⟨_, List.getElem?_eq_getElem hi⟩
  obtain ⟨u, hu⟩ : ∃ c, vs[i]? = some c := ⟨_, List.getElem?_eq_getElem (by rw [h.len]; exact hi)⟩
  have hr := h.row i u L hu hL
  have key : ∀ (b : Nat) (t : TypeId) (xs : List Value), Own V b t xs → 3 ≠ t → some b ≠ u.ownBlock := by
    intro b t xs ho hn
    rcases hr.home with e | ⟨g, ys, e, _, ho2⟩
    · rw [e]; simp
    · rw [e]
      intro e2
      injection e2 with e2
      subst e2
      exact ho2.ne ho hn rfl
  refine ⟨u, L, hu, hL, hr, key _ _ _ h.own (by decide), key, fun g hg => ?_⟩
  rcases hr.home with e | ⟨g', ys, e, _, ho2⟩
  · rw [e]; simp
  · rw [e]
    intro e2
    injection e2 with e2
    have := ho2.lt
    omega
def besideG (N : Int) (E : List (Int × Int)) : Option (List (List Int)) := if rightG N E then some (besideK N.toNat E) else none
def BesideP (w : World) : Option (List (List Int)) → Ending → World → Prop
  | none => fun e w' => e = .returned (.slice none 0 0) ∧ Below w.heap.size w w'
  | some cs => fun e w' => ∃ gl vs, e = .returned (.slice (some ⟨gl, 0, none⟩) cs.length cs.length) ∧ RowsD w.heap.size w' gl vs cs ∧ Below w.heap.size w w'
def tblBd7 (gl : Nat) (nn : Nat) (eb : Nat) (x0 : Nat) (x1 : Nat) (u : Value) (B : Nat) (S : Nat) (L : List Int) : List Pst := [Pst.val (.slice (some ⟨gl, 0, none⟩) nn nn), Pst.val (.pointer (some ⟨eb, 0, none⟩)), Pst.val (.int .i64 (x0 : Nat)), Pst.val (.slice (some ⟨gl, 0, none⟩) nn nn), Pst.val (.pointer (some ⟨eb, 0, none⟩)), Pst.val (.int .i64 (x0 : Nat)), Pst.val (.pointer (some ⟨gl, x0, none⟩)), Pst.val (u), Pst.val (.pointer (some ⟨eb, 1, none⟩)), Pst.val (.int .i64 (x1 : Nat)), Pst.one S (x1 : Nat), Pst.rowA B S u L, Pst.val (.pointer (some ⟨gl, x0, none⟩))]
def tblBd8 (gl : Nat) (nn : Nat) (eb : Nat) (x0 : Nat) (x1 : Nat) (u : Value) (B : Nat) (S : Nat) (L : List Int) : List Pst := [Pst.val (.slice (some ⟨gl, 0, none⟩) nn nn), Pst.val (.pointer (some ⟨eb, 1, none⟩)), Pst.val (.int .i64 (x1 : Nat)), Pst.val (.slice (some ⟨gl, 0, none⟩) nn nn), Pst.val (.pointer (some ⟨eb, 1, none⟩)), Pst.val (.int .i64 (x1 : Nat)), Pst.val (.pointer (some ⟨gl, x1, none⟩)), Pst.val (u), Pst.val (.pointer (some ⟨eb, 0, none⟩)), Pst.val (.int .i64 (x0 : Nat)), Pst.one S (x0 : Nat), Pst.rowA B S u L, Pst.val (.pointer (some ⟨gl, x1, none⟩))]
set_option maxRecDepth 100000 in
set_option maxHeartbeats 4000000 in
theorem beside_any (N : Int) (A : Option Addr) (n c : Nat) (E : List (Int × Int)) (w : World) (h : ArgE w A n c E) :
    Calls Tryd.prog 19 #[.agg #[.int .i64 N, .slice A n c]] w (BesideP w (besideG N E)) := by
  have HB0 := Lib.hid (alloc_below w (.cells #[.int .i64 N, .slice A n c] 26))
  have HA := Lib.hid (h.keep HB0.out)
  have G0 := Lib.hid (Own.new' (t := 26) (w := w) (vs := [.int .i64 N, .slice A n c]) rfl)
  have HL := Lib.hid h.len
  clear h
  have HR := Lib.hid (rightG_any N A n c E _ HA.out)
  obtain ⟨r, hr⟩ : ∃ r, rightG N E = r := ⟨_, rfl⟩
  have RG := Lib.hid hr
  rw [hr] at HR
  clear hr
  go_enter Tryd.func19, Tryd.ntmps19
  go_wp2_with fail
  refine HR.out.mono ?_
  rintro e w1 ⟨rfl, hb⟩
  have OG := Lib.hid (G0.out.below' hb)
  have HA1 := Lib.hid (HA.out.keep hb)
  have HB1 := Lib.hid (HB0.out.trans (hb.mono HB0.out.size))
  have g0 : w1.cell? ⟨w.heap.size, 0, none⟩ = some (.int .i64 N) := OG.out.cell 0
  have g1 : w1.cell? ⟨w.heap.size, 1, none⟩ = some (.slice A n c) := OG.out.cell 1
  have zg := OG.out.lt
  clear hb
  cases r with
  | false =>
    have HX := Lib.hid (show besideG N E = none by unfold besideG; rw [RG.out]; rfl)
    go_wp2
    go_ret
    rw [HX.out]
    exact ⟨rfl, HB1.out⟩
  | true =>
    obtain ⟨nn, rfl, hnn⟩ : ∃ nn : Nat, N = (nn : Int) ∧ nn ≤ 200 := by
      have h := RG.out
      unfold rightG at h
      rw [Bool.and_eq_true, Bool.and_eq_true, Bool.and_eq_true, decide_eq_true_eq, decide_eq_true_eq, decide_eq_true_eq] at h
      exact ⟨N.toNat, by omega, by omega⟩
    have HX := Lib.hid (show besideG (nn : Int) E = some (besideK nn E) by unfold besideG; rw [RG.out]; rfl)
    have HV := Lib.hid (show ∀ e ∈ E, ∃ x0 x1 : Nat, e = ((x0 : Int), (x1 : Int)) ∧ x0 < nn ∧ x1 < nn ∧ x0 ≠ x1 from by
      have h := RG.out
      unfold rightG at h
      rw [Bool.and_eq_true] at h
      intro e he
      obtain ⟨v1, v2, v3⟩ := okE_valid h.2 e he
      exact ⟨e.1.toNat, e.2.toNat, Prod.ext (by show e.1 = _; omega) (by show e.2 = _; omega), by omega, by omega, by omega⟩)
    have HLE := Lib.hid (rightG_len RG.out)
    have HN := Lib.hid (show n ≤ 594 by have := HLE.out; have := HL.out; omega)
    have hs1 := HB1.out.size
    have hmk := mk_rows nn (by omega) w1
    have HD2 := Lib.hid (RowsD.start (n := nn) (Nat.le_refl w1.heap.size))
    have HB2 := Lib.hid (alloc_below w1 (.cells (List.replicate nn (Value.slice none 0 0)).toArray 44))
    obtain ⟨OB, hOB⟩ : ∃ o, Obj.cells (List.replicate nn (Value.slice none 0 0)).toArray 44 = o := ⟨_, rfl⟩
    rw [hOB] at hmk HD2 HB2
    clear hOB
    have HSB := Lib.hid (show w1.heap.size < (w1.alloc OB).heap.size from by simp)
    obtain ⟨gl, hgl⟩ : ∃ gl, w1.heap.size = gl := ⟨_, rfl⟩
    have HGL := Lib.hid hgl
    have OG2 := Lib.hid (OG.out.below' HB2.out)
    have g02 : (w1.alloc OB).cell? ⟨w.heap.size, 0, none⟩ = some (.int .i64 (nn : Int)) := OG2.out.cell 0
    have g12 : (w1.alloc OB).cell? ⟨w.heap.size, 1, none⟩ = some (.slice A n c) := OG2.out.cell 1
    rw [hgl] at HD2 HB2
    go_wp2
    go_loopw [5, 15] (fun _ i wr => ∃ k : Nat, ∃ vs, k ≤ n ∧ i = .int .i64 (k : Int) ∧ Hid (RowsD gl wr gl vs (besideK nn (E.take k))) ∧ Hid (Below gl w1 wr)) (fun _ i _ => n - (intOf i).toNat)
    case atStart => exact ⟨0, _, Nat.zero_le _, rfl, HD2, HB2⟩
    case round =>
      obtain ⟨k, vs, hk, rfl, hD, hB⟩ := hrel
      have HAr := Lib.hid (HA1.out.keep (by rw [HGL.out]; exact hB.out))
      have HBw := Lib.hid (HB1.out.trans (hB.out.mono (by rw [← HGL.out]; exact hs1)))
      have hn5 := HN.out
      by_cases hlt : k < n
      · obtain ⟨b, off, rfl, hb, hc⟩ := rd_edge HAr.out.rd (by have := HAr.out.len; omega)
        obtain ⟨e, he⟩ : ∃ x, E[k]? = some x := ⟨_, List.getElem?_eq_getElem (by have := HL.out; omega)⟩
        have HST := Lib.hid (besideK_step (n := nn) he)
        have HSM := Lib.hid (besideK_small nn E k)
        obtain ⟨x0, x1, rfl, hx0, hx1, hxn⟩ := HV.out e (List.mem_of_getElem? he)
        obtain ⟨q0, q1⟩ := hc _ (Below.refl _ _) k _ he
        clear hc he
        have HWA := Lib.hid (alloc_below wr (.cells #[.int .i64 (x0 : Int), .int .i64 (x1 : Int)] 49))
        have RD0 := Lib.hid (hD.out.below HWA.out)
        have OE := Lib.hid (Own.new wr 49 [.int .i64 (x0 : Int), .int .i64 (x1 : Int)])
        have HB0w := Lib.hid (hB.out.trans (HWA.out.mono (by have := hB.out.size; rw [← HGL.out]; exact this)))
        have LC := Lib.hid (besideK_len nn (E.take k))
        go_wp2_with fail
        generalize hw0 : wr.alloc (.cells #[.int .i64 (x0 : Int), .int .i64 (x1 : Int)] 49) = w0 at RD0 OE HB0w ⊢
        generalize heb : wr.heap.size = eb at OE ⊢
        generalize hcs : besideK nn (E.take k) = cs at RD0 LC HSM HST
        have HS0 := Lib.hid (show w1.heap.size ≤ w0.heap.size from HB0w.out.size)
        clear hw0 heb hcs HWA
        obtain ⟨u, L, hu, hL, hru, hng, hnt, hnx⟩ := RD0.out.at (i := x0) (by rw [LC.out]; exact hx0)
        have HU := Lib.hid hu; have HLL := Lib.hid hL; have HRU := Lib.hid hru; have HNX := Lib.hid hnx
        have CE := Lib.hid (fun V (hV : w0.grownBy V u.ownBlock) => OE.out.grown hV (hnt _ _ _ OE.out (by decide)))
        have CL := Lib.hid (fun V (hV : w0.grownBy V u.ownBlock) => RD0.out.own.grown hV hng)
        have HGB := Lib.hid (fun V (hV : w0.grownBy V u.ownBlock) => RowKit.Below.grown HB0w.out hV (by rw [← HGL.out]; exact Nat.le_trans (Nat.le_of_eq rfl) HS0.out) (by
          intro q hq
          rcases hru.home with e | ⟨g, ys, e, hg, _⟩
          · rw [e] at hq; cases hq
          · rw [e] at hq; injection hq with hq; omega))
        have HSZ := Lib.hid (show L.length + 1 ≤ 1000000 by have := HSM.out L (List.mem_of_getElem? hL); omega)
        have HPU := Lib.hid (show cs.set x0 (L ++ [((x1 : Nat) : Int)]) = pushR cs x0 ((x1 : Nat) : Int) from by unfold pushR; rw [hL]; rfl)
        clear hu hL hru hng hnt hnx
        refine wpIn_wide (n := 1) |>.1 (regionIn_postsX (ia := 11) (x := u.ownBlock) 13 (fun _ => trivial) (by kernel_rfl) (tblBd7 gl nn eb x0 x1 u gl w0.heap.size (L ++ [((x1 : Nat) : Int)])) (by kernel_rfl) (by kernel_rfl) ?_ ?_ ?_)
        · intro j v V V' hs hg hk hj
          match j, hj with
          | 0, _ | 1, _ | 2, _ | 3, _ | 4, _ | 5, _ | 6, _ | 7, _ | 8, _ | 9, _ | 12, _ => exact hk
          | 10, _ =>
            obtain ⟨g, e, hge, ho⟩ := hk
            exact ⟨g, e, hge, ho.grown hg (HNX.out g hge)⟩
          | 11, hj => exact absurd rfl hj
          | n + 13, _ => trivial
        · simp only [List.take_succ_cons, List.take_zero]
          · skip
            refine .yes (by decide) rfl (fun a W Q hB hO hD => ?_) ?_
            · have e3 : a.tmps.getD 3 undef = .slice (some ⟨gl, 0, none⟩) nn nn := hO.slot 3 _ rfl rfl
              clear hO hD
              go_wp2
              exact ⟨_, rfl, Below.refl _ _, rfl⟩
            refine .yes (by decide) rfl (fun a W Q hB hO hD => ?_) ?_
            · have e5 : a.tmps.getD 5 undef = .pointer (some ⟨eb, 0, none⟩) := hO.slot 5 _ rfl rfl
              clear hO hD
              go_wp2
              exact ⟨_, rfl, Below.refl _ _, rfl⟩
            refine .yes (by decide) rfl (fun a W Q hB hO hD => ?_) ?_
            · have e20 : a.tmps.getD 20 undef = .pointer (some ⟨eb, 0, none⟩) := hD 1 rfl
              clear hO hD
              have hO := CE.out W hB
              have q := hO.cell
              have z := hO.lt
              gi_wp2
              exact ⟨_, rfl, Below.refl _ _, rfl⟩
            refine .yes (by decide) rfl (fun a W Q hB hO hD => ?_) ?_
            · have e3 : a.tmps.getD 3 undef = .slice (some ⟨gl, 0, none⟩) nn nn := hO.slot 3 _ rfl rfl
              clear hO hD
              go_wp2
              exact ⟨_, rfl, Below.refl _ _, rfl⟩
            refine .yes (by decide) rfl (fun a W Q hB hO hD => ?_) ?_
            · have e5 : a.tmps.getD 5 undef = .pointer (some ⟨eb, 0, none⟩) := hO.slot 5 _ rfl rfl
              clear hO hD
              go_wp2
              exact ⟨_, rfl, Below.refl _ _, rfl⟩
            refine .yes (by decide) rfl (fun a W Q hB hO hD => ?_) ?_
            · have e23 : a.tmps.getD 23 undef = .pointer (some ⟨eb, 0, none⟩) := hD 4 rfl
              clear hO hD
              have hO := CE.out W hB
              have q := hO.cell
              have z := hO.lt
              gi_wp2
              exact ⟨_, rfl, Below.refl _ _, rfl⟩
            refine .yes (by decide) rfl (fun a W Q hB hO hD => ?_) ?_
            · have e22 : a.tmps.getD 22 undef = .slice (some ⟨gl, 0, none⟩) nn nn := hD 3 rfl
              have e24 : a.tmps.getD 24 undef = .int .i64 (x0 : Nat) := hD 5 rfl
              clear hO hD
              go_wp2
              exact ⟨_, rfl, Below.refl _ _, rfl⟩
            refine .yes (by decide) rfl (fun a W Q hB hO hD => ?_) ?_
            · have e25 : a.tmps.getD 25 undef = .pointer (some ⟨gl, x0, none⟩) := hD 6 rfl
              clear hO hD
              have hO := CL.out W hB
              have q := (hO.cell _).trans HU.out
              have z := hO.lt
              gi_wp2
              exact ⟨_, rfl, Below.refl _ _, rfl⟩
            refine .yes (by decide) rfl (fun a W Q hB hO hD => ?_) ?_
            · have e5 : a.tmps.getD 5 undef = .pointer (some ⟨eb, 0, none⟩) := hO.slot 5 _ rfl rfl
              clear hO hD
              go_wp2
              exact ⟨_, rfl, Below.refl _ _, rfl⟩
            refine .yes (by decide) rfl (fun a W Q hB hO hD => ?_) ?_
            · have e27 : a.tmps.getD 27 undef = .pointer (some ⟨eb, 1, none⟩) := hD 8 rfl
              clear hO hD
              have hO := CE.out W hB
              have q := hO.cell
              have z := hO.lt
              gi_wp2
              exact ⟨_, rfl, Below.refl _ _, rfl⟩
            refine .yes (by decide) rfl (fun a W Q hB hO hD => ?_) ?_
            · have e28 : a.tmps.getD 28 undef = .int .i64 (x1 : Nat) := hD 9 rfl
              clear hO hD
              have e28' : a.tmps[28]?.getD undef = .int .i64 (x1 : Nat) := by rw [← Array.getD_eq_getD_getElem?]; exact e28
              gi_wp2
              exact ⟨_, rfl, alloc_below _ _, _, rfl, hB.size, Own.new' rfl⟩
            refine .app rfl rfl (fun a W Q hB hO hD => ?_) ?_
            · have e26 : a.tmps.getD 26 undef = u := hD 7 rfl
              obtain ⟨g29, e29, b29, h29⟩ : ∃ g, (a.tmps.getD 29 undef) = .slice (some ⟨g, 0, none⟩) 1 1 ∧ w0.heap.size ≤ g ∧ Own W g 3 [.int .i64 (x1 : Nat)] := hD 10 rfl
              clear hO hD
              refine wpIn_append_one rfl (show a.eval (.tmp 26) = _ from e26) (show a.eval (.tmp 29) = _ from e29) (HRU.out.below hB) h29 HSZ.out (Nat.le_trans (Nat.le_of_lt (Nat.lt_of_lt_of_le RD0.out.own.lt (Nat.le_refl _))) hB.size) rfl rfl ?_
              intro v' w' r1 r2 r3
              obtain ⟨A, n, c, rfl⟩ := r1.shown
              exact ⟨_, rfl, r2, A, n, c, rfl, r1, r3.imp id (fun e => ⟨_, e, hB.size⟩)⟩
            refine .yes (by decide) rfl (fun a W Q hB hO hD => ?_) ?_
            · have e19 : a.tmps.getD 19 undef = .slice (some ⟨gl, 0, none⟩) nn nn := hD 0 rfl
              have e21 : a.tmps.getD 21 undef = .int .i64 (x0 : Nat) := hD 2 rfl
              clear hO hD
              go_wp2
              exact ⟨_, rfl, Below.refl _ _, rfl⟩
            exact .nil
        · intro f W3 hG hR
          obtain ⟨A5, n5, c5, e11, hr11, hv11⟩ : ∃ A n c, f 11 = .slice A n c ∧ RowI gl W3 (.slice A n c) (L ++ [((x1 : Nat) : Int)]) ∧ ((Value.slice A n c).ownBlock = u.ownBlock ∨ ∃ q, (Value.slice A n c).ownBlock = some q ∧ w0.heap.size ≤ q) := hR 11 (by decide)
          have e12 : f 12 = .pointer (some ⟨gl, x0, none⟩) := hR 12 (by decide)
          have ro := RD0.out.put HU.out hG hr11 hv11
          rw [HPU.out] at ro
          have oe := (CE.out W3 hG).far (p := ⟨gl, x0, none⟩) ((CE.out W3 hG).ne (CL.out W3 hG) (by decide)) (.slice A5 n5 c5)
          have ol := CL.out W3 hG
          have q0 : W3.cell? ⟨gl, x0, none⟩ = some u := (ol.cell _).trans HU.out
          have q1 := ol.frozen x0; have q2 := ol.lt
          have hbk := (HGB.out W3 hG).setCell (p := ⟨gl, x0, none⟩) (Nat.le_refl gl) (.slice A5 n5 c5)
          have RO := Lib.hid ro; have OEn := Lib.hid oe; have HBK := Lib.hid hbk
          clear hR hG hr11 hv11 ro oe ol hbk
          clear RD0 OE HU HLL HRU HNX CE CL HGB HSZ HPU
          simp only [List.take_succ_cons, List.take_zero, List.drop_succ_cons, List.drop_zero, putAll, Nat.zero_add, Nat.reduceAdd, Act.put, List.setIfInBounds_toArray, List.set_cons_zero, List.set_cons_succ, e11, e12]
          gi_wp2
          generalize W3.setCell ⟨gl, x0, none⟩ (.slice A5 n5 c5) = w5 at RO OEn HBK ⊢
          have hs5 := HBK.out.size
          have HS5 := Lib.hid hs5
          have HSM5 := Lib.hid (pushR_small (i := x0) (x := ((x1 : Nat) : Int)) HSM.out)
          have LC5 := Lib.hid ((pushR_len cs x0 ((x1 : Nat) : Int)).trans LC.out)
          clear q0 q1 q2 e11 e12 HSM LC HS0 HB0w hs5
          have RD0 := RO; have OE := OEn; have HB0w := HBK; have HSM := HSM5; have LC := LC5; have HS0 := HS5
          clear RO OEn HBK HSM5 LC5 HS5
          generalize hcs : pushR cs x0 ((x1 : Nat) : Int) = cs5 at RD0 LC HSM
          have HCS := Lib.hid hcs
          clear hcs
          generalize w5 = w0 at RD0 OE HB0w HS0 ⊢
          generalize cs5 = cs at RD0 LC HSM HCS
          obtain ⟨u, L, hu, hL, hru, hng, hnt, hnx⟩ := RD0.out.at (i := x1) (by rw [LC.out]; exact hx1)
          have HU := Lib.hid hu; have HLL := Lib.hid hL; have HRU := Lib.hid hru; have HNX := Lib.hid hnx
          have CE := Lib.hid (fun V (hV : w0.grownBy V u.ownBlock) => OE.out.grown hV (hnt _ _ _ OE.out (by decide)))
          have CL := Lib.hid (fun V (hV : w0.grownBy V u.ownBlock) => RD0.out.own.grown hV hng)
          have HGB := Lib.hid (fun V (hV : w0.grownBy V u.ownBlock) => RowKit.Below.grown HB0w.out hV (by rw [← HGL.out]; exact Nat.le_trans (Nat.le_of_eq rfl) HS0.out) (by
            intro q hq
            rcases hru.home with e | ⟨g, ys, e, hg, _⟩
            · rw [e] at hq; cases hq
            · rw [e] at hq; injection hq with hq; omega))
          have HSZ := Lib.hid (show L.length + 1 ≤ 1000000 by have := HSM.out L (List.mem_of_getElem? hL); omega)
          have HPU := Lib.hid (show cs.set x1 (L ++ [((x0 : Nat) : Int)]) = pushR cs x1 ((x0 : Nat) : Int) from by unfold pushR; rw [hL]; rfl)
          clear hu hL hru hng hnt hnx
          refine wpIn_wide (n := 1) |>.1 (regionIn_postsX (ia := 11) (x := u.ownBlock) 13 (fun _ => trivial) (by kernel_rfl) (tblBd8 gl nn eb x0 x1 u gl w0.heap.size (L ++ [((x0 : Nat) : Int)])) (by kernel_rfl) (by kernel_rfl) ?_ ?_ ?_)
          · intro j v V V' hs hg hk hj
            match j, hj with
            | 0, _ | 1, _ | 2, _ | 3, _ | 4, _ | 5, _ | 6, _ | 7, _ | 8, _ | 9, _ | 12, _ => exact hk
            | 10, _ =>
              obtain ⟨g, e, hge, ho⟩ := hk
              exact ⟨g, e, hge, ho.grown hg (HNX.out g hge)⟩
            | 11, hj => exact absurd rfl hj
            | n + 13, _ => trivial
          · simp only [List.take_succ_cons, List.take_zero]
            · skip
              refine .yes (by decide) rfl (fun a W Q hB hO hD => ?_) ?_
              · have e3 : a.tmps.getD 3 undef = .slice (some ⟨gl, 0, none⟩) nn nn := hO.slot 3 _ rfl rfl
                clear hO hD
                go_wp2
                exact ⟨_, rfl, Below.refl _ _, rfl⟩
              refine .yes (by decide) rfl (fun a W Q hB hO hD => ?_) ?_
              · have e5 : a.tmps.getD 5 undef = .pointer (some ⟨eb, 0, none⟩) := hO.slot 5 _ rfl rfl
                clear hO hD
                go_wp2
                exact ⟨_, rfl, Below.refl _ _, rfl⟩
              refine .yes (by decide) rfl (fun a W Q hB hO hD => ?_) ?_
              · have e33 : a.tmps.getD 33 undef = .pointer (some ⟨eb, 1, none⟩) := hD 1 rfl
                clear hO hD
                have hO := CE.out W hB
                have q := hO.cell
                have z := hO.lt
                gi_wp2
                exact ⟨_, rfl, Below.refl _ _, rfl⟩
              refine .yes (by decide) rfl (fun a W Q hB hO hD => ?_) ?_
              · have e3 : a.tmps.getD 3 undef = .slice (some ⟨gl, 0, none⟩) nn nn := hO.slot 3 _ rfl rfl
                clear hO hD
                go_wp2
                exact ⟨_, rfl, Below.refl _ _, rfl⟩
              refine .yes (by decide) rfl (fun a W Q hB hO hD => ?_) ?_
              · have e5 : a.tmps.getD 5 undef = .pointer (some ⟨eb, 0, none⟩) := hO.slot 5 _ rfl rfl
                clear hO hD
                go_wp2
                exact ⟨_, rfl, Below.refl _ _, rfl⟩
              refine .yes (by decide) rfl (fun a W Q hB hO hD => ?_) ?_
              · have e36 : a.tmps.getD 36 undef = .pointer (some ⟨eb, 1, none⟩) := hD 4 rfl
                clear hO hD
                have hO := CE.out W hB
                have q := hO.cell
                have z := hO.lt
                gi_wp2
                exact ⟨_, rfl, Below.refl _ _, rfl⟩
              refine .yes (by decide) rfl (fun a W Q hB hO hD => ?_) ?_
              · have e35 : a.tmps.getD 35 undef = .slice (some ⟨gl, 0, none⟩) nn nn := hD 3 rfl
                have e37 : a.tmps.getD 37 undef = .int .i64 (x1 : Nat) := hD 5 rfl
                clear hO hD
                go_wp2
                exact ⟨_, rfl, Below.refl _ _, rfl⟩
              refine .yes (by decide) rfl (fun a W Q hB hO hD => ?_) ?_
              · have e38 : a.tmps.getD 38 undef = .pointer (some ⟨gl, x1, none⟩) := hD 6 rfl
                clear hO hD
                have hO := CL.out W hB
                have q := (hO.cell _).trans HU.out
                have z := hO.lt
                gi_wp2
                exact ⟨_, rfl, Below.refl _ _, rfl⟩
              refine .yes (by decide) rfl (fun a W Q hB hO hD => ?_) ?_
              · have e5 : a.tmps.getD 5 undef = .pointer (some ⟨eb, 0, none⟩) := hO.slot 5 _ rfl rfl
                clear hO hD
                go_wp2
                exact ⟨_, rfl, Below.refl _ _, rfl⟩
              refine .yes (by decide) rfl (fun a W Q hB hO hD => ?_) ?_
              · have e40 : a.tmps.getD 40 undef = .pointer (some ⟨eb, 0, none⟩) := hD 8 rfl
                clear hO hD
                have hO := CE.out W hB
                have q := hO.cell
                have z := hO.lt
                gi_wp2
                exact ⟨_, rfl, Below.refl _ _, rfl⟩
              refine .yes (by decide) rfl (fun a W Q hB hO hD => ?_) ?_
              · have e41 : a.tmps.getD 41 undef = .int .i64 (x0 : Nat) := hD 9 rfl
                clear hO hD
                have e41' : a.tmps[41]?.getD undef = .int .i64 (x0 : Nat) := by rw [← Array.getD_eq_getD_getElem?]; exact e41
                gi_wp2
                exact ⟨_, rfl, alloc_below _ _, _, rfl, hB.size, Own.new' rfl⟩
              refine .app rfl rfl (fun a W Q hB hO hD => ?_) ?_
              · have e39 : a.tmps.getD 39 undef = u := hD 7 rfl
                obtain ⟨g42, e42, b42, h42⟩ : ∃ g, (a.tmps.getD 42 undef) = .slice (some ⟨g, 0, none⟩) 1 1 ∧ w0.heap.size ≤ g ∧ Own W g 3 [.int .i64 (x0 : Nat)] := hD 10 rfl
                clear hO hD
                refine wpIn_append_one rfl (show a.eval (.tmp 39) = _ from e39) (show a.eval (.tmp 42) = _ from e42) (HRU.out.below hB) h42 HSZ.out (Nat.le_trans (Nat.le_of_lt (Nat.lt_of_lt_of_le RD0.out.own.lt (Nat.le_refl _))) hB.size) rfl rfl ?_
                intro v' w' r1 r2 r3
                obtain ⟨A, n, c, rfl⟩ := r1.shown
                exact ⟨_, rfl, r2, A, n, c, rfl, r1, r3.imp id (fun e => ⟨_, e, hB.size⟩)⟩
              refine .yes (by decide) rfl (fun a W Q hB hO hD => ?_) ?_
              · have e32 : a.tmps.getD 32 undef = .slice (some ⟨gl, 0, none⟩) nn nn := hD 0 rfl
                have e34 : a.tmps.getD 34 undef = .int .i64 (x1 : Nat) := hD 2 rfl
                clear hO hD
                go_wp2
                exact ⟨_, rfl, Below.refl _ _, rfl⟩
              exact .nil
          · intro f W3 hG hR
            obtain ⟨A5, n5, c5, e11, hr11, hv11⟩ : ∃ A n c, f 11 = .slice A n c ∧ RowI gl W3 (.slice A n c) (L ++ [((x0 : Nat) : Int)]) ∧ ((Value.slice A n c).ownBlock = u.ownBlock ∨ ∃ q, (Value.slice A n c).ownBlock = some q ∧ w0.heap.size ≤ q) := hR 11 (by decide)
            have e12 : f 12 = .pointer (some ⟨gl, x1, none⟩) := hR 12 (by decide)
            have ro := RD0.out.put HU.out hG hr11 hv11
            rw [HPU.out] at ro
            have oe := (CE.out W3 hG).far (p := ⟨gl, x1, none⟩) ((CE.out W3 hG).ne (CL.out W3 hG) (by decide)) (.slice A5 n5 c5)
            have ol := CL.out W3 hG
            have q0 : W3.cell? ⟨gl, x1, none⟩ = some u := (ol.cell _).trans HU.out
            have q1 := ol.frozen x1; have q2 := ol.lt
            have hbk := (HGB.out W3 hG).setCell (p := ⟨gl, x1, none⟩) (Nat.le_refl gl) (.slice A5 n5 c5)
            have RO := Lib.hid ro; have OEn := Lib.hid oe; have HBK := Lib.hid hbk
            clear hR hG hr11 hv11 ro oe ol hbk
            clear RD0 OE HU HLL HRU HNX CE CL HGB HSZ HPU
            simp only [List.take_succ_cons, List.take_zero, List.drop_succ_cons, List.drop_zero, putAll, Nat.zero_add, Nat.reduceAdd, Act.put, List.setIfInBounds_toArray, List.set_cons_zero, List.set_cons_succ, e11, e12]
            gi_wp2
            clear OEn HSM LC HS0
            have HFIN := Lib.hid (HST.out.trans (show sideE _ (((x0 : Nat) : Int), ((x1 : Nat) : Int)) = pushR cs x1 ((x0 : Nat) : Int) from by
              rw [← HCS.out]; rfl))
            rw [← HFIN.out] at RO
            clear HST HCS HFIN e11 e12 q0 q1 q2
            go_wp2
            go_roundw
            case rel => exact ⟨k + 1, _, by omega, by go_num, RO, HBK⟩
            case measure => simp [intOf]; omega
      · obtain rfl : k = n := by omega
        have hD2 := hD.out
        rw [List.take_of_length_le (by rw [← HL.out]; exact Nat.le_refl _)] at hD2
        have HD3 := Lib.hid hD2
        clear hD hD2
        go_wp2
        go_ret
        rw [HX.out]
        exact ⟨gl, vs, by rw [besideK_len]; rfl, ⟨HD3.out.own, HD3.out.len, by rw [← HGL.out]; exact hs1, fun i u c hu hc => (HD3.out.row i u c hu hc).base (by rw [← HGL.out]; exact hs1), HD3.out.apart⟩, HBw.out⟩
end Go.Proofs.YtljihclpgpmfeaaDoor
