/- Walk: graph.Bytes. -/
import Derived.Test.YtljihclpgpmfeaaDoorGm
import Derived.Test.YtljihclpgpmfeaaDoorUn
namespace Go.Proofs.YtljihclpgpmfeaaDoor
set_option maxRecDepth 100000
open Go.RowKit

/-- The numbers that graph.Bytes knots. -/
def numsK (N : Int) (E : List (Int × Int)) (k : Nat) : List Int := [N, (E.length : Int)] ++ (E.take k).flatMap fun e => [e.1, e.2]
def numsG (N : Int) (E : List (Int × Int)) : List Int := [N, (E.length : Int)] ++ E.flatMap fun e => [e.1, e.2]
theorem numsK_all {N : Int} {E : List (Int × Int)} {k : Nat} (h : k = E.length) : numsK N E k = numsG N E := by
  unfold numsK numsG; rw [List.take_of_length_le (by omega)]
theorem numsK_step {N : Int} {E : List (Int × Int)} {k : Nat} {e : Int × Int} (h : E[k]? = some e) : numsK N E (k + 1) = numsK N E k ++ [e.1, e.2] := by
  unfold numsK
  rw [List.take_add_one, h]
  simp
theorem flat_len (E : List (Int × Int)) : (E.flatMap fun e => [e.1, e.2]).length = 2 * E.length := by
  induction E with
  | nil => rfl
  | cons a E ih => rw [List.flatMap_cons, List.length_append, ih]; simp; omega
theorem numsG_len (N : Int) (E : List (Int × Int)) : (numsG N E).length = 2 + 2 * E.length := by
  unfold numsG
  rw [List.length_append, flat_len]; simp
theorem numsK_len (N : Int) (E : List (Int × Int)) (k : Nat) : (numsK N E k).length ≤ 2 + 2 * k := by
  unfold numsK
  rw [List.length_append, flat_len, List.length_take]; simp; omega
/-- Numbers that can be knotted short. -/
theorem numsG_small {N : Int} {E : List (Int × Int)} (h : rightG N E = true) : ∀ x ∈ numsG N E, ∃ m : Nat, x = (m : Int) ∧ m ≤ 594 := by
  have h2 : 0 ≤ N ∧ N ≤ 200 := by
    unfold rightG at h
    rw [Bool.and_eq_true, Bool.and_eq_true, Bool.and_eq_true, decide_eq_true_eq, decide_eq_true_eq, decide_eq_true_eq] at h
    exact h.1.1
  have h3 : okE N none E = true := by
    unfold rightG at h
    rw [Bool.and_eq_true] at h
    exact h.2
  have h4 := rightG_len h
  intro x hx
  unfold numsG at hx
  rw [List.mem_append] at hx
  rcases hx with hx | hx
  · simp only [List.mem_cons, List.not_mem_nil, or_false] at hx
    rcases hx with rfl | rfl
    · exact ⟨x.toNat, by omega, by omega⟩
    · exact ⟨E.length, rfl, h4⟩
  · obtain ⟨e, he, hx⟩ := List.mem_flatMap.1 hx
    obtain ⟨v1, v2, v3⟩ := okE_valid h3 e he
    simp only [List.mem_cons, List.not_mem_nil, or_false] at hx
    rcases hx with rfl | rfl
    · exact ⟨e.1.toNat, by omega, by omega⟩
    · exact ⟨e.2.toNat, by omega, by omega⟩
theorem digits_le {m : Nat} (h : m ≤ 594) : 1 ≤ digits m ∧ digits m ≤ 10 := by
  obtain ⟨h1, h2, _⟩ := bitLen_spec (m + 1) (by omega)
  obtain ⟨h3, h4⟩ := h2 (by omega)
  refine ⟨h3, ?_⟩
  show Lib.bitLen (m + 1) ≤ 10
  rcases Nat.lt_or_ge 10 (Lib.bitLen (m + 1)) with h5 | h5
  · exfalso
    have : 2 ^ 10 ≤ 2 ^ (Lib.bitLen (m + 1) - 1) := Nat.pow_le_pow_right (by omega) (by omega)
    omega
  · exact h5
/-- A strand's bits, and a knot behind them. -/
def knotS (s : Nat × (Nat → Bool)) (m : Nat) : Nat × (Nat → Bool) := (s.1 + (2 * digits m - 1), putF s.2 (s.1 + digits m - 1) (m + 1) (digits m))
def knotsS (xs : List Int) : Nat × (Nat → Bool) := xs.foldl (fun s x => knotS s x.toNat) (0, fun _ => false)
theorem knotsS_step {xs : List Int} {k m : Nat} (h : xs[k]? = some (m : Int)) : knotsS (xs.take (k + 1)) = knotS (knotsS (xs.take k)) m := by
  unfold knotsS
  rw [List.take_add_one, h, Option.toList_some, List.foldl_append]
  rfl
theorem knotS_RS {L n m : Nat} {f : Nat → Bool} (h : RS L n f) (h2 : L + (2 * digits m - 1) ≤ 4194304) (hd : 1 ≤ digits m) : RS (knotS (L, f) m).1 (((knotS (L, f) m).1 + 7) / 8) (knotS (L, f) m).2 :=
  ⟨h2, rfl, fun i hi => by
    have hi : L + (2 * digits m - 1) ≤ i := hi
    show putF f (L + digits m - 1) (m + 1) (digits m) i = false
    unfold putF; rw [h.zero i (by omega)]; simp; omega⟩
theorem knotsS_len {xs : List Int} (h : ∀ x ∈ xs, ∃ m : Nat, x = (m : Int) ∧ m ≤ 594) : ∀ k, (knotsS (xs.take k)).1 ≤ 19 * k := by
  intro k
  induction k with
  | zero => exact Nat.le_refl _
  | succ k ih =>
    cases hk : xs[k]? with
    | none =>
      have : xs.take (k + 1) = xs.take k := by rw [List.take_add_one, hk]; simp
      rw [this]; omega
    | some x =>
      obtain ⟨m, rfl, hm⟩ := h x (List.mem_of_getElem? hk)
      rw [knotsS_step hk]
      have := digits_le hm
      show (knotsS (xs.take k)).1 + (2 * digits m - 1) ≤ _
      omega
def bytesO (N : Int) (E : List (Int × Int)) : Option (Nat × (Nat → Bool)) := if rightG N E then some (knotsS (numsG N E)) else none
def BytesPost (w : World) : Option (Nat × (Nat → Bool)) → Ending → World → Prop
  | none => BadB w 20
  | some s => GoodB w (s.1 / 8 + 1) (packF s.2 s.1)
set_option maxRecDepth 100000 in
set_option maxHeartbeats 4000000 in
theorem bytesG_any (N : Int) (A : Option Addr) (n c : Nat) (E : List (Int × Int)) (w : World) (h : ArgE w A n c E) :
    Calls Tryd.prog 12 #[.agg #[.int .i64 N, .slice A n c]] w (BytesPost w (bytesO N E)) := by
  have HB0 := Lib.hid (alloc_below w (.cells #[.int .i64 N, .slice A n c] 26))
  have HA := Lib.hid (h.keep HB0.out)
  have G0 := Lib.hid (Own.new' (t := 26) (w := w) (vs := [.int .i64 N, .slice A n c]) rfl)
  have HL := Lib.hid h.len
  clear h
  have HR := Lib.hid (rightG_any N A n c E _ HA.out)
  obtain ⟨r, hr⟩ : ∃ r, rightG N E = r := ⟨_, rfl⟩
  have RG := Lib.hid hr
  rw [hr] at HR
  clear hr
  go_enter Tryd.func12, Tryd.ntmps12
  go_wp2_with fail
  refine HR.out.mono ?_
  rintro e w1 ⟨rfl, hb⟩
  have OG := Lib.hid (G0.out.below' hb)
  have HA1 := Lib.hid (HA.out.keep hb)
  have HB1 := Lib.hid (HB0.out.trans (hb.mono HB0.out.size))
  have g0 : w1.cell? ⟨w.heap.size, 0, none⟩ = some (.int .i64 N) := OG.out.cell 0
  have g1 : w1.cell? ⟨w.heap.size, 1, none⟩ = some (.slice A n c) := OG.out.cell 1
  have zg := OG.out.lt
  clear hb
  cases r with
  | false =>
    have HX := Lib.hid (show bytesO N E = none by unfold bytesO; rw [RG.out]; rfl)
    go_wp2
    go_ret2
    rw [HX.out]
    exact ⟨rfl, HB1.out⟩
  | true =>
    have HX := Lib.hid (show bytesO N E = some (knotsS (numsG N E)) by unfold bytesO; rw [RG.out]; rfl)
    have HSM := Lib.hid (numsG_small RG.out)
    have HLE := Lib.hid (rightG_len RG.out)
    have HN := Lib.hid (show n ≤ 594 by have := HLE.out; have := HL.out; omega)
    have hs1 := HB1.out.size
    have HB2 := Lib.hid (alloc_below w1 (.cells #[.int .i64 N, .int .i64 (n : Int)] 3))
    have HR2 := Lib.hid (show RowI w1.heap.size (w1.alloc (.cells #[.int .i64 N, .int .i64 (n : Int)] 3)) (.slice (some ⟨w1.heap.size, 0, none⟩) 2 2) (numsK N E 0) from
      RowI.made (l := numsK N E 0) (by rw [show cellsI (numsK N E 0) = [.int .i64 N, .int .i64 (n : Int)] by rw [HL.out]; rfl]; exact Own.new w1 _ _) (Nat.le_refl _) (by have := numsK_len N E 0; omega))
    have OG2 := Lib.hid (OG.out.below' HB2.out)
    have g02 : (w1.alloc (.cells #[.int .i64 N, .int .i64 (n : Int)] 3)).cell? ⟨w.heap.size, 0, none⟩ = some (.int .i64 N) := OG2.out.cell 0
    have g12 : (w1.alloc (.cells #[.int .i64 N, .int .i64 (n : Int)] 3)).cell? ⟨w.heap.size, 1, none⟩ = some (.slice A n c) := OG2.out.cell 1
    go_wp2
    go_loopw [4, 6, 26] (fun x _ i wr => ∃ k : Nat, k ≤ n ∧ i = .int .i64 (k : Int) ∧ Hid (RowI w1.heap.size wr x (numsK N E k)) ∧ Hid (Below w1.heap.size w1 wr)) (fun _ _ i _ => n - (intOf i).toNat)
    case atStart => exact ⟨0, Nat.zero_le _, rfl, HR2, HB2⟩
    case round =>
      obtain ⟨k, hk, rfl, hS, hB⟩ := hrel
      have HAr := Lib.hid (HA1.out.keep hB.out)
      have HBw := Lib.hid (HB1.out.trans (hB.out.mono hs1))
      have hn5 := HN.out
      by_cases hlt : k < n
      · obtain ⟨b, off, rfl, hb, hc⟩ := rd_edge HAr.out.rd (by have := HAr.out.len; omega)
        obtain ⟨e, he⟩ : ∃ x, E[k]? = some x := ⟨_, List.getElem?_eq_getElem (by have := HL.out; omega)⟩
        have HST := Lib.hid (numsK_step (N := N) he)
        have HLK := Lib.hid (numsK_len N E k)
        obtain ⟨x0, x1⟩ := e
        obtain ⟨q0, q1⟩ := hc _ (Below.refl _ _) k _ he
        clear hc he
        have hz := hB.out.size
        have HSa := Lib.hid ((hS.out.below (alloc_below wr (.cells #[.int .i64 x0, .int .i64 x1] 49))).below (alloc_below _ (.cells #[.int .i64 x0, .int .i64 x1] 3)))
        have HBa := Lib.hid ((hB.out.alloc hz (.cells #[.int .i64 x0, .int .i64 x1] 49)).alloc (by simp; omega) (.cells #[.int .i64 x0, .int .i64 x1] 3))
        have HNW := Lib.hid (show Own ((wr.alloc (.cells #[.int .i64 x0, .int .i64 x1] 49)).alloc (.cells #[.int .i64 x0, .int .i64 x1] 3)) (wr.heap.size + 1) 3 (cellsI [x0, x1]) from by
          have h := Own.new (wr.alloc (.cells #[.int .i64 x0, .int .i64 x1] 49)) 3 [.int .i64 x0, .int .i64 x1]
          simp only [World.size_alloc] at h
          exact h)
        go_wp2_with (at_builtin; refine wpList_append_ints rfl (.tmp 30) (.tmp 35) rfl (some ⟨wr.heap.size + 1, 0, none⟩) 2 2 (k := [x0, x1]) rfl rfl HSa.out rfl HNW.out.rd (by have := HLK.out; omega) HBa.out.size ?_; intro v' w' hr hb; have HR' := Lib.hid (show RowI w1.heap.size w' v' (numsK N E (k + 1)) from by rw [HST.out]; exact hr); have HB' := Lib.hid (HBa.out.trans hb); clear hr hb)
        go_wp2
        go_roundw
        case rel => exact ⟨k + 1, by omega, by go_num, HR', HB'⟩
        case measure => simp [intOf]; omega
      · obtain rfl : k = n := by omega
        have HXT := Lib.hid (numsK_all (N := N) HL.out)
        obtain ⟨W9, hW9⟩ : ∃ W9, W9 = wr := ⟨_, rfl⟩
        subst hW9
        have hS2 := hS.out
        rw [HXT.out] at hS2
        obtain ⟨M, hM⟩ : ∃ M, (numsG N E).length = M := ⟨_, rfl⟩
        have HM := Lib.hid hM
        have hM2 : M ≤ 1200 := by rw [← hM, numsG_len]; have := HLE.out; omega
        have hM0 : 0 < M := by rw [← hM, numsG_len]; omega
        obtain ⟨xs, hxs⟩ : ∃ xs, numsG N E = xs := ⟨_, rfl⟩
        rw [hxs] at hS2 HX hM HSM HM
        obtain ⟨A9, c9, rfl, hcap9, hrd9⟩ := hS2.rd
        rw [hM] at hcap9 ⊢
        obtain ⟨b9, off9, rfl, hb9, hc9⟩ := hrd9 (by rw [length_cellsI]; omega)
        have HC9 := Lib.hid hc9
        have HKL := Lib.hid (knotsS_len HSM.out)
        have HF := Lib.hid (Below.refl W9.heap.size W9)
        clear hS2 hS hrd9 HXT hxs hM hc9
        have HB9 := Lib.hid (alloc_below W9 (.cells #[.slice none 0 0, .int .i64 0] 63))
        have O9 := Lib.hid (Own.new W9 63 [.slice none 0 0, .int .i64 0])
        go_wp2
        go_loopw [9, 10, 11, 41] (fun _ _ _ i W => ∃ j : Nat, ∃ A n' c', j ≤ M ∧ i = .int .i64 (j : Int) ∧ Hid (Own W W9.heap.size 63 [.slice A n' c', .int .i64 ((knotsS (xs.take j)).1 : Nat)]) ∧ Hid (Rd W A (cellsF (knotsS (xs.take j)).2 n')) ∧ Hid (RS (knotsS (xs.take j)).1 n' (knotsS (xs.take j)).2) ∧ Hid (Below W9.heap.size W9 W)) (fun _ _ _ i _ => M - (intOf i).toNat)
        case atStart => exact ⟨0, none, 0, 0, Nat.zero_le _, rfl, O9, Lib.hid Rd.nil, Lib.hid (show RS 0 0 (fun _ => false) from ⟨Nat.zero_le _, by decide, fun _ _ => rfl⟩), HB9⟩
        case round =>
          obtain ⟨j, A, n', c', hj, rfl, hO, hR, hRS, hBW⟩ := hrel
          obtain ⟨L, hL⟩ : ∃ L, (knotsS (xs.take j)).1 = L := ⟨_, rfl⟩
          obtain ⟨f, hf⟩ : ∃ f, (knotsS (xs.take j)).2 = f := ⟨_, rfl⟩
          have HLb := Lib.hid (HKL.out j)
          have HPR := Lib.hid (show knotsS (xs.take j) = (L, f) from Prod.ext hL hf)
          rw [hL] at hO hRS HLb
          rw [hf] at hR hRS
          clear hL hf
          have q0 : wr.cell? ⟨W9.heap.size, 0, none⟩ = some (.slice A n' c') := hO.out.cell 0
          have q1 : wr.cell? ⟨W9.heap.size, 1, none⟩ = some (.int .i64 (L : Int)) := hO.out.cell 1
          have zq := hO.out.lt
          by_cases hlt : j < M
          · obtain ⟨x, hx⟩ : ∃ x, xs[j]? = some x := ⟨_, List.getElem?_eq_getElem (by have := HM.out; omega)⟩
            obtain ⟨m, rfl, hm⟩ := HSM.out x (List.mem_of_getElem? hx)
            have HKS := Lib.hid (knotsS_step hx)
            rw [HPR.out] at HKS
            have qx : wr.cell? ⟨b9, off9 + j, none⟩ = some (.int .i64 (m : Int)) := ((below_cells hBW.out).1 _ _ hb9).trans (HC9.out j _ (by unfold cellsI; rw [List.getElem?_map, hx]; rfl))
            have wx : IntKind.u64.wrap (m : Int) = m := by rw [IntKind.wrap_u64]; omega
            have hdg := digits_le hm
            have HRS' := Lib.hid (knotS_RS (m := m) hRS.out (by have := HLb.out; omega) hdg.1)
            clear hx
            go_wp2_with fail
            refine (knot_good A n' c' L m f _ hR.out hRS.out (by omega) (by have := HLb.out; omega)).mono ?_
            rintro e W3 ⟨g, rfl, hg, hOg, hb⟩
            obtain ⟨l, hl⟩ : ∃ l, L + (2 * digits m - 1) = l := ⟨_, rfl⟩
            obtain ⟨k', hk'⟩ : ∃ k', (l + 7) / 8 = k' := ⟨_, rfl⟩
            obtain ⟨f', hf'⟩ : ∃ f', putF f (L + digits m - 1) (m + 1) (digits m) = f' := ⟨_, rfl⟩
            have HKS' := Lib.hid (show knotsS (xs.take (j + 1)) = (l, f') from HKS.out.trans (by rw [← hl, ← hf']; rfl))
            have HRS3 := Lib.hid (show RS l k' f' from by
              have h := HRS'.out
              unfold knotS at h
              simp only [hl, hf', hk'] at h
              exact h)
            rw [hl, hk', hf'] at hOg
            rw [hl, hk']
            have HOg := Lib.hid hOg
            have OS3 := Lib.hid (hO.out.below' hb)
            have HB3 := Lib.hid (hBW.out.trans (hb.mono hBW.out.size))
            have HG := Lib.hid hg
            have hs3 := HB3.out.size
            have z3 := OS3.out.lt; have f3 := OS3.out.frozen; have q3 := OS3.out.cell
            clear hl hk' hf' hOg hb HKS HRS' hg q0 q1
            go_wp2
            go_roundw
            case rel =>
              have hgl := HOg.out.lt
              have hgn : W9.heap.size < g := by have := HG.out; omega
              have hS := ((OS3.out.set 0 (.slice (some ⟨g, 0, none⟩) k' k')).set 1 (.int .i64 (l : Int))).alloc (.cells #[.slice (some ⟨g, 0, none⟩) k' k', .int .i64 (l : Int)] 63)
              have hG := ((HOg.out.far (p := ⟨W9.heap.size, 0, none⟩) (by simp; omega) (.slice (some ⟨g, 0, none⟩) k' k')).far (p := ⟨W9.heap.size, 1, none⟩) (by simp; omega) (.int .i64 (l : Int))).alloc (.cells #[.slice (some ⟨g, 0, none⟩) k' k', .int .i64 (l : Int)] 63)
              exact ⟨j + 1, some ⟨g, 0, none⟩, k', k', by omega, by go_num, Lib.hid (by rw [HKS'.out]; exact hS), Lib.hid (by rw [HKS'.out]; exact hG.rd), Lib.hid (by rw [HKS'.out]; exact HRS3.out), Lib.hid (((HB3.out.setCell (p := ⟨W9.heap.size, 0, none⟩) (Nat.le_refl _) _).setCell (p := ⟨W9.heap.size, 1, none⟩) (Nat.le_refl _) _).alloc (by simp; omega) _)⟩
            case measure => simp [intOf]; omega
          · obtain rfl : j = M := by omega
            have HBF := Lib.hid (hB.out.trans (hBW.out.mono hB.out.size))
            have HBG := Lib.hid (HB1.out.trans (HBF.out.mono hs1))
            have HPX := Lib.hid (show knotsS xs = (L, f) from by have h := HPR.out; rwa [List.take_of_length_le (by rw [HM.out]; exact Nat.le_refl _)] at h)
            go_wp2_with fail
            refine (pack_good A n' c' L f _ hR.out hRS.out).mono ?_
            rintro e W4 ⟨g, rfl, hg, hOg, hb⟩
            have HOg := Lib.hid hOg
            have HG := Lib.hid hg
            have HB4 := Lib.hid (HBG.out.trans (hb.mono HBG.out.size))
            have hsz := HBG.out.size
            clear hb hOg hg
            go_wp2
            go_ret2
            rw [HX.out, HPX.out]
            exact ⟨g, rfl, by have := HG.out; omega, HOg.out, HB4.out⟩
end Go.Proofs.YtljihclpgpmfeaaDoor
