/- Walk: perm.Power. -/
import Derived.Test.YtccaagildkgfeaaIh
namespace Go.Proofs.Ytccaagildkgfeaa
open Go.RowKit Go.Shelf
attribute [local go_sem] Oper.semAt_some

def tblPw (gp : Nat) (g : Nat) (n : Nat) (L : Nat) (cap : Nat) (t : Nat) (i : Nat) (z : Int) (m : Nat) (u : Nat) : List Pst := [Pst.val (.slice (some ⟨gp, 0, none⟩) n n), Pst.val (.int .i64 (t : Nat)), Pst.val (.slice (some ⟨g, 0, none⟩) L cap), Pst.val (.int .i64 (i : Nat)), Pst.val (.int .i64 (z)), Pst.val (.int .i64 ((i : Int) + z)), Pst.val (.slice (some ⟨g, 0, none⟩) L cap), Pst.val (.int .i64 (L : Nat)), Pst.val (.int .i64 (m : Nat)), Pst.val (.pointer (some ⟨g, m, none⟩)), Pst.val (.int .i64 (u : Nat)), Pst.val (.pointer (some ⟨gp, t, none⟩))]
/-- How many steps a power takes on a thing's cycle. -/
def stp (p : List Int) (k : Int) (x : Nat) : Nat := (k % (ord1 p x : Int)).toNat
theorem stp_eq (p : List Int) (k : Int) (x : Nat) : (stp p k x : Int) = if k.tmod (ord1 p x : Int) < 0 then k.tmod (ord1 p x : Int) + (ord1 p x : Int) else k.tmod (ord1 p x : Int) := by
  unfold stp
  have h0 := ord1_pos p x
  generalize ord1 p x = n at h0
  rw [Int.toNat_of_nonneg (Int.emod_nonneg k (by omega))]
  rcases Int.lt_or_le k 0 with h | h
  · have e3 := Int.tmod_eq_emod (a := k) (b := n)
    rw [e3]
    have h4 := Int.emod_nonneg k (b := (n : Int)) (by omega)
    have h5 := Int.emod_lt_of_pos k (b := (n : Int)) (by omega)
    split
    · rename_i h6
      rw [if_neg (by omega)]; omega
    · rename_i h6
      rw [if_pos (by have : ((n : Int)).natAbs = n := by simp
                     omega)]
      have : (((n : Int)).natAbs : Int) = n := by simp
      omega
  · have e3 : k.tmod n = k % n := Int.tmod_eq_emod_of_nonneg h
    have h4 := Int.emod_nonneg k (b := (n : Int)) (by omega)
    rw [e3, if_neg (by omega)]
section
variable {p : List Int}
theorem ord1_same (h : rightP p = true) {j : Nat} (hj : j < p.length) (i : Nat) : ord1 p (it p i j) = ord1 p j := by
  have key : ∀ m, it p m (it p i j) = it p i j ↔ it p m j = j := by
    intro m
    have e : it p m (it p i j) = it p i (it p m j) := by rw [← it_add, ← it_add, Nat.add_comm]
    rw [e]
    exact ⟨fun e => it_inj h (it_lt h hj m) hj i e, fun e => by rw [e]⟩
  obtain ⟨a1, _, a3⟩ := ord1_spec h hj
  obtain ⟨b1, _, b3⟩ := ord1_spec h (it_lt h hj i)
  rcases Nat.lt_trichotomy (ord1 p (it p i j)) (ord1 p j) with hl | hl | hl
  · exact absurd ((key _).1 b1) (a3 _ (ord1_pos _ _) hl)
  · exact hl
  · exact absurd ((key _).2 a1) (b3 _ (ord1_pos _ _) hl)
/-- The power, where it is known. -/
def powL (p : List Int) (k : Int) (l : List Int) : List Int := (List.range p.length).map fun (x : Nat) => if l.contains (x : Int) then ((it p (stp p k x) x : Nat) : Int) else 0
def powP (p : List Int) (k : Int) : List Int := (List.range p.length).map fun (x : Nat) => ((it p (stp p k x) x : Nat) : Int)
theorem length_powL (k : Int) (l : List Int) : (powL p k l).length = p.length := by simp [powL]
theorem length_powP (k : Int) : (powP p k).length = p.length := by simp [powP]
theorem powL_at {k : Int} {l : List Int} {x : Nat} (h : x < p.length) : (powL p k l)[x]? = some (if l.contains (x : Int) then ((it p (stp p k x) x : Nat) : Int) else 0) := by
  unfold powL
  rw [List.getElem?_map, List.getElem?_range h]
  rfl
theorem powP_at {k : Int} {x : Nat} (h : x < p.length) : (powP p k)[x]? = some ((it p (stp p k x) x : Nat) : Int) := by
  unfold powP
  rw [List.getElem?_map, List.getElem?_range h]
  rfl
theorem powL_nil (k : Int) : powL p k [] = List.replicate p.length 0 := by
  apply List.ext_getElem?
  intro i
  rw [List.getElem?_replicate]
  by_cases h : i < p.length
  · rw [powL_at h, if_pos h]; simp
  · rw [List.getElem?_eq_none (by rw [length_powL]; omega), if_neg h]
theorem powL_step {k : Int} {l : List Int} {x : Nat} : (powL p k l).set x ((it p (stp p k x) x : Nat) : Int) = powL p k (l ++ [(x : Int)]) := by
  apply List.ext_getElem?
  intro i
  rw [List.getElem?_set, length_powL]
  by_cases h : i < p.length
  · rw [powL_at h, powL_at h]
    by_cases hi : x = i
    · subst hi
      rw [if_pos rfl, if_pos h, if_pos (by simp)]
    · rw [if_neg hi]
      have hne : ¬ ((i : Int) = (x : Int)) := by omega
      simp [hne]
  · rw [List.getElem?_eq_none (l := powL p k (l ++ [(x : Int)])) (by rw [length_powL]; omega), List.getElem?_eq_none (l := powL p k l) (by rw [length_powL]; omega)]
    split
    · rename_i e; subst e; rw [if_neg h]
    · rfl
theorem powL_all (h : rightP p = true) (k : Int) : powL p k (cycs p p.length).flatten = powP p k := by
  apply List.ext_getElem?
  intro i
  by_cases hi : i < p.length
  · rw [powL_at hi, powP_at hi, if_pos ((met_iff h (Nat.le_refl _) hi).2 ⟨i, hi, 0, rfl⟩)]
  · rw [List.getElem?_eq_none (by rw [length_powL]; omega), List.getElem?_eq_none (by rw [length_powP]; omega)]
/-- What stands so many steps on. -/
theorem pow_way (h : rightP p = true) {j i : Nat} (hj : j < p.length) (k : Int) : it p ((i + stp p k j) % ord1 p j) j = it p (stp p k (it p i j)) (it p i j) := by
  rw [← it_mod h hj, Nat.add_comm, it_add]
  unfold stp
  rw [ord1_same h hj i]
end
def powO (p : List Int) (k : Int) : Option (List Int) := if rightP p = true then some (powP p k) else none
def PwI (b3 gp n : Nat) (k : Int) (p : List Int) (j : Nat) (V : World) : Prop := Own V (gp + 1) 22 [.slice (some ⟨gp, 0, none⟩) n n] ∧ Own V gp 3 (cellsI (powL p k (cycs p j).flatten)) ∧ Own V b3 3 [.int .i64 k]
def PwL (V : World) (gp : Nat) (k : Int) (p : List Int) (j L : Nat) (s32 : Value) (V' : World) : Prop := ∃ i : Nat, i ≤ L ∧ s32 = .int .i64 (i : Int) ∧ Own V' gp 3 (cellsI (powL p k ((cycs p j).flatten ++ (cyc p j).take i))) ∧ V.grownBy V' (some gp)
set_option maxRecDepth 100000 in
set_option maxHeartbeats 8000000 in
theorem power_any (A : Option Addr) (n c : Nat) (k : Int) (p : List Int) (w : World) (h1 : ArgI w A n c p) :
    Calls Try.prog 23 #[.slice A n c, .int .i64 k] w (ErrI w (powO p k)) := by
  have H1 := Lib.hid h1
  have hn0 := h1.le
  clear h1
  have H1a := Lib.hid (H1.out.keep (alloc_below w (.cells #[.int .i64 k] 3)))
  have HP := Lib.hid (right_any A n c p _ H1a.out)
  obtain ⟨r, hr⟩ : ∃ r, rightP p = r := ⟨_, rfl⟩
  rw [hr] at HP
  have RP := Lib.hid hr
  clear hr
  cases r with
  | false =>
    have HC := Lib.hid (show powO p k = none from if_neg (by rw [RP.out]; simp))
    go_enter Try.func23, Try.ntmps23
    go_wp2_with fail
    refine HP.out.mono ?_
    rintro e w2 ⟨rfl, hb1⟩
    have HB2 := Lib.hid (below_chain (alloc_below w (.cells #[.int .i64 k] 3)) hb1)
    clear hb1
    go_wp2
    go_ret2
    exact ⟨.slice none 0 0, by rw [HC.out]; rfl, .inl ⟨by rw [HC.out]; rfl, rfl⟩, HB2.out⟩
  | true =>
    have HC := Lib.hid (show powO p k = some (powP p k) from if_pos RP.out)
    have HL := Lib.hid H1.out.len
    have hn : n ≤ 200 := by have := (right_true RP.out).1; have := HL.out; omega
    have hmk := mk_ints n (by omega)
    refine (callsIn_wide (n := 3)).1 ?_
    refine callsIn_of_wp_marks Try.func23 rfl trivial ?_ rfl
    simp only [Try.ntmps23, List.size_toArray, List.length_cons, List.length_nil, Nat.reduceAdd, Nat.reduceSub, Array.replicate_succ, Array.replicate_zero, List.push_toArray, List.append_toArray, List.nil_append, List.cons_append]
    gi_wp2_with (refine ⟨trivial, ?_⟩; gi_at_call 9; refine (callsIn_wide.2 HP.out).mono ?_; rintro e w1 ⟨rfl, hb1⟩)
    refine ⟨trivial, (callsIn_wide.2 (cycles_make A n c _)).mono ?_⟩
    rintro e _ ⟨rfl, rfl⟩
    have HO1 := Lib.hid ((Own.new' (g := w.heap.size) (w := w) (t := 3) (vs := [.int .i64 k]) rfl).below' hb1)
    have HB1 := Lib.hid (below_chain (alloc_below w (.cells #[.int .i64 k] 3)) hb1)
    have hsz1 : w.heap.size + 1 ≤ w1.heap.size := by have := hb1.size; simpa using this
    clear hb1
    obtain ⟨gp, hgp⟩ : ∃ gp, gp = w1.heap.size := ⟨_, rfl⟩
    obtain ⟨w2, hw2⟩ : ∃ w2, ((w1.alloc (.cells (cellsI (List.replicate n 0)).toArray 3)).alloc (.cells #[.slice (some ⟨w1.heap.size, 0, none⟩) n n] 22)).alloc (.cells #[.slice A n c] 22) = w2 := ⟨_, rfl⟩
    have hz2 : w2.heap.size = w1.heap.size + 3 := by rw [← hw2]; simp
    have hb2 : Below w.heap.size w w2 := by
      have := HB1.out.size
      rw [← hw2]
      exact ((HB1.out.alloc this _).alloc (by simp; omega) _).alloc (by simp; omega) _
    have hx2 : Own w2 (w1.heap.size + 1 + 1) 22 [.slice A n c] := by rw [← hw2]; exact Own.new' (by simp)
    have hi0 : PwI w.heap.size w1.heap.size n k p 0 w2 := by
      rw [← hw2]
      refine ⟨?_, ?_, ?_⟩
      · exact (Own.new' (w := w1.alloc _) (by simp)).alloc _
      · have h : powL p k (cycs p 0).flatten = List.replicate n 0 := by rw [HL.out]; exact powL_nil k
        rw [h]
        exact ((Own.new' (g := w1.heap.size) rfl).alloc _).alloc _
      · exact ((HO1.out.alloc _).alloc _).alloc _
    have HZ := Lib.hid hz2; have HB2 := Lib.hid hb2; have HX2 := Lib.hid hx2; have HI0 := Lib.hid hi0
    gi_wp2
    clear hw2 hz2 hb2 hx2 hi0 hgp
    refine wpIn_cycles (nn := 1) (w1.heap.size + 1 + 1) n c A p w rfl rfl RP.out H1.out HB2.out HX2.out (PwI w.heap.size w1.heap.size n k p) ?hI ?hIp ?hIa ?hskip HI0.out ?a1 ?assign ?body ?done
    case hI => exact fun j V V' g vs h ho _ hg => ⟨h.1.grown' ho (by decide) hg, h.2.1.grown' ho (by decide) hg, h.2.2.grown' ho (by decide) hg⟩
    case hIp => exact fun j V k o o' h _ hk hc => ⟨(own_put o' h.1 hk hc).2, (own_put o' h.2.1 hk hc).2, (own_put o' h.2.2 hk hc).2⟩
    case hIa => exact fun j V o h => ⟨h.1.alloc o, h.2.1.alloc o, h.2.2.alloc o⟩
    case hskip => exact fun j V _ hl h => by unfold PwI at h ⊢; rw [cycs_step_no hl]; exact h
    case assign =>
      intro l v W K hK
      gi_wp2
      exact hK
    case body =>
      intro l j V g cap more hj hl hI ho hg hc1 hc2 hc3 hB hx hprev
      have hjl : j < p.length := by have := HL.out; omega
      have hw1s := HB1.out.size
      have hzz := HZ.out
      have HS := Lib.hid (stp_eq p k j)
      have hs0 : stp p k j < ord1 p j := by
        unfold stp
        have h0 := ord1_pos p j
        have h1 := Int.emod_lt_of_pos k (b := (ord1 p j : Int)) (by omega)
        have h2 := Int.emod_nonneg k (b := (ord1 p j : Int)) (by omega)
        omega
      obtain ⟨s, hs⟩ : ∃ s, stp p k j = s := ⟨_, rfl⟩
      have HSS := Lib.hid hs
      rw [hs] at HS hs0
      obtain ⟨L, hLL⟩ : ∃ L, ord1 p j = L := ⟨_, rfl⟩
      have hLb := (ord1_spec RP.out hjl).2.1
      have hL0 := ord1_pos p j
      have hpl := (right_true RP.out).1
      have HLL := Lib.hid hLL
      have q3 : V.cell? ⟨w.heap.size, 0, none⟩ = some (.int .i64 k) := hI.2.2.cell 0
      have z3 := hI.2.2.lt
      rw [hLL] at hLb hL0 hs0 hc1 HS ⊢
      have HI1 := Lib.hid hI.1; have HI2 := Lib.hid hI.2.1; have HI3b := Lib.hid hI.2.2; have HX := Lib.hid hx; have HBV := Lib.hid hB; have HG := Lib.hid ho; have HLe := Lib.hid hl
      clear hs hLL hI ho hc2 hc3 hB hx hprev hl
      have hLz : ((L : Int) == 0) = false := by rw [beq_eq_false_iff_ne]; omega
      obtain ⟨r, hr⟩ : ∃ r, k.tmod (L : Int) = r := ⟨_, rfl⟩
      have hr0 : -1000 < r := by rw [← hr]; have := Int.lt_tmod_of_pos k (b := (L : Int)) (by omega); omega
      have hr1 : r < 1000 := by rw [← hr]; have := Int.tmod_lt_of_pos k (b := (L : Int)) (by omega); omega
      rw [hr] at HS
      by_cases hneg : r < 0
      · have HZs := Lib.hid (show r + (L : Int) = (s : Int) by have h := HS.out; rw [if_pos hneg] at h; exact h.symm)
        gi_wp2
        gi_loopw [9, 10, 32] (fun _ _ s32 V' => PwL V w1.heap.size k p j L s32 V') (fun _ _ s32 _ => L - (intOf s32).toNat)
        case atStart => exact ⟨0, Nat.zero_le _, rfl, by rw [List.take_zero, List.append_nil]; exact HI2.out, World.grownBy.refl _ _⟩
        case round =>
          obtain ⟨i, hi, rfl, hO, hGr⟩ := hrel
          have HO := Lib.hid hO; have HGr := Lib.hid hGr
          clear hO hGr
          have hgne : g ≠ w1.heap.size := by omega
          have HG2 := Lib.hid (HG.out.grown HGr.out (by intro e; injection e with e; exact hgne e))
          have HX3 := Lib.hid (HX.out.grown HGr.out (by intro e; injection e with e; omega))
          have HBx := Lib.hid (HI1.out.grown HGr.out (by intro e; injection e with e; omega))
          have HK3 := Lib.hid (HI3b.out.grown HGr.out (by intro e; injection e with e; omega))
          by_cases hlt : i < L
          · have hgc : wr.cell? ⟨g, i, none⟩ = some (.int .i64 ((it p i j : Nat) : Int)) := (HG2.out.cell i).trans (by rw [List.getElem?_append_left (by rw [length_cellsI, length_cyc, HLL.out]; exact hlt)]; exact cellsI_at (cyc_at (by rw [HLL.out]; exact hlt)))
            have hgz := HG2.out.lt
            have htl := it_lt RP.out hjl i
            have hpw := pow_way RP.out (i := i) hjl k
            rw [HLL.out, HSS.out] at hpw
            obtain ⟨m, hm⟩ : ∃ m, (i + s) % L = m := ⟨_, rfl⟩
            have hml : m < L := by rw [← hm]; exact Nat.mod_lt _ hL0
            have HMM := Lib.hid (show ((i : Int) + (r + (L : Int))) % (L : Int) = (m : Int) by rw [HZs.out, ← hm, Int.natCast_emod, Int.natCast_add])
            rw [hm] at hpw
            obtain ⟨t, ht⟩ : ∃ t, it p i j = t := ⟨_, rfl⟩
            obtain ⟨u, hu⟩ : ∃ u, it p m j = u := ⟨_, rfl⟩
            have HST := Lib.hid (show (powL p k ((cycs p j).flatten ++ (cyc p j).take i)).set t (u : Int) = powL p k ((cycs p j).flatten ++ (cyc p j).take (i + 1)) by
              rw [← hu, hpw, ht, powL_step, List.append_assoc]
              congr 2
              rw [List.take_add_one, cyc_at (by rw [HLL.out]; exact hlt), ht]
              rfl)
            have CM := Lib.hid (fun W (hW : Below wr.heap.size wr W) => (show W.cell? ⟨g, m, none⟩ = some (.int .i64 (u : Int)) from ((HG2.out.below' hW).cell m).trans (by rw [List.getElem?_append_left (by rw [length_cellsI, length_cyc, HLL.out]; exact hml), ← hu]; exact cellsI_at (cyc_at (by rw [HLL.out]; exact hml)))))
            have CB := Lib.hid (fun W (hW : Below wr.heap.size wr W) => (show W.cell? ⟨w1.heap.size + 1, 0, none⟩ = some (.slice (some ⟨w1.heap.size, 0, none⟩) n n) from (HBx.out.below' hW).cell 0))
            have HML := Lib.hid hml
            rw [ht] at hgc htl
            have HTN := Lib.hid (show t < n by have := HL.out; omega)
            have HI3 := Lib.hid (show 0 ≤ (i : Int) + (r + (L : Int)) ∧ (i : Int) + (r + (L : Int)) ≤ 400 by have := HZs.out; omega)
            have HLZ := Lib.hid hLz
            have hztn : t < n := HTN.out
            clear hm hml hpw ht hu htl
            gi_wp2
            refine regionIn_posts 12 (fun _ => trivial) (by kernel_rfl) (tblPw w1.heap.size g n L cap t i ((r + (L : Int))) m u) (by kernel_rfl) (by kernel_rfl) ?_ ?_
            simp only [List.take_succ_cons, List.take_zero]
            · skip
              refine .yes rfl (fun a W Q hB hO hD hN => ?_) ?_
              · have e6 : a.tmps.getD 6 undef = .pointer (some ⟨w1.heap.size + 1, 0, none⟩) := hO.slot 6 _ rfl rfl
                clear hO hD hN
                have hc := CB.out W hB
                gi_wp2
                exact ⟨_, rfl, Below.refl _ _, rfl⟩
              refine .yes rfl (fun a W Q hB hO hD hN => ?_) ?_
              · have e10 : a.tmps.getD 10 undef = .int .i64 (t : Nat) := hO.slot 10 _ rfl rfl
                clear hO hD hN
                gi_wp2
                exact ⟨_, rfl, Below.refl _ _, rfl⟩
              refine .yes rfl (fun a W Q hB hO hD hN => ?_) ?_
              · have e7 : a.tmps.getD 7 undef = .slice (some ⟨g, 0, none⟩) L cap := hO.slot 7 _ rfl rfl
                clear hO hD hN
                gi_wp2
                exact ⟨_, rfl, Below.refl _ _, rfl⟩
              refine .yes rfl (fun a W Q hB hO hD hN => ?_) ?_
              · have e9 : a.tmps.getD 9 undef = .int .i64 (i : Nat) := hO.slot 9 _ rfl rfl
                clear hO hD hN
                gi_wp2
                exact ⟨_, rfl, Below.refl _ _, rfl⟩
              refine .yes rfl (fun a W Q hB hO hD hN => ?_) ?_
              · have e8 : a.tmps.getD 8 undef = .int .i64 ((r + (L : Int))) := hO.slot 8 _ rfl rfl
                clear hO hD hN
                gi_wp2
                exact ⟨_, rfl, Below.refl _ _, rfl⟩
              refine .yes rfl (fun a W Q hB hO hD hN => ?_) ?_
              · have e40 : a.tmps.getD 40 undef = .int .i64 (i : Nat) := hD 3 rfl
                have e41 : a.tmps.getD 41 undef = .int .i64 ((r + (L : Int))) := hD 4 rfl
                clear hO hD hN
                have h1 := HI3.out
                obtain ⟨h1, h2⟩ := h1
                gi_wp2
                exact ⟨_, rfl, Below.refl _ _, rfl⟩
              refine .yes rfl (fun a W Q hB hO hD hN => ?_) ?_
              · have e7 : a.tmps.getD 7 undef = .slice (some ⟨g, 0, none⟩) L cap := hO.slot 7 _ rfl rfl
                clear hO hD hN
                gi_wp2
                exact ⟨_, rfl, Below.refl _ _, rfl⟩
              refine .yes rfl (fun a W Q hB hO hD hN => ?_) ?_
              · have e43 : a.tmps.getD 43 undef = .slice (some ⟨g, 0, none⟩) L cap := hD 6 rfl
                clear hO hD hN
                gi_wp2
                exact ⟨_, rfl, Below.refl _ _, rfl⟩
              refine .yes rfl (fun a W Q hB hO hD hN => ?_) ?_
              · have e42 : a.tmps.getD 42 undef = .int .i64 ((i : Int) + (r + (L : Int))) := hD 5 rfl
                have e44 : a.tmps.getD 44 undef = .int .i64 (L : Nat) := hD 7 rfl
                clear hO hD hN
                have hz := HLZ.out
                have h1 := HI3.out
                obtain ⟨h1, h2⟩ := h1
                gi_wp2
                exact ⟨_, rfl, Below.refl _ _, congrArg (Value.int .i64) HMM.out⟩
              refine .yes rfl (fun a W Q hB hO hD hN => ?_) ?_
              · have e39 : a.tmps.getD 39 undef = .slice (some ⟨g, 0, none⟩) L cap := hD 2 rfl
                have e45 : a.tmps.getD 45 undef = .int .i64 (m : Nat) := hD 8 rfl
                clear hO hD hN
                have h1 := HML.out
                gi_wp2
                exact ⟨_, rfl, Below.refl _ _, rfl⟩
              refine .yes rfl (fun a W Q hB hO hD hN => ?_) ?_
              · have e46 : a.tmps.getD 46 undef = .pointer (some ⟨g, m, none⟩) := hD 9 rfl
                clear hO hD hN
                have hc := CM.out W hB
                gi_wp2
                exact ⟨_, rfl, Below.refl _ _, rfl⟩
              refine .yes rfl (fun a W Q hB hO hD hN => ?_) ?_
              · have e37 : a.tmps.getD 37 undef = .slice (some ⟨w1.heap.size, 0, none⟩) n n := hD 0 rfl
                have e38 : a.tmps.getD 38 undef = .int .i64 (t : Nat) := hD 1 rfl
                clear hO hD hN
                have h1 := HTN.out
                gi_wp2
                exact ⟨_, rfl, Below.refl _ _, rfl⟩
              exact .nil
            · intro f V2 hBz hR
              have e47 : f 10 = .int .i64 (u : Nat) := hR 10 (by decide)
              have e48 : f 11 = .pointer (some ⟨w1.heap.size, t, none⟩) := hR 11 (by decide)
              have HB5 := Lib.hid hBz
              have hO5 := HO.out.below' hBz
              have c5 : ∃ y, V2.cell? ⟨w1.heap.size, t, none⟩ = some (.int .i64 y) := ⟨_, (hO5.cell t).trans (cellsI_at (powL_at (by have := HTN.out; have := HL.out; omega)))⟩
              obtain ⟨y5, c5⟩ := c5
              have f5 := hO5.frozen t
              have z5 := hO5.lt
              have HO5 := Lib.hid hO5
              clear hR hBz hO5
              simp only [List.take_succ_cons, List.take_zero, List.drop_succ_cons, List.drop_zero, putAll, Nat.zero_add, Nat.reduceAdd, Act.put, List.setIfInBounds_toArray, List.set_cons_zero, List.set_cons_succ, e47, e48]
              gi_wp2
              go_roundw
              case rel => exact ⟨i + 1, by omega, by go_num, by have h := HO5.out.set t (.int .i64 (u : Int)); rw [cellsI_set, HST.out] at h; exact h, grown_set (grown_then HGr.out HB5.out) (.inl rfl) _⟩
              case measure => simp [intOf]; omega
          · obtain rfl : L = i := by omega
            have HT := Lib.hid (show (cyc p j).take L = cyc p j from List.take_of_length_le (by rw [length_cyc, HLL.out]; exact Nat.le_refl _))
            gi_wp2
            refine ⟨?_, ?_, ?_⟩
            · refine KeepsOthers.of_grownBy HGr.out fun i o hi ho => ?_
              injection hi with hi
              subst hi
              have h := HI2.out
              unfold Own at h
              rw [ho] at h
              injection h with h
              subst h
              rfl
            · refine ⟨HBx.out, ?_, HK3.out⟩
              have h := HO.out
              rw [HT.out, ← flat_step_yes HLe.out] at h
              exact h
            · exact ⟨HGr.out.size, fun gb vs hob => hob.grown' HI2.out (by decide) HGr.out, HX3.out.trans HX.out.symm, grown_below HGr.out (by omega) (by have := HI2.out.lt; omega)⟩
      · have HZs := Lib.hid (show r = (s : Int) by have h := HS.out; rw [if_neg hneg] at h; exact h.symm)
        have hd : decide (r < 0) = false := by rw [decide_eq_false_iff_not]; exact hneg
        clear hneg
        gi_wp2
        gi_loopw [9, 10, 32] (fun _ _ s32 V' => PwL V w1.heap.size k p j L s32 V') (fun _ _ s32 _ => L - (intOf s32).toNat)
        case atStart => exact ⟨0, Nat.zero_le _, rfl, by rw [List.take_zero, List.append_nil]; exact HI2.out, World.grownBy.refl _ _⟩
        case round =>
          obtain ⟨i, hi, rfl, hO, hGr⟩ := hrel
          have HO := Lib.hid hO; have HGr := Lib.hid hGr
          clear hO hGr
          have hgne : g ≠ w1.heap.size := by omega
          have HG2 := Lib.hid (HG.out.grown HGr.out (by intro e; injection e with e; exact hgne e))
          have HX3 := Lib.hid (HX.out.grown HGr.out (by intro e; injection e with e; omega))
          have HBx := Lib.hid (HI1.out.grown HGr.out (by intro e; injection e with e; omega))
          have HK3 := Lib.hid (HI3b.out.grown HGr.out (by intro e; injection e with e; omega))
          by_cases hlt : i < L
          · have hgc : wr.cell? ⟨g, i, none⟩ = some (.int .i64 ((it p i j : Nat) : Int)) := (HG2.out.cell i).trans (by rw [List.getElem?_append_left (by rw [length_cellsI, length_cyc, HLL.out]; exact hlt)]; exact cellsI_at (cyc_at (by rw [HLL.out]; exact hlt)))
            have hgz := HG2.out.lt
            have htl := it_lt RP.out hjl i
            have hpw := pow_way RP.out (i := i) hjl k
            rw [HLL.out, HSS.out] at hpw
            obtain ⟨m, hm⟩ : ∃ m, (i + s) % L = m := ⟨_, rfl⟩
            have hml : m < L := by rw [← hm]; exact Nat.mod_lt _ hL0
            have HMM := Lib.hid (show ((i : Int) + r) % (L : Int) = (m : Int) by rw [HZs.out, ← hm, Int.natCast_emod, Int.natCast_add])
            rw [hm] at hpw
            obtain ⟨t, ht⟩ : ∃ t, it p i j = t := ⟨_, rfl⟩
            obtain ⟨u, hu⟩ : ∃ u, it p m j = u := ⟨_, rfl⟩
            have HST := Lib.hid (show (powL p k ((cycs p j).flatten ++ (cyc p j).take i)).set t (u : Int) = powL p k ((cycs p j).flatten ++ (cyc p j).take (i + 1)) by
              rw [← hu, hpw, ht, powL_step, List.append_assoc]
              congr 2
              rw [List.take_add_one, cyc_at (by rw [HLL.out]; exact hlt), ht]
              rfl)
            have CM := Lib.hid (fun W (hW : Below wr.heap.size wr W) => (show W.cell? ⟨g, m, none⟩ = some (.int .i64 (u : Int)) from ((HG2.out.below' hW).cell m).trans (by rw [List.getElem?_append_left (by rw [length_cellsI, length_cyc, HLL.out]; exact hml), ← hu]; exact cellsI_at (cyc_at (by rw [HLL.out]; exact hml)))))
            have CB := Lib.hid (fun W (hW : Below wr.heap.size wr W) => (show W.cell? ⟨w1.heap.size + 1, 0, none⟩ = some (.slice (some ⟨w1.heap.size, 0, none⟩) n n) from (HBx.out.below' hW).cell 0))
            have HML := Lib.hid hml
            rw [ht] at hgc htl
            have HTN := Lib.hid (show t < n by have := HL.out; omega)
            have HI3 := Lib.hid (show 0 ≤ (i : Int) + r ∧ (i : Int) + r ≤ 400 by have := HZs.out; omega)
            have HLZ := Lib.hid hLz
            have hztn : t < n := HTN.out
            clear hm hml hpw ht hu htl
            gi_wp2
            refine regionIn_posts 12 (fun _ => trivial) (by kernel_rfl) (tblPw w1.heap.size g n L cap t i (r) m u) (by kernel_rfl) (by kernel_rfl) ?_ ?_
            simp only [List.take_succ_cons, List.take_zero]
            · skip
              refine .yes rfl (fun a W Q hB hO hD hN => ?_) ?_
              · have e6 : a.tmps.getD 6 undef = .pointer (some ⟨w1.heap.size + 1, 0, none⟩) := hO.slot 6 _ rfl rfl
                clear hO hD hN
                have hc := CB.out W hB
                gi_wp2
                exact ⟨_, rfl, Below.refl _ _, rfl⟩
              refine .yes rfl (fun a W Q hB hO hD hN => ?_) ?_
              · have e10 : a.tmps.getD 10 undef = .int .i64 (t : Nat) := hO.slot 10 _ rfl rfl
                clear hO hD hN
                gi_wp2
                exact ⟨_, rfl, Below.refl _ _, rfl⟩
              refine .yes rfl (fun a W Q hB hO hD hN => ?_) ?_
              · have e7 : a.tmps.getD 7 undef = .slice (some ⟨g, 0, none⟩) L cap := hO.slot 7 _ rfl rfl
                clear hO hD hN
                gi_wp2
                exact ⟨_, rfl, Below.refl _ _, rfl⟩
              refine .yes rfl (fun a W Q hB hO hD hN => ?_) ?_
              · have e9 : a.tmps.getD 9 undef = .int .i64 (i : Nat) := hO.slot 9 _ rfl rfl
                clear hO hD hN
                gi_wp2
                exact ⟨_, rfl, Below.refl _ _, rfl⟩
              refine .yes rfl (fun a W Q hB hO hD hN => ?_) ?_
              · have e8 : a.tmps.getD 8 undef = .int .i64 (r) := hO.slot 8 _ rfl rfl
                clear hO hD hN
                gi_wp2
                exact ⟨_, rfl, Below.refl _ _, rfl⟩
              refine .yes rfl (fun a W Q hB hO hD hN => ?_) ?_
              · have e40 : a.tmps.getD 40 undef = .int .i64 (i : Nat) := hD 3 rfl
                have e41 : a.tmps.getD 41 undef = .int .i64 (r) := hD 4 rfl
                clear hO hD hN
                have h1 := HI3.out
                obtain ⟨h1, h2⟩ := h1
                gi_wp2
                exact ⟨_, rfl, Below.refl _ _, rfl⟩
              refine .yes rfl (fun a W Q hB hO hD hN => ?_) ?_
              · have e7 : a.tmps.getD 7 undef = .slice (some ⟨g, 0, none⟩) L cap := hO.slot 7 _ rfl rfl
                clear hO hD hN
                gi_wp2
                exact ⟨_, rfl, Below.refl _ _, rfl⟩
              refine .yes rfl (fun a W Q hB hO hD hN => ?_) ?_
              · have e43 : a.tmps.getD 43 undef = .slice (some ⟨g, 0, none⟩) L cap := hD 6 rfl
                clear hO hD hN
                gi_wp2
                exact ⟨_, rfl, Below.refl _ _, rfl⟩
              refine .yes rfl (fun a W Q hB hO hD hN => ?_) ?_
              · have e42 : a.tmps.getD 42 undef = .int .i64 ((i : Int) + r) := hD 5 rfl
                have e44 : a.tmps.getD 44 undef = .int .i64 (L : Nat) := hD 7 rfl
                clear hO hD hN
                have hz := HLZ.out
                have h1 := HI3.out
                obtain ⟨h1, h2⟩ := h1
                gi_wp2
                exact ⟨_, rfl, Below.refl _ _, congrArg (Value.int .i64) HMM.out⟩
              refine .yes rfl (fun a W Q hB hO hD hN => ?_) ?_
              · have e39 : a.tmps.getD 39 undef = .slice (some ⟨g, 0, none⟩) L cap := hD 2 rfl
                have e45 : a.tmps.getD 45 undef = .int .i64 (m : Nat) := hD 8 rfl
                clear hO hD hN
                have h1 := HML.out
                gi_wp2
                exact ⟨_, rfl, Below.refl _ _, rfl⟩
              refine .yes rfl (fun a W Q hB hO hD hN => ?_) ?_
              · have e46 : a.tmps.getD 46 undef = .pointer (some ⟨g, m, none⟩) := hD 9 rfl
                clear hO hD hN
                have hc := CM.out W hB
                gi_wp2
                exact ⟨_, rfl, Below.refl _ _, rfl⟩
              refine .yes rfl (fun a W Q hB hO hD hN => ?_) ?_
              · have e37 : a.tmps.getD 37 undef = .slice (some ⟨w1.heap.size, 0, none⟩) n n := hD 0 rfl
                have e38 : a.tmps.getD 38 undef = .int .i64 (t : Nat) := hD 1 rfl
                clear hO hD hN
                have h1 := HTN.out
                gi_wp2
                exact ⟨_, rfl, Below.refl _ _, rfl⟩
              exact .nil
            · intro f V2 hBz hR
              have e47 : f 10 = .int .i64 (u : Nat) := hR 10 (by decide)
              have e48 : f 11 = .pointer (some ⟨w1.heap.size, t, none⟩) := hR 11 (by decide)
              have HB5 := Lib.hid hBz
              have hO5 := HO.out.below' hBz
              have c5 : ∃ y, V2.cell? ⟨w1.heap.size, t, none⟩ = some (.int .i64 y) := ⟨_, (hO5.cell t).trans (cellsI_at (powL_at (by have := HTN.out; have := HL.out; omega)))⟩
              obtain ⟨y5, c5⟩ := c5
              have f5 := hO5.frozen t
              have z5 := hO5.lt
              have HO5 := Lib.hid hO5
              clear hR hBz hO5
              simp only [List.take_succ_cons, List.take_zero, List.drop_succ_cons, List.drop_zero, putAll, Nat.zero_add, Nat.reduceAdd, Act.put, List.setIfInBounds_toArray, List.set_cons_zero, List.set_cons_succ, e47, e48]
              gi_wp2
              go_roundw
              case rel => exact ⟨i + 1, by omega, by go_num, by have h := HO5.out.set t (.int .i64 (u : Int)); rw [cellsI_set, HST.out] at h; exact h, grown_set (grown_then HGr.out HB5.out) (.inl rfl) _⟩
              case measure => simp [intOf]; omega
          · obtain rfl : L = i := by omega
            have HT := Lib.hid (show (cyc p j).take L = cyc p j from List.take_of_length_le (by rw [length_cyc, HLL.out]; exact Nat.le_refl _))
            gi_wp2
            refine ⟨?_, ?_, ?_⟩
            · refine KeepsOthers.of_grownBy HGr.out fun i o hi ho => ?_
              injection hi with hi
              subst hi
              have h := HI2.out
              unfold Own at h
              rw [ho] at h
              injection h with h
              subst h
              rfl
            · refine ⟨HBx.out, ?_, HK3.out⟩
              have h := HO.out
              rw [HT.out, ← flat_step_yes HLe.out] at h
              exact h
            · exact ⟨HGr.out.size, fun gb vs hob => hob.grown' HI2.out (by decide) HGr.out, HX3.out.trans HX.out.symm, grown_below HGr.out (by omega) (by have := HI2.out.lt; omega)⟩
    case done =>
      intro W hI hB hD
      have qb : W.cell? ⟨w1.heap.size + 1, 0, none⟩ = some (.slice (some ⟨w1.heap.size, 0, none⟩) n n) := hI.1.cell 0
      have zb := hI.1.lt
      have HD := Lib.hid hD; have HVB := Lib.hid hB; have HI2 := Lib.hid hI.2.1
      clear hI hB hD
      gi_wp2
      have hw1s := HB1.out.size
      have hz := HZ.out
      refine ⟨by simp, .inl ⟨_, _, rfl, run_takeDeferred HD.out, ?_⟩⟩
      refine ⟨.tuple #[.slice (some ⟨w1.heap.size, 0, none⟩) n n, .int .i64 0], by simp [results, Try.f23, go_sem], .slice (some ⟨w1.heap.size, 0, none⟩) n n, by rw [HC.out]; rfl, ?_, HVB.out.trans (below_put _ (by omega) HD.out)⟩
      rw [HC.out]
      show RowI _ _ _ (powP p k)
      have h1 := (own_put (.deferred none) HI2.out HD.out rfl).2
      rw [HL.out, powL_all RP.out] at h1
      have h2 := RowI.made (B := w.heap.size) h1 hw1s (by rw [length_powP, ← HL.out]; omega)
      rw [length_powP, ← HL.out] at h2
      exact h2
end Go.Proofs.Ytccaagildkgfeaa
