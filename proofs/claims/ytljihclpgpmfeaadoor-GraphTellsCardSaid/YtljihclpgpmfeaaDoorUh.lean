/- Bundle of texts: Gk Gl. -/
import Derived.Test.YtljihclpgpmfeaaDoorUf
/- Walks: slices.BinarySearchFunc at edges, graph.Has. -/
namespace Go.Proofs.YtljihclpgpmfeaaDoor
set_option maxRecDepth 100000
open Go.RowKit Go.Sort Go.Shelf

/-- Edges that rise. -/
def RisesE (E : List (Int × Int)) : Prop := E.Pairwise fun a b => cmpE a b < 0
theorem okE_rises {N : Int} : ∀ {E : List (Int × Int)} {q : Option (Int × Int)}, okE N q E = true → RisesE E ∧ ∀ e ∈ E, ∀ x, q = some x → cmpE x e < 0
  | [], _, _ => ⟨List.Pairwise.nil, by simp⟩
  | f :: r, q, h => by
    unfold okE at h
    rw [Bool.and_eq_true, Bool.and_eq_true] at h
    obtain ⟨h1, h2⟩ := okE_rises h.2
    have hq : ∀ x, q = some x → cmpE x f < 0 := fun x hx => by
      subst hx
      simpa using h.1.2
    refine ⟨List.pairwise_cons.2 ⟨fun e he => h2 e he f rfl, h1⟩, fun e he x hx => ?_⟩
    rcases List.mem_cons.1 he with rfl | he
    · exact hq x hx
    · have a := hq x hx
      have b := h2 e he f rfl
      rw [cmpE_lt] at a b ⊢
      omega
theorem rightG_rises {N : Int} {E : List (Int × Int)} (h : rightG N E = true) : RisesE E := by
  unfold rightG at h
  rw [Bool.and_eq_true] at h
  exact (okE_rises h.2).1
theorem cmpE_zero (e f : Int × Int) : cmpE e f = 0 ↔ e = f := by
  unfold cmpE
  by_cases h : cmpI e.1 f.1 = 0
  · rw [if_pos h, cmpI_zero]
    rw [cmpI_zero] at h
    exact ⟨fun h2 => Prod.ext h h2, fun h2 => by rw [h2]⟩
  · rw [if_neg h]
    refine ⟨fun h2 => absurd h2 h, fun h2 => absurd ?_ h⟩
    rw [h2, cmpI_zero]
/-- What has been found out on the way. -/
def SeekE (E : List (Int × Int)) (T : Int × Int) (lo hi : Nat) : Prop := (∀ t e, t < lo → E[t]? = some e → cmpE e T < 0) ∧ ∀ t e, hi ≤ t → E[t]? = some e → ¬ cmpE e T < 0
theorem SeekE.up {E : List (Int × Int)} {T e : Int × Int} {lo hi h : Nat} (hs : SeekE E T lo hi) (hr : RisesE E) (he : E[h]? = some e) (hc : cmpE e T < 0) : SeekE E T (h + 1) hi := by
  refine ⟨fun t f ht hf => ?_, hs.2⟩
  by_cases e1 : t = h
  · subst e1
    rw [he] at hf
    injection hf with hf
    exact hf ▸ hc
  · obtain ⟨l1, g1⟩ := List.getElem?_eq_some_iff.1 hf
    obtain ⟨l2, g2⟩ := List.getElem?_eq_some_iff.1 he
    have hp := List.pairwise_iff_getElem.1 hr t h l1 l2 (by omega)
    rw [g1, g2] at hp
    rw [cmpE_lt] at hp hc ⊢
    omega
theorem SeekE.down {E : List (Int × Int)} {T e : Int × Int} {lo hi h : Nat} (hs : SeekE E T lo hi) (hr : RisesE E) (he : E[h]? = some e) (hc : ¬ cmpE e T < 0) : SeekE E T lo h := by
  refine ⟨hs.1, fun t f ht hf => ?_⟩
  by_cases e1 : t = h
  · subst e1
    rw [he] at hf
    injection hf with hf
    exact hf ▸ hc
  · obtain ⟨l1, g1⟩ := List.getElem?_eq_some_iff.1 hf
    obtain ⟨l2, g2⟩ := List.getElem?_eq_some_iff.1 he
    have hp := List.pairwise_iff_getElem.1 hr h t l2 l1 (by omega)
    rw [g1, g2] at hp
    rw [cmpE_lt] at hp hc ⊢
    omega
theorem SeekE.found {E : List (Int × Int)} {T e : Int × Int} {i : Nat} (hs : SeekE E T i i) (hr : RisesE E) (he : E[i]? = some e) : (cmpE e T == 0) = E.contains T := by
  rw [Bool.eq_iff_iff, beq_iff_eq, cmpE_zero, List.contains_iff_mem]
  refine ⟨fun h => h ▸ List.mem_of_getElem? he, fun h => ?_⟩
  obtain ⟨k, hk⟩ := List.mem_iff_getElem?.1 h
  have h0 : ¬ cmpE T T < 0 := by rw [cmpE_lt]; omega
  have hki : ¬ k < i := fun hlt => h0 (hs.1 k T hlt hk)
  by_cases e1 : k = i
  · subst e1
    rw [he] at hk
    injection hk
  · exfalso
    obtain ⟨l1, g1⟩ := List.getElem?_eq_some_iff.1 hk
    obtain ⟨l2, g2⟩ := List.getElem?_eq_some_iff.1 he
    have hp := List.pairwise_iff_getElem.1 hr i k l2 l1 (by omega)
    rw [g1, g2] at hp
    exact hs.2 i e (Nat.le_refl _) he hp
theorem SeekE.lost {E : List (Int × Int)} {T : Int × Int} {i : Nat} (hs : SeekE E T i i) (hi : E.length ≤ i) : false = E.contains T := by
  symm
  rw [Bool.eq_false_iff]
  intro h
  obtain ⟨k, hk⟩ := List.mem_iff_getElem?.1 (List.contains_iff_mem.1 h)
  have hl := (List.getElem?_eq_some_iff.1 hk).1
  have := hs.1 k T (by omega) hk
  rw [cmpE_lt] at this
  omega
theorem entersC : ∀ args w, (callFunc 42 args).run Tryd.prog w = .ok (.enter 42 args) w := enters_of Tryd.func42 (by kernel_rfl) rfl
def tblB5 (b : Nat) (off : Nat) (n : Nat) (c : Nat) (h : Nat) (x0 : Int) (x1 : Int) (t0 : Int) (t1 : Int) (r : Int) (s : Bool) : List Pst := [Pst.val (.func (.func 42) #[] #[]), Pst.val (.slice (some ⟨b, off, none⟩) n c), Pst.val (.int .i64 (h : Nat)), Pst.val (.pointer (some ⟨b, off + h * 2, none⟩)), Pst.val (.agg #[.int .i64 x0, .int .i64 x1]), Pst.val (.agg #[.int .i64 t0, .int .i64 t1]), Pst.val (.int .i64 r), Pst.val (.bool s)]
def tblB8 (b : Nat) (off : Nat) (n : Nat) (c : Nat) (h : Nat) (x0 : Int) (x1 : Int) (t0 : Int) (t1 : Int) (r : Int) (s : Bool) : List Pst := [Pst.val (.int .i64 (h : Nat)), Pst.val (.int .i64 (h : Nat)), Pst.val (.int .i64 (n : Nat)), Pst.val (.bool true), Pst.val (.bool true), Pst.val (.func (.func 42) #[] #[]), Pst.val (.slice (some ⟨b, off, none⟩) n c), Pst.val (.int .i64 (h : Nat)), Pst.val (.pointer (some ⟨b, off + h * 2, none⟩)), Pst.val (.agg #[.int .i64 x0, .int .i64 x1]), Pst.val (.agg #[.int .i64 t0, .int .i64 t1]), Pst.val (.int .i64 r), Pst.val (.bool s), Pst.val (.bool s), Pst.val (.int .i64 (h : Nat)), Pst.val (.bool s)]
def tblB9 (n : Nat) : List Pst := [Pst.val (.int .i64 (n : Nat)), Pst.val (.int .i64 (n : Nat)), Pst.val (.int .i64 (n : Nat)), Pst.val (.bool false), Pst.val (.bool false), Pst.none, Pst.none, Pst.none, Pst.none, Pst.none, Pst.none, Pst.none, Pst.none, Pst.val (.bool false), Pst.val (.int .i64 (n : Nat)), Pst.val (.bool false)]
set_option maxRecDepth 100000 in
set_option maxHeartbeats 8000000 in
theorem searchE_any (A : Option Addr) (n c : Nat) (E : List (Int × Int)) (t0 t1 : Int) (w : World) (h1 : ArgE w A n c E) (hr : RisesE E) (hn6 : n ≤ 100000) :
    Calls Tryd.prog 46 #[.slice A n c, .agg #[.int .i64 t0, .int .i64 t1], .func (.func 42) #[] #[]] w fun e w' => ∃ i, e = .returned (.tuple #[.int .i64 i, .bool (E.contains (t0, t1))]) ∧ Below w.heap.size w w' := by
  have H1 := Lib.hid h1; have HRS := Lib.hid hr
  have hn := h1.le
  clear h1 hr
  have HB0 := Lib.hid (alloc_below w (.cells #[.int .i64 t0, .int .i64 t1] 49))
  have ON := Lib.hid (Own.new' (g := w.heap.size) (t := 49) (w := w) (vs := [.int .i64 t0, .int .i64 t1]) rfl)
  go_enter Tryd.func46, Tryd.ntmps46
  go_wp2
  go_loopw [9, 10, 11] (fun s9 s10 _ wr => ∃ lo hi : Nat, lo ≤ hi ∧ hi ≤ n ∧ s9 = .int .i64 (lo : Int) ∧ s10 = .int .i64 (hi : Int) ∧ Hid (SeekE E (t0, t1) lo hi) ∧ Hid (Below (w.alloc (.cells #[.int .i64 t0, .int .i64 t1] 49)).heap.size (w.alloc (.cells #[.int .i64 t0, .int .i64 t1] 49)) wr)) (fun s9 s10 _ _ => (intOf s10).toNat - (intOf s9).toNat)
  case atStart => exact ⟨0, n, Nat.zero_le _, Nat.le_refl _, rfl, rfl, Lib.hid ⟨fun t e ht => absurd ht (Nat.not_lt_zero _), fun t e ht he => absurd (List.getElem?_eq_some_iff.1 he).1 (by have := H1.out.len; omega)⟩, Lib.hid (Below.refl _ _)⟩
  case round =>
    obtain ⟨lo, hi, hlh, hin, rfl, rfl, HSK, HB⟩ := hrel
    have C2 := Lib.hid (fun W (hW : Below wr.heap.size wr W) => (show W.cell? ⟨w.heap.size, 0, none⟩ = some (.int .i64 t0) ∧ W.cell? ⟨w.heap.size, 1, none⟩ = some (.int .i64 t1) from ⟨((ON.out.below' HB.out).below' hW).cell 0, ((ON.out.below' HB.out).below' hW).cell 1⟩))
    by_cases hlt : lo < hi
    · obtain ⟨b, off, rfl, hb, hc⟩ := rd_edge H1.out.rd (by have := H1.out.len; omega)
      obtain ⟨h, hh⟩ : ∃ h, (lo + hi) / 2 = h := ⟨_, rfl⟩
      have hh2 : ((lo : Int) + (hi : Int)) / 2 = (h : Int) := by rw [← hh]; simp
      have hlo : lo ≤ h := by omega
      have hhi : h < hi := by omega
      obtain ⟨⟨x0, x1⟩, hx⟩ : ∃ x, E[h]? = some x := ⟨_, List.getElem?_eq_getElem (by have := H1.out.len; omega)⟩
      have C1 := Lib.hid (fun V (hV : Below wr.heap.size wr V) => (show V.cell? ⟨b, off + h * 2, none⟩ = some (.int .i64 x0) ∧ V.cell? ⟨b, off + h * 2 + 1, none⟩ = some (.int .i64 x1) from hc V (HB0.out.trans ((HB.out.trans (hV.mono HB.out.size)).mono HB0.out.size)) h _ hx))
      obtain ⟨r, hr⟩ : ∃ r, cmpE (x0, x1) (t0, t1) = r := ⟨_, rfl⟩
      obtain ⟨s, hs⟩ : ∃ s, decide (r < 0) = s := ⟨_, rfl⟩
      have HR := Lib.hid hr; have HS := Lib.hid hs; have HH := Lib.hid (show h < n by omega)
      have HL1 := Lib.hid (show s = true → SeekE E (t0, t1) (h + 1) hi from fun e => HSK.out.up HRS.out hx (by rw [hr]; rw [e] at hs; exact of_decide_eq_true hs))
      have HL2 := Lib.hid (show s = false → SeekE E (t0, t1) lo h from fun e => HSK.out.down HRS.out hx (by rw [hr]; rw [e] at hs; exact of_decide_eq_false hs))
      clear hr hs hc hx hh
      go_wp2_with fail
      clear hh2
      refine region_posts (by kernel_rfl) (tblB5 b off n c h x0 x1 t0 t1 r s) (by kernel_rfl) ?_ ?_
      · skip
        refine .yes rfl (fun a W Q hB hO hD => ?_) ?_
        · have e2 : a.tmps.getD 2 undef = .func (.func 42) #[] #[] := hO.slot 2 _ rfl rfl
          clear hO hD
          go_wp2
          exact ⟨_, rfl, Below.refl _ _, rfl⟩
        refine .yes rfl (fun a W Q hB hO hD => ?_) ?_
        · have e0 : a.tmps.getD 0 undef = .slice (some ⟨b, off, none⟩) n c := hO.slot 0 _ rfl rfl
          clear hO hD
          go_wp2
          exact ⟨_, rfl, Below.refl _ _, rfl⟩
        refine .yes rfl (fun a W Q hB hO hD => ?_) ?_
        · have e11 : a.tmps.getD 11 undef = .int .i64 (h : Nat) := hO.slot 11 _ rfl rfl
          clear hO hD
          go_wp2
          exact ⟨_, rfl, Below.refl _ _, rfl⟩
        refine .yes rfl (fun a W Q hB hO hD => ?_) ?_
        · have e25 : a.tmps.getD 25 undef = .slice (some ⟨b, off, none⟩) n c := hD 1 rfl
          have e26 : a.tmps.getD 26 undef = .int .i64 (h : Nat) := hD 2 rfl
          clear hO hD
          have hh := HH.out
          go_wp2
          exact ⟨_, rfl, Below.refl _ _, rfl⟩
        refine .yes rfl (fun a W Q hB hO hD => ?_) ?_
        · have e27 : a.tmps.getD 27 undef = .pointer (some ⟨b, off + h * 2, none⟩) := hD 3 rfl
          clear hO hD
          have ⟨hc, hc2⟩ := C1.out W hB
          go_wp2
          exact ⟨_, rfl, Below.refl _ _, rfl⟩
        refine .yes rfl (fun a W Q hB hO hD => ?_) ?_
        · have e4 : a.tmps.getD 4 undef = .pointer (some ⟨w.heap.size, 0, none⟩) := hO.slot 4 _ rfl rfl
          clear hO hD
          have ⟨hc, hc2⟩ := C2.out W hB
          go_wp2
          exact ⟨_, rfl, Below.refl _ _, rfl⟩
        refine .yes rfl (fun a W Q hB hO hD => ?_) ?_
        · have e24 : a.tmps.getD 24 undef = .func (.func 42) #[] #[] := hD 0 rfl
          have e28 : a.tmps.getD 28 undef = .agg #[.int .i64 x0, .int .i64 x1] := hD 4 rfl
          have e29 : a.tmps.getD 29 undef = .agg #[.int .i64 t0, .int .i64 t1] := hD 5 rfl
          clear hO hD
          have HC := Lib.hid (compareE_any (x0, x1) (t0, t1) W)
          rw [HR.out] at HC
          have eg := entersC
          go_wp2_with (go_at_fn 42; refine HC.out.mono ?_; rintro e w' ⟨rfl, nq, osq, rfl⟩)
          exact ⟨_, rfl, below_grow _ _ _, rfl⟩
        refine .yes rfl (fun a W Q hB hO hD => ?_) ?_
        · have e30 : a.tmps.getD 30 undef = .int .i64 r := hD 6 rfl
          clear hO hD
          have hs := HS.out
          go_wp2
          exact ⟨_, rfl, Below.refl _ _, rfl⟩
        exact .nil
      · intro f V hBz hR
        have e7 : f 7 = .bool s := hR 7 (by decide)
        have HB2 := Lib.hid (HB.out.trans (hBz.mono HB.out.size))
        clear hR hBz
        simp only [putAll, Nat.zero_add, Nat.reduceAdd, Act.put, List.setIfInBounds_toArray, List.set_cons_zero, List.set_cons_succ, e7]
        cases s with
        | true =>
          go_wp2
          go_roundw
          case rel => exact ⟨h + 1, hi, by omega, hin, by go_num, rfl, Lib.hid (HL1.out rfl), HB2⟩
          case measure => simp [intOf]; omega
        | false =>
          go_wp2
          go_roundw
          case rel => exact ⟨lo, h, by omega, by omega, rfl, rfl, Lib.hid (HL2.out rfl), HB2⟩
          case measure => simp [intOf]; omega
    · obtain rfl : lo = hi := by omega
      by_cases hln : lo < n
      · obtain ⟨b, off, rfl, hb, hc⟩ := rd_edge H1.out.rd (by have := H1.out.len; omega)
        obtain ⟨⟨x0, x1⟩, hx⟩ : ∃ x, E[lo]? = some x := ⟨_, List.getElem?_eq_getElem (by have := H1.out.len; omega)⟩
        have C1 := Lib.hid (fun V (hV : Below wr.heap.size wr V) => (show V.cell? ⟨b, off + lo * 2, none⟩ = some (.int .i64 x0) ∧ V.cell? ⟨b, off + lo * 2 + 1, none⟩ = some (.int .i64 x1) from hc V (HB0.out.trans ((HB.out.trans (hV.mono HB.out.size)).mono HB0.out.size)) lo _ hx))
        obtain ⟨r, hr⟩ : ∃ r, cmpE (x0, x1) (t0, t1) = r := ⟨_, rfl⟩
        obtain ⟨s, hs⟩ : ∃ s, (r == 0) = s := ⟨_, rfl⟩
        have HR := Lib.hid hr; have HS := Lib.hid hs; have HH := Lib.hid hln; have HD := Lib.hid (show decide (lo < n) = true from decide_eq_true hln)
        have HF := Lib.hid (show E.contains (t0, t1) = s from by rw [← HSK.out.found HRS.out hx, hr, hs])
        clear hr hs hc hx
        go_wp2_with fail
        refine region_posts (by kernel_rfl) (tblB8 b off n c lo x0 x1 t0 t1 r s) (by kernel_rfl) ?_ ?_
        · skip
          refine .yes rfl (fun a W Q hB hO hD => ?_) ?_
          · have e9 : a.tmps.getD 9 undef = .int .i64 (lo : Nat) := hO.slot 9 _ rfl rfl
            clear hO hD
            go_wp2
            exact ⟨_, rfl, Below.refl _ _, rfl⟩
          refine .yes rfl (fun a W Q hB hO hD => ?_) ?_
          · have e9 : a.tmps.getD 9 undef = .int .i64 (lo : Nat) := hO.slot 9 _ rfl rfl
            clear hO hD
            go_wp2
            exact ⟨_, rfl, Below.refl _ _, rfl⟩
          refine .yes rfl (fun a W Q hB hO hD => ?_) ?_
          · have e8 : a.tmps.getD 8 undef = .int .i64 (n : Nat) := hO.slot 8 _ rfl rfl
            clear hO hD
            go_wp2
            exact ⟨_, rfl, Below.refl _ _, rfl⟩
          refine .yes rfl (fun a W Q hB hO hD => ?_) ?_
          · have e36 : a.tmps.getD 36 undef = .int .i64 (lo : Nat) := hD 1 rfl
            have e37 : a.tmps.getD 37 undef = .int .i64 (n : Nat) := hD 2 rfl
            clear hO hD
            have hh := HD.out
            go_wp2
            exact ⟨_, rfl, Below.refl _ _, rfl⟩
          refine .yes rfl (fun a W Q hB hO hD => ?_) ?_
          · have e38 : a.tmps.getD 38 undef = .bool true := hD 3 rfl
            clear hO hD
            go_wp2
            exact ⟨_, rfl, Below.refl _ _, rfl⟩
          refine .yes rfl (fun a W Q hB hO hD => ?_) ?_
          · have e2 : a.tmps.getD 2 undef = .func (.func 42) #[] #[] := hO.slot 2 _ rfl rfl
            clear hO hD
            go_wp2
            exact ⟨_, rfl, Below.refl _ _, rfl⟩
          refine .yes rfl (fun a W Q hB hO hD => ?_) ?_
          · have e0 : a.tmps.getD 0 undef = .slice (some ⟨b, off, none⟩) n c := hO.slot 0 _ rfl rfl
            clear hO hD
            go_wp2
            exact ⟨_, rfl, Below.refl _ _, rfl⟩
          refine .yes rfl (fun a W Q hB hO hD => ?_) ?_
          · have e9 : a.tmps.getD 9 undef = .int .i64 (lo : Nat) := hO.slot 9 _ rfl rfl
            clear hO hD
            go_wp2
            exact ⟨_, rfl, Below.refl _ _, rfl⟩
          refine .yes rfl (fun a W Q hB hO hD => ?_) ?_
          · have e41 : a.tmps.getD 41 undef = .slice (some ⟨b, off, none⟩) n c := hD 6 rfl
            have e42 : a.tmps.getD 42 undef = .int .i64 (lo : Nat) := hD 7 rfl
            clear hO hD
            have hh := HH.out
            go_wp2
            exact ⟨_, rfl, Below.refl _ _, rfl⟩
          refine .yes rfl (fun a W Q hB hO hD => ?_) ?_
          · have e43 : a.tmps.getD 43 undef = .pointer (some ⟨b, off + lo * 2, none⟩) := hD 8 rfl
            clear hO hD
            have ⟨hc, hc2⟩ := C1.out W hB
            go_wp2
            exact ⟨_, rfl, Below.refl _ _, rfl⟩
          refine .yes rfl (fun a W Q hB hO hD => ?_) ?_
          · have e4 : a.tmps.getD 4 undef = .pointer (some ⟨w.heap.size, 0, none⟩) := hO.slot 4 _ rfl rfl
            clear hO hD
            have ⟨hc, hc2⟩ := C2.out W hB
            go_wp2
            exact ⟨_, rfl, Below.refl _ _, rfl⟩
          refine .yes rfl (fun a W Q hB hO hD => ?_) ?_
          · have e40 : a.tmps.getD 40 undef = .func (.func 42) #[] #[] := hD 5 rfl
            have e44 : a.tmps.getD 44 undef = .agg #[.int .i64 x0, .int .i64 x1] := hD 9 rfl
            have e45 : a.tmps.getD 45 undef = .agg #[.int .i64 t0, .int .i64 t1] := hD 10 rfl
            clear hO hD
            have HC := Lib.hid (compareE_any (x0, x1) (t0, t1) W)
            rw [HR.out] at HC
            have eg := entersC
            go_wp2_with (go_at_fn 42; refine HC.out.mono ?_; rintro e w' ⟨rfl, nq, osq, rfl⟩)
            exact ⟨_, rfl, below_grow _ _ _, rfl⟩
          refine .yes rfl (fun a W Q hB hO hD => ?_) ?_
          · have e46 : a.tmps.getD 46 undef = .int .i64 r := hD 11 rfl
            clear hO hD
            have hs := HS.out
            go_wp2
            exact ⟨_, rfl, Below.refl _ _, rfl⟩
          refine .yes rfl (fun a W Q hB hO hD => ?_) ?_
          · have e39 : a.tmps.getD 39 undef = .bool true := hD 4 rfl
            have e47 : a.tmps.getD 47 undef = .bool s := hD 12 rfl
            clear hO hD
            go_wp2
            exact ⟨_, rfl, Below.refl _ _, rfl⟩
          refine .yes rfl (fun a W Q hB hO hD => ?_) ?_
          · have e35 : a.tmps.getD 35 undef = .int .i64 (lo : Nat) := hD 0 rfl
            clear hO hD
            go_wp2
            exact ⟨_, rfl, Below.refl _ _, rfl⟩
          refine .yes rfl (fun a W Q hB hO hD => ?_) ?_
          · have e48 : a.tmps.getD 48 undef = .bool s := hD 13 rfl
            clear hO hD
            go_wp2
            exact ⟨_, rfl, Below.refl _ _, rfl⟩
          exact .nil
        · intro f V hBz hR
          have e13 : f 15 = .bool s := hR 15 (by decide)
          have e0 : f 14 = .int .i64 (lo : Nat) := hR 14 (by decide)
          have HB2 := Lib.hid (HB.out.trans (hBz.mono HB.out.size))
          clear hR hBz
          simp only [putAll, Nat.zero_add, Nat.reduceAdd, Act.put, List.setIfInBounds_toArray, List.set_cons_zero, List.set_cons_succ, e13, e0]
          go_wp2
          go_ret2
          exact ⟨_, by rw [HF.out]; rfl, HB0.out.trans (HB2.out.mono HB0.out.size)⟩
      · obtain rfl : lo = n := by omega
        have HD := Lib.hid (show decide (lo < lo) = false by simp)
        have HF := Lib.hid (show E.contains (t0, t1) = false from (HSK.out.lost (by have := H1.out.len; omega)).symm)
        go_wp2_with fail
        refine region_posts (by kernel_rfl) (tblB9 lo) (by kernel_rfl) ?_ ?_
        · skip
          refine .yes rfl (fun a W Q hB hO hD => ?_) ?_
          · have e9 : a.tmps.getD 9 undef = .int .i64 (lo : Nat) := hO.slot 9 _ rfl rfl
            clear hO hD
            go_wp2
            exact ⟨_, rfl, Below.refl _ _, rfl⟩
          refine .yes rfl (fun a W Q hB hO hD => ?_) ?_
          · have e9 : a.tmps.getD 9 undef = .int .i64 (lo : Nat) := hO.slot 9 _ rfl rfl
            clear hO hD
            go_wp2
            exact ⟨_, rfl, Below.refl _ _, rfl⟩
          refine .yes rfl (fun a W Q hB hO hD => ?_) ?_
          · have e8 : a.tmps.getD 8 undef = .int .i64 (lo : Nat) := hO.slot 8 _ rfl rfl
            clear hO hD
            go_wp2
            exact ⟨_, rfl, Below.refl _ _, rfl⟩
          refine .yes rfl (fun a W Q hB hO hD => ?_) ?_
          · have e36 : a.tmps.getD 36 undef = .int .i64 (lo : Nat) := hD 1 rfl
            have e37 : a.tmps.getD 37 undef = .int .i64 (lo : Nat) := hD 2 rfl
            clear hO hD
            have hh := HD.out
            go_wp2
            exact ⟨_, rfl, Below.refl _ _, rfl⟩
          refine .yes rfl (fun a W Q hB hO hD => ?_) ?_
          · have e38 : a.tmps.getD 38 undef = .bool false := hD 3 rfl
            clear hO hD
            go_wp2
            exact ⟨_, rfl, Below.refl _ _, rfl⟩
          refine .no rfl (fun W => trivial) ?_
          refine .no rfl (fun W => trivial) ?_
          refine .no rfl (fun W => trivial) ?_
          refine .no rfl (fun W => trivial) ?_
          refine .no rfl (fun W => trivial) ?_
          refine .no rfl (fun W => trivial) ?_
          refine .no rfl (fun W => trivial) ?_
          refine .no rfl (fun W => trivial) ?_
          refine .yes rfl (fun a W Q hB hO hD => ?_) ?_
          · have e39 : a.tmps.getD 39 undef = .bool false := hD 4 rfl
            clear hO hD
            go_wp2
            exact ⟨_, rfl, Below.refl _ _, rfl⟩
          refine .yes rfl (fun a W Q hB hO hD => ?_) ?_
          · have e35 : a.tmps.getD 35 undef = .int .i64 (lo : Nat) := hD 0 rfl
            clear hO hD
            go_wp2
            exact ⟨_, rfl, Below.refl _ _, rfl⟩
          refine .yes rfl (fun a W Q hB hO hD => ?_) ?_
          · have e48 : a.tmps.getD 48 undef = .bool false := hD 13 rfl
            clear hO hD
            go_wp2
            exact ⟨_, rfl, Below.refl _ _, rfl⟩
          exact .nil
        · intro f V hBz hR
          have e13 : f 15 = .bool false := hR 15 (by decide)
          have e0 : f 14 = .int .i64 (lo : Nat) := hR 14 (by decide)
          have HB2 := Lib.hid (HB.out.trans (hBz.mono HB.out.size))
          clear hR hBz
          simp only [putAll, Nat.zero_add, Nat.reduceAdd, Act.put, List.setIfInBounds_toArray, List.set_cons_zero, List.set_cons_succ, e13, e0]
          go_wp2
          go_ret2
          exact ⟨_, by rw [HF.out]; rfl, HB0.out.trans (HB2.out.mono HB0.out.size)⟩
end Go.Proofs.YtljihclpgpmfeaaDoor
/- Walk: graph.Has. -/
namespace Go.Proofs.YtljihclpgpmfeaaDoor
set_option maxRecDepth 100000
open Go.RowKit

def hasG (N : Int) (E : List (Int × Int)) (a b : Int) : Bool := rightG N E && E.contains (min a b, max a b)
theorem rightG_len {N : Int} {E : List (Int × Int)} (h : rightG N E = true) : E.length ≤ 594 := by
  unfold rightG at h
  rw [Bool.and_eq_true, Bool.and_eq_true, Bool.and_eq_true, decide_eq_true_eq, decide_eq_true_eq, decide_eq_true_eq] at h
  exact h.1.2
set_option maxRecDepth 100000 in
set_option maxHeartbeats 4000000 in
theorem has_any (N : Int) (A : Option Addr) (n c : Nat) (E : List (Int × Int)) (a b : Int) (w : World) (h : ArgE w A n c E) :
    Calls Tryd.prog 20 #[.agg #[.int .i64 N, .slice A n c], .int .i64 a, .int .i64 b] w fun e w' => e = .returned (.bool (hasG N E a b)) ∧ Below w.heap.size w w' := by
  have HB0 := Lib.hid (alloc_below w (.cells #[.int .i64 N, .slice A n c] 26))
  have HA := Lib.hid (h.keep HB0.out)
  have G0 := Lib.hid (Own.new' (t := 26) (w := w) (vs := [.int .i64 N, .slice A n c]) rfl)
  clear h
  have HR := Lib.hid (rightG_any N A n c E _ HA.out)
  obtain ⟨r, hr⟩ : ∃ r, rightG N E = r := ⟨_, rfl⟩
  have RG := Lib.hid hr
  rw [hr] at HR
  clear hr
  go_enter Tryd.func20, Tryd.ntmps20
  go_wp2_with fail
  refine HR.out.mono ?_
  rintro e w1 ⟨rfl, hb⟩
  have OG := Lib.hid (G0.out.below' hb)
  have HA1 := Lib.hid (HA.out.keep hb)
  have HB1 := Lib.hid (HB0.out.trans (hb.mono HB0.out.size))
  have g0 : w1.cell? ⟨w.heap.size, 0, none⟩ = some (.int .i64 N) := OG.out.cell 0
  have g1 : w1.cell? ⟨w.heap.size, 1, none⟩ = some (.slice A n c) := OG.out.cell 1
  have zg := OG.out.lt
  clear hb
  cases r with
  | false =>
    have HX := Lib.hid (show hasG N E a b = false by unfold hasG; rw [RG.out]; rfl)
    go_wp2
    go_ret
    exact ⟨by rw [HX.out]; rfl, HB1.out⟩
  | true =>
    have HX := Lib.hid (show hasG N E a b = E.contains (min a b, max a b) by unfold hasG; rw [RG.out]; rfl)
    obtain ⟨p0, hp0⟩ : ∃ p, min a b = p := ⟨_, rfl⟩
    obtain ⟨p1, hp1⟩ : ∃ p, max a b = p := ⟨_, rfl⟩
    rw [hp0, hp1] at HX
    go_wp2_with fail
    refine (searchE_any A n c E p0 p1 _ HA1.out (rightG_rises RG.out) (by have := rightG_len RG.out; have := HA1.out.len; omega)).mono ?_
    rintro e w2 ⟨i, rfl, hb⟩
    rw [← HX.out]
    have HB2 := Lib.hid (HB1.out.trans (hb.mono HB1.out.size))
    clear hb
    go_wp2
    go_ret
    exact ⟨rfl, HB2.out⟩
end Go.Proofs.YtljihclpgpmfeaaDoor
