/- Walks: words. -/
import Derived.Test.YtmfeponanjgapaaWf
import Derived.Laws.IdiomStrings
namespace Go.Proofs.Ytmfeponanjgapaa
open Go.RowKit

/-- []byte of a string. -/
theorem conv_str (w : World) (l : List UInt8) : ∃ cp more fr, (convert 9 36 (.string (strB l))).run Try.prog w = .ok (.slice (some ⟨w.heap.size, 0, none⟩) l.length cp) (w.drew.alloc (.cells (cellsB l ++ more).toArray 5 fr)) := by
  have h := run_bytes_of_string (P := Try.prog) w 9 36 5 (strB l) Try.underlying9 Try.underlying36 Try.underlying5
  rw [strB_size] at h
  have e : (cellsB l ++ List.replicate (grownCap w l.length 0 5 - l.length) (Value.int .u8 0)).toArray = bytesRow (strB l) (grownCap w l.length 0 5) := by
    unfold bytesRow cellsB Lib.numsL
    rw [strB_size]
    simp [strB]
  rw [← e] at h
  exact ⟨_, _, _, h⟩
theorem cell_one_new' {w : World} {g : Nat} (x : Value) (t : TypeId) (h : g = w.heap.size) : ∀ j u, [x][j]? = some u → (w.alloc (.cells #[x] t)).cell? ((⟨g, 0, none⟩ : Addr).add j) = some u := by
  subst h
  exact cell_one_new _ _ _
theorem strB_slice {l : List UInt8} {k : Nat} {a : UInt8} (h : l[k]? = some a) : (strB l).extract k (k + 1) = strB [a] := by
  obtain ⟨hk, rfl⟩ := List.getElem?_eq_some_iff.1 h
  apply ByteArray.ext
  apply Array.ext'
  simp [strB]
  apply List.ext_getElem?
  intro i
  rw [List.getElem?_take, List.getElem?_drop]
  by_cases h0 : i = 0
  · subst h0; simp [hk]
  · rw [if_neg (by omega)]
    simp
    omega
theorem strB_sizeI (l : List UInt8) : ((strB l).size : Int) = (l.length : Int) := by rw [strB_size]
theorem wdo_new (w : World) (l : List UInt8) (mr : List Value) (fr : Nat × Nat) (cp : Nat) (o : Obj) : WdO ((w.alloc (.cells (cellsB l ++ mr).toArray 5 fr)).alloc o).drew (.slice (some ⟨w.heap.size, 0, none⟩) l.length cp) l := by
  have h1 : OwnM (w.alloc (.cells (cellsB l ++ mr).toArray 5 fr)) w.heap.size 5 (cellsB l ++ mr) := ⟨fr, heap_alloc_new w _⟩
  have h2 := h1.below' (alloc_below _ o)
  exact ⟨_, cp, rfl, .inr ⟨_, mr, rfl, h2⟩⟩
def WrdL (w : World) (n : Nat) (s : List UInt8) (o i : Value) (wr : World) : Prop := ∃ k : Nat, k ≤ n ∧ i = .int .i64 k ∧ RowW w.heap.size wr o ((s.map fun b => [b]).take k) ∧ Below w.heap.size w wr
set_option maxRecDepth 100000 in
set_option maxHeartbeats 4000000 in
theorem words_any (n : Nat) (s : List UInt8) (w : World) (hl : n = s.length) (hn : n ≤ 1000) :
    Calls Try.prog 21 #[.string (strB s)] w (FreshR w (s.map fun b => [b])) := by
  have HL := Lib.hid hl
  obtain ⟨S, hS⟩ : ∃ S, strB s = S := ⟨_, rfl⟩
  have HSz := Lib.hid (show S.size = n by rw [← hS, strB_size, hl])
  have hsz : S.size = n := HSz.out
  have HX := Lib.hid hS
  rw [hS]
  clear hS hl
  obtain ⟨i0, hi, hz0, hz1, hz2⟩ := info_parts infoW
  have I0 := Lib.hid hi; have I1 := Lib.hid hz0; have I2 := Lib.hid hz1; have I3 := Lib.hid hz2
  clear hi hz0 hz1 hz2
  go_enter Try.func21, Try.ntmps21
  go_wp2
  go_loopw [3, 4, 7] (fun o _ i wr => WrdL w n s o i wr) (fun _ _ i _ => n - (intOf i).toNat)
  case atStart => exact ⟨0, Nat.zero_le _, rfl, .inl ⟨rfl, rfl⟩, Below.refl _ w⟩
  case round =>
    obtain ⟨k, hk, rfl, hrow, hbw⟩ := hrel
    have HB := Lib.hid hbw
    have hb0 := hbw.size
    clear hbw
    by_cases hlt : k < n
    · obtain ⟨a, ha⟩ : ∃ l, s[k]? = some l := ⟨_, List.getElem?_eq_getElem (by have := HL.out; omega)⟩
      have hex : S.extract k (k + 1) = strB [a] := by rw [← HX.out]; exact strB_slice ha
      have HT := Lib.hid (show (s.map fun b => [b]).take k ++ [[a]] = (s.map fun b => [b]).take (k + 1) by rw [List.take_add_one, List.getElem?_map, ha]; rfl)
      have HK := Lib.hid (show ((s.map fun b => [b]).take k).length = k by rw [List.length_take, List.length_map]; have := HL.out; omega)
      obtain ⟨cp, mr, fr, hcv⟩ := conv_str wr [a]
      obtain ⟨X, hX⟩ : ∃ X, strB [a] = X := ⟨_, rfl⟩
      rw [hX] at hex hcv
      obtain ⟨OB, hOB⟩ : ∃ OB, (Obj.cells (cellsB [a] ++ mr).toArray 5 fr) = OB := ⟨_, rfl⟩
      rw [hOB] at hcv
      have HOB := Lib.hid hOB
      clear ha hX hOB
      have hba := Lib.hid (show Below wr.heap.size wr ((wr.alloc OB).alloc (.cells #[.slice (some ⟨wr.heap.size, 0, none⟩) 1 cp] 36)).drew from below_drewN (below_chain (alloc_below _ _) (alloc_below _ _)) 1)
      have HV := Lib.hid (show WdO ((wr.alloc OB).alloc (.cells #[.slice (some ⟨wr.heap.size, 0, none⟩) 1 cp] 36)).drew (.slice (some ⟨wr.heap.size, 0, none⟩) 1 cp) [a] by rw [← HOB.out]; exact wdo_new wr [a] mr fr cp _)
      have HB1 := Lib.hid (HB.out.trans (hba.out.mono hb0))
      have HN := Lib.hid (cell_one_new' (w := wr.alloc OB) (g := wr.heap.size + 1) (.slice (some ⟨wr.heap.size, 0, none⟩) 1 cp) 36 (by simp))
      rcases hrow with ⟨h0, rfl⟩ | ⟨g, cap, vs, more, rfl, hg, ho, r1, r2, r3, r4, r5⟩
      · have H0 := Lib.hid h0
        clear h0
        go_wp2_with (at_builtin; refine wpList_append_new rfl (.tmp 10) (.tmp 17) 22 rfl 36 i0 (.slice none 0 0) 1 24 Try.underlying22 I0.out I1.out I2.out I3.out rfl (by decide) rfl ⟨wr.heap.size + 1, 0, none⟩ 1 1 (by decide) [.slice (some ⟨wr.heap.size, 0, none⟩) 1 cp] rfl rfl HN.out (by simp [Value.oneCell']) (by decide) (by decide) ?_)
        intro g' cap' more' w2 hO2 hg2 hb2 h1 h2 h3
        have hb3 : Below ((wr.alloc OB).alloc (.cells #[.slice (some ⟨wr.heap.size, 0, none⟩) 1 cp] 36)).drew.heap.size ((wr.alloc OB).alloc (.cells #[.slice (some ⟨wr.heap.size, 0, none⟩) 1 cp] 36)).drew w2 := by simpa using hb2
        have hg3 : w.heap.size ≤ g' := by omega
        have hrow := Lib.hid (RowW.more (B := w.heap.size) (vs := []) (ws := (s.map fun b => [b]).take k) hg3 hO2 (by rw [H0.out]; rfl) (by have := HK.out; rw [H0.out] at this ⊢; exact h1) h2 (by simpa using h3) (fun i v l hv => by simp at hv) (HV.out.below hb3))
        have HB2 := Lib.hid (HB1.out.trans (hb3.mono HB1.out.size))
        have HR2 := Lib.hid (show RowW w.heap.size w2 (.slice (some ⟨g', 0, none⟩) 1 cap') ((s.map fun b => [b]).take (k + 1)) by
          have := hrow.out
          rw [HT.out, HK.out] at this
          have e0 : k = 0 := by have := HK.out; rw [H0.out] at this; exact this.symm
          subst e0
          exact this)
        clear hO2 hg2 hb2 hb3 h1 h2 h3 HV HB1 hrow
        go_wp2
        go_roundw
        case rel => exact ⟨k + 1, by omega, by go_num, HR2.out, HB2.out⟩
        case measure => simp [intOf]; omega
      · have HO1 := Lib.hid (ho.below' hba.out); have H1 := Lib.hid r1; have H4 := Lib.hid r4
        have H51 := Lib.hid (fun (i : Nat) (v : Value) (k : List UInt8) hv hl => (r5 i v k hv hl).below hba.out)
        have r2k : k ≤ cap := by have := HK.out; omega
        have e9 := HK.out
        rw [e9]
        clear ho r5 r1 r4 e9
        go_wp2_with (at_builtin; refine wpList_append_row rfl (.tmp 10) (.tmp 17) 22 rfl 36 i0 (.slice none 0 0) 1 24 Try.underlying22 I0.out I1.out I2.out I3.out rfl (by decide) g k cap vs more rfl HO1.out (by have := HK.out; have := H1.out; omega) r2k r3 (by rw [H4.out, Nat.mul_one]) ⟨wr.heap.size + 1, 0, none⟩ 1 1 [.slice (some ⟨wr.heap.size, 0, none⟩) 1 cp] rfl rfl HN.out (by simp [Value.oneCell']) (by unfold maxLen; omega) (by omega) ?_)
        intro g' cap' more' w2 hO2 hg2 hb2 h1 h2 h3
        have hgg : w.heap.size ≤ g' := by
          rcases hg2 with h | h
          · omega
          · omega
        have hrow := Lib.hid (RowW.more (B := w.heap.size) (vs := vs) (ws := (s.map fun b => [b]).take k) hgg (by rw [List.append_assoc]; exact hO2) H1.out (by rw [HK.out]; exact h1) h2 (by simpa using h3) (fun i v l hv hl => (H51.out i v l hv hl).grown HO1.out hb2) (HV.out.grown HO1.out hb2))
        have HB2 := Lib.hid (HB1.out.trans (grown_below hb2 (by omega) HB1.out.size))
        have HR2 := Lib.hid (show RowW w.heap.size w2 (.slice (some ⟨g', 0, none⟩) (k + 1) cap') ((s.map fun b => [b]).take (k + 1)) by
          have := hrow.out
          rw [HT.out, HK.out] at this
          exact this)
        clear hO2 hg2 hb2 h1 h2 h3 HV HB1 hrow
        go_wp2
        go_roundw
        case rel => exact ⟨k + 1, by omega, by go_num, HR2.out, HB2.out⟩
        case measure => simp [intOf]; omega
    · obtain rfl : k = n := by omega
      have HT := Lib.hid (show (s.map fun b => [b]).take k = s.map fun b => [b] by rw [List.take_of_length_le (by rw [List.length_map]; have := HL.out; omega)])
      have HW := Lib.hid hrow
      clear hrow
      go_wp2
      go_ret
      exact ⟨_, rfl, by have := HW.out; rw [HT.out] at this; exact this, HB.out⟩
end Go.Proofs.Ytmfeponanjgapaa
