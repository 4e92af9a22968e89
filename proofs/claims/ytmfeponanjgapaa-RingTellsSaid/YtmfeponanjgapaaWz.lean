/- Walks: fretworkref16.four, Bytes. -/
import Derived.Test.YtmfeponanjgapaaWy
namespace Go.Proofs.Ytmfeponanjgapaa
open Go.RowKit

theorem RowB.base {B B' : Nat} {W : World} {v : Value} {l : List UInt8} (h : RowB B W v l) (hB : B' ≤ B) : RowB B' W v l := by
  rcases h with h | ⟨g, cap, more, e, hg, h⟩
  · exact .inl h
  · exact .inr ⟨g, cap, more, e, Nat.le_trans hB hg, h⟩
set_option maxRecDepth 100000 in
theorem four_any (n : Nat) (w : World) (hn : n ≤ 1000) : Calls Try.prog 32 #[.int .i64 n] w (FreshY w (four n)) := by
  have e1 : (n : Int) / 16777216 % 256 = (n : Int) / 16777216 := by omega
  have e2 : (n : Int) / 65536 % 256 = (n : Int) / 65536 := by omega
  have e3 : (n : Int) / 256 % 256 = (n : Int) / 256 := by omega
  go_enter Try.func32, Try.ntmps32
  go_wp2
  go_ret
  have HX : Own (w.alloc (.cells #[.int .u8 ((n : Int) / 16777216), .int .u8 ((n : Int) / 65536), .int .u8 ((n : Int) / 256), .int .u8 ((n : Int) % 256)] 5)) w.heap.size 5 (cellsB (four n)) := by rw [four_cells hn]; exact Own.new w _ _
  exact ⟨_, rfl, .inr ⟨w.heap.size, 4, [], rfl, Nat.le_refl _, by rw [List.append_nil]; exact HX, by simp [four], by unfold maxLen; omega, by rw [List.append_nil, length_cellsB]; rfl⟩, alloc_below _ _⟩
def BytR (w : World) (n : Nat) (ws : List (List UInt8)) (s3 s4 : Value) (wr : World) : Prop := ∃ k : Nat, k ≤ n ∧ s4 = .int .i64 k ∧ RowB w.heap.size wr s3 (bytesK ws k) ∧ Below w.heap.size w wr
set_option maxRecDepth 100000 in
set_option maxHeartbeats 4000000 in
theorem refBytes_any (A : Option Addr) (c n : Nat) (ws : List (List UInt8)) (w : World) (hr : RdW w A ws) (hl : n = ws.length) (hn : n ≤ 60) (hs : ∀ l ∈ ws, l.length ≤ 60) :
    Calls Try.prog 20 #[.slice A n c] w (FreshY w (bytesW ws)) := by
  have HR := Lib.hid hr
  have HL := Lib.hid hl; have HS := Lib.hid hs
  clear hr hl hs
  go_enter Try.func20, Try.ntmps20
  go_wp2_with fail
  refine (four_any n w (by omega)).mono ?_
  rintro e w1 ⟨v1, rfl, hr1, hb1⟩
  have HR1 := Lib.hid (show RowB w.heap.size w1 v1 (bytesK ws 0) by unfold bytesK; rw [List.take_zero, List.flatMap_nil, List.append_nil, ← HL.out]; exact hr1)
  have HB1 := Lib.hid hb1
  clear hr1 hb1
  go_wp2
  go_loopw [3, 4] (fun s3 s4 wr => BytR w n ws s3 s4 wr) (fun _ s4 _ => n - (intOf s4).toNat)
  case atStart => exact ⟨0, Nat.zero_le _, rfl, HR1.out, HB1.out⟩
  case round =>
    obtain ⟨k, hk, rfl, hrow, hbw⟩ := hrel
    have HB := Lib.hid hbw; have HW := Lib.hid hrow
    clear hbw hrow HR1 HB1
    by_cases hlt : k < n
    · obtain ⟨b, off, B', c', l, rfl, hbl, hl, hcell, hrl⟩ := HR.out.word (j := k) (by have := HL.out; omega)
      have hl1 : l.length ≤ 60 := HS.out l (List.mem_of_getElem? hl)
      have hlen := bytesK_len HS.out k
      have HT := Lib.hid (bytesK_step hl)
      have HC := Lib.hid hcell; have HRL := Lib.hid hrl
      have hc := hcell wr HB.out
      clear hl hcell hrl
      go_wp2_with fail
      refine (four_any l.length wr (by omega)).mono ?_
      rintro e w2 ⟨v2, rfl, hr2, hb2⟩
      obtain ⟨A2, c2, rfl, hd2⟩ := hr2.rd
      have h4 : (four l.length).length = 4 := rfl
      have HD2 := Lib.hid hd2; have HW2 := Lib.hid (HW.out.below hb2); have HB2 := Lib.hid (HB.out.trans (hb2.mono HB.out.size))
      have hbs := HB2.out.size
      clear hr2 hd2 hb2 HW HB hc
      go_wp2_with (at_builtin; refine wpList_append_bytes rfl (.tmp 14) (.tmp 20) rfl A2 _ c2 (k := four l.length) rfl rfl HW2.out rfl HD2.out (by omega) hbs ?_)
      intro v3 w3 hr3 hb3 _
      have HW3 := Lib.hid hr3; have HB3 := Lib.hid (HB2.out.trans hb3)
      have hbs3 := HB3.out.size
      have hc3 := HC.out w3 HB3.out
      have HRL3 := Lib.hid (HRL.out.below HB3.out)
      have hlen2 : (bytesK ws k ++ four l.length).length ≤ 8 + 64 * k := by rw [List.length_append]; omega
      clear hr3 hb3 HW2 HB2 hbs HD2
      go_wp2_with (at_builtin; refine wpList_append_bytes rfl (.tmp 22) (.tmp 26) rfl B' l.length c' (k := l) rfl rfl HW3.out rfl HRL3.out (by omega) hbs3 ?_)
      intro v4 w4 hr4 hb4 _
      have HR4 := Lib.hid (show RowB w.heap.size w4 v4 (bytesK ws (k + 1)) by rw [HT.out, List.append_assoc]; exact hr4)
      have HB4 := Lib.hid (HB3.out.trans hb4)
      clear hr4 hb4 hc3
      go_wp2
      go_roundw
      case rel => exact ⟨k + 1, by omega, by go_num, HR4.out, HB4.out⟩
      case measure => simp [intOf]; omega
    · obtain rfl : k = n := by omega
      have HT := Lib.hid (show bytesK ws k = bytesW ws by unfold bytesK bytesW; rw [List.take_of_length_le (by have := HL.out; omega)])
      go_wp2
      go_ret
      exact ⟨_, rfl, by rw [← HT.out]; exact HW.out, HB.out⟩
end Go.Proofs.Ytmfeponanjgapaa
