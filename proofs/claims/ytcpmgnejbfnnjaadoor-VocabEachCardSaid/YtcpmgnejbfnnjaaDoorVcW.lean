/- vocab: VocabTells, the walk. No condition but the library's table. -/
import Derived.Test.YtcpmgnejbfnnjaaDoorVcS
namespace Go.Proofs.YtcpmgnejbfnnjaaDoor
open Go.RowKit Go.Shelf

theorem bel_next {a b c : World} (h : Below a.heap.size a b) (k : Below b.heap.size b c) : Below a.heap.size a c := h.trans (k.mono h.size)

set_option maxRecDepth 100000 in
set_option maxHeartbeats 4000000 in
theorem tells_walk (k : Int) (s : ByteArray) (t : Nat) (ht : t < 256) (w : World) (hT : SpT w) : Calls Tryd.prog 7 #[.int .i64 k, .string s, .int .u8 (t : Int)] w fun e w' => e = .returned (.bool true) ∧ Below w.heap.size w w' := by
  have c22 := Lib.hid (fun w h => token_any k s w h)
  have c22b := Lib.hid (fun w h => token_any 0 { data := #[83, 121, 110, 99] } w h)
  rw [tok_sync] at c22b
  have c23 := Lib.hid (fun w => refToken_any k s w)
  have c14 := Lib.hid (fun w h => vname_any k t w h)
  have c13 := Lib.hid (fun w => refName_any k t ht w)
  have c24 := Lib.hid (fun w => space_any k w)
  have c25 := Lib.hid (fun w => refSpace_any k w)
  have c26 := Lib.hid (fun w => page_any s w)
  have c27 := Lib.hid (fun w => refPage_any s w)
  generalize tokV k s = v1 at *
  generalize nameV k t = v2 at *
  generalize spc k = v3 at *
  generalize pagV s = v4 at *
  have hq2 := (str_is v2 v2).2 rfl
  have hq3 := (str_is v3 v3).2 rfl
  have HT := Lib.hid hT
  clear hT
  go_enter Tryd.func7, Tryd.ntmps7
  go_wp2_with (first | (go_at_call 22; (with_reducible refine (c22.out _ HT.out).mono ?_); rintro e w1 ⟨rfl, hb1⟩; have HT1 := Lib.hid (HT.out.below hb1 HT.out.lt)) | (go_at_call 23; refine (c23.out _).mono ?_; rintro e w2 ⟨rfl, hb2⟩; have HT2 := Lib.hid (HT1.out.below hb2 HT1.out.lt)) | (go_at_call 14; refine (c14.out _ HT2.out).mono ?_; rintro e w3 ⟨rfl, hb3⟩; have HT3 := Lib.hid (HT2.out.below hb3 HT2.out.lt)) | (go_at_call 13; refine (c13.out _).mono ?_; rintro e w4 ⟨rfl, hb4⟩; have HT4 := Lib.hid (HT3.out.below hb4 HT3.out.lt)) | (go_at_call 24; refine (c24.out _).mono ?_; rintro e w8 ⟨rfl, rfl⟩) | (go_at_call 25; refine (c25.out _).mono ?_; rintro e w9 ⟨rfl, rfl⟩) | (go_at_call 26; refine (c26.out _).mono ?_; rintro e w5 ⟨rfl, hb5⟩; have HT5 := Lib.hid (HT4.out.below hb5 HT4.out.lt)) | (go_at_call 27; refine (c27.out _).mono ?_; rintro e w6 ⟨rfl, hb6⟩; have HT6 := Lib.hid (HT5.out.below hb6 HT5.out.lt)) | (go_at_call 22; refine (c22b.out _ HT6.out).mono ?_; rintro e w7 ⟨rfl, hb7⟩))

  go_ret
  exact ⟨rfl, bel_next (bel_next (bel_next (bel_next (bel_next (bel_next hb1 hb2) hb3) hb4) hb5) hb6) hb7⟩
end Go.Proofs.YtcpmgnejbfnnjaaDoor
