/- figure.Unhex: the walk. No condition but the string's size. -/
import Derived.Test.YtiakmaleiholnaaUnhex
namespace Go.Proofs.Ytiakmaleiholnaa
open Go.RowKit

theorem ret_unh {p : List Int × Int} {l : List Int} {n : Int} (h : p = (l, n)) : Ending.returned (.tuple #[.string (strOfNums l), .int .i64 n]) = Ending.returned (.tuple #[.string (strOfNums p.1), .int .i64 p.2]) := by subst h; rfl

theorem unh_bad (s : ByteArray) (k : Nat) (h : k < s.size) (hb : hv s[k] < 0) : unh s = ([], 3) := by
  unfold unh
  rw [if_pos]
  rw [List.any_eq_true]
  refine ⟨s[k], ?_, by simpa using hb⟩
  have := bat_get s k h
  exact List.mem_of_getElem? this

theorem unh_good (s : ByteArray) (h : ∀ q ∈ s.data.toList, 0 ≤ hv q) : unh s = if s.size % 2 = 1 then ([], 1) else (pp s.data.toList, 0) := by
  unfold unh
  rw [if_neg]
  intro hx
  rw [List.any_eq_true] at hx
  obtain ⟨q, hq, hlt⟩ := hx
  have := h q hq
  simp at hlt
  omega

set_option maxHeartbeats 1000000 in
theorem unhex_any (s : ByteArray) (w : World) (hs : s.size ≤ 140737488351232) :
    Calls Try.prog 25 #[.string s] w fun e w' => e = .returned (.tuple #[.string (strOfNums (unh s).1), .int .i64 (unh s).2]) ∧ Below w.heap.size w w' := by
  go_enter Try.func25, Try.ntmps25
  go_wp2_with (with_reducible refine wpList_bytes _ rfl _ 9 43 5 rfl Try.underlying9 Try.underlying43 Try.underlying5 s rfl ?_; intro cap w1 hcap hc1 hb1 hz1 hf1)
  have hS : Src w1 w.heap.size s := hc1
  clear hc1 hf1
  go_loopw [4, 11] (fun b i wr => ∃ (k n : Nat) (ad : Option Addr) (c : Nat), k ≤ s.size ∧ n ≤ k ∧ Hid (n = (k + 1) / 2) ∧ i = .int .i64 k ∧ b = .slice ad n c ∧ wr.ownsRow w1.heap.size 5 1 (.slice ad n c) n ((pp (s.data.toList.take k)).map (Value.int .u8)) ∧ Src wr w.heap.size s ∧ Below w1.heap.size w1 wr ∧ Hid (∀ q ∈ s.data.toList.take k, 0 ≤ hv q)) (fun _ i _ => s.size - (intOf i).toNat)
  case atStart => exact ⟨0, 0, _, _, Nat.zero_le _, Nat.zero_le _, rfl, rfl, rfl, by simpa [pp] using World.ownsRow_nil w1 w1.heap.size 5 1, hS, Below.refl _ _, fun q hq => by simp at hq⟩
  case round =>
    obtain ⟨k, n, ad, c, hk, hnk, HN, rfl, rfl, hown, hS, hb, HG⟩ := hrel
    by_cases hlt : k < s.size
    · have hc0 := hS k hlt
      have hub : s[k].toNat < 256 := UInt8.toNat_lt _
      have HT := Lib.hid (take_snoc s k hlt)
      have HL := Lib.hid (take_len s k hk)
      have HX := Lib.hid hown
      have HS := Lib.hid hS
      have HB := Lib.hid hb
      have hbd := hv_bd s[k]
      have HBad := Lib.hid (fun h => unh_bad s k hlt h)
      have hbsz := hb.size
      clear hown hS hb
      generalize hq : s[k] = q at *
      clear hq
      by_cases hneg : hv q < 0
      · go_wp2_with (go_at_call 53; with_reducible refine (idx_hex q _).mono ?_; rintro e w' ⟨rfl, rfl⟩)
        go_ret2
        exact ⟨ret_unh (HBad.out hneg), hb1.trans (HB.out.mono hb1.size)⟩
      · by_cases hev : k % 2 = 0
        · have hevb : ((k : Int) % 2 == 0) = true := by simp; omega
          have g1 : n + 1 ≤ maxLen := by simp [maxLen]; omega
          have g2 : (n + 1) * 1 ≤ 140737488355328 := by omega
          have g3 : w1.heap.size ≤ wr.heap.size := hbsz
          have hp0 : 0 ≤ hv q := by omega
          have HNE : Hid ((Value.slice ad n c).ownBlock ≠ some w.heap.size) := by
            intro e; have := (HX.out.lt _ e).1; omega
          have HE := Lib.hid hev
          clear hneg hev
          go_wp2_with (first
            | (go_at_call 53; with_reducible refine (idx_hex q _).mono ?_; rintro e w' ⟨rfl, rfl⟩)
            | (at_builtin; refine wpList_app1 _ _ rfl _ _ 43 5 _ _ S43 rfl w1.heap.size (.slice ad n c) _ _ rfl rfl rfl HX.out g1 g2 g3 ?_; intro a' c' w3 h1 h2 h3 h4))
          have HO : Hid (w3.ownsRow w1.heap.size 5 1 (.slice a' (n + 1) c') (n + 1) ((pp (s.data.toList.take (k + 1))).map (Value.int .u8))) := by
            unfold Hid; rw [HT.out, pp_even _ _ (by rw [HL.out]; exact HE.out), List.map_append]; exact h1
          have HS2 : Hid (Src w3 w.heap.size s) := (HS.out.below h4 hz1)
          have HB2 : Hid (Below w1.heap.size w1 w3) := HB.out.trans h4
          have HG2 : Hid (∀ q ∈ s.data.toList.take (k + 1), 0 ≤ hv q) := by
            unfold Hid; rw [HT.out]; intro x hx
            rcases List.mem_append.1 hx with h | h
            · exact HG.out x h
            · simp at h; rw [h]; exact hp0
          have HN2 : Hid (n + 1 = (k + 1 + 1) / 2) := by have := HE.out; unfold Hid; rw [HN.out]; omega
          clear h1 h2 h3 h4
          refine ⟨⟨k + 1, n + 1, a', c', by omega, by omega, HN2, by go_num, rfl, HO.out, HS2.out, HB2.out, HG2⟩, by simp [intOf]; omega⟩
        · have hevb : ((k : Int) % 2 == 0) = false := by simp; omega
          obtain ⟨m, rfl⟩ : ∃ m, n = m + 1 := ⟨n - 1, by have := HN.out; omega⟩
          obtain ⟨g, rfl⟩ : ∃ g, ad = some ⟨g, 0, none⟩ := by
            rcases HX.out.2 with ⟨h, h1⟩ | ⟨g, cap, cur, h, _⟩
            · exact absurd h1 (by omega)
            · simp only [Value.slice.injEq] at h; exact ⟨g, h.1⟩
          have hm : m = (s.data.toList.take k).length / 2 := by have := HN.out; rw [HL.out]; omega
          have hodd : (s.data.toList.take k).length % 2 = 1 := by rw [HL.out]; omega
          have hlastmem : ∃ z, (s.data.toList.take k)[(s.data.toList.take k).length - 1]? = some z ∧ 0 ≤ hv z := by
            have hl2 : (s.data.toList.take k).length - 1 < (s.data.toList.take k).length := by omega
            exact ⟨_, List.getElem?_eq_getElem hl2, HG.out _ (List.getElem_mem hl2)⟩
          obtain ⟨z, hz, hz0⟩ := hlastmem
          have hzb := (hv_bd z).2
          have hlast := pp_last _ hodd
          have hset := pp_odd (s.data.toList.take k) q hodd
          rw [hz] at hlast hset
          simp only [Option.getD_some] at hlast hset
          rw [← hm] at hlast hset
          rw [← HT.out] at hset
          have hcl : wr.cell? ⟨g, m, none⟩ = some (.int .u8 (hv z * 16)) := by
            rw [HX.out.cellAt m (by omega), List.getElem?_map, hlast]; rfl
          have hfl : wr.frozen? ⟨g, m, none⟩ = false := HX.out.frozenAt m
          have hbg := (HX.out.lt g rfl).1
          have hor := or_low (hv z) (hv q) hz0 hzb (by omega) (by omega)
          have HO : Hid ((wr.setCell ⟨g, m, none⟩ (.int .u8 (hv z * 16 + hv q))).ownsRow w1.heap.size 5 1 (.slice (some ⟨g, 0, none⟩) (m + 1) c) (m + 1) ((pp (s.data.toList.take (k + 1))).map (Value.int .u8))) := by
            have := (HX.out.stored m (.int .u8 (hv z * 16 + hv q))).1
            unfold Hid; rw [hset, List.map_set]; exact this
          have HS2 : Hid (Src (wr.setCell ⟨g, m, none⟩ (.int .u8 (hv z * 16 + hv q))) w.heap.size s) := HS.out.below ((Below.refl w1.heap.size wr).setCell (p := ⟨g, m, none⟩) hbg _) hz1
          have HB2 : Hid (Below w1.heap.size w1 (wr.setCell ⟨g, m, none⟩ (.int .u8 (hv z * 16 + hv q)))) := HB.out.setCell (p := ⟨g, m, none⟩) hbg _
          have HG2 : Hid (∀ q ∈ s.data.toList.take (k + 1), 0 ≤ hv q) := by
            unfold Hid; rw [HT.out]; intro x hx
            rcases List.mem_append.1 hx with h | h
            · exact HG.out x h
            · simp at h; rw [h]; omega
          have HN2 : Hid (m + 1 = (k + 1 + 1) / 2) := by unfold Hid; rw [HN.out]; omega
          have hq15 := hbd.2
          have hq0 : 0 ≤ hv q := by omega
          have HM := Lib.hid hm
          clear hset hlast hz hm hodd hneg hev hbd
          go_wp2_with (go_at_call 53; with_reducible refine (idx_hex q _).mono ?_; rintro e w' ⟨rfl, rfl⟩)
          refine ⟨⟨k + 1, m + 1, some ⟨g, 0, none⟩, c, by omega, by omega, HN2, by go_num, rfl, HO.out, HS2.out, HB2.out, HG2⟩, by simp [intOf]; omega⟩
    · obtain rfl : k = s.size := by omega
      have hg := unh_good s (by have := HG.out; rw [take_all] at this; exact this)
      have HB := Lib.hid (hb1.trans (hb.mono hb1.size))
      rw [take_all] at hown
      clear hb hS HG
      by_cases hodd : s.size % 2 = 1
      · have hob : ((s.size : Int) % 2 != 0) = true := by simp; omega
        rw [if_pos hodd] at hg
        have HG := Lib.hid hg
        clear hg hodd
        go_wp2_with fail
        go_ret2
        exact ⟨ret_unh HG.out, HB.out⟩
      · have hob : ((s.size : Int) % 2 != 0) = false := by simp; omega
        rw [if_neg hodd] at hg
        have HG := Lib.hid hg
        clear hg hodd
        go_wp2_with (with_reducible refine wpList_str _ rfl _ 43 9 5 rfl Try.underlying43 Try.underlying9 Try.underlying5 w1.heap.size _ _ _ _ rfl hown ?_)
        go_ret2
        exact ⟨ret_unh HG.out, HB.out⟩
end Go.Proofs.Ytiakmaleiholnaa
