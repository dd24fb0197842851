/- parts: Each. No condition but the text's size. -/
import Derived.Test.YtcpmgnejbfnnjaaPtT
import Derived.Test.YtcpmgnejbfnnjaaRng2
namespace Go.Proofs.Ytcpmgnejbfnnjaa
open Go.RowKit Go.Shelf

attribute [local go_sem] Oper.semAt_some

theorem Each_any (s : ByteArray) (w : World) :
    Calls Try.prog 32 #[.string s] w fun e w' => e = .returned (.func (.func 43) #[] #[.pointer (some ⟨w.heap.size, 0, none⟩)]) ∧
      w'.cell? ⟨w.heap.size, 0, none⟩ = some (.string s) ∧ w'.heap.size = w.heap.size + 1 ∧ Below w.heap.size w w' := by
  have hm := hmfP
  go_enter Try.func32, Try.ntmps32
  go_wp2
  go_ret
  refine ⟨rfl, ?_, by simp, (Below.refl _ _).alloc (Nat.le_refl _) _⟩
  rw [World.cell?_alloc_at _ _ _ _ rfl]; rfl

set_option maxRecDepth 100000 in
set_option maxHeartbeats 4000000 in
theorem each43_seqD (n : Nat) (hn : 2 ≤ n) (bs : Nat) (s : ByteArray) (hs : s.size ≤ 1000000) (w : World) (hc : w.cell? ⟨bs, 0, none⟩ = some (.string s)) :
    SeqD Fence.wide n 2 Try.prog 43 #[.pointer (some ⟨bs, 0, none⟩)] (fun x : ByteArray => #[Value.string x]) (fun z => KpE (z + 1) (z + 2) z s (.int .i64 0)) (fun z b => b = z) (fun z => z + 3) (fun xs _ => xs = PartsOf s) (fun pre => pre <+: PartsOf s) (PartsOf s).length w := by
  intro l J Jx W hW hJ hJx hL hY h0
  have hn1 : 1 ≤ n := by omega
  have hcw : W.cell? ⟨bs, 0, none⟩ = some (.string s) := (hW.cell (p := ⟨bs, 0, none⟩) (World.block_lt_of_cell? _ _ hc)).trans hc
  have hlt : bs < W.heap.size := World.block_lt_of_cell? _ _ hcw
  have HL := Lib.hid (fun w => each_any s W.heap.size w)
  refine callsIn_of_wp Try.func43 rfl trivial ?_ rfl
  simp only [Try.ntmps43, List.size_toArray, List.length_cons, List.length_nil, Nat.reduceAdd, Nat.reduceSub, Array.replicate_succ, Array.replicate_zero, List.push_toArray, List.append_toArray, List.nil_append, List.cons_append]
  have HJ0 := Lib.hid (abide_below hJ h0 ((Below.refl W.heap.size W).alloc (Nat.le_refl _) (.cells #[.int .i64 0] 3)))
  have HC : Hid (∀ (w1 : World), w1.heap.size = W.heap.size + 1 + 2 → J [] w1 → Env (W.heap.size + 1) (W.heap.size + 1 + 1) W.heap.size s (.int .i64 0) w1 → CallsIn Fence.wide (n - 1) Try.prog 45 #[.func (.yield l) #[] #[], .pointer (some ⟨W.heap.size + 1, 0, none⟩), .pointer (some ⟨W.heap.size + 1 + 1, 0, none⟩)] w1 fun e W' => (∃ v, e = .returned v) ∧ ((∃ xs, xs = PartsOf s ∧ J xs W') ∨ ∃ pre, pre <+: PartsOf s ∧ Jx pre W')) := fun w1 h1 h2 h3 => by
    refine (each1_in (n - 1) (by omega) l (W.heap.size + 1) (W.heap.size + 1 + 1) W.heap.size s hs (.int .i64 0) (KpE (W.heap.size + 1) (W.heap.size + 2) W.heap.size s (.int .i64 0)) (fun _ _ h => h.1) (fun pre X => J pre X ∧ W.heap.size + 3 ≤ X.heap.size) Jx W.heap.size
      (fun pre X X' row hs hg hr => ⟨hJ pre X X' row hs.1 hg hr, Nat.le_trans hs.2 hg.size⟩) (fun pre X v h => ⟨hL pre X W.heap.size v rfl h.1, by simpa [World.setCell] using h.2⟩)
      (fun pre x X h hp => ?_) w1 h3 ⟨h2, by omega⟩).mono ?_
    · obtain ⟨fn, tmps, assign, body, hy, hR⟩ := hY pre x X h.1 (by have := hp.length_le; simp at this; omega) h.2
      refine ⟨fn, tmps, assign, body, hy, hR.mono ?_⟩
      rintro e W' (⟨h4, h5, h6⟩ | h4)
      · exact .inl ⟨h4, ⟨h5, Nat.le_trans h.2 h6.2⟩, h6⟩
      · exact .inr h4
    · rintro e W' ⟨h4, ⟨ys, ⟨h5, _⟩, h6, _⟩ | h5⟩
      · exact ⟨h4, .inl ⟨ys, h5, h6⟩⟩
      · exact ⟨h4, .inr h5⟩
  clear hY h0 hJx
  gi_wp2_with (first | (refine ⟨trivial, ?_⟩; gi_at_call 39; refine (callsIn_wide.2 (HL.out _)).mono ?_; rintro e w1 ⟨rfl, hcx, hcy, hz1, hb1⟩; simp only [World.size_alloc] at hcx hcy hz1 hb1) | (refine ⟨trivial, ?_⟩; gi_at_call 45; refine (HC.out w1 hz1 (hJ [] _ _ none HJ0.out ⟨hb1.os, hb1.tape, hb1.output, hb1.size, fun k hk _ => hb1.block k (by simpa using hk)⟩ (fun r e => by cases e)) ⟨hcx, hcy, (hb1.cell (p := ⟨W.heap.size, 0, none⟩) (by show W.heap.size < _; omega)).trans (by rw [World.cell?_alloc_at _ _ _ _ rfl]; rfl), (hb1.frozen (p := ⟨W.heap.size, 0, none⟩) (by show W.heap.size < _; omega)).trans (by simp)⟩).mono ?_; rintro e w2 ⟨⟨v, rfl⟩, hD⟩))
  go_end0
  exact ⟨⟨_, rfl⟩, hD⟩
end Go.Proofs.Ytcpmgnejbfnnjaa
