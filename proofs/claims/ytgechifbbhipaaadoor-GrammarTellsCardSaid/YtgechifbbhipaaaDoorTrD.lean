/- tree: the program's Node. No condition but how many. -/
import Derived.Test.YtgechifbbhipaaaDoorTrN
import Derived.Laws.Tables
set_option linter.unusedVariables false
set_option linter.unusedSimpArgs false
namespace Go.Proofs.YtgechifbbhipaaaDoor
open Go.RowKit

theorem owns_other {w w' : World} {B : Nat} {e : TypeId} {sz : Nat} {v : Value} {n : Nat} {xs : List Value} (h : w.ownsRow B e sz v n xs) (hb : ∀ k, v.ownBlock = some k → w'.heap[k]? = w.heap[k]?) : w'.ownsRow B e sz v n xs := by
  refine ⟨h.1, ?_⟩
  rcases h.2 with h2 | ⟨g, cap, cur, hv, hg, hh, r⟩
  · exact .inl h2
  · exact .inr ⟨g, cap, cur, hv, hg, by rw [hb g (by rw [hv]; rfl)]; exact hh, r⟩
theorem below_setRow {B g : Nat} (w : World) (cs : Array Value) (h : B ≤ g) : Below B w (w.setRow g cs) := ⟨rfl, rfl, rfl, by simp, fun k hk => setRow_other w g k cs (by omega)⟩

theorem own_cap5 {w : World} {B : Nat} {e : TypeId} {z : Nat} {ad : Option Addr} {n c : Nat} {xs : List Value} (h : w.ownsRow B e z (.slice ad n c) n xs) : n ≤ c := by
  rcases h.2 with ⟨h1, h0⟩ | ⟨g, cap, cur, h1, _, _, h2, _⟩
  · omega
  · simp only [Value.slice.injEq] at h1; omega
set_option maxRecDepth 100000 in
theorem node_any (M : Nat) (p : Int) (nm : ByteArray) (hnm : nm.size ≤ reachT) (ks : List Tr) (a : Option Addr) (c : Nat) (w : World) (hM : M ≤ w.heap.size) (hk : AtL w M a 0 ks) (hn : ks.length ≤ 1000000) (ha : a = none → ks.length = 0 ∧ c = 0) : Calls Tryd.prog 64 #[.int .i64 p, .string nm, .slice a ks.length c] w fun r w' =>
    (∃ v, r = .returned v ∧ AtT w' w'.heap.size (.mk p nm ByteArray.empty false ks) v) ∧ Below w.heap.size w w' := by
  have cC := Lib.hid (fun W (hW : Below w.heap.size w W) => clone_any M ks a c W (Nat.le_trans hM hW.size) (AtL.below (hW.mono hM) a ks 0 hk) hn ha)
  generalize hnn : ks.length = n at *
  have HN := Lib.hid hnn
  clear hnn hk ha
  go_enter Tryd.func64, Tryd.ntmps64
  have hal : Below w.heap.size w (w.alloc (.cells #[.int .i64 0, .string ByteArray.empty, .string ByteArray.empty, .bool false, .slice none 0 0] 46)) := (Below.refl _ w).alloc (Nat.le_refl _) _
  have HAl := Lib.hid hal
  clear hal
  go_wp2_with (first | (go_at_call 124; refine (cC.out _ HAl.out).mono ?_; rintro r w1 ⟨⟨a', c', xs, rfl, hown, hkl⟩, hb1⟩; have hz1 : w1.heap[w.heap.size]? = some (.cells #[.int .i64 0, .string ByteArray.empty, .string ByteArray.empty, .bool false, .slice none 0 0] 46) := (hb1.block w.heap.size (by simp)).trans (World.alloc_heap_new w _); have HZ1 := Lib.hid hz1) | (refine wpList_store_row rfl 46 (.tmp 6) (.tmp 11) rfl w.heap.size #[.int .i64 p, .string nm, .string ⟨#[]⟩, .bool false, .slice a' n c'] rfl rfl 46 _ HZ1.out (by kernel_rfl) rfl (by simp [Value.oneCell']) ?_))
  have hzz : (w1.setRow w.heap.size #[.int .i64 p, .string nm, .string ⟨#[]⟩, .bool false, .slice a' n c']).heap[w.heap.size]? = some (.cells #[.int .i64 p, .string nm, .string ⟨#[]⟩, .bool false, .slice a' n c'] 46) := setRow_heap w1 w.heap.size _ _ 46 _ hz1
  refine bodyPost_ret (results_cell_row rfl _ _ w.heap.size 46 #[.int .i64 p, .string nm, .string ⟨#[]⟩, .bool false, .slice a' n c'] (0, 0) _ rfl hzz Tryd.underlying46 rfl (by kernel_rfl)) rfl ?_
  have hsr := below_setRow (B := w.heap.size) w1 #[.int .i64 p, .string nm, .string ⟨#[]⟩, .bool false, .slice a' n c'] (Nat.le_refl _)
  have hbw : Below w.heap.size w w1 := HAl.out.trans (hb1.mono HAl.out.size)
  have hown2 := owns_other (w' := w1.setRow w.heap.size #[.int .i64 p, .string nm, .string ⟨#[]⟩, .bool false, .slice a' n c']) hown (fun k hk => setRow_other w1 w.heap.size k _ (by have := (hown.lt k hk).1; simp only [World.size_alloc] at this; omega))
  refine ⟨⟨_, rfl, ?_⟩, hbw.trans hsr⟩
  unfold AtT
  refine ⟨hnm, by decide, by rw [HN.out]; simp only [reachT]; omega, a', c', by rw [HN.out]; rfl, ?_, by rw [HN.out]; exact own_cap5 hown2⟩
  have hkl2 := (hkl.below (hsr.mono hM)).mono (N := (w1.setRow w.heap.size #[.int .i64 p, .string nm, .string ⟨#[]⟩, .bool false, .slice a' n c']).heap.size) (Nat.le_trans hM (Nat.le_trans hbw.size hsr.size))
  exact own_atL (ks := ks) (a := a') (c := c') (by rw [HN.out]; exact hown2) hkl2
end Go.Proofs.YtgechifbbhipaaaDoor
