/- cardcaselaw20.greatPlace: it gives an answer, whatever the place. No condition. -/
import Derived.Test.YtcpmgnejbfnnjaaSpk
import Derived.Maps.AppendAt
import Derived.Laws.OwnMore
import Derived.Deep.RegionLaw
namespace Go.Proofs.Ytcpmgnejbfnnjaa
open Go.RowKit

/-- append of a row that came in (nil or not) onto a row of the call's own: at a step of a region that draws. -/
theorem step_appR {P : Program} {w : World} {ops : Array Oper} {o : Oper} {a : Act} {K : Act → World → Prop} {Q : Exit → Act → World → Prop} {E : Prop} (hgd : o.guard = none) (s x : Operand) (t : TypeId)
    (ho : o.op = .call { callee := .builtin .append, args := #[s, x], argTypes := #[t, t] })
    (base : Nat) (e : TypeId) (i : TypeInfo) (z : Value) (size bytes : Nat) (ht : P.underlying t = some (.slice e)) (hi : P.info? e = some i) (hz : i.zero = some z)
    (hsize : i.size = size) (hby : i.bytes = bytes) (hzs : z.cells.size = size) (hsz : 0 < size)
    (v : Value) (n : Nat) (xs : List Value) (hs : a.eval s = v) (hown : w.ownsRow base e size v n xs)
    (ad : Option Addr) (m c : Nat) (news : List Value) (hx : a.eval x = .slice ad m c) (hl : news.length = m * size) (hnone : ad = none → m = 0 ∧ c = 0) (hnews : ∀ q, ad = some q → ∀ j u, news[j]? = some u → w.cell? (q.add j) = some u) (h1 : ∀ u ∈ news, u.oneCell' = true)
    (h63 : n + m ≤ maxLen) (hbytes : (n + m) * bytes ≤ 140737488355328) (hbase : base ≤ w.heap.size)
    (h : ∀ a' c' w', w'.ownsRow base e size (.slice a' (n + m) c') (n + m) (xs ++ news) → Below base w w' → K (a.put o.dst (.slice a' (n + m) c')) w') :
    if Region.wanted o (yielded ops a.tmps) = true then Oper.wp P o a w K Q else E := by
  have hw : Region.wanted o (yielded ops a.tmps) = true := by simp [Region.wanted, hgd]
  rw [if_pos hw]
  have form : ∀ {W : World} {v : Value} {n : Nat} {xs : List Value}, W.ownsRow base e size v n xs → ∃ a' c', v = .slice a' n c' := by
    intro W v n xs h
    rcases h.2 with ⟨rfl, rfl⟩ | ⟨g, cap, _, rfl, _⟩
    · exact ⟨none, 0, rfl⟩
    · exact ⟨_, cap, rfl⟩
  cases ad with
  | none =>
    obtain ⟨rfl, rfl⟩ := hnone rfl
    obtain rfl : news = [] := List.eq_nil_of_length_eq_zero (by omega)
    have hrun := run_append_owned_none (P := P) (w := w) base t o.type e i size ht hi v n xs hown
    obtain ⟨a', c', rfl⟩ := form hown
    unfold Oper.wp execOp
    simp only [ho, resolve, invoke, builtin, Sem.run_bind, Sem.run_pure, Result.andThen_ok, List.map_toArray, List.map_cons, List.map_nil, hs, hx, hrun]
    exact h a' c' w (by rw [List.append_nil]; exact hown) (Below.refl _ _)
  | some ad =>
    obtain ⟨v', w', hr, h2, h3, _, _⟩ := run_append_own_at (P := P) w base t o.type e i z size bytes ht hi hz hsize hby hzs hsz v n xs hown ad m c news hl (hnews ad rfl) h1 h63 hbytes hbase
    obtain ⟨a', c', rfl⟩ := form h2
    unfold Oper.wp execOp
    simp only [ho, resolve, invoke, builtin, Sem.run_bind, Sem.run_pure, Result.andThen_ok, List.map_toArray, List.map_cons, List.map_nil, hs, hx, hr]
    exact h a' c' w' h2 ((Below.refl _ w).grown h3 hbase (fun k hk => (hown.lt k hk).1))

def news2 (F : Nat → Fm) : Nat → List Value
  | 0 => []
  | k + 1 => news2 F k ++ [.string (F k).1, .string (F k).2]
theorem news2_len (F : Nat → Fm) (k : Nat) : (news2 F k).length = k * 2 := by
  induction k with
  | zero => rfl
  | succ k ih => rw [news2, List.length_append, ih]; simp; omega
theorem news2_str (F : Nat → Fm) (k : Nat) : ∀ u ∈ news2 F k, ∃ s : ByteArray, u = .string s := by
  induction k with
  | zero => intro u hu; simp [news2] at hu
  | succ k ih =>
    intro u hu
    rw [news2, List.mem_append] at hu
    rcases hu with hu | hu
    · exact ih u hu
    · simp at hu; rcases hu with rfl | rfl <;> exact ⟨_, rfl⟩
theorem news2_at (F : Nat → Fm) (w : World) (ad : Option Addr) (n : Nat) (h : Row2 w ad n F) (q : Addr) (hq : ad = some q) : ∀ k, k ≤ n → ∀ j u, (news2 F k)[j]? = some u → w.cell? (q.add j) = some u := by
  intro k
  induction k with
  | zero => intro _ j u hu; simp [news2] at hu
  | succ k ih =>
    intro hk j u hu
    rw [news2] at hu
    by_cases hj : j < (news2 F k).length
    · rw [List.getElem?_append_left hj] at hu
      exact ih (by omega) j u hu
    · rw [List.getElem?_append_right (by omega), news2_len] at hu
      rw [news2_len] at hj
      obtain ⟨b, o, hb, hl, h0, h1⟩ := h k (by omega)
      rw [hq] at hb
      injection hb with hb
      subst hb
      have ea : ∀ i, (⟨b, o, none⟩ : Addr).add i = ⟨b, o + i, none⟩ := fun i => by unfold Addr.add; split <;> simp_all
      rw [ea]
      rcases (by omega : j = k * 2 ∨ j = k * 2 + 1 ∨ k * 2 + 2 ≤ j) with rfl | rfl | h2
      · simp at hu; rw [← hu]; exact h0
      · simp at hu; rw [← hu]; exact h1
      · rw [List.getElem?_eq_none (by simp; omega)] at hu; cases hu

theorem own2_at {w : World} {B : Nat} {e : TypeId} {ad : Option Addr} {n c : Nat} {xs : List Value} (h : w.ownsRow B e 2 (.slice ad n c) n xs) {i : Nat} (hi : i < n) :
    ∃ g, ad = some ⟨g, 0, none⟩ ∧ w.cell? ⟨g, i * 2, none⟩ = xs[i * 2]? ∧ w.cell? ⟨g, i * 2 + 1, none⟩ = xs[i * 2 + 1]? := by
  rcases h.2 with ⟨h1, h0⟩ | ⟨g, cap, cur, h1, _⟩
  · omega
  · simp only [Value.slice.injEq] at h1
    obtain ⟨rfl, _, rfl⟩ := h1
    exact ⟨g, rfl, h.cellAt _ (by omega), h.cellAt _ (by omega)⟩

theorem I35 : (Try.prog.info? 35).map (fun i => (i.zero, i.size, i.bytes)) = some (some (.agg #[.string { data := #[] }, .string { data := #[] }]), 2, 32) := by kernel_rfl
/-- an answer, yes or no -/
def AnyBool (e : Ending) : Prop := ∃ r : Bool, e = .returned (.bool r)

set_option maxRecDepth 100000 in
set_option maxHeartbeats 2000000 in
theorem greatPlace_any (a0 a1 : ByteArray) (a2 : Int) (ta ga pa : Option Addr) (tn tc gn gc pn pc : Nat) (T G : Nat → Fm) (w : World)
    (hT : Row2 w ta tn T) (hG : Row2 w ga gn G) (hT0 : ta = none → tn = 0 ∧ tc = 0) (hG0 : ga = none → gn = 0 ∧ gc = 0) :
    Calls Try.prog 12 #[.agg #[.string a0, .string a1, .int .i64 a2, .slice ta tn tc, .slice ga gn gc, .slice pa pn pc]] w
      fun e w' => AnyBool e ∧ Below w.heap.size w w' := by
  have HT := Lib.hid hT
  have HG := Lib.hid hG
  have HT0 := Lib.hid hT0
  have HG0 := Lib.hid hG0
  clear hT hG hT0 hG0
  by_cases h1 : 30 < tn
  · have h1' : (30 : Int) < tn := by omega
    go_enter Try.func12, Try.ntmps12
    go_wp2
    go_ret
    exact ⟨⟨_, rfl⟩, (Below.refl _ _).alloc (Nat.le_refl _) _⟩
  have h1' : ¬ (30 : Int) < tn := by omega
  by_cases h2 : 30 < gn
  · have h2' : (30 : Int) < gn := by omega
    go_enter Try.func12, Try.ntmps12
    go_wp2
    go_ret
    exact ⟨⟨_, rfl⟩, (Below.refl _ _).alloc (Nat.le_refl _) _⟩
  have h2' : ¬ (30 : Int) < gn := by omega
  by_cases h3 : 60 < pn
  · have h3' : (60 : Int) < pn := by omega
    go_enter Try.func12, Try.ntmps12
    go_wp2
    go_ret
    exact ⟨⟨_, rfl⟩, (Below.refl _ _).alloc (Nat.le_refl _) _⟩
  have h3' : ¬ (60 : Int) < pn := by omega
  by_cases h4 : 2000 < a0.size
  · have h4' : (2000 : Int) < a0.size := by omega
    go_enter Try.func12, Try.ntmps12
    go_wp2
    go_ret
    exact ⟨⟨_, rfl⟩, (Below.refl _ _).alloc (Nat.le_refl _) _⟩
  have h4' : ¬ (2000 : Int) < a0.size := by omega
  by_cases h5 : 2000 < a1.size
  · have h5' : (2000 : Int) < a1.size := by omega
    go_enter Try.func12, Try.ntmps12
    go_wp2
    go_ret
    exact ⟨⟨_, rfl⟩, (Below.refl _ _).alloc (Nat.le_refl _) _⟩
  have h5' : ¬ (2000 : Int) < a1.size := by omega
  go_enter Try.func12, Try.ntmps12
  go_wp2
  obtain ⟨W, hW⟩ : ∃ W, W = w.alloc (.cells #[.string a0, .string a1, .int .i64 a2, .slice ta tn tc, .slice ga gn gc, .slice pa pn pc] 32) := ⟨_, rfl⟩
  rw [← hW]
  have hWb : Below w.heap.size w W := by rw [hW]; exact (Below.refl _ w).alloc (Nat.le_refl _) _
  have hWs : W.heap.size = w.heap.size + 1 := by rw [hW]; simp
  have e3 : W.cell? ⟨w.heap.size, 3, none⟩ = some (.slice ta tn tc) := by rw [hW]; exact cell_box w _ _ 3 _ rfl
  have e4 : W.cell? ⟨w.heap.size, 4, none⟩ = some (.slice ga gn gc) := by rw [hW]; exact cell_box w _ _ 4 _ rfl
  have HWT := Lib.hid (HT.out.below hWb)
  have HWG := Lib.hid (HG.out.below hWb)
  have HB := Lib.hid hWb
  have hBW : Hid (∀ X : World, Below W.heap.size W X → Row2 X ta tn T ∧ Row2 X ga gn G) := fun X hX => ⟨HWT.out.below hX, HWG.out.below hX⟩
  clear hW hWb
  obtain ⟨i0, hi, hz0, hz1, hz2⟩ := info_parts I35
  have one : ∀ (F : Nat → Fm) (k : Nat), ∀ u ∈ news2 F k, u.oneCell' = true := fun F k u hu => by obtain ⟨s, rfl⟩ := news2_str F k u hu; rfl
  have g1 : 0 + tn ≤ maxLen := by simp [maxLen]; omega
  have g2 : tn + gn ≤ maxLen := by simp [maxLen]; omega
  have b1 : (0 + tn) * 32 ≤ 140737488355328 := by omega
  have b2 : (tn + gn) * 32 ≤ 140737488355328 := by omega
  have hW1 : (W.alloc (.cells #[] 35)).drew.ownsRow (w.heap.size + 1) 35 2 (.slice (some ⟨w.heap.size + 1, 0, none⟩) 0 0) 0 [] :=
    ⟨rfl, .inr ⟨w.heap.size + 1, 0, #[], rfl, Nat.le_refl _, by rw [← hWs]; exact block_new W _, Nat.le_refl _, by simp, rfl, rfl⟩⟩
  have hbel1 : Below W.heap.size W (W.alloc (.cells #[] 35)).drew := ((Below.refl _ W).alloc (Nat.le_refl _) _).drew
  have hsz1 : w.heap.size + 1 ≤ (W.alloc (.cells #[] 35)).drew.heap.size := by rw [← hWs]; exact hbel1.size
  have HW1 := Lib.hid hW1
  have HBL := Lib.hid hbel1
  clear hW1 hbel1
  go_region_law (first
    | (refine step_appR rfl _ _ 29 rfl (w.heap.size + 1) 35 i0 _ 2 32 Try.underlying29 hi hz0 hz1 hz2 rfl (by decide) _ 0 [] rfl HW1.out ta tn tc (news2 T tn) rfl (news2_len T tn) HT0.out (fun q hq => news2_at T _ ta tn (hBW.out _ HBL.out).1 q hq tn (Nat.le_refl _)) (one T tn) g1 b1 hsz1 (fun a' c' w3 h1 h2 => ?_); have hcb := (h2.cell (p := ⟨w.heap.size, 4, none⟩) (Nat.lt_succ_self _)).trans ((HBL.out.cell (p := ⟨w.heap.size, 4, none⟩) (by rw [hWs]; exact Nat.lt_succ_self _)).trans e4); have hb3 := HBL.out.trans (h2.mono (Nat.le_of_eq hWs)); have hs3 := Nat.le_trans hsz1 h2.size; rw [Nat.zero_add, List.nil_append] at h1)
    | (refine step_appR rfl _ _ 29 rfl (w.heap.size + 1) 35 i0 _ 2 32 Try.underlying29 hi hz0 hz1 hz2 rfl (by decide) _ _ _ rfl (by assumption) ga gn gc (news2 G gn) rfl (news2_len G gn) HG0.out (fun q hq => news2_at G _ ga gn (hBW.out _ (by assumption)).2 q hq gn (Nat.le_refl _)) (one G gn) g2 b2 (by assumption) (fun a4 c4 w4 h3 h4 => ?_)))
  all_goals
    have HS : Hid (∀ u ∈ news2 T tn ++ news2 G gn, ∃ s : ByteArray, u = .string s) := fun u hu => (List.mem_append.1 hu).elim (news2_str T tn u) (news2_str G gn u)
    have hlen : (news2 T tn ++ news2 G gn).length = (tn + gn) * 2 := by rw [List.length_append, news2_len, news2_len]; omega
    have HBB := Lib.hid (HB.out.trans (hb3.mono (by omega)))
    generalize news2 T tn ++ news2 G gn = xs at *
    have HX := Lib.hid h3
    have HB4 := Lib.hid (HBB.out.trans (h4.mono (by omega)))
    have hlen2 := hlen
    clear HT HG HT0 HG0 HWT HWG HB hBW HW1 HBL hcb hb3 hs3 e3 e4 one g1 g2 b1 b2 hsz1 hWs hi hz0 hz1 hz2 h1 h2 h3 h4
    go_wp2
    go_loopw [4] (fun i wr => ∃ k : Nat, k ≤ tn + gn ∧ i = .int .i64 (k : Int) ∧ wr = w4) (fun i _ => tn + gn - (intOf i).toNat)
    case atStart => exact ⟨0, Nat.zero_le _, rfl, rfl⟩
    case round =>
      obtain ⟨k, hk, rfl, rfl⟩ := hrel
      by_cases hlt : k < tn + gn
      · obtain ⟨g, rfl, c0, c1⟩ := own2_at HX.out hlt
        obtain ⟨s0, hs0⟩ := HS.out _ (List.getElem_mem (show k * 2 < xs.length by omega))
        obtain ⟨s1, hs1⟩ := HS.out _ (List.getElem_mem (show k * 2 + 1 < xs.length by omega))
        rw [List.getElem?_eq_getElem (by omega), hs0] at c0
        rw [List.getElem?_eq_getElem (by omega), hs1] at c1
        clear hs0 hs1
        by_cases hA : (2000 : Int) < s0.size
        · go_wp2
          go_ret
          exact ⟨⟨_, rfl⟩, HB4.out⟩
        · by_cases hC : (2000 : Int) < s1.size
          · go_wp2
            go_ret
            exact ⟨⟨_, rfl⟩, HB4.out⟩
          · go_wp2
            go_roundw
            case rel => exact ⟨k + 1, by omega, by go_num, trivial⟩
            case measure => simp [intOf]; omega
      · go_wp2
        go_ret
        exact ⟨⟨_, rfl⟩, HB4.out⟩
end Go.Proofs.Ytcpmgnejbfnnjaa
