/- The program's reader: Byte, Number, Bytes, Text. No condition but the text's size. -/
import Derived.Test.YtiakmaleiholnaaRdrK
namespace Go.Proofs.Ytiakmaleiholnaa
open Go.RowKit

theorem ret_int {k : IntKind} {a b : Int} (h : a = b) : Ending.returned (.int k a) = .returned (.int k b) := by rw [h]

theorem below_drewN (B : Nat) (w : World) (n : Nat) : Below B w (w.drewN n) := ⟨rfl, rfl, rfl, Nat.le_refl _, fun _ _ => rfl⟩

def byteV (s : ByteArray) (i : Nat) (e : Int) : Int × Nat × Int := if e ≠ 0 then (0, i, e) else if i < s.size then (((s.data.toList[i]?.getD 0).toNat : Int), i + 1, 0) else (0, i, 1)

theorem extract_list (s : ByteArray) (i j : Nat) : (s.extract i j).data.toList = (s.data.toList.drop i).take (j - i) := by
  rw [ByteArray.data_extract, Array.toList_extract, List.extract]

theorem hmf : ∀ (fn : Fn) (first cap : Array Value) (w : World), (Instr.makeFunc fn first cap).run Try.prog w = .ok (.func fn first cap) w := fun _ _ _ _ => rfl

theorem byte_any (b : Nat) (s : ByteArray) (i : Nat) (e0 : Int) (w : World) (h : Rd w b s i e0) (hi : i ≤ s.size) (hs : s.size ≤ 140737488355328) :
    Calls Try.prog 41 #[.pointer (some ⟨b, 0, none⟩)] w fun e w' => e = .returned (.int .u8 (byteV s i e0).1) ∧ Rd w' b s (byteV s i e0).2.1 (byteV s i e0).2.2 ∧ Only b w w' := by
  have hm := hmf
  by_cases he : e0 = 0
  · subst he
    by_cases hlt : i < s.size
    · have hv : byteV s i 0 = (((s.data.toList[i]?.getD 0).toNat : Int), i + 1, 0) := by unfold byteV; rw [if_neg (by simp), if_pos hlt]
      have hmv : manyV s i 1 = (1, 0) := by unfold manyV; rw [if_neg (by omega), if_neg (by omega)]
      have c1 := one_any b s i 0 w h hi hs
      rw [hmv] at c1
      have c := Lib.hid (take64 b s i 1 0 w h hi hs (c1.mono fun _ _ ⟨h1, m, h2⟩ => ⟨h1, by rw [h2]; exact below_drewN _ _ _⟩) (by omega))
      have e1 : tkS s i 1 0 = s.extract i (i + 1) := rfl
      have e2 : tkI i 1 0 = i + 1 := rfl
      rw [e1, e2] at c
      rw [hv]
      have hsz : (s.extract i (i + 1)).size = 1 := by simp; omega
      have hne : (s.extract i (i + 1)).toList.isEmpty = false := by
        rw [ByteArray.toList_eq, List.isEmpty_eq_false_iff]; intro h; have := len_toList (s.extract i (i + 1)); rw [h] at this; simp at this; omega
      have hp : 0 < (s.extract i (i + 1)).size := by omega
      have hx : Hid ((s.extract i (i + 1))[0].toNat = (s.data.toList[i]?.getD 0).toNat) := by
        unfold Hid
        have h1 := bat_get (s.extract i (i + 1)) 0 hp
        rw [extract_list, List.getElem?_take_of_lt (by omega), List.getElem?_drop] at h1
        simp only [Nat.add_zero] at h1
        rw [h1]; rfl
      clear hsz c1 hmv e1 e2 hv h hi hs hlt
      generalize s.extract i (i + 1) = T at *
      go_enter Try.func41, Try.ntmps41
      go_wp2_with (go_at_call 62; with_reducible refine c.out.mono ?_; rintro e w1 ⟨rfl, hr, ho⟩)
      go_ret
      exact ⟨ret_int (by rw [hx.out]), hr, ho⟩
    · have hv : byteV s i 0 = (0, i, 1) := by unfold byteV; rw [if_neg (by simp), if_neg hlt]
      have hmv : manyV s i 1 = (0, 1) := by unfold manyV; rw [if_neg (by omega), if_pos (by omega)]
      have c1 := one_any b s i 0 w h hi hs
      rw [hmv] at c1
      have c := Lib.hid (take64 b s i 0 1 w h hi hs (c1.mono fun _ _ ⟨h1, m, h2⟩ => ⟨h1, by rw [h2]; exact below_drewN _ _ _⟩) (by omega))
      have e1 : tkS s i 0 1 = ByteArray.empty := rfl
      have e2 : tkI i 0 1 = i := rfl
      rw [e1, e2] at c
      rw [hv]
      clear c1 hmv e1 e2 hv h hi hs hlt
      go_enter Try.func41, Try.ntmps41
      go_wp2_with (go_at_call 62; with_reducible refine c.out.mono ?_; rintro e w1 ⟨rfl, hr, ho⟩)
      go_ret
      exact ⟨rfl, hr, ho⟩
  · have hv : byteV s i e0 = (0, i, e0) := by unfold byteV; rw [if_pos he]
    have c := Lib.hid (fun v => take_err b s i e0 v w h he)
    rw [hv]
    have H := Lib.hid h
    clear he hv h hi hs
    go_enter Try.func41, Try.ntmps41
    go_wp2_with (go_at_call 62; refine (c.out _).mono ?_; rintro e w1 ⟨rfl, rfl⟩)
    go_ret
    exact ⟨rfl, H.out, Only.refl _ _⟩

def bytesV (s : ByteArray) (i : Nat) (e n : Int) : ByteArray × Nat × Int := if e ≠ 0 then (ByteArray.empty, i, e) else if n < 0 then (ByteArray.empty, i, 2) else if (s.size : Int) - i < n then (ByteArray.empty, i, 1) else (s.extract i (i + n.toNat), i + n.toNat, 0)

theorem bytesV_tk (s : ByteArray) (i : Nat) (n : Int) : bytesV s i 0 n = (tkS s i (manyV s i n).1 (manyV s i n).2, tkI i (manyV s i n).1 (manyV s i n).2, (manyV s i n).2) := by
  unfold bytesV manyV
  rw [if_neg (by simp)]
  split
  · rfl
  · split
    · rfl
    · rfl

theorem bytes_any (b : Nat) (s : ByteArray) (i : Nat) (e0 n : Int) (w : World) (h : Rd w b s i e0) (hi : i ≤ s.size) (hs : s.size ≤ 140737488355328) :
    Calls Try.prog 44 #[.pointer (some ⟨b, 0, none⟩), .int .i64 n] w fun e w' => e = .returned (.string (bytesV s i e0 n).1) ∧ Rd w' b s (bytesV s i e0 n).2.1 (bytesV s i e0 n).2.2 ∧ Only b w w' := by
  have hm := hmf
  have ho0 : Only b w ((w.alloc (.cells #[.pointer (some ⟨b, 0, none⟩)] 49)).alloc (.cells #[.int .i64 n] 3)) := (Only.alloc _ _ _).trans (Only.alloc _ _ _)
  have h1 : Rd ((w.alloc (.cells #[.pointer (some ⟨b, 0, none⟩)] 49)).alloc (.cells #[.int .i64 n] 3)) b s i e0 := h.below (((Below.refl _ w).alloc (Nat.le_refl _) _).alloc (by simp) _) h.lt
  have hx : ((w.alloc (.cells #[.pointer (some ⟨b, 0, none⟩)] 49)).alloc (.cells #[.int .i64 n] 3)).cell? ⟨w.heap.size, 0, none⟩ = some (.pointer (some ⟨b, 0, none⟩)) := by
    rw [World.cell?_alloc_past _ _ _ (by simp), World.cell?_alloc_at _ _ _ _ rfl]; rfl
  have hy : ((w.alloc (.cells #[.pointer (some ⟨b, 0, none⟩)] 49)).alloc (.cells #[.int .i64 n] 3)).cell? ⟨w.heap.size + 1, 0, none⟩ = some (.int .i64 n) := by
    rw [World.cell?_alloc_at _ _ _ _ (by simp)]; rfl
  by_cases he : e0 = 0
  · subst he
    rw [bytesV_tk]
    have hmn : (manyV s i n).2 = 0 → 0 ≤ (manyV s i n).1 ∧ (i : Int) + (manyV s i n).1 ≤ s.size := by
      unfold manyV; split
      · intro h; simp at h
      · split
        · intro h; simp at h
        · intro _; simp; omega
    have c := Lib.hid (take65 b s i _ _ w.heap.size (w.heap.size + 1) _ h1 hi hs ((bytes1_any b s i 0 n _ h1 hi hs _ _ hx hy).mono fun _ _ ⟨h1, m, h2⟩ => ⟨h1, by rw [h2]; exact below_drewN _ _ _⟩) hmn)
    clear hmn hx hy h1 hi hs h
    have HO := Lib.hid ho0
    clear ho0
    generalize manyV s i n = p at *
    go_enter Try.func44, Try.ntmps44
    go_wp2_with (go_at_call 62; with_reducible refine c.out.mono ?_; rintro e w1 ⟨rfl, hr, ho⟩)
    go_ret
    exact ⟨rfl, hr, HO.out.trans ho⟩
  · have hv : bytesV s i e0 n = (ByteArray.empty, i, e0) := by unfold bytesV; rw [if_pos he]
    have c := Lib.hid (fun v => take_err b s i e0 v _ h1 he)
    rw [hv]
    have H := Lib.hid h1
    have HO := Lib.hid ho0
    clear he hv h h1 hi hs hx hy ho0
    go_enter Try.func44, Try.ntmps44
    go_wp2_with (go_at_call 62; refine (c.out _).mono ?_; rintro e w1 ⟨rfl, rfl⟩)
    go_ret
    exact ⟨rfl, H.out, HO.out⟩
end Go.Proofs.Ytiakmaleiholnaa
