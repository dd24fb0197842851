/- auth: the walks of its small functions: kinds and their names, bytes that may be. No condition but sizes. -/
import Derived.Test.YteheibgdjpkeaaaAuP
import Derived.Test.YteheibgdjpkeaaaShelf
import Derived.Lib.IndexLaws
namespace Go.Proofs.Yteheibgdjpkeaaa
open Go.RowKit

theorem ret_bool {a b : Bool} (h : a = b) : Ending.returned (.bool b) = Ending.returned (.bool a) := by rw [h]
theorem ret_i64 {a b : Int} (h : a = b) : Ending.returned (.int .i64 b) = Ending.returned (.int .i64 a) := by rw [h]
theorem ret_txt {a b : ByteArray} (h : a = b) : Ending.returned (.string b) = Ending.returned (.string a) := by rw [h]

theorem toList_inj {a b : ByteArray} (h : a.toList = b.toList) : a = b := by
  rw [ByteArray.toList_eq, ByteArray.toList_eq] at h
  exact ByteArray.ext (Array.toList_inj.1 h)
theorem beq_yes {a b : ByteArray} (h : a = b) : (a.toList == b.toList) = true := by rw [h]; simp
theorem beq_no {a b : ByteArray} (h : a ≠ b) : (a.toList == b.toList) = false := by
  have : a.toList ≠ b.toList := fun e => h (toList_inj e)
  simpa using this

theorem type_any (kind : Int) (w : World) : Calls Try.prog 22 #[.int .i64 kind] w fun e w' => e = .returned (.string (typ kind)) ∧ w = w' := by
  have key : kind = 1 ∨ kind = 2 ∨ kind = 3 ∨ ((kind == 1) = false ∧ (kind == 2) = false ∧ (kind == 3) = false) := by simp; omega
  rcases key with rfl | rfl | rfl | ⟨h1, h2, h3⟩
  · go_enter Try.func22, Try.ntmps22
    go_wp2
    go_ret
    exact ⟨rfl, rfl⟩
  · go_enter Try.func22, Try.ntmps22
    go_wp2
    go_ret
    exact ⟨rfl, rfl⟩
  · go_enter Try.func22, Try.ntmps22
    go_wp2
    go_ret
    exact ⟨rfl, rfl⟩
  · have HF : Hid (typ kind = { data := #[] }) := by simp at h1 h2 h3; unfold Hid typ; rw [if_neg h1, if_neg h2, if_neg h3]
    go_enter Try.func22, Try.ntmps22
    go_wp2
    go_ret
    exact ⟨ret_txt HF.out, rfl⟩

theorem refType_any (kind : Int) (w : World) : Calls Try.prog 23 #[.int .i64 kind] w fun e w' => e = .returned (.string (typ kind)) ∧ w = w' := by
  have key : kind = 1 ∨ kind = 2 ∨ kind = 3 ∨ ((kind == 1) = false ∧ (kind == 2) = false ∧ (kind == 3) = false) := by simp; omega
  rcases key with rfl | rfl | rfl | ⟨h1, h2, h3⟩
  · go_enter Try.func23, Try.ntmps23
    go_wp2
    go_ret
    exact ⟨rfl, rfl⟩
  · go_enter Try.func23, Try.ntmps23
    go_wp2
    go_ret
    exact ⟨rfl, rfl⟩
  · go_enter Try.func23, Try.ntmps23
    go_wp2
    go_ret
    exact ⟨rfl, rfl⟩
  · have HF : Hid (typ kind = { data := #[] }) := by simp at h1 h2 h3; unfold Hid typ; rw [if_neg h1, if_neg h2, if_neg h3]
    go_enter Try.func23, Try.ntmps23
    go_wp2
    go_ret
    exact ⟨ret_txt HF.out, rfl⟩

/-- no kind below k has this name -/
def NotYet (s : ByteArray) (k : Nat) : Prop := (1 < k → s ≠ tyB) ∧ (2 < k → s ≠ tyD) ∧ (3 < k → s ≠ tyM)

set_option maxHeartbeats 1000000 in
theorem kind_any (s : ByteArray) (w : World) : Calls Try.prog 24 #[.string s] w fun e w' => e = .returned (.int .i64 (kindN s)) ∧ w = w' := by
  have cn1 := Lib.hid (type_any 1)
  have cn2 := Lib.hid (type_any 2)
  have cn3 := Lib.hid (type_any 3)
  have n1 : typ 1 = tyB := rfl
  have n2 : typ 2 = tyD := rfl
  have n3 : typ 3 = tyM := rfl
  generalize typ 1 = v1 at *
  generalize typ 2 = v2 at *
  generalize typ 3 = v3 at *
  go_enter Try.func24, Try.ntmps24
  go_wp2_with fail
  go_loop [3] (fun i => ∃ (k : Nat), 1 ≤ k ∧ k ≤ 4 ∧ i = .int .i64 k ∧ Hid (NotYet s k)) (fun i => 4 - (intOf i).toNat)
  case atStart => exact ⟨1, by omega, by omega, rfl, ⟨fun h => absurd h (by omega), fun h => absurd h (by omega), fun h => absurd h (by omega)⟩⟩
  case round =>
    obtain ⟨k, hk1, hk4, rfl, HN⟩ := hrel
    have key : k = 1 ∨ k = 2 ∨ k = 3 ∨ k = 4 := by omega
    clear hk1 hk4
    rcases key with rfl | rfl | rfl | rfl
    · by_cases h : s = tyB
      · have HF : Hid (kindN s = 1) := by unfold Hid kindN; rw [if_pos h]
        have hb1 := beq_yes (n1.trans h.symm)
        clear h n1 n2 n3
        go_wp2_with (go_at_call 22; with_reducible refine (cn1.out _).mono ?_; rintro e w' ⟨rfl, rfl⟩)
        go_ret
        exact ⟨ret_i64 HF.out, rfl⟩
      · have hb1 := beq_no (fun e : v1 = s => h (e.symm.trans n1))
        have HN2 : Hid (NotYet s 2) := ⟨fun _ => h, fun h => absurd h (by omega), fun h => absurd h (by omega)⟩
        clear h n1 n2 n3
        go_wp2_with (go_at_call 22; with_reducible refine (cn1.out _).mono ?_; rintro e w' ⟨rfl, rfl⟩)
        go_round
        case rel => exact ⟨2, by omega, by omega, rfl, HN2.out⟩
        case measure => simp [intOf]
    · by_cases h : s = tyD
      · have HF : Hid (kindN s = 2) := by unfold Hid kindN; rw [if_neg (HN.out.1 (by omega)), if_pos h]
        have hb1 := beq_yes (n2.trans h.symm)
        clear h n1 n2 n3
        go_wp2_with (go_at_call 22; with_reducible refine (cn2.out _).mono ?_; rintro e w' ⟨rfl, rfl⟩)
        go_ret
        exact ⟨ret_i64 HF.out, rfl⟩
      · have hb1 := beq_no (fun e : v2 = s => h (e.symm.trans n2))
        have HN2 : Hid (NotYet s 3) := ⟨fun _ => HN.out.1 (by omega), fun _ => h, fun h => absurd h (by omega)⟩
        clear h n1 n2 n3
        go_wp2_with (go_at_call 22; with_reducible refine (cn2.out _).mono ?_; rintro e w' ⟨rfl, rfl⟩)
        go_round
        case rel => exact ⟨3, by omega, by omega, rfl, HN2.out⟩
        case measure => simp [intOf]
    · by_cases h : s = tyM
      · have HF : Hid (kindN s = 3) := by unfold Hid kindN; rw [if_neg (HN.out.1 (by omega)), if_neg (HN.out.2.1 (by omega)), if_pos h]
        have hb1 := beq_yes (n3.trans h.symm)
        clear h n1 n2 n3
        go_wp2_with (go_at_call 22; with_reducible refine (cn3.out _).mono ?_; rintro e w' ⟨rfl, rfl⟩)
        go_ret
        exact ⟨ret_i64 HF.out, rfl⟩
      · have hb1 := beq_no (fun e : v3 = s => h (e.symm.trans n3))
        have HN2 : Hid (NotYet s 4) := ⟨fun _ => HN.out.1 (by omega), fun _ => HN.out.2.1 (by omega), fun _ => h⟩
        clear h n1 n2 n3
        go_wp2_with (go_at_call 22; with_reducible refine (cn3.out _).mono ?_; rintro e w' ⟨rfl, rfl⟩)
        go_round
        case rel => exact ⟨4, by omega, by omega, rfl, HN2.out⟩
        case measure => simp [intOf]
    · have HF : Hid (kindN s = 0) := by unfold Hid kindN; rw [if_neg (HN.out.1 (by omega)), if_neg (HN.out.2.1 (by omega)), if_neg (HN.out.2.2 (by omega))]
      clear n1 n2 n3
      go_wp2_with fail
      go_ret
      exact ⟨ret_i64 HF.out, rfl⟩

set_option maxHeartbeats 1000000 in
theorem refKind_any (s : ByteArray) (w : World) : Calls Try.prog 25 #[.string s] w fun e w' => e = .returned (.int .i64 (kindN s)) ∧ w = w' := by
  have cn1 := Lib.hid (refType_any 1)
  have cn2 := Lib.hid (refType_any 2)
  have cn3 := Lib.hid (refType_any 3)
  have n1 : typ 1 = tyB := rfl
  have n2 : typ 2 = tyD := rfl
  have n3 : typ 3 = tyM := rfl
  generalize typ 1 = v1 at *
  generalize typ 2 = v2 at *
  generalize typ 3 = v3 at *
  go_enter Try.func25, Try.ntmps25
  go_wp2_with fail
  go_loop [3] (fun i => ∃ (k : Nat), 1 ≤ k ∧ k ≤ 4 ∧ i = .int .i64 k ∧ Hid (NotYet s k)) (fun i => 4 - (intOf i).toNat)
  case atStart => exact ⟨1, by omega, by omega, rfl, ⟨fun h => absurd h (by omega), fun h => absurd h (by omega), fun h => absurd h (by omega)⟩⟩
  case round =>
    obtain ⟨k, hk1, hk4, rfl, HN⟩ := hrel
    have key : k = 1 ∨ k = 2 ∨ k = 3 ∨ k = 4 := by omega
    clear hk1 hk4
    rcases key with rfl | rfl | rfl | rfl
    · by_cases h : s = tyB
      · have HF : Hid (kindN s = 1) := by unfold Hid kindN; rw [if_pos h]
        have hb1 := beq_yes (n1.trans h.symm)
        clear h n1 n2 n3
        go_wp2_with (go_at_call 23; with_reducible refine (cn1.out _).mono ?_; rintro e w' ⟨rfl, rfl⟩)
        go_ret
        exact ⟨ret_i64 HF.out, rfl⟩
      · have hb1 := beq_no (fun e : v1 = s => h (e.symm.trans n1))
        have HN2 : Hid (NotYet s 2) := ⟨fun _ => h, fun h => absurd h (by omega), fun h => absurd h (by omega)⟩
        clear h n1 n2 n3
        go_wp2_with (go_at_call 23; with_reducible refine (cn1.out _).mono ?_; rintro e w' ⟨rfl, rfl⟩)
        go_round
        case rel => exact ⟨2, by omega, by omega, rfl, HN2.out⟩
        case measure => simp [intOf]
    · by_cases h : s = tyD
      · have HF : Hid (kindN s = 2) := by unfold Hid kindN; rw [if_neg (HN.out.1 (by omega)), if_pos h]
        have hb1 := beq_yes (n2.trans h.symm)
        clear h n1 n2 n3
        go_wp2_with (go_at_call 23; with_reducible refine (cn2.out _).mono ?_; rintro e w' ⟨rfl, rfl⟩)
        go_ret
        exact ⟨ret_i64 HF.out, rfl⟩
      · have hb1 := beq_no (fun e : v2 = s => h (e.symm.trans n2))
        have HN2 : Hid (NotYet s 3) := ⟨fun _ => HN.out.1 (by omega), fun _ => h, fun h => absurd h (by omega)⟩
        clear h n1 n2 n3
        go_wp2_with (go_at_call 23; with_reducible refine (cn2.out _).mono ?_; rintro e w' ⟨rfl, rfl⟩)
        go_round
        case rel => exact ⟨3, by omega, by omega, rfl, HN2.out⟩
        case measure => simp [intOf]
    · by_cases h : s = tyM
      · have HF : Hid (kindN s = 3) := by unfold Hid kindN; rw [if_neg (HN.out.1 (by omega)), if_neg (HN.out.2.1 (by omega)), if_pos h]
        have hb1 := beq_yes (n3.trans h.symm)
        clear h n1 n2 n3
        go_wp2_with (go_at_call 23; with_reducible refine (cn3.out _).mono ?_; rintro e w' ⟨rfl, rfl⟩)
        go_ret
        exact ⟨ret_i64 HF.out, rfl⟩
      · have hb1 := beq_no (fun e : v3 = s => h (e.symm.trans n3))
        have HN2 : Hid (NotYet s 4) := ⟨fun _ => HN.out.1 (by omega), fun _ => HN.out.2.1 (by omega), fun _ => h⟩
        clear h n1 n2 n3
        go_wp2_with (go_at_call 23; with_reducible refine (cn3.out _).mono ?_; rintro e w' ⟨rfl, rfl⟩)
        go_round
        case rel => exact ⟨4, by omega, by omega, rfl, HN2.out⟩
        case measure => simp [intOf]
    · have HF : Hid (kindN s = 0) := by unfold Hid kindN; rw [if_neg (HN.out.1 (by omega)), if_neg (HN.out.2.1 (by omega)), if_neg (HN.out.2.2 (by omega))]
      clear n1 n2 n3
      go_wp2_with fail
      go_ret
      exact ⟨ret_i64 HF.out, rfl⟩

/-- the place of the first byte that p holds of, or -1 -/
def idxB (p : UInt8 → Bool) : Nat → List UInt8 → Int
  | _, [] => -1
  | k, c :: l => if p c = true then (k : Int) else idxB p (k + 1) l
theorem idxB_any (p : UInt8 → Bool) (k : Nat) (l : List UInt8) : decide (0 ≤ idxB p k l) = l.any p := by
  induction l generalizing k with
  | nil => rfl
  | cons c l ih =>
    rw [idxB, List.any_cons]
    by_cases h : p c = true
    · rw [if_pos h, h]; simp
    · rw [if_neg h, ih, Bool.eq_false_iff.2 h]; rfl
theorem okB_idx (least : Nat) (s : ByteArray) : decide (0 ≤ idxB (fun c => !okC least c) 0 s.data.toList) = !okB least s := by
  rw [idxB_any]; unfold okB; rw [List.not_all_eq_any_not]

theorem bad_any (least : Nat) (c : UInt8) (b : Nat) (w : World) (h : w.cell? ⟨b, 0, none⟩ = some (.int .u8 (least : Int))) :
    Calls Try.prog 60 #[.int .u8 (c.toNat : Int), .pointer (some ⟨b, 0, none⟩)] w fun e w' => e = .returned (.bool (!okC least c)) ∧ w = w' := by
  have hF : (!okC least c) = (decide (c.toNat < least) || decide (126 < c.toNat)) := by
    unfold okC
    by_cases h1 : c.toNat < least <;> by_cases h2 : 126 < c.toNat <;> simp [h1, h2] <;> omega
  have HF := Lib.hid hF
  clear hF
  generalize c.toNat = n at *
  by_cases h1 : n < least
  · have h1' : decide ((n : Int) < least) = true := by simpa using h1
    have HG : Hid ((!okC least c) = true) := by unfold Hid; rw [HF.out]; simp [h1]
    go_enter Try.func60, Try.ntmps60
    go_wp2
    go_ret
    exact ⟨ret_bool HG.out, rfl⟩
  · have h1' : decide ((n : Int) < least) = false := by simpa using h1
    by_cases h2 : 126 < n
    · have h2' : decide ((126 : Int) < n) = true := by simp; omega
      have HG : Hid ((!okC least c) = true) := by unfold Hid; rw [HF.out]; simp [h2]
      go_enter Try.func60, Try.ntmps60
      go_wp2
      go_ret
      exact ⟨ret_bool HG.out, rfl⟩
    · have h2' : decide ((126 : Int) < n) = false := by simp; omega
      have HG : Hid ((!okC least c) = false) := by unfold Hid; rw [HF.out]; simp [h1, h2]
      go_enter Try.func60, Try.ntmps60
      go_wp2
      go_ret
      exact ⟨ret_bool HG.out, rfl⟩

set_option maxHeartbeats 1000000 in
theorem idxF_any (least : Nat) (s : ByteArray) (g b cap : Nat) (w : World) (hsrc : Src w g s) (hs : s.size ≤ 140737488351232) (h : w.cell? ⟨b, 0, none⟩ = some (.int .u8 (least : Int))) :
    Calls Try.prog 68 #[.slice (some ⟨g, 0, none⟩) s.size cap, .func (.func 60) #[] #[.pointer (some ⟨b, 0, none⟩)]] w fun e w' => e = .returned (.int .i64 (idxB (fun c => !okC least c) 0 s.data.toList)) ∧ w = w' := by
  obtain ⟨R, hR⟩ : ∃ R, idxB (fun c => !okC least c) 0 s.data.toList = R := ⟨_, rfl⟩
  rw [hR]
  have HR := Lib.hid hR
  have cB := Lib.hid (fun c => bad_any least c b w h)
  have HS := Lib.hid hsrc
  clear hR h hsrc
  go_enter Try.func68, Try.ntmps68
  go_wp2
  go_loop [5, 8] (fun _ i => ∃ k : Nat, k ≤ s.size ∧ i = .int .i64 k ∧ Hid (idxB (fun c => !okC least c) k (s.data.toList.drop k) = R)) (fun _ i => s.size - (intOf i).toNat)
  case atStart => exact ⟨0, Nat.zero_le _, rfl, by rw [List.drop_zero]; exact HR⟩
  case round =>
    obtain ⟨k, hk, rfl, HK⟩ := hrel
    by_cases hlt : k < s.size
    · have hcell := HS.out k hlt
      have HK2 : Hid (R = if (!okC least s[k]) = true then (k : Int) else idxB (fun c => !okC least c) (k + 1) (s.data.toList.drop (k + 1))) := by
        unfold Hid; rw [← HK.out, drop_cons_at s k hlt, idxB]
      have c1 := Lib.hid (cB.out s[k])
      generalize s[k] = c at *
      by_cases hb : (!okC least c) = true
      · have HE : Hid (R = (k : Int)) := by unfold Hid; rw [HK2.out, if_pos hb]
        rw [hb] at c1
        clear hb HK2
        go_wp2_with fail
        refine c1.out.mono ?_
        rintro e w' ⟨rfl, rfl⟩
        go_wp2_with fail
        go_ret
        exact ⟨ret_i64 HE.out, rfl⟩
      · have HE : Hid (idxB (fun c => !okC least c) (k + 1) (s.data.toList.drop (k + 1)) = R) := by unfold Hid; rw [HK2.out, if_neg hb]
        rw [Bool.eq_false_iff.2 hb] at c1
        clear hb HK2
        go_wp2_with fail
        refine c1.out.mono ?_
        rintro e w' ⟨rfl, rfl⟩
        go_wp2_with fail
        go_round
        case rel => exact ⟨k + 1, by omega, by go_num, HE⟩
        case measure => simp [intOf]; omega
    · have HE : Hid (R = -1) := by unfold Hid; rw [← HK.out, drop_all s k hlt]; rfl
      go_wp2_with fail
      go_ret
      exact ⟨ret_i64 HE.out, rfl⟩

theorem contF_any (least : Nat) (s : ByteArray) (g b cap : Nat) (w : World) (hsrc : Src w g s) (hs : s.size ≤ 140737488351232) (h : w.cell? ⟨b, 0, none⟩ = some (.int .u8 (least : Int))) :
    Calls Try.prog 59 #[.slice (some ⟨g, 0, none⟩) s.size cap, .func (.func 60) #[] #[.pointer (some ⟨b, 0, none⟩)]] w fun e w' => e = .returned (.bool (!okB least s)) ∧ w = w' := by
  have c1 := Lib.hid (idxF_any least s g b cap w hsrc hs h)
  have HO := Lib.hid (okB_idx least s)
  generalize idxB (fun c => !okC least c) 0 s.data.toList = R at *
  generalize (!okB least s) = B at *
  have hO := HO.out
  clear hsrc h
  go_enter Try.func59, Try.ntmps59
  go_wp2_with (go_at_call 68; with_reducible refine c1.out.mono ?_; rintro e w' ⟨rfl, rfl⟩)
  go_ret
  exact ⟨rfl, rfl⟩

set_option maxHeartbeats 1000000 in
theorem within_any (least : Nat) (s : ByteArray) (w : World) (hs : s.size ≤ 140737488351232) :
    Calls Try.prog 46 #[.string s, .int .u8 (least : Int)] w fun e w' => e = .returned (.bool (okB least s)) ∧ Below w.heap.size w w' := by
  have hm : ∀ (fn : Fn) (first cap : Array Value) (w : World), (Instr.makeFunc fn first cap).run Try.prog w = .ok (.func fn first cap) w := fun _ _ _ _ => rfl
  have c1 := Lib.hid (fun g b cap w => contF_any least s g b cap w)
  generalize okB least s = B at *
  go_enter Try.func46, Try.ntmps46
  go_wp2_with (with_reducible refine wpList_bytes _ rfl _ 9 34 5 rfl Try.underlying9 Try.underlying34 Try.underlying5 s rfl ?_; intro cap w1 hcap hc1 hb1 hz1 hf1)
  have hk : w1.cell? ⟨w.heap.size, 0, none⟩ = some (.int .u8 (least : Int)) := (hb1.cell (p := ⟨w.heap.size, 0, none⟩) (by simp)).trans (by rw [World.cell?_alloc_at _ _ _ _ rfl]; rfl)
  have c2' := c1.out _ _ cap w1 hc1 hs hk
  simp only [World.size_alloc] at c2'
  have c2 := Lib.hid c2'
  have HB : Hid (Below w.heap.size w w1) := ((Below.refl _ _).alloc (Nat.le_refl _) _).trans (hb1.mono (by simp))
  clear hc1 hf1 hb1 hk c1 c2'
  go_wp2_with fail
  refine c2.out.mono ?_
  rintro e w' ⟨rfl, rfl⟩
  go_wp2_with fail
  go_ret
  exact ⟨ret_bool (by simp), HB.out⟩
end Go.Proofs.Yteheibgdjpkeaaa
