/- sixbit.Decode: its plain function, and the walk. No condition but the text's size. -/
import Derived.Test.YtiakmaleiholnaaEncP
import Derived.Test.YtiakmaleiholnaaShelf
namespace Go.Proofs.Ytiakmaleiholnaa
open Go.RowKit

def wsB (c : Nat) : Bool := decide (c = 32 ∨ c = 9 ∨ c = 13 ∨ c = 10)

theorem passed_any (c : Nat) (w : World) (hc : c < 256) : Calls Try.prog 57 #[.int .u8 (c : Int)] w fun e w' => e = .returned (.bool (wsB c)) ∧ w = w' := by
  have key : (c = 32 ∧ Hid (wsB c = true)) ∨ (((c : Int) == 32) = false ∧ c = 9 ∧ Hid (wsB c = true)) ∨ (((c : Int) == 32) = false ∧ ((c : Int) == 9) = false ∧ c = 13 ∧ Hid (wsB c = true)) ∨ (((c : Int) == 32) = false ∧ ((c : Int) == 9) = false ∧ ((c : Int) == 13) = false ∧ c = 10 ∧ Hid (wsB c = true)) ∨
      (((c : Int) == 32) = false ∧ ((c : Int) == 9) = false ∧ ((c : Int) == 13) = false ∧ ((c : Int) == 10) = false ∧ Hid (wsB c = false)) := by
    unfold Hid wsB
    by_cases h1 : c = 32
    · exact .inl ⟨h1, by simp [h1]⟩
    by_cases h2 : c = 9
    · exact .inr (.inl ⟨by simp; omega, h2, by simp [h2]⟩)
    by_cases h3 : c = 13
    · exact .inr (.inr (.inl ⟨by simp; omega, by simp; omega, h3, by simp [h3]⟩))
    by_cases h4 : c = 10
    · exact .inr (.inr (.inr (.inl ⟨by simp; omega, by simp; omega, by simp; omega, h4, by simp [h4]⟩)))
    · exact .inr (.inr (.inr (.inr ⟨by simp; omega, by simp; omega, by simp; omega, by simp; omega, by simp; omega⟩)))
  generalize wsB c = b at *
  rcases key with ⟨rfl, H⟩ | ⟨k1, rfl, H⟩ | ⟨k1, k2, rfl, H⟩ | ⟨k1, k2, k3, rfl, H⟩ | ⟨k1, k2, k3, k4, H⟩
  all_goals
    go_enter Try.func57, Try.ntmps57
    go_wp2
    go_ret
    exact ⟨by rw [H.out]; rfl, rfl⟩

/-- the worth of a letter -/
def wv (c : UInt8) : Int := Lib.indexByte lets.data.toList c
theorem wv_bd (c : UInt8) : -1 ≤ wv c ∧ wv c < 64 := by
  have h1 := Lib.indexByte_ge lets.data.toList c
  have h2 := idx_lt lets.data.toList c
  have h3 : lets.data.toList.length = 64 := by decide
  unfold wv; omega

theorem idx_let (c : UInt8) (w : World) : Calls Try.prog 53 #[.string { data := #[65, 66, 67, 68, 69, 70, 71, 72, 73, 74, 75, 76, 77, 78, 79, 80, 81, 82, 83, 84, 85, 86, 87, 88, 89, 90, 97, 98, 99, 100, 101, 102, 103, 104, 105, 106, 107, 108, 109, 110, 111, 112, 113, 114, 115, 116, 117, 118, 119, 120, 121, 122, 48, 49, 50, 51, 52, 53, 54, 55, 56, 57, 43, 47] }, .int .u8 (c.toNat : Int)] w
    fun e w' => e = .returned (.int .i64 (wv c)) ∧ w = w' := by
  refine (Try.strings_IndexByte lets (c.toNat : Int) w).mono ?_
  rintro e w' ⟨he, hw⟩
  refine ⟨?_, hw.symm⟩
  rw [he]
  have e1 : ((c.toNat : Int)).toNat.toUInt8 = c := by simp
  rw [e1]; rfl

/-- the program's way -/
def prun (w n g : Nat) (o : Bool) (out : List Int) : List UInt8 → List Int × Int
  | [] => if n ≠ 0 then ([], 1) else if o = true then ([], 3) else (out, 0)
  | c :: cs =>
    if wsB c.toNat = true then prun w n g o out cs
    else if wv c < 0 ∧ c.toNat ≠ 61 then ([], 3)
    else if 0 < g ∧ n = 0 then ([], 6)
    else if (c.toNat = 61 ∧ n < 2) ∨ (c.toNat ≠ 61 ∧ 0 < g) then ([], 3)
    else if n + 1 < 4 then prun (64 * w + (if c.toNat = 61 then 0 else (wv c).toNat)) (n + 1) (if c.toNat = 61 then g + 1 else g) o out cs
    else prun 0 0 (if c.toNat = 61 then g + 1 else g) (o || decide ((64 * w + (if c.toNat = 61 then 0 else (wv c).toNat)) % 2 ^ (8 * (if c.toNat = 61 then g + 1 else g)) ≠ 0))
      (out ++ ([(64 * w + (if c.toNat = 61 then 0 else (wv c).toNat)) / 65536 % 256, (64 * w + (if c.toNat = 61 then 0 else (wv c).toNat)) / 256 % 256, (64 * w + (if c.toNat = 61 then 0 else (wv c).toNat)) % 256].map (fun x : Nat => (x : Int))).take (3 - (if c.toNat = 61 then g + 1 else g))) cs

theorem or6_u32 (a m : Nat) (hm : m < 64) (h : a * 64 + m < 4294967296) : bits BinOp.or IntKind.u32 ((a : Int) * 64) (m : Int) = ((64 * a + m : Nat) : Int) := by
  have := u32_or_nat (a * 64) m (by omega) (by omega)
  rw [show a * 64 = 2 ^ 6 * a from by omega, ← Nat.two_pow_add_eq_or_of_lt (by omega)] at this
  rw [show ((a : Int) * 64) = ((2 ^ 6 * a : Nat) : Int) from by omega, this]

theorem ret_dec {R : List Int × Int} {l : List Int} {e : Int} (h : R = (l, e)) : Ending.returned (.tuple #[.string (strOfNums l), .int .i64 e]) = Ending.returned (.tuple #[.string (strOfNums R.1), .int .i64 R.2]) := by subst h; rfl

/-- append of the first cells of a block that has just been laid, whatever its type. -/
theorem wpList_appC {P : Program} (w0 : World) (cs : Array Value) (et : TypeId) {ops : Array Oper} {rest : List Oper} {o : Oper} {a : Act} {Q : Exit → Act → World → Prop}
    (hg : o.guard = none) (s y : Operand) (t e : TypeId) (z : Value) (b : Nat) (S : Sl1 P t e z b)
    (hop : o.op = Op.call { callee := Callee.builtin Builtin.append, args := #[s, y], argTypes := #[t, t] })
    (B : Nat) (v : Value) (n : Nat) (xs news : List Value) (hs : a.eval s = v) (m c : Nat) (hy : a.eval y = .slice (some ⟨w0.heap.size, 0, none⟩) m c) (hm : news.length = m) (h1 : ∀ u ∈ news, u.oneCell' = true)
    (hcs : ∀ (j : Nat) (u : Value), news[j]? = some u → cs[j]? = some u)
    (own : w0.ownsRow B e 1 v n xs) (h63 : n + m ≤ maxLen) (hb : (n + m) * b ≤ 140737488355328) (hB : B ≤ w0.heap.size)
    (hK : ∀ a' cap' w', w'.ownsRow B e 1 (.slice a' (n + m) cap') (n + m) (xs ++ news) → Below B w0 w' →
      wpList P ops Q rest (a.put o.dst (.slice a' (n + m) cap')) w') :
    wpList P ops Q (o :: rest) a (w0.alloc (.cells cs et)) := by
  have hn : xs.length = n := by have := own.1; omega
  subst hn
  refine wpList_appCore _ hg s y t e z b S hop B v xs news hs ⟨w0.heap.size, 0, none⟩ m c hy hm h1 (fun j u hu => ?_) (own.alloc _) h63 hb (by simp; omega) ?_
  · rw [show (⟨w0.heap.size, 0, none⟩ : Addr).add j = ⟨w0.heap.size, j, none⟩ from by unfold Addr.add; split <;> simp_all]
    rw [World.cell?_alloc_at _ _ _ _ rfl]
    exact hcs j u hu
  · intro a' cap' w' hown hgr hmv
    exact hK a' cap' w' hown (((Below.refl B w0).alloc hB _).grown hgr (by simp; omega) (fun k hk => (own.lt k hk).1))

theorem andm_u32 (k V : Nat) (hk : k ≤ 31) (h : V < 4294967296) : bits BinOp.and IntKind.u32 (V : Int) ((2 ^ k - 1 : Nat) : Int) = ((V % 2 ^ k : Nat) : Int) := by
  have hp : 2 ^ k ≤ 2 ^ 31 := Nat.pow_le_pow_right (by decide) hk
  have := u32_and_nat V (2 ^ k - 1) h (by omega)
  rw [this, Nat.and_two_pow_sub_one_eq_mod]
theorem neq_dec (n : Nat) : (((n : Nat) : Int) != 0) = decide (n ≠ 0) := by
  by_cases h : n = 0
  · subst h; rfl
  · rw [decide_eq_true h]; simp; omega
theorem odd0 (wd m : Nat) (h : 64 * wd + m < 16777216) : (bits BinOp.and IntKind.u32 (64 * (wd : Int) + m) 0 != 0) = decide ((64 * wd + m) % 2 ^ (8 * 0) ≠ 0) := by
  rw [← neq_dec, ← andm_u32 (8 * 0) (64 * wd + m) (by omega) (by omega)]; rfl
theorem odd1 (wd : Nat) (h : 64 * wd < 16777216) : (bits BinOp.and IntKind.u32 (64 * (wd : Int)) 255 != 0) = decide ((64 * wd + 0) % 2 ^ (8 * 1) ≠ 0) := by
  rw [← neq_dec, ← andm_u32 (8 * 1) (64 * wd + 0) (by omega) (by omega)]; rfl
theorem odd2 (wd : Nat) (h : 64 * wd < 16777216) : (bits BinOp.and IntKind.u32 (64 * (wd : Int)) 65535 != 0) = decide ((64 * wd + 0) % 2 ^ (8 * 2) ≠ 0) := by
  rw [← neq_dec, ← andm_u32 (8 * 2) (64 * wd + 0) (by omega) (by omega)]; rfl
theorem or6_z (wd : Nat) (h : wd < 262144) : bits BinOp.or IntKind.u32 ((wd : Int) * 64) 0 = 64 * (wd : Int) := by
  have := or6_u32 wd 0 (by omega) (by omega)
  simpa using this
/-- the bytes of a full word, less the gaps -/
def dnew (V G : Nat) : List Int := ([V / 65536 % 256, V / 256 % 256, V % 256].map (fun x : Nat => (x : Int))).take (3 - G)
theorem dnew0 (wd m : Nat) (h : 64 * wd + m < 16777216) : (dnew (64 * wd + m) 0).map (Value.int .u8) = [.int .u8 ((64 * (wd : Int) + m) / 65536), .int .u8 ((64 * (wd : Int) + m) / 256 % 256), .int .u8 ((64 * (wd : Int) + m) % 256)] := by
  simp [dnew]; omega
theorem dnew1 (wd : Nat) (h : 64 * wd < 16777216) : (dnew (64 * wd + 0) 1).map (Value.int .u8) = [.int .u8 ((64 * (wd : Int)) / 65536), .int .u8 ((64 * (wd : Int)) / 256 % 256)] := by
  simp [dnew]; omega
theorem dnew2 (wd : Nat) (h : 64 * wd < 16777216) : (dnew (64 * wd + 0) 2).map (Value.int .u8) = [.int .u8 ((64 * (wd : Int)) / 65536)] := by
  simp [dnew]; omega
theorem dnew_len (V G : Nat) : (dnew V G).length = 3 - G := by simp [dnew]

def DSt (wd n g : Nat) : Prop := (n = 0 ∧ wd = 0 ∨ n = 1 ∧ wd < 64 ∨ n = 2 ∧ wd < 4096 ∨ n = 3 ∧ wd < 262144) ∧ (g = 0 ∨ (n = 0 ∧ 1 ≤ g ∧ g ≤ 2) ∨ (g = 1 ∧ n = 3))

set_option maxRecDepth 100000 in
set_option maxHeartbeats 2000000 in
theorem decode_any (s : ByteArray) (w : World) (hs : s.size ≤ 1000000) :
    Calls Try.prog 32 #[.string s] w fun e w' => e = .returned (.tuple #[.string (strOfNums (prun 0 0 0 false [] s.data.toList).1), .int .i64 (prun 0 0 0 false [] s.data.toList).2]) ∧ Below w.heap.size w w' := by
  obtain ⟨R, hR⟩ : ∃ R, prun 0 0 0 false [] s.data.toList = R := ⟨_, rfl⟩
  have HR := Lib.hid hR
  rw [hR]
  clear hR
  go_enter Try.func32, Try.ntmps32
  go_wp2_with (with_reducible refine wpList_bytes _ rfl _ 9 43 5 rfl Try.underlying9 Try.underlying43 Try.underlying5 s rfl ?_; intro cap w1 hcap hc1 hb1 hz1 hf1)
  have hS : Src w1 w.heap.size s := hc1
  have HB1 := Lib.hid hb1
  clear hc1 hf1 hb1
  have HS := Lib.hid hS
  clear hS
  go_loopw [4, 5, 6, 7, 8, 16] (fun b x n g o i wr => ∃ (k wd nn gg : Nat) (oo : Bool) (l : List Int) (a : Option Addr) (c : Nat), k ≤ s.size ∧ i = .int .i64 (k : Int) ∧ x = .int .u32 (wd : Int) ∧ n = .int .i64 (nn : Int) ∧ g = .int .i64 (gg : Int) ∧ o = .bool oo ∧ b = .slice a l.length c ∧ l.length ≤ 3 * k ∧ DSt wd nn gg ∧ wr.ownsRow w1.heap.size 5 1 (.slice a l.length c) l.length (l.map (Value.int .u8)) ∧ Below w1.heap.size w1 wr ∧ Hid (prun wd nn gg oo l (s.data.toList.drop k) = R)) (fun _ _ _ _ _ i _ => s.size - (intOf i).toNat)
  case atStart => exact ⟨0, 0, 0, 0, false, [], none, 0, by omega, rfl, rfl, rfl, rfl, rfl, rfl, by simp, ⟨by omega, by omega⟩, World.ownsRow_nil _ _ _ _, Below.refl _ _, HR.out⟩
  case round =>
    obtain ⟨k, wd, nn, gg, oo, l, a, cp, hk, rfl, rfl, rfl, rfl, rfl, rfl, hlk, hst, hown, hb, HP⟩ := hrel
    by_cases hlt : k < s.size
    · have hcell := (HS.out.below hb hz1) k hlt
      have hP2 := HP.out
      rw [drop_cons_at s k hlt] at hP2
      obtain ⟨D, hD⟩ : ∃ D, s.data.toList.drop (k + 1) = D := ⟨_, rfl⟩
      have HD := Lib.hid hD
      rw [hD] at hP2
      clear hD HP
      generalize s[k] = c at *
      have cpass := Lib.hid (fun w => passed_any c.toNat w (UInt8.toNat_lt _))
      have cidx := Lib.hid (fun w => idx_let c w)
      have hX := Lib.hid hown
      have HB := Lib.hid hb
      clear hown hb
      rw [prun] at hP2
      by_cases hws : wsB c.toNat = true
      · rw [if_pos hws] at hP2
        rw [hws] at cpass
        have H2 := Lib.hid hP2
        clear hP2
        go_wp2_with (go_at_call 57; refine (cpass.out _).mono ?_; rintro e w5 ⟨rfl, rfl⟩)
        go_roundw
        case rel => exact ⟨k + 1, wd, nn, gg, oo, l, a, cp, by omega, by go_num, rfl, rfl, rfl, rfl, rfl, by omega, hst, hX.out, HB.out, by unfold Hid; rw [HD.out]; exact H2.out⟩
        case measure => simp [intOf]; omega
      · rw [if_neg hws] at hP2
        have hwf : wsB c.toNat = false := by simpa using hws
        rw [hwf] at cpass
        have hvb := wv_bd c
        have hcn : c.toNat < 256 := UInt8.toNat_lt _
        clear hws hwf
        by_cases h61 : c.toNat = 61
        · have hv61 : wv c = -1 := by
            have : c = 61 := by apply UInt8.toNat_inj.1; rw [h61]; rfl
            subst this; decide +kernel
          rw [hv61] at cidx hP2
          rw [h61] at cpass cidx hP2
          rw [h61] at hcell
          simp only [show ((61 : Nat) : Int) = 61 from rfl] at cpass cidx hcell
          clear hv61 h61 hvb hcn
          by_cases hg1 : 0 < gg ∧ nn = 0
          · rw [if_neg (by omega), if_pos hg1] at hP2
            obtain ⟨hg0, rfl⟩ := hg1
            have hg0' : (0 : Int) < (gg : Int) := by omega
            have H2 := Lib.hid hP2
            clear hP2
            go_wp2_with (first | (go_at_call 57; refine (cpass.out _).mono ?_; rintro e w5 ⟨rfl, rfl⟩) | (go_at_call 53; refine (cidx.out _).mono ?_; rintro e w5 ⟨rfl, rfl⟩))
            go_ret2
            exact ⟨ret_dec H2.out.symm, HB1.out.trans (HB.out.mono (by omega))⟩
          · obtain ⟨hst1, hst2⟩ := hst
            rw [if_neg (by omega), if_neg hg1] at hP2
            have hn3 : nn = 0 ∨ nn = 1 ∨ nn = 2 ∨ nn = 3 := by omega
            have hwd : wd < 262144 := by omega
            rcases hn3 with rfl | rfl | rfl | rfl
            · obtain rfl : gg = 0 := by omega
              rw [if_pos (by omega)] at hP2
              have H2 := Lib.hid hP2
              clear hP2
              go_wp2_with (first | (go_at_call 57; refine (cpass.out _).mono ?_; rintro e w5 ⟨rfl, rfl⟩) | (go_at_call 53; refine (cidx.out _).mono ?_; rintro e w5 ⟨rfl, rfl⟩))
              go_ret2
              exact ⟨ret_dec H2.out.symm, HB1.out.trans (HB.out.mono (by omega))⟩
            · obtain rfl : gg = 0 := by omega
              rw [if_pos (by omega)] at hP2
              have H2 := Lib.hid hP2
              clear hP2
              go_wp2_with (first | (go_at_call 57; refine (cpass.out _).mono ?_; rintro e w5 ⟨rfl, rfl⟩) | (go_at_call 53; refine (cidx.out _).mono ?_; rintro e w5 ⟨rfl, rfl⟩))
              go_ret2
              exact ⟨ret_dec H2.out.symm, HB1.out.trans (HB.out.mono (by omega))⟩
            · obtain rfl : gg = 0 := by omega
              rw [if_neg (by omega), if_pos (by omega)] at hP2
              have hor := or6_u32 wd 0 (by omega) (by omega)
              have hV : wd < 4096 := by omega
              have H2 := Lib.hid hP2
              clear hP2 hst1 hst2
              go_wp2_with (first | (go_at_call 57; refine (cpass.out _).mono ?_; rintro e w5 ⟨rfl, rfl⟩) | (go_at_call 53; refine (cidx.out _).mono ?_; rintro e w5 ⟨rfl, rfl⟩))
              go_roundw
              case rel => exact ⟨k + 1, 64 * wd, 3, 1, oo, l, a, cp, by omega, by go_num, by go_num, by go_num, by go_num, rfl, rfl, by omega, ⟨by omega, by omega⟩, hX.out, HB.out, by unfold Hid; rw [HD.out]; exact H2.out⟩
              case measure => simp [intOf]; omega
            · have hg2 : gg = 0 ∨ gg = 1 := by omega
              rw [if_neg (by omega), if_neg (by omega)] at hP2
              simp only [if_true] at hP2
              have hV : 64 * wd < 16777216 := by omega
              rcases hg2 with rfl | rfl
              · have hor := or6_z wd hwd
                have hN := dnew1 wd hV
                have hL := dnew_len (64 * wd + 0) 1
                have hP3 : prun 0 0 1 (oo || decide ((64 * wd + 0) % 2 ^ (8 * 1) ≠ 0)) (l ++ dnew (64 * wd + 0) 1) D = R := hP2
                have hne := odd1 wd hV
                have hwz := HB.out.size
                have HN := Lib.hid hN
                have HL := Lib.hid hL
                have HNE := Lib.hid hne
                have H2 := Lib.hid hP3
                clear hP2 hst1 hst2 hN hL hP3 hne
                generalize dnew (64 * wd + 0) 1 = dn at *
                cases oo
                · have H2 := Lib.hid (H2.out)
                  rw [Bool.false_or, ← HNE.out] at H2
                  go_wp2_with (first | (go_at_call 57; refine (cpass.out _).mono ?_; rintro e w5 ⟨rfl, rfl⟩) | (go_at_call 53; refine (cidx.out _).mono ?_; rintro e w5 ⟨rfl, rfl⟩) | (at_builtin; go_must (refine wpList_appC wr _ 75 rfl _ _ 43 5 _ _ S43 rfl w1.heap.size _ _ _ [.int .u8 ((64 * (wd : Int)) / 65536), .int .u8 ((64 * (wd : Int)) / 256 % 256)] rfl _ _ rfl rfl (by simp [Value.oneCell']) (by intro j u hu; rcases j with _ | _ | _ | j <;> simp_all) hX.out (by simp [maxLen]; omega) (by omega) hwz ?_); intro a' c' w4 hown4 hb4))
                  go_roundw
                  case rel => exact ⟨k + 1, 0, 0, 1, _, l ++ dn, a', c', by omega, by go_num, rfl, rfl, by go_num, rfl, by rw [List.length_append, HL.out], by rw [List.length_append, HL.out]; omega, ⟨by omega, by omega⟩, by rw [List.length_append, HL.out, List.map_append, HN.out]; exact hown4, HB.out.trans hb4, by unfold Hid; rw [HD.out]; exact H2.out⟩
                  case measure => simp [intOf]; omega
                · go_wp2_with (first | (go_at_call 57; refine (cpass.out _).mono ?_; rintro e w5 ⟨rfl, rfl⟩) | (go_at_call 53; refine (cidx.out _).mono ?_; rintro e w5 ⟨rfl, rfl⟩) | (at_builtin; go_must (refine wpList_appC wr _ 75 rfl _ _ 43 5 _ _ S43 rfl w1.heap.size _ _ _ [.int .u8 ((64 * (wd : Int)) / 65536), .int .u8 ((64 * (wd : Int)) / 256 % 256)] rfl _ _ rfl rfl (by simp [Value.oneCell']) (by intro j u hu; rcases j with _ | _ | _ | j <;> simp_all) hX.out (by simp [maxLen]; omega) (by omega) hwz ?_); intro a' c' w4 hown4 hb4))
                  go_roundw
                  case rel => exact ⟨k + 1, 0, 0, 1, _, l ++ dn, a', c', by omega, by go_num, rfl, rfl, by go_num, rfl, by rw [List.length_append, HL.out], by rw [List.length_append, HL.out]; omega, ⟨by omega, by omega⟩, by rw [List.length_append, HL.out, List.map_append, HN.out]; exact hown4, HB.out.trans hb4, by unfold Hid; rw [HD.out]; exact H2.out⟩
                  case measure => simp [intOf]; omega
              · have hor := or6_z wd hwd
                have hN := dnew2 wd hV
                have hL := dnew_len (64 * wd + 0) 2
                have hP3 : prun 0 0 2 (oo || decide ((64 * wd + 0) % 2 ^ (8 * 2) ≠ 0)) (l ++ dnew (64 * wd + 0) 2) D = R := hP2
                have hne := odd2 wd hV
                have hwz := HB.out.size
                have HN := Lib.hid hN
                have HL := Lib.hid hL
                have HNE := Lib.hid hne
                have H2 := Lib.hid hP3
                clear hP2 hst1 hst2 hN hL hP3 hne
                generalize dnew (64 * wd + 0) 2 = dn at *
                cases oo
                · have H2 := Lib.hid (H2.out)
                  rw [Bool.false_or, ← HNE.out] at H2
                  go_wp2_with (first | (go_at_call 57; refine (cpass.out _).mono ?_; rintro e w5 ⟨rfl, rfl⟩) | (go_at_call 53; refine (cidx.out _).mono ?_; rintro e w5 ⟨rfl, rfl⟩) | (at_builtin; go_must (refine wpList_appC wr _ 75 rfl _ _ 43 5 _ _ S43 rfl w1.heap.size _ _ _ [.int .u8 ((64 * (wd : Int)) / 65536)] rfl _ _ rfl rfl (by simp [Value.oneCell']) (by intro j u hu; rcases j with _ | _ | _ | j <;> simp_all) hX.out (by simp [maxLen]; omega) (by omega) hwz ?_); intro a' c' w4 hown4 hb4))
                  go_roundw
                  case rel => exact ⟨k + 1, 0, 0, 2, _, l ++ dn, a', c', by omega, by go_num, rfl, rfl, by go_num, rfl, by rw [List.length_append, HL.out], by rw [List.length_append, HL.out]; omega, ⟨by omega, by omega⟩, by rw [List.length_append, HL.out, List.map_append, HN.out]; exact hown4, HB.out.trans hb4, by unfold Hid; rw [HD.out]; exact H2.out⟩
                  case measure => simp [intOf]; omega
                · go_wp2_with (first | (go_at_call 57; refine (cpass.out _).mono ?_; rintro e w5 ⟨rfl, rfl⟩) | (go_at_call 53; refine (cidx.out _).mono ?_; rintro e w5 ⟨rfl, rfl⟩) | (at_builtin; go_must (refine wpList_appC wr _ 75 rfl _ _ 43 5 _ _ S43 rfl w1.heap.size _ _ _ [.int .u8 ((64 * (wd : Int)) / 65536)] rfl _ _ rfl rfl (by simp [Value.oneCell']) (by intro j u hu; rcases j with _ | _ | _ | j <;> simp_all) hX.out (by simp [maxLen]; omega) (by omega) hwz ?_); intro a' c' w4 hown4 hb4))
                  go_roundw
                  case rel => exact ⟨k + 1, 0, 0, 2, _, l ++ dn, a', c', by omega, by go_num, rfl, rfl, by go_num, rfl, by rw [List.length_append, HL.out], by rw [List.length_append, HL.out]; omega, ⟨by omega, by omega⟩, by rw [List.length_append, HL.out, List.map_append, HN.out]; exact hown4, HB.out.trans hb4, by unfold Hid; rw [HD.out]; exact H2.out⟩
                  case measure => simp [intOf]; omega
        · generalize wv c = v at *
          generalize c.toNat = cn at *
          have h61' : ¬ (cn : Int) = 61 := by omega
          by_cases hv : v < 0
          · rw [if_pos ⟨hv, h61⟩] at hP2
            have H2 := Lib.hid hP2
            clear hP2
            go_wp2_with (first | (go_at_call 57; refine (cpass.out _).mono ?_; rintro e w5 ⟨rfl, rfl⟩) | (go_at_call 53; refine (cidx.out _).mono ?_; rintro e w5 ⟨rfl, rfl⟩))
            go_ret2
            exact ⟨ret_dec H2.out.symm, HB1.out.trans (HB.out.mono (by omega))⟩
          · obtain ⟨m, rfl⟩ : ∃ m : Nat, v = m := ⟨v.toNat, by omega⟩
            by_cases hg1 : 0 < gg ∧ nn = 0
            · rw [if_neg (by omega), if_pos hg1] at hP2
              obtain ⟨hg0, rfl⟩ := hg1
              have hg0' : (0 : Int) < (gg : Int) := by omega
              have H2 := Lib.hid hP2
              clear hP2
              go_wp2_with (first | (go_at_call 57; refine (cpass.out _).mono ?_; rintro e w5 ⟨rfl, rfl⟩) | (go_at_call 53; refine (cidx.out _).mono ?_; rintro e w5 ⟨rfl, rfl⟩))
              go_ret2
              exact ⟨ret_dec H2.out.symm, HB1.out.trans (HB.out.mono (by omega))⟩
            · obtain ⟨hst1, hst2⟩ := hst
              rw [if_neg (by omega), if_neg hg1] at hP2
              have hn3 : nn = 0 ∨ nn = 1 ∨ nn = 2 ∨ nn = 3 := by omega
              have hwd : wd < 262144 := by omega
              have hm : m < 64 := by omega
              have hor := or6_u32 wd m hm (by omega)
              by_cases hgp : 0 < gg
              · obtain ⟨rfl, rfl⟩ : gg = 1 ∧ nn = 3 := by omega
                rw [if_pos (by omega)] at hP2
                have H2 := Lib.hid hP2
                clear hP2
                go_wp2_with (first | (go_at_call 57; refine (cpass.out _).mono ?_; rintro e w5 ⟨rfl, rfl⟩) | (go_at_call 53; refine (cidx.out _).mono ?_; rintro e w5 ⟨rfl, rfl⟩))
                go_ret2
                exact ⟨ret_dec H2.out.symm, HB1.out.trans (HB.out.mono (by omega))⟩
              · obtain rfl : gg = 0 := by omega
                rw [if_neg (by omega)] at hP2
                simp only [if_neg h61, Int.toNat_natCast] at hP2
                rcases hn3 with rfl | rfl | rfl | rfl
                · rw [if_pos (by omega)] at hP2
                  have hV : 64 * wd + m < 64 := by omega
                  have H2 := Lib.hid hP2
                  clear hP2 hst1 hst2
                  go_wp2_with (first | (go_at_call 57; refine (cpass.out _).mono ?_; rintro e w5 ⟨rfl, rfl⟩) | (go_at_call 53; refine (cidx.out _).mono ?_; rintro e w5 ⟨rfl, rfl⟩))
                  go_roundw
                  case rel => exact ⟨k + 1, 64 * wd + m, 1, 0, oo, l, a, cp, by omega, by go_num, by go_num, by go_num, by go_num, rfl, rfl, by omega, ⟨by omega, by omega⟩, hX.out, HB.out, by unfold Hid; rw [HD.out]; exact H2.out⟩
                  case measure => simp [intOf]; omega
                · rw [if_pos (by omega)] at hP2
                  have hV : 64 * wd + m < 4096 := by omega
                  have H2 := Lib.hid hP2
                  clear hP2 hst1 hst2
                  go_wp2_with (first | (go_at_call 57; refine (cpass.out _).mono ?_; rintro e w5 ⟨rfl, rfl⟩) | (go_at_call 53; refine (cidx.out _).mono ?_; rintro e w5 ⟨rfl, rfl⟩))
                  go_roundw
                  case rel => exact ⟨k + 1, 64 * wd + m, 2, 0, oo, l, a, cp, by omega, by go_num, by go_num, by go_num, by go_num, rfl, rfl, by omega, ⟨by omega, by omega⟩, hX.out, HB.out, by unfold Hid; rw [HD.out]; exact H2.out⟩
                  case measure => simp [intOf]; omega
                · rw [if_pos (by omega)] at hP2
                  have hV : 64 * wd + m < 262144 := by omega
                  have H2 := Lib.hid hP2
                  clear hP2 hst1 hst2
                  go_wp2_with (first | (go_at_call 57; refine (cpass.out _).mono ?_; rintro e w5 ⟨rfl, rfl⟩) | (go_at_call 53; refine (cidx.out _).mono ?_; rintro e w5 ⟨rfl, rfl⟩))
                  go_roundw
                  case rel => exact ⟨k + 1, 64 * wd + m, 3, 0, oo, l, a, cp, by omega, by go_num, by go_num, by go_num, by go_num, rfl, rfl, by omega, ⟨by omega, by omega⟩, hX.out, HB.out, by unfold Hid; rw [HD.out]; exact H2.out⟩
                  case measure => simp [intOf]; omega
                · rw [if_neg (by omega)] at hP2
                  have hV : 64 * wd + m < 16777216 := by omega
                  have hN := dnew0 wd m hV
                  have hL := dnew_len (64 * wd + m) 0
                  have hP3 : prun 0 0 0 (oo || decide ((64 * wd + m) % 2 ^ (8 * 0) ≠ 0)) (l ++ dnew (64 * wd + m) 0) D = R := hP2
                  have hne := odd0 wd m hV
                  have hwz := HB.out.size
                  have HN := Lib.hid hN
                  have HL := Lib.hid hL
                  have HNE := Lib.hid hne
                  have H2 := Lib.hid hP3
                  clear hP2 hst1 hst2 hN hL hP3 hne
                  generalize dnew (64 * wd + m) 0 = dn at *
                  cases oo
                  · have H2 := Lib.hid (H2.out)
                    rw [Bool.false_or, ← HNE.out] at H2
                    go_wp2_with (first | (go_at_call 57; refine (cpass.out _).mono ?_; rintro e w5 ⟨rfl, rfl⟩) | (go_at_call 53; refine (cidx.out _).mono ?_; rintro e w5 ⟨rfl, rfl⟩) | (at_builtin; go_must (refine wpList_appC wr _ 75 rfl _ _ 43 5 _ _ S43 rfl w1.heap.size _ _ _ [.int .u8 ((64 * (wd : Int) + m) / 65536), .int .u8 ((64 * (wd : Int) + m) / 256 % 256), .int .u8 ((64 * (wd : Int) + m) % 256)] rfl _ _ rfl rfl (by simp [Value.oneCell']) (by intro j u hu; rcases j with _ | _ | _ | j <;> simp_all) hX.out (by simp [maxLen]; omega) (by omega) hwz ?_); intro a' c' w4 hown4 hb4))
                    go_roundw
                    case rel => exact ⟨k + 1, 0, 0, 0, _, l ++ dn, a', c', by omega, by go_num, rfl, rfl, by go_num, rfl, by rw [List.length_append, HL.out], by rw [List.length_append, HL.out]; omega, ⟨by omega, by omega⟩, by rw [List.length_append, HL.out, List.map_append, HN.out]; exact hown4, HB.out.trans hb4, by unfold Hid; rw [HD.out]; exact H2.out⟩
                    case measure => simp [intOf]; omega
                  · go_wp2_with (first | (go_at_call 57; refine (cpass.out _).mono ?_; rintro e w5 ⟨rfl, rfl⟩) | (go_at_call 53; refine (cidx.out _).mono ?_; rintro e w5 ⟨rfl, rfl⟩) | (at_builtin; go_must (refine wpList_appC wr _ 75 rfl _ _ 43 5 _ _ S43 rfl w1.heap.size _ _ _ [.int .u8 ((64 * (wd : Int) + m) / 65536), .int .u8 ((64 * (wd : Int) + m) / 256 % 256), .int .u8 ((64 * (wd : Int) + m) % 256)] rfl _ _ rfl rfl (by simp [Value.oneCell']) (by intro j u hu; rcases j with _ | _ | _ | j <;> simp_all) hX.out (by simp [maxLen]; omega) (by omega) hwz ?_); intro a' c' w4 hown4 hb4))
                    go_roundw
                    case rel => exact ⟨k + 1, 0, 0, 0, _, l ++ dn, a', c', by omega, by go_num, rfl, rfl, by go_num, rfl, by rw [List.length_append, HL.out], by rw [List.length_append, HL.out]; omega, ⟨by omega, by omega⟩, by rw [List.length_append, HL.out, List.map_append, HN.out]; exact hown4, HB.out.trans hb4, by unfold Hid; rw [HD.out]; exact H2.out⟩
                    case measure => simp [intOf]; omega
    · have hdr : s.data.toList.drop k = [] := List.drop_of_length_le (by rw [len_toList]; omega)
      have hP2 := HP.out
      rw [hdr, prun] at hP2
      have HB := Lib.hid hb
      clear hb hdr HP
      by_cases hn0 : nn = 0
      · subst hn0
        rw [if_neg (by omega)] at hP2
        cases oo with
        | true =>
          rw [if_pos rfl] at hP2
          have H2 := Lib.hid hP2
          clear hP2
          go_wp2
          go_ret2
          exact ⟨ret_dec H2.out.symm, HB1.out.trans (HB.out.mono (by omega))⟩
        | false =>
          rw [if_neg (by simp)] at hP2
          have H2 := Lib.hid hP2
          clear hP2
          go_wp2_with (with_reducible refine wpList_str _ rfl _ 43 9 5 rfl Try.underlying43 Try.underlying9 Try.underlying5 w1.heap.size _ _ _ l rfl hown ?_)
          go_ret2
          exact ⟨ret_dec H2.out.symm, HB1.out.trans (HB.out.mono (by omega))⟩
      · have hn0' : ¬ (nn : Int) = 0 := by omega
        rw [if_pos hn0] at hP2
        have H2 := Lib.hid hP2
        clear hP2
        go_wp2
        go_ret2
        exact ⟨ret_dec H2.out.symm, HB1.out.trans (HB.out.mono (by omega))⟩
end Go.Proofs.Ytiakmaleiholnaa
