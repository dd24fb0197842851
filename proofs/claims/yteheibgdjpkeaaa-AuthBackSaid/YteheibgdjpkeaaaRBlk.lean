/- digest: the reference's block. -/
import Derived.Test.YteheibgdjpkeaaaRk
import Derived.IntWalk
import Derived.Laws.OwnMore
namespace Go.Proofs.Yteheibgdjpkeaaa
open Go.RowKit

theorem S62 : Sl1 Try.prog 62 61 (.int .u32 0) 4 := ⟨by kernel_rfl, by kernel_rfl, rfl⟩
theorem S34 : Sl1 Try.prog 34 5 (.int .u8 0) 1 := ⟨by kernel_rfl, by kernel_rfl, rfl⟩

/-- the n cells from off on in block b. -/
def CellsO (w : World) (b off n : Nat) (f : Nat → Value) : Prop := ∀ j, j < n → w.cell? ⟨b, off + j, none⟩ = some (f j)
theorem CellsO.below {w w' : World} {b off n : Nat} {f : Nat → Value} {C : Nat} (h : CellsO w b off n f) (hb : Below C w w') (hC : b < C) : CellsO w' b off n f :=
  fun j hj => (hb.cell (p := ⟨b, off + j, none⟩) hC).trans (h j hj)
def wordVals (l : List UInt8) (k : Nat) : List Value := (List.range k).map fun j => .int .u32 ((xw l j : Nat) : Int)

theorem words_snoc (l : List UInt8) (k : Nat) : wordVals l (k + 1) = wordVals l k ++ [.int .u32 ((xw l k : Nat) : Int)] := by
  unfold wordVals; rw [List.range_succ, List.map_append]; rfl

theorem below_drewN {B : Nat} {a w : World} (h : Below B a w) (n : Nat) : Below B a (w.drewN n) := ⟨h.os, h.tape, h.output, h.size, h.block⟩
theorem quiet_left {P : Program} {f : FuncId} {args : Array Value} {w : World} {n : Nat} {v : Value}
    (h : Calls P f args (w.drewN n) fun e w' => e = .returned v ∧ w.drewN n = w') : Calls P f args (w.drewN n) fun e w'' => e = .returned v ∧ ∃ m, w'' = w.drewN m :=
  h.mono fun _ _ ⟨he, hm⟩ => ⟨he, n, hm.symm⟩

set_option maxRecDepth 100000 in
set_option maxHeartbeats 8000000 in
theorem block_any (q : St) (hq : q.ok) (l : List UInt8) (gw cw gp off cp : Nat) (w : World) (hgw : gw < w.heap.size) (hgp : gp < w.heap.size) (hcw : 4 ≤ cw) (hcp : 64 ≤ cp) (hw : CellsO w gw 0 4 (f4 q)) (hp : CellsO w gp off 64 (fun j => .int .u8 ((by8 l j : Nat) : Int))) :
    Calls Try.prog 35 #[.slice (some ⟨gw, 0, none⟩) 4 cw, .slice (some ⟨gp, off, none⟩) 64 cp] w fun e w' => ∃ g, e = .returned (.slice (some ⟨g, 0, none⟩) 4 4) ∧ Below w.heap.size w w' ∧ w.heap.size ≤ g ∧ g < w'.heap.size ∧ CellsO w' g 0 4 (f4 (take q l)) := by
  have HW := Lib.hid hw
  have HP := Lib.hid hp
  clear hw hp
  have HQ := Lib.hid hq
  clear hq
  go_enter Try.func35, Try.ntmps35
  go_wp2
  go_loopw [5, 6] (fun x i wr => ∃ k : Nat, k ≤ 16 ∧ i = .int .i64 k ∧ Below w.heap.size w wr ∧ ∃ ad c, x = .slice ad k c ∧ Hid (wr.ownsRow w.heap.size 61 1 (.slice ad k c) k (wordVals l k))) (fun _ i _ => 16 - (intOf i).toNat)
  case atStart => exact ⟨0, by omega, rfl, Below.refl _ _, none, 0, rfl, World.ownsRow_nil _ _ _ _⟩
  case round =>
    obtain ⟨k, hk, rfl, hb, ad, c, rfl, HX⟩ := hrel
    have hz := hb.size
    by_cases hlt : k < 16
    · have c0 := (HP.out.below hb hgp) (4 * k) (by omega)
      have c1 := (HP.out.below hb hgp) (4 * k + 1) (by omega)
      have c2 := (HP.out.below hb hgp) (4 * k + 2) (by omega)
      have c3 := (HP.out.below hb hgp) (4 * k + 3) (by omega)
      simp only at c0 c1 c2 c3
      have hb0 := by8_lt l (4 * k)
      have hb1 := by8_lt l (4 * k + 1)
      have hb2 := by8_lt l (4 * k + 2)
      have hb3 := by8_lt l (4 * k + 3)
      have HXW : Hid (xw l k = by8 l (4 * k) + by8 l (4 * k + 1) * 256 + by8 l (4 * k + 2) * 65536 + by8 l (4 * k + 3) * 16777216) := rfl
      generalize by8 l (4 * k) = b0 at *
      generalize by8 l (4 * k + 1) = b1 at *
      generalize by8 l (4 * k + 2) = b2 at *
      generalize by8 l (4 * k + 3) = b3 at *
      have HV : Hid (IntKind.u32.wrap (IntKind.u32.wrap (IntKind.u32.wrap (IntKind.u32.wrap (b0 : Int) + IntKind.u32.wrap (IntKind.u32.wrap (b1 : Int) * 256)) + IntKind.u32.wrap (IntKind.u32.wrap (b2 : Int) * 65536)) + IntKind.u32.wrap (IntKind.u32.wrap (b3 : Int) * 16777216)) = ((xw l k : Nat) : Int)) := by
        unfold Hid
        rw [HXW.out]
        simp only [IntKind.wrap_u32]
        omega
      clear HXW
      go_wp2
      obtain ⟨m, hm⟩ : ∃ m, 4 * k = m := ⟨_, rfl⟩
      have hm63 : m < 61 := by omega
      rw [hm] at c0 c1 c2 c3
      have e0 : IntKind.i64.wrap (4 * (k : Int)) = (m : Int) := by rw [IntWalk.i64_in _ (by omega)]; omega
      have e1 : IntKind.i64.wrap ((m : Int) + 1) = (m : Int) + 1 := IntWalk.i64_in _ (by omega)
      have e2 : IntKind.i64.wrap ((m : Int) + 2) = (m : Int) + 2 := IntWalk.i64_in _ (by omega)
      have e3 : IntKind.i64.wrap ((m : Int) + 3) = (m : Int) + 3 := IntWalk.i64_in _ (by omega)
      have p0 : (0 : Int) ≤ (m : Int) := by omega
      have p1 : (0 : Int) ≤ (m : Int) + 1 := by omega
      have p2 : (0 : Int) ≤ (m : Int) + 2 := by omega
      have p3 : (0 : Int) ≤ (m : Int) + 3 := by omega
      have q0 : (m : Int) < 64 := by omega
      have q1 : (m : Int) + 1 < 64 := by omega
      have q2 : (m : Int) + 2 < 64 := by omega
      have q3 : (m : Int) + 3 < 64 := by omega
      have t1 : ((m : Int) + 1).toNat = m + 1 := by omega
      have t2 : ((m : Int) + 2).toNat = m + 2 := by omega
      have t3 : ((m : Int) + 3).toNat = m + 3 := by omega
      clear hm
      have g1 : k + 1 ≤ maxLen := by unfold maxLen; omega
      have g2 : (k + 1) * 4 ≤ 140737488355328 := by omega
      have g3 : w.heap.size ≤ wr.heap.size := hz
      go_region_held3 (fun w' => w'.cell? ⟨gp, off + m, none⟩ = some (.int .u8 (b0 : Int)) ∧ w'.cell? ⟨gp, off + (m + 1), none⟩ = some (.int .u8 (b1 : Int)) ∧ w'.cell? ⟨gp, off + (m + 2), none⟩ = some (.int .u8 (b2 : Int)) ∧ w'.cell? ⟨gp, off + (m + 3), none⟩ = some (.int .u8 (b3 : Int)))
        (first | go_keep | (go_split_ands; refine ⟨?_, ?_, ?_, ?_⟩ <;> ((rw [h4.cell (by simp; omega)]; assumption)))) ((refine step_app rfl _ _ 62 61 _ _ S62 rfl w.heap.size (.slice ad k c) k _ [.int .u32 (IntKind.u32.wrap (IntKind.u32.wrap (IntKind.u32.wrap (IntKind.u32.wrap (b0 : Int) + IntKind.u32.wrap (IntKind.u32.wrap (b1 : Int) * 256)) + IntKind.u32.wrap (IntKind.u32.wrap (b2 : Int) * 65536)) + IntKind.u32.wrap (IntKind.u32.wrap (b3 : Int) * 16777216)))] rfl wr.heap.size 1 _ rfl rfl (by decide) (by simp [Value.oneCell']) (block_new wr _) (HX.out.alloc _).drew g1 g2 (by simp; omega) ?_; intro a' c' w3 h1 h2 h3 h4))
      all_goals
        have HO := Lib.hid h1
        have HB2 : Hid (Below w.heap.size w w3) := ((hb.alloc hz _).drew).trans h4
        clear h1 h2 h3 h4 e0 e1 e2 e3 p0 p1 p2 p3 q0 q1 q2 q3 t1 t2 t3
        go_wp2
        go_roundw
        case rel => exact ⟨k + 1, by omega, by go_num, HB2.out, a', c', rfl, by rw [words_snoc, ← HV.out]; exact HO⟩
        case measure => simp [intOf]; omega
    · have e : k = 16 := by omega
      have HX2 := HX.out
      rw [e] at HX2
      obtain ⟨gx, cx, hv, hgx1, hgx2⟩ := HX2.form (by omega)
      simp only [Value.slice.injEq] at hv
      obtain ⟨rfl, _, rfl⟩ := hv
      have HC : Hid (CellsO wr gx 0 16 (wordsUpto l 16)) := by
        intro j hj
        have h := HX2.cells (g := gx) rfl j (.int .u32 ((xw l j : Nat) : Int)) (by
          unfold wordVals
          rw [List.getElem?_map, List.getElem?_range hj]; rfl)
        have e2 : (⟨gx, 0, none⟩ : Addr).add j = ⟨gx, 0 + j, none⟩ := by unfold Addr.add; split <;> simp_all
        rw [e2] at h
        rw [h]
        unfold wordsUpto
        rw [if_pos hj]
      clear HX HX2
      have HWr := Lib.hid (HW.out.below hb hgw)
      have h0 : wr.cell? ⟨gw, 0, none⟩ = some (.int .u32 (q.a : Int)) := HWr.out 0 (by omega)
      have h1 : wr.cell? ⟨gw, 1, none⟩ = some (.int .u32 (q.b : Int)) := HWr.out 1 (by omega)
      have h2 : wr.cell? ⟨gw, 2, none⟩ = some (.int .u32 (q.c : Int)) := HWr.out 2 (by omega)
      have h3 : wr.cell? ⟨gw, 3, none⟩ = some (.int .u32 (q.d : Int)) := HWr.out 3 (by omega)
      clear e
      go_wp2
      go_quiet (fail)
      go_wp2
      go_loopw [7, 8, 9, 10, 11] (fun va vb vc vd vr wq => ∃ (n : Nat) (a1 b1 c1 d1 : Nat), n ≤ 64 ∧ vr = .int .i64 n ∧ va = .int .u32 (a1 : Int) ∧ vb = .int .u32 (b1 : Int) ∧ vc = .int .u32 (c1 : Int) ∧ vd = .int .u32 (d1 : Int) ∧ Hid (rounds l n q = ⟨a1, b1, c1, d1⟩) ∧ Hid (St.ok ⟨a1, b1, c1, d1⟩) ∧ Below w.heap.size w wq ∧ Hid (CellsO wq gw 0 4 (f4 q)) ∧ Hid (CellsO wq gx 0 16 (wordsUpto l 16)) ∧ gx < wq.heap.size) (fun _ _ _ _ vr _ => 64 - (intOf vr).toNat)
      case atStart => exact ⟨0, q.a, q.b, q.c, q.d, by omega, rfl, rfl, rfl, rfl, rfl, rfl, HQ, ⟨hb.os, hb.tape, hb.output, hb.size, hb.block⟩, HWr, HC, by simpa using hgx2⟩
      case round =>
        clear hb hz h0 h1 h2 h3 HWr HC hgx2
        obtain ⟨n, a1, b1, c1, d1, hn, rfl, rfl, rfl, rfl, rfl, HR, HO, hb, HWr, HC, hgx2⟩ := hrel
        have hk2 : 16 ≤ k := by omega
        by_cases hlt2 : n < 64
        · obtain ⟨g1, g2, g3, g4⟩ := HO.out
          simp only at g1 g2 g3 g4
          have hg := mixG_lt n
          have hg1 : (0 : Int) ≤ (mixG n : Int) := by omega
          have hg2 : (mixG n : Int) < (k : Int) := by omega
          have hcg : wr.cell? ⟨gx, mixG n, none⟩ = some (.int .u32 ((xw l (mixG n) : Nat) : Int)) := by
            have h := HC.out (mixG n) hg
            unfold wordsUpto at h
            rw [if_pos hg, Nat.zero_add] at h
            exact h
          have n1 := nb_lt b1 g2
          have n2 := nb_lt d1 g4
          have o1 := not_u32 b1 g2
          have o2 := not_u32 d1 g4
          have hm := mixF_lt n b1 c1 d1 g2 g3 g4
          have hx := xw_lt l (mixG n)
          have ht := addT_lt n
          have hsin := shT_in n hlt2
          have hs3 : ∀ x ∈ shs, 1 ≤ x ∧ x < 32 := by decide
          obtain ⟨s1, s2⟩ := hs3 _ hsin
          clear hs3 hsin
          have HST : Hid (step l n ⟨a1, b1, c1, d1⟩ = ⟨d1, (b1 + rotl ((mixF n b1 c1 d1 + a1 + addT n + xw l (mixG n)) % 4294967296) (shT n)) % 4294967296, b1, c1⟩) := rfl
          have cA := Lib.hid (fun w => k_any n hlt2 w)
          have cS := Lib.hid (fun w => refShift_any n hlt2 w)
          have hfg : (n < 16 ∧ (((b1 &&& c1) ||| (nb b1 &&& d1) : Nat) = mixF n b1 c1 d1) ∧ mixG n = n) ∨ (¬ n < 16 ∧ n < 32 ∧ (((d1 &&& b1) ||| (nb d1 &&& c1) : Nat) = mixF n b1 c1 d1) ∧ (5 * (n : Int) + 1) % 16 = (mixG n : Int)) ∨
              (¬ n < 16 ∧ ¬ n < 32 ∧ n < 48 ∧ (((b1 ^^^ c1) ^^^ d1 : Nat) = mixF n b1 c1 d1) ∧ (3 * (n : Int) + 5) % 16 = (mixG n : Int)) ∨ (¬ n < 16 ∧ ¬ n < 32 ∧ ¬ n < 48 ∧ (c1 ^^^ (b1 ||| nb d1) : Nat) = mixF n b1 c1 d1 ∧ (7 * (n : Int)) % 16 = (mixG n : Int)) := by
            unfold mixF mixG
            by_cases h16 : n < 16
            · simp [h16]
            · by_cases h32 : n < 32
              · simp [h16, h32]
              · by_cases h48 : n < 48
                · simp [h16, h32, h48]
                · simp [h16, h32, h48]
          generalize xw l (mixG n) = X at *
          generalize mixF n b1 c1 d1 = F at *
          generalize addT n = T at *
          generalize shT n = S at *
          generalize mixG n = G at *
          have hE : (((a1 : Int) + (F : Int) + (T : Int)) % 4294967296 + (X : Int)) % 4294967296 = (((F + a1 + T + X) % 4294967296 : Nat) : Int) := by omega
          have hML : (F + a1 + T + X) % 4294967296 < 4294967296 := Nat.mod_lt _ (by decide)
          generalize (F + a1 + T + X) % 4294967296 = M at *
          have hRL := rotl_lt M S hML
          have hR := rotl_or M S hML
          generalize rotl M S = R at *
          have HE := Lib.hid hE
          have HRo := Lib.hid hR
          clear hE hR
          rcases hfg with ⟨k1, hF, hG⟩ | ⟨k1, k2, hF, hG⟩ | ⟨k1, k2, k3, hF, hG⟩ | ⟨k1, k2, k3, hF, hG⟩
          · subst G
            have u1 := u32_and_nat b1 c1 g2 g3
            have u2 := u32_and_nat (nb b1) d1 n1 g4
            have u3 := u32_or_nat (b1 &&& c1) (nb b1 &&& d1) (and_lt _ _ g2) (and_lt _ _ n1)
            rw [hF] at u3
            clear hF n2
            go_wp2_with fail
            go_quiet ((go_at_call 50; exact quiet_left (cA.out _)))
            clear u1 u2 u3 o1 o2
            go_wp2_with fail
            simp only [HE.out]
            refine (cS.out _).mono ?_
            rintro e w8 ⟨rfl, hb3⟩
            go_wp2_with fail
            go_roundw
            case rel => 
              have hh : Below (gx + 1) wr w8 := (below_drewN (Below.refl _ _) _).trans (hb3.mono (by simp; omega))
              refine ⟨n + 1, d1, (b1 + R) % 4294967296, b1, c1, by omega, by go_num, rfl, ?_, rfl, rfl, ?_, ?_, hb.trans (hh.mono (by omega)), HWr.out.below hh (by omega), HC.out.below hh (by omega), by have := hh.size; omega⟩
              · rw [HRo.out]; go_num
              · show step _ _ _ = _
                rw [HR.out]; exact HST.out
              · exact ⟨g4, Nat.mod_lt _ (by decide), g2, g3⟩
            case measure => simp [intOf]; omega
          · have u1 := u32_and_nat d1 b1 g4 g2
            have u2 := u32_and_nat (nb d1) c1 n2 g3
            have u3 := u32_or_nat (d1 &&& b1) (nb d1 &&& c1) (and_lt _ _ g4) (and_lt _ _ n2)
            rw [hF] at u3
            clear hF
            go_wp2_with fail
            go_quiet ((go_at_call 50; exact quiet_left (cA.out _)))
            clear u1 u2 u3 o1 o2
            go_wp2_with fail
            simp only [HE.out]
            refine (cS.out _).mono ?_
            rintro e w8 ⟨rfl, hb3⟩
            go_wp2_with fail
            go_roundw
            case rel => 
              have hh : Below (gx + 1) wr w8 := (below_drewN (Below.refl _ _) _).trans (hb3.mono (by simp; omega))
              refine ⟨n + 1, d1, (b1 + R) % 4294967296, b1, c1, by omega, by go_num, rfl, ?_, rfl, rfl, ?_, ?_, hb.trans (hh.mono (by omega)), HWr.out.below hh (by omega), HC.out.below hh (by omega), by have := hh.size; omega⟩
              · rw [HRo.out]; go_num
              · show step _ _ _ = _
                rw [HR.out]; exact HST.out
              · exact ⟨g4, Nat.mod_lt _ (by decide), g2, g3⟩
            case measure => simp [intOf]; omega
          · have u1 := u32_xor_nat b1 c1 g2 g3
            have u3 := u32_xor_nat (b1 ^^^ c1) d1 (xor_lt _ _ g2 g3) g4
            have u2 := True.intro
            rw [hF] at u3
            clear hF
            go_wp2_with fail
            go_quiet ((go_at_call 50; exact quiet_left (cA.out _)))
            clear u1 u2 u3 o1 o2
            go_wp2_with fail
            simp only [HE.out]
            refine (cS.out _).mono ?_
            rintro e w8 ⟨rfl, hb3⟩
            go_wp2_with fail
            go_roundw
            case rel => 
              have hh : Below (gx + 1) wr w8 := (below_drewN (Below.refl _ _) _).trans (hb3.mono (by simp; omega))
              refine ⟨n + 1, d1, (b1 + R) % 4294967296, b1, c1, by omega, by go_num, rfl, ?_, rfl, rfl, ?_, ?_, hb.trans (hh.mono (by omega)), HWr.out.below hh (by omega), HC.out.below hh (by omega), by have := hh.size; omega⟩
              · rw [HRo.out]; go_num
              · show step _ _ _ = _
                rw [HR.out]; exact HST.out
              · exact ⟨g4, Nat.mod_lt _ (by decide), g2, g3⟩
            case measure => simp [intOf]; omega
          · have u1 := u32_or_nat b1 (nb d1) g2 n2
            have u3 := u32_xor_nat c1 (b1 ||| nb d1) g3 (or_lt _ _ g2 n2)
            have u2 := True.intro
            rw [hF] at u3
            clear hF
            go_wp2_with fail
            go_quiet ((go_at_call 50; exact quiet_left (cA.out _)))
            clear u1 u2 u3 o1 o2
            go_wp2_with fail
            simp only [HE.out]
            refine (cS.out _).mono ?_
            rintro e w8 ⟨rfl, hb3⟩
            go_wp2_with fail
            go_roundw
            case rel => 
              have hh : Below (gx + 1) wr w8 := (below_drewN (Below.refl _ _) _).trans (hb3.mono (by simp; omega))
              refine ⟨n + 1, d1, (b1 + R) % 4294967296, b1, c1, by omega, by go_num, rfl, ?_, rfl, rfl, ?_, ?_, hb.trans (hh.mono (by omega)), HWr.out.below hh (by omega), HC.out.below hh (by omega), by have := hh.size; omega⟩
              · rw [HRo.out]; go_num
              · show step _ _ _ = _
                rw [HR.out]; exact HST.out
              · exact ⟨g4, Nat.mod_lt _ (by decide), g2, g3⟩
            case measure => simp [intOf]; omega
        · have h0 : wr.cell? ⟨gw, 0, none⟩ = some (.int .u32 (q.a : Int)) := HWr.out 0 (by omega)
          have h1 : wr.cell? ⟨gw, 1, none⟩ = some (.int .u32 (q.b : Int)) := HWr.out 1 (by omega)
          have h2 : wr.cell? ⟨gw, 2, none⟩ = some (.int .u32 (q.c : Int)) := HWr.out 2 (by omega)
          have h3 : wr.cell? ⟨gw, 3, none⟩ = some (.int .u32 (q.d : Int)) := HWr.out 3 (by omega)
          have HF : Hid (take q l = ⟨(q.a + a1) % 4294967296, (q.b + b1) % 4294967296, (q.c + c1) % 4294967296, (q.d + d1) % 4294967296⟩) := by
            have e : n = 64 := by omega
            have e2 := HR.out
            rw [e] at e2
            unfold Hid take
            rw [e2]; rfl
          go_wp2
          go_region
          all_goals
            go_wp2
            go_ret
            refine ⟨wr.heap.size, rfl, ((hb.alloc hb.size _).drew), hb.size, by simp, fun j hj => ?_⟩
            rw [HF.out, Nat.zero_add]
            exact ((cell_box wr _ 61 j _ (f4_at ⟨(q.a + a1) % 4294967296, (q.b + b1) % 4294967296, (q.c + c1) % 4294967296, (q.d + d1) % 4294967296⟩ j hj)))
end Go.Proofs.Yteheibgdjpkeaaa
