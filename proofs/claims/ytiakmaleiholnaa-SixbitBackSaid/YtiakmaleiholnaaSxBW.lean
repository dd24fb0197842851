/- SixbitBack: the walk. No condition. -/
import Derived.Test.YtiakmaleiholnaaBackP
import Derived.Test.YtiakmaleiholnaaEncW
import Derived.Test.YtiakmaleiholnaaPcs
namespace Go.Proofs.Ytiakmaleiholnaa
open Go.RowKit

theorem strOfNums_ints (s : ByteArray) : strOfNums (ints s.data.toList) = s := strOfNums_nums s
theorem jn_snoc (ps : List ByteArray) (i : Nat) (x : ByteArray) (h : ps[i]? = some x) : jn (ps.take (i + 1)) = jn (ps.take i) ++ x.data.toList ++ [13, 10] := by
  obtain ⟨hi, rfl⟩ := List.getElem?_eq_some_iff.1 h
  rw [List.take_succ_eq_append_getElem hi]; unfold jn; rw [List.flatMap_append]; simp only [List.flatMap_cons, List.flatMap_nil, List.append_nil, List.append_assoc]
theorem jn_len (ps : List ByteArray) : (jn ps).length = (ps.flatMap fun p => p.data.toList).length + 2 * ps.length := by
  induction ps with
  | nil => rfl
  | cons p ps ih =>
    have e1 : jn (p :: ps) = p.data.toList ++ ([13, 10] ++ jn ps) := by simp [jn]
    rw [e1, List.flatMap_cons]; simp only [List.length_append, List.length_cons, List.length_nil, ih]; omega
theorem mem_len (ps : List ByteArray) (x : ByteArray) (h : x ∈ ps) : x.size ≤ (ps.flatMap fun p => p.data.toList).length := by
  induction ps with
  | nil => simp at h
  | cons p ps ih =>
    rw [List.flatMap_cons, List.length_append, len_toList]
    rcases List.mem_cons.1 h with rfl | h
    · omega
    · have := ih h; omega
theorem app_size (a b : ByteArray) : (a ++ b).size = a.size + b.size := ByteArray.size_append
theorem app_list (a b : ByteArray) : (a ++ b).data.toList = a.data.toList ++ b.data.toList := by
  rw [ByteArray.data_append, Array.toList_append]

theorem ret_dec2 {l : List UInt8} {s : ByteArray} (h : prun 0 0 0 false [] l = (ints s.data.toList, 0)) (w w' : World) {e : Ending}
    (he : e = Ending.returned (.tuple #[.string (strOfNums (prun 0 0 0 false [] l).1), .int .i64 (prun 0 0 0 false [] l).2]) ∧ Below w.heap.size w w') : e = Ending.returned (.tuple #[.string s, .int .i64 0]) ∧ Below w.heap.size w w' := by
  rw [h] at he
  exact ⟨by rw [he.1, strOfNums_ints], he.2⟩

set_option maxRecDepth 100000 in
set_option maxHeartbeats 2000000 in
theorem sixbitBack_walk (s : ByteArray) (hs : s.size ≤ 140737488351232) (width : Int) (_ : (Lit.int .i64 width).wf = true) (w : World) :
    Calls Try.prog 15 #[.string s, .int .i64 width] w fun e w' => e = .returned (.bool true) ∧ Below w.heap.size w w' := by
  by_cases hbig : 1500 < s.size
  · have hbig' : (1500 : Int) < s.size := by omega
    go_enter Try.func15, Try.ntmps15
    go_wp2
    go_ret
    exact ⟨rfl, Below.refl _ _⟩
  · have hbig' : ¬ (1500 : Int) < s.size := by omega
    have c1 := Lib.hid (fun w => encode_any s w (by omega))
    have hEl := encS_len s.data.toList.length s.data.toList (Nat.le_refl _)
    have hEd : (strOfNums (encS s.data.toList)).data.toList = encU s.data.toList := rfl
    have hEs : (strOfNums (encS s.data.toList)).size = (encS s.data.toList).length := strOfNums_size _
    rw [hEl, len_toList] at hEs
    have hP1 := prun_enc s.data.toList.length s.data.toList [] (Nat.le_refl _)
    have hws := encU_ok s.data.toList.length s.data.toList (Nat.le_refl _)
    rw [← hEd] at hP1 hws
    generalize strOfNums (encS s.data.toList) = E at *
    have hgl := chk_glue (wd width) (wd_pos width) E.size E (Nat.le_refl _)
    have hcl := chk_len (wd width) E
    have c3 := Lib.hid (fun w => pieces_any E width 4000 w (by omega))
    have htk : (chk (wd width) E).take 4000 = chk (wd width) E := List.take_of_length_le (by omega)
    rw [htk] at c3
    generalize chk (wd width) E = ps at *
    have hfl : E.data.toList.filter (fun c => !wsB c.toNat) = E.data.toList := List.filter_eq_self.2 (fun c hc => by rw [hws c hc]; rfl)
    have hP2 : prun 0 0 0 false [] (jn ps) = (ints s.data.toList, 0) := by
      rw [prun_filter, jn_filter, hgl, hfl]; exact hP1
    have c2 := Lib.hid (fun w => (decode_any E w (by omega)).mono (fun e w' => ret_dec2 hP1 w w'))
    have hjl : (jn ps).length ≤ 6000 := by rw [jn_len, hgl, len_toList]; omega
    have c4 : Hid (∀ (T : ByteArray) (w : World), T.data.toList = jn ps → Calls Try.prog 32 #[.string T] w fun e w' => e = .returned (.tuple #[.string s, .int .i64 0]) ∧ Below w.heap.size w w') := fun T w hT =>
      (decode_any T w (by rw [← len_toList, hT]; omega)).mono (fun e w' => ret_dec2 (by rw [hT]; exact hP2) w w')
    have HEs : Hid (E.size = (s.size + 2) / 3 * 4) := hEs
    have hE1 : (E.size : Int) = ((s.size : Int) + 2) / 3 * 4 := by omega
    have HM : Hid (∀ x ∈ ps, x.size ≤ 2000) := fun x hx => by
      have := mem_len ps x hx
      rw [hgl, len_toList] at this; omega
    have hpl : ps.length ≤ 2000 := by omega
    clear hEl hEd hEs hP1 hP2 hws hgl htk hfl hjl
    go_enter Try.func15, Try.ntmps15
    go_wp2_with fail
    refine (c1.out _).mono ?_
    rintro e w1 ⟨rfl, b1⟩
    go_wp2_with fail
    refine (c2.out _).mono ?_
    rintro e w2 ⟨rfl, b2⟩
    go_wp2_with fail
    refine (c3.out _).mono ?_
    rintro e w3 ⟨a3, p3, rfl, o3, b3⟩
    have B3 := Lib.hid (b1.trans ((b2.mono b1.size).trans (b3.mono (Nat.le_trans b1.size b2.size))))
    have O3 := Lib.hid o3
    clear o3 b1 b2 b3
    go_wp2_with fail
    go_loopw [10, 11] (fun t x wr => ∃ (i : Nat) (T : ByteArray), i ≤ ps.length ∧ x = .int .i64 (i : Int) ∧ t = .string T ∧ wr = w3 ∧ T.size ≤ 2100 * i ∧ Hid (T.data.toList = jn (ps.take i))) (fun _ x _ => ps.length - (intOf x).toNat)
    case atStart => exact ⟨0, { data := #[] }, Nat.zero_le _, rfl, rfl, rfl, Nat.zero_le _, rfl⟩
    case round =>
      obtain ⟨i, T, hi, rfl, rfl, rfl, hTs, HT⟩ := hrel
      by_cases hlt : i < ps.length
      · obtain ⟨g, rfl, hc⟩ := own_at O3.out (i := i) hlt
        obtain ⟨x, hx⟩ : ∃ x, ps[i]? = some x := ⟨_, List.getElem?_eq_getElem hlt⟩
        rw [List.getElem?_map, hx] at hc
        have hc' : wr.cell? ⟨g, i, none⟩ = some (.string x) := hc
        have hxs : x.size ≤ 2000 := HM.out x (List.mem_of_getElem? hx)
        have hT1 := app_size T x
        have HX := Lib.hid hx
        clear hc hx
        go_wp2_with fail
        go_roundw
        case rel => exact ⟨i + 1, _, by omega, by go_num, rfl, trivial, by rw [app_size, app_size]; have h2 : ({ data := #[13, 10] } : ByteArray).size = 2 := rfl; omega, by unfold Hid; rw [jn_snoc ps i x HX.out, app_list, app_list, HT.out]⟩
        case measure => simp [intOf]; omega
      · have hT : T.data.toList = jn ps := by rw [HT.out, List.take_of_length_le (by omega)]
        have c5 := Lib.hid (fun w => c4.out T w hT)
        clear hT HT
        go_wp2_with fail
        refine (c5.out _).mono ?_
        rintro e w4 ⟨rfl, b4⟩
        go_wp2_with fail
        go_ret
        exact ⟨rfl, B3.out.trans (b4.mono B3.out.size)⟩
end Go.Proofs.Ytiakmaleiholnaa
