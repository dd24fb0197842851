/- The program's reader: line, Text, Number. No condition but the text's size. -/
import Derived.Test.YtiakmaleiholnaaRdrM
import Derived.Lib.IndexLaws
namespace Go.Proofs.Ytiakmaleiholnaa
open Go.RowKit

def lineV (l : List UInt8) : Int × Int := if Lib.indexByte l 0 < 0 then (0, 1) else (Lib.indexByte l 0 + 1, 0)

theorem idx_lt (l : List UInt8) (c : UInt8) : Lib.indexByte l c < l.length ∨ Lib.indexByte l c = -1 := by
  by_cases h : Lib.indexByte l c < 0
  · right; have := Lib.indexByte_ge l c; omega
  · left
    obtain ⟨o, ho⟩ := Int.eq_ofNat_of_zero_le (Int.not_lt.1 h)
    have h1 := (Lib.indexByte_some ho).1
    rw [ho]
    have := (List.getElem?_eq_some_iff.1 h1).1
    omega

theorem drop_extract (s : ByteArray) (i : Nat) : (s.extract i s.size).data.toList = s.data.toList.drop i := by
  rw [extract_list, List.take_of_length_le (by simp)]

theorem line_any (b : Nat) (s : ByteArray) (i : Nat) (e0 : Int) (w : World) (h : Rd w b s i e0) (hi : i ≤ s.size) (hs : s.size ≤ 140737488355328) :
    Calls Try.prog 68 #[.pointer (some ⟨b, 0, none⟩)] w fun e w' => e = .returned (.tuple #[.int .i64 (lineV (s.data.toList.drop i)).1, .int .i64 (lineV (s.data.toList.drop i)).2]) ∧ ∃ m, w' = w.drewN m := by
  have h0 := h.c0
  have h1 := h.c1
  clear h
  have hx := Try.strings_IndexByte (s.extract i s.size) 0
  rw [drop_extract] at hx
  rw [show (0 : Int).toNat.toUInt8 = 0 from rfl] at hx
  have hg := Lib.indexByte_ge (s.data.toList.drop i) 0
  have hle : Lib.indexByte (s.data.toList.drop i) 0 < s.size + 1 := by
    have := idx_lt (s.data.toList.drop i) 0
    simp at this; omega
  obtain ⟨k, hk⟩ : ∃ k, Lib.indexByte (s.data.toList.drop i) 0 = k := ⟨_, rfl⟩
  have HL : Hid (lineV (s.data.toList.drop i) = if k < 0 then (0, 1) else (k + 1, 0)) := by unfold Hid lineV; rw [hk]
  rw [hk] at hx hg hle
  have HX := Lib.hid hx
  clear hk hx
  generalize lineV (s.data.toList.drop i) = p at *
  by_cases hn : k < 0
  · have HP : Hid (p = (0, 1)) := by unfold Hid; rw [HL.out, if_pos hn]
    go_enter Try.func68, Try.ntmps68
    go_wp2
    go_quiet ((go_at_call 53; exact Calls.quiet_of_same (HX.out _)))
    go_wp2
    go_ret2
    exact ⟨ret_pair HP.out, _, rfl⟩
  · have HP : Hid (p = (k + 1, 0)) := by unfold Hid; rw [HL.out, if_neg hn]
    go_enter Try.func68, Try.ntmps68
    go_wp2
    go_quiet ((go_at_call 53; exact Calls.quiet_of_same (HX.out _)))
    go_wp2
    go_ret2
    exact ⟨ret_pair HP.out, _, rfl⟩

def textV (s : ByteArray) (i : Nat) (e : Int) : ByteArray × Nat × Int :=
  if e ≠ 0 then (ByteArray.empty, i, e) else if Lib.indexByte (s.data.toList.drop i) 0 < 0 then (ByteArray.empty, i, 1) else (s.extract i (i + (Lib.indexByte (s.data.toList.drop i) 0).toNat), i + (Lib.indexByte (s.data.toList.drop i) 0).toNat + 1, 0)

theorem bytes_ext {a b : ByteArray} (h : a.data.toList = b.data.toList) : a = b := by
  apply ByteArray.ext; exact Array.toList_inj.1 h

theorem trim_nought (s : ByteArray) (i k : Nat) (hk : Lib.indexByte (s.data.toList.drop i) 0 = (k : Int)) :
    (⟨(Lib.trimSuffix (s.extract i (i + (k + 1))).data.toList [0]).toArray⟩ : ByteArray) = s.extract i (i + k) := by
  have h1 := (Lib.indexByte_some hk).1
  have hlt := (List.getElem?_eq_some_iff.1 h1).1
  have e1 : (s.extract i (i + (k + 1))).data.toList = (s.data.toList.drop i).take k ++ [0] := by
    rw [extract_list, show i + (k + 1) - i = k + 1 from by omega, List.take_succ_eq_append_getElem hlt]
    rw [(List.getElem?_eq_some_iff.1 h1).2]
  have e2 : Lib.trimSuffix ((s.data.toList.drop i).take k ++ [0]) [0] = (s.data.toList.drop i).take k := by
    unfold Lib.trimSuffix Lib.hasSuffix
    rw [if_pos (by rw [List.isSuffixOf_iff_suffix]; exact List.suffix_append _ _)]
    rw [List.length_append, List.length_singleton, Nat.add_sub_cancel, List.take_left']
    rfl
  apply bytes_ext
  rw [e1, e2, extract_list, show i + k - i = k from by omega]

theorem trim_empty : (⟨(Lib.trimSuffix ByteArray.empty.data.toList [0]).toArray⟩ : ByteArray) = ByteArray.empty := by decide +kernel

theorem text2_any (b : Nat) (s : ByteArray) (i : Nat) (e0 : Int) (w : World) (h : Rd w b s i e0) (hi : i ≤ s.size) (hs : s.size ≤ 140737488355328) :
    Calls Try.prog 46 #[.pointer (some ⟨b, 0, none⟩)] w fun e w' => e = .returned (.string (textV s i e0).1) ∧ Rd w' b s (textV s i e0).2.1 (textV s i e0).2.2 ∧ Only b w w' := by
  have hm := hmf
  have ct := Lib.hid (fun (x : ByteArray) (w : World) (hx : x.size ≤ 9223372036854775807) => Try.strings_TrimSuffix x { data := #[0] } w hx)
  by_cases he : e0 = 0
  · subst he
    have c1 := line_any b s i 0 w h hi hs
    rcases idx_lt (s.data.toList.drop i) 0 with hk | hk
    · by_cases hneg : Lib.indexByte (s.data.toList.drop i) 0 < 0
      · have hl : lineV (s.data.toList.drop i) = (0, 1) := by unfold lineV; rw [if_pos hneg]
        have hv : textV s i 0 = (ByteArray.empty, i, 1) := by unfold textV; rw [if_neg (by simp), if_pos hneg]
        rw [hl] at c1
        rw [hv]
        have c := Lib.hid (take68 b s i 0 1 w h hi hs (c1.mono fun _ _ ⟨h1, m, h2⟩ => ⟨h1, by rw [h2]; exact below_drewN _ _ _⟩) (by omega))
        have e1 : tkS s i 0 1 = ByteArray.empty := rfl
        have e2 : tkI i 0 1 = i := rfl
        rw [e1, e2] at c
        have ct' := ct.out ByteArray.empty
        have ht := trim_empty
        rw [show ({ data := #[0] } : ByteArray).data.toList = [0] from rfl, ht] at ct'
        have CT := Lib.hid (fun w => ct' w (by decide))
        clear ct' ht e1 e2 c1 hl hv hneg hk h hi hs ct
        go_enter Try.func46, Try.ntmps46
        go_wp2_with (first | (go_at_call 62; with_reducible refine c.out.mono ?_; rintro e w1 ⟨rfl, hr, ho⟩) | (go_at_call 67; refine (CT.out _).mono ?_; rintro e w2 ⟨rfl, rfl⟩))
        go_ret
        exact ⟨rfl, hr, ho⟩
      · obtain ⟨k, hkk⟩ := Int.eq_ofNat_of_zero_le (Int.not_lt.1 hneg)
        have hl : lineV (s.data.toList.drop i) = ((k : Int) + 1, 0) := by unfold lineV; rw [if_neg hneg, hkk]
        have hv : textV s i 0 = (s.extract i (i + k), i + k + 1, 0) := by unfold textV; rw [if_neg (by simp), if_neg hneg, hkk]; rfl
        have ht := trim_nought s i k hkk
        rw [hkk] at hk
        simp at hk
        rw [hl] at c1
        rw [hv]
        have c := Lib.hid (take68 b s i ((k : Int) + 1) 0 w h hi hs (c1.mono fun _ _ ⟨h1, m, h2⟩ => ⟨h1, by rw [h2]; exact below_drewN _ _ _⟩) (fun _ => ⟨by omega, by omega⟩))
        have e1 : tkS s i ((k : Int) + 1) 0 = s.extract i (i + (k + 1)) := rfl
        have e2 : tkI i ((k : Int) + 1) 0 = i + k + 1 := rfl
        rw [e1, e2] at c
        have ct' := ct.out (s.extract i (i + (k + 1)))
        rw [show ({ data := #[0] } : ByteArray).data.toList = [0] from rfl, ht] at ct'
        have CT := Lib.hid (fun w => ct' w (by simp; omega))
        clear ct' ht e1 e2 c1 hl hv hneg hk h hi hs ct hkk
        generalize s.extract i (i + (k + 1)) = T at *
        generalize s.extract i (i + k) = U at *
        go_enter Try.func46, Try.ntmps46
        go_wp2_with (first | (go_at_call 62; with_reducible refine c.out.mono ?_; rintro e w1 ⟨rfl, hr, ho⟩) | (go_at_call 67; refine (CT.out _).mono ?_; rintro e w2 ⟨rfl, rfl⟩))
        go_ret
        exact ⟨rfl, hr, ho⟩
    · have hneg : Lib.indexByte (s.data.toList.drop i) 0 < 0 := by omega
      have hl : lineV (s.data.toList.drop i) = (0, 1) := by unfold lineV; rw [if_pos hneg]
      have hv : textV s i 0 = (ByteArray.empty, i, 1) := by unfold textV; rw [if_neg (by simp), if_pos hneg]
      rw [hl] at c1
      rw [hv]
      have c := Lib.hid (take68 b s i 0 1 w h hi hs (c1.mono fun _ _ ⟨h1, m, h2⟩ => ⟨h1, by rw [h2]; exact below_drewN _ _ _⟩) (by omega))
      have e1 : tkS s i 0 1 = ByteArray.empty := rfl
      have e2 : tkI i 0 1 = i := rfl
      rw [e1, e2] at c
      have ct' := ct.out ByteArray.empty
      have ht := trim_empty
      rw [show ({ data := #[0] } : ByteArray).data.toList = [0] from rfl, ht] at ct'
      have CT := Lib.hid (fun w => ct' w (by decide))
      clear ct' ht e1 e2 c1 hl hv hneg hk h hi hs ct
      go_enter Try.func46, Try.ntmps46
      go_wp2_with (first | (go_at_call 62; with_reducible refine c.out.mono ?_; rintro e w1 ⟨rfl, hr, ho⟩) | (go_at_call 67; refine (CT.out _).mono ?_; rintro e w2 ⟨rfl, rfl⟩))
      go_ret
      exact ⟨rfl, hr, ho⟩
  · have hv : textV s i e0 = (ByteArray.empty, i, e0) := by unfold textV; rw [if_pos he]
    have c := Lib.hid (fun v => take_err b s i e0 v w h he)
    rw [hv]
    have H := Lib.hid h
    have ct' := ct.out ByteArray.empty
    have ht := trim_empty
    rw [show ({ data := #[0] } : ByteArray).data.toList = [0] from rfl, ht] at ct'
    have CT := Lib.hid (fun w => ct' w (by decide))
    clear he hv h hi hs ct ct' ht
    go_enter Try.func46, Try.ntmps46
    go_wp2_with (first | (go_at_call 62; refine (c.out _).mono ?_; rintro e w1 ⟨rfl, rfl⟩) | (go_at_call 67; refine (CT.out _).mono ?_; rintro e w2 ⟨rfl, rfl⟩))
    go_ret
    exact ⟨rfl, H.out, Only.refl _ _⟩
end Go.Proofs.Ytiakmaleiholnaa
