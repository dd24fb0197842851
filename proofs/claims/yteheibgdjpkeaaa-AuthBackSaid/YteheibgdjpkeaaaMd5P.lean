/- digest: a text's sum, plain. No condition. -/
import Derived.Test.YteheibgdjpkeaaaLe
namespace Go.Proofs.Yteheibgdjpkeaaa

def begin0 : St := ⟨1732584193, 4023233417, 2562383102, 271733878⟩
theorem begin0_ok : begin0.ok := by unfold begin0 St.ok; decide
/-- the words behind n blocks of a text. -/
def fold : Nat → St → List UInt8 → St
  | 0, q, _ => q
  | n + 1, q, l => fold n (take q (l.take 64)) (l.drop 64)
theorem fold_ok (n : Nat) (q : St) (l : List UInt8) (h : q.ok) : (fold n q l).ok := by
  induction n generalizing q l with
  | zero => exact h
  | succ n ih => exact ih _ _ (take_ok _ _)
theorem fold_add (m n : Nat) (q : St) (l : List UInt8) : fold (m + n) q l = fold n (fold m q l) (l.drop (64 * m)) := by
  induction m generalizing q l with
  | zero => simp [fold]
  | succ m ih =>
    rw [Nat.add_right_comm, fold, ih, fold, List.drop_drop]
    congr 2
    omega
theorem fold_succ (n : Nat) (q : St) (l : List UInt8) : fold (n + 1) q l = take (fold n q l) ((l.drop (64 * n)).take 64) := by
  rw [fold_add]; rfl
theorem fold_pre (n : Nat) (q : St) (l r : List UInt8) (h : 64 * n ≤ l.length) : fold n q (l ++ r) = fold n q l := by
  induction n generalizing q l with
  | zero => rfl
  | succ n ih =>
    rw [fold, fold, List.take_append_of_le_length (by omega), List.drop_append_of_le_length (by omega), ih]
    rw [List.length_drop]; omega

/-- how many noughts are laid behind a text of m bytes -/
def zs (m : Nat) : Nat := (119 - m % 64) % 64
theorem zs_at (m : Nat) : (m + 1 + zs m) % 64 = 56 := by unfold zs; omega
theorem zs_lt (m : Nat) : zs m < 64 := by unfold zs; omega
theorem zs_before (m k : Nat) (h : k < zs m) : (m + 1 + k) % 64 ≠ 56 := by unfold zs at h; omega
/-- the first k bytes of eight times m -/
def len8 (m k : Nat) : List UInt8 := (List.range k).map fun i => ub (8 * m / 256 ^ i)
theorem len8_len (m k : Nat) : (len8 m k).length = k := by simp [len8]
theorem len8_succ (m k : Nat) : len8 m (k + 1) = len8 m k ++ [ub (8 * m / 256 ^ k)] := by simp [len8, List.range_succ]
def pad0 (k : Nat) : List UInt8 := 128 :: List.replicate k 0
theorem pad0_succ (k : Nat) : pad0 (k + 1) = pad0 k ++ [0] := by simp [pad0, List.replicate_succ']
theorem pad0_len (k : Nat) : (pad0 k).length = k + 1 := by simp [pad0]
def padL (m : Nat) : List UInt8 := pad0 (zs m) ++ len8 m 8
theorem padL_len (m : Nat) : (padL m).length = zs m + 9 := by simp [padL, pad0_len, len8_len]
def nblk (m : Nat) : Nat := (m + zs m + 9) / 64
theorem nblk_len (m : Nat) : 64 * nblk m = m + zs m + 9 := by have := zs_at m; unfold nblk; omega
/-- a text's sum -/
def md5 (l : List UInt8) : List UInt8 := textSt (fold (nblk l.length) begin0 (l ++ padL l.length))
theorem md5_len (l : List UInt8) : (md5 l).length = 16 := textSt_len _
/-- the sum out of the words behind the whole blocks, and the rest. -/
theorem md5_rest (l : List UInt8) (k : Nat) (h : 64 * k ≤ l.length) (h2 : l.length < 64 * k + 64) :
    md5 l = textSt (fold (((l.drop (64 * k)).length + zs l.length + 9) / 64) (fold k begin0 l) (l.drop (64 * k) ++ padL l.length)) := by
  unfold md5
  have e : nblk l.length = k + ((l.drop (64 * k)).length + zs l.length + 9) / 64 := by
    have := nblk_len l.length
    rw [List.length_drop]; omega
  rw [e, fold_add, fold_pre k begin0 l _ h, List.drop_append_of_le_length h]

theorem abc_sum : md5 [97, 98, 99] = [144, 1, 80, 152, 60, 210, 79, 176, 214, 150, 63, 125, 40, 225, 127, 114] := by decide +kernel
end Go.Proofs.Yteheibgdjpkeaaa
