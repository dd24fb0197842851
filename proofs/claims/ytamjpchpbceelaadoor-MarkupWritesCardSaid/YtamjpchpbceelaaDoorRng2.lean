/- A range over an iterator that makes cells of its own: as Rng, where what a round keeps is told of the block at which the iterator was called. No condition. -/
import Derived.Test.YtamjpchpbceelaaDoorRng
namespace Go.Proofs.YtamjpchpbceelaaDoor
open Go.RowKit

variable {F : Fence} {n : Nat} {P : Program}

/-- An iterator's contract: it may write the first cells of the blocks that 'ok' names (which is told how many blocks there are when it is called); where it yields there are at least 'm' blocks; S tells of the elements and of the world in which it ends. -/
def SeqD {α : Type} (F : Fence) (n d : Nat) (P : Program) (g : Nat) (lb : Array Value) (encs : α → Array Value) (Kp : Nat → World → World → Prop) (ok : Nat → Nat → Prop) (m : Nat → Nat) (S : List α → World → Prop) (Sp : List α → Prop) (N : Nat) (w : World) : Prop :=
  ∀ (l : Nat) (J Jx : List α → World → Prop) (W : World), Below w.heap.size w W → AbidesFrom W.heap.size J → AbidesFrom W.heap.size Jx → Lets (ok W.heap.size) J →
    (∀ pre x W1, J pre W1 → pre.length < N → m W.heap.size ≤ W1.heap.size → YieldAt F (n - d) P l (encs x) W1 fun e W' =>
      (e = .returned (.bool true) ∧ J (pre ++ [x]) W' ∧ Kp W.heap.size W1 W') ∨ (e = .returned (.bool false) ∧ Jx (pre ++ [x]) W')) →
    J [] W →
    CallsIn F n P g (#[.func (.yield l) #[] #[]] ++ lb) W fun e W' => (∃ v, e = .returned v) ∧ ((∃ xs, S xs W' ∧ J xs W') ∨ (∃ pre, Sp pre ∧ Jx pre W'))

/-- the loop over such an iterator -/
theorem wpIn_range_cellsD {α : Type} {g : Operand} {ps : Array Tmp} {assign body : Code} {Q : Exit → Act → World → Prop} {a : Act} {w : World}
    (hro : F.round = none) (h1 : 1 ≤ n) {gf : Nat} {lb : Array Value} (hg : a.eval g = .func (.func gf) #[] lb) (hFg : F.fn gf) (eg : ∀ args w, (callFunc gf args).run P w = .ok (.enter gf args) w)
    {encs : α → Array Value} {Kp : Nat → World → World → Prop} {ok : Nat → Nat → Prop} {m : Nat → Nat} {S : List α → World → Prop} {Sp : List α → Prop} {N : Nat} {w0 : World} {d : Nat} (hseq : SeqD F (n - 1) d P gf lb encs Kp ok m S Sp N w0)
    (hKt : ∀ {A B C : World}, Kp (w.heap.size + 2) A B → Kp (w.heap.size + 2) B C → Kp (w.heap.size + 2) A C) (hKb : ∀ (W : World) (l : Nat) (o o' : Obj), w.heap.size ≤ l → W.heap[l]? = some o → o.isCells = false → o.isWalk = false → Kp (w.heap.size + 2) W (W.putObj l o')) (hb0 : Below w0.heap.size w0 w) (hps : ∀ x, (encs x).size = ps.size)
    (I : List α → World → Prop) (Ix : Code → List α → World → Prop) (hI : OwnFrom w.heap.size I) (hIx : ∀ c, OwnFrom w.heap.size (Ix c)) (hok : ∀ b, ok (w.heap.size + 2) b → b ≠ w.heap.size ∧ b ≠ w.heap.size + 1) (hIw : Lets (ok (w.heap.size + 2)) I) (hS : OwnFrom w.heap.size S) (h0 : I [] w) (a₁ : α → Act)
    (hassign : ∀ (l : Nat) (x : α) (W : World) (K : Act → World → Prop), K (a₁ x) W →
      assign.wpIn (F.inRound l) (n - 1 - d) P (Exit.then K (fun _ _ _ => False)) { tmps := (ps.zip (encs x)).foldl (fun t (p, v) => t.setIfInBounds p v) a.tmps, defers := [] } W)
    (hbody : ∀ (l : Nat) (pre : List α) (x : α) (W : World), I pre W → pre.length < N → m (w.heap.size + 2) ≤ W.heap.size → body.wpIn (F.inRound l) (n - 1 - d) P (ownPostG w.heap.size (Kp (w.heap.size + 2)) I Ix (pre ++ [x]) W) (a₁ x) W)
    (hdone : ∀ (D : Nat) (xs : List α) (W : World), w.heap.size ≤ D → S xs W → I xs W → W.heap[D]? = some (.deferred (some [])) → Q .normal { a with defers := { target := .collected D, args := #[] } :: a.defers } W)
    (hstop : ∀ (D : Nat) (c : Code) (pre : List α) (W : World), w.heap.size ≤ D → Sp pre → Ix c pre W → W.heap[D]? = some (.deferred (some [])) → c.wpIn F n P Q { a with defers := { target := .collected D, args := #[] } :: a.defers } W) :
    (Code.rangeFunc g ps assign body).wpIn F n P Q a w := by
  refine wpIn_rangeFunc fun fn hfn => ?_
  rw [hro]
  obtain ⟨h, hh⟩ : ∃ h, w.heap.size = h := ⟨_, rfl⟩
  obtain ⟨rec, hrec⟩ : ∃ rec : LoopState → Option Code → Loop, rec = fun st pe => { state := st, pending := pe, fn, tmps := a.tmps, params := ps, assign, body, defers := h } := ⟨_, rfl⟩
  obtain ⟨W1, hW1⟩ : ∃ W1, (w.alloc (.deferred (some []))).alloc (.loop (rec .ready none)) = W1 := ⟨_, rfl⟩
  have b1 : Book h (rec .ready none) W1 := by
    have e1 := World.alloc_heap_new (w.alloc (.deferred (some []))) (.loop (rec .ready none))
    rw [World.size_alloc] at e1
    rw [← hW1, ← hh]
    exact ⟨e1, (Below.heap_alloc _ _ _ (by simp)).trans (World.alloc_heap_new w _)⟩
  have z1 : W1.heap.size = h + 1 + 1 := by rw [← hW1, World.size_alloc, World.size_alloc, hh]
  have i1 : I [] W1 := by rw [← hW1]; exact hI.alloc _ (hI.alloc _ h0)
  have below1 : Below w0.heap.size w0 W1 := by
    rw [← hW1]; exact hb0.trans ((((Below.refl _ w).alloc (Nat.le_refl _) _).alloc (by simp) _).mono hb0.size)
  have enter : (Instr.enterLoop fn a.tmps ps assign body none).run P w = .ok (h + 1, [{ target := .collected h, args := #[] }]) W1 := by
    rw [← hW1, hrec, ← hh]; exact run_enterLoop_outer _ _ _ _ _
  rw [hh] at hKt hKb hI hIx hok hIw hS hbody hdone hstop
  refine ⟨h + 1, _, W1, { target := .fn (.func gf) lb, args := #[.func (.yield (h + 1)) #[] #[]] }, W1, gf, #[.func (.yield (h + 1)) #[] #[]] ++ lb, W1, enter, ?_, ?_, ?_, fun _ => h1, ?_⟩
  · simp only [resolve, hg]
    simp [go_sem]
  · intro f' hf'; simp [Target.leads] at hf'; subst hf'; exact hFg
  · simp [invoke, go_sem, eg]
  have older : ∀ {A : World} {row : Option Nat}, (∀ r, row = some r → W1.heap.size ≤ r ∧ ∃ o : Obj, A.heap[r]? = some o ∧ o.isWalk = true) → ∀ r, row = some r → h ≤ r ∧ ∃ o : Obj, A.heap[r]? = some o ∧ o.isCells = false := fun hr r e => by
    obtain ⟨hB, o, ho, hw⟩ := hr r e
    exact ⟨by omega, o, ho, Obj.not_cells_of_walk hw⟩
  refine (hseq (h + 1) (fun pre W => I pre W ∧ Book h (rec .ready none) W) (fun pre W => ∃ c, Ix c pre W ∧ Book h (rec .done (some c)) W) W1 below1
    (fun s A B row hs hg' hr => ⟨hI s A B row hs.1 hg' (older hr), hs.2.turn hg' (fun i e => (hr i e).2)⟩)
    (fun s A B row hs hg' hr => by obtain ⟨c, hc, hk⟩ := hs; exact ⟨c, hIx c s A B row hc hg' (older hr), hk.turn hg' (fun i e => (hr i e).2)⟩)
    (fun s W b v hb hs => by
      rw [z1] at hb
      exact ⟨hIw s W b v hb hs.1, hs.2.store (hok b hb).1 (hok b hb).2 v⟩)
    (fun pre x W hs hlen hm => by
      rw [z1]
      exact round_of (Kp := Kp (h + 2)) hfn (fun p q => hKt p q) hKb I Ix hI hIx a₁ rec hrec pre x (hps x) (fun W K hK => hassign _ x W K hK) (m (h + 2)) (fun W hi hsz => hbody _ pre x W hi hlen hsz) W hs.1 hs.2 (by rw [z1] at hm; exact hm))
    ⟨i1, b1⟩).mono ?_
  rintro e W2 ⟨⟨v, rfl⟩, ⟨xs, hs, hi, hk⟩ | ⟨pre, hsp, c, hi, hk⟩⟩
  · have hr := run_endLoop (P := P) hk.1 (by rw [hrec]; simp)
    rw [hrec] at hr
    exact ⟨none, _, hr, hdone h xs _ (Nat.le_refl _) (hS.putObj _ hs (by omega) hk.1 rfl) (hI.putObj _ hi (by omega) hk.1 rfl) ((World.putObj_heap_other (by omega)).trans hk.2)⟩
  · have hr := run_endLoop (P := P) hk.1 (by rw [hrec]; simp)
    rw [hrec] at hr
    exact ⟨some c, _, hr, hstop h c pre _ (Nat.le_refl _) hsp ((hIx c).putObj _ hi (by omega) hk.1 rfl) ((World.putObj_heap_other (by omega)).trans hk.2)⟩
end Go.Proofs.YtamjpchpbceelaaDoor
