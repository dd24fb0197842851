/- A range over an iterator that writes cells of its own (a variable that it was handed, or made): its contract, and the law for the loop. No condition. -/
import Derived.RangeFuncNested
import Derived.RangeFuncBound
import Derived.Test.YtgechifbbhipaaaDoorKit
set_option linter.unusedVariables false
set_option linter.unusedSimpArgs false
namespace Go.Proofs.YtgechifbbhipaaaDoor
open Go.RowKit

variable {F : Fence} {n : Nat} {P : Program}

/-- The caller's word abides a store into a block that the iterator may write. -/
def Lets {β : Type} (ok : Nat → Prop) (J : β → World → Prop) : Prop :=
  ∀ s W b v, ok b → J s W → J s (W.setCell ⟨b, 0, none⟩ v)

/-- An iterator's contract: it may write the first cells of the blocks that 'ok' names (which is told how many blocks there are when it is called); where it yields there are at least 'm' blocks; S tells of the elements and of the world in which it ends. -/
def SeqC {α : Type} (F : Fence) (n : Nat) (P : Program) (g : Nat) (lb : Array Value) (encs : α → Array Value) (Kp : World → World → Prop) (ok : Nat → Nat → Prop) (m : Nat → Nat) (S : List α → World → Prop) (Sp : List α → Prop) (N : Nat) (w : World) : Prop :=
  ∀ (l : Nat) (J Jx : List α → World → Prop) (W : World), Below w.heap.size w W → AbidesFrom W.heap.size J → AbidesFrom W.heap.size Jx → Lets (ok W.heap.size) J →
    (∀ pre x W1, J pre W1 → pre.length < N → m W.heap.size ≤ W1.heap.size → YieldAt F (n - 1) P l (encs x) W1 fun e W' =>
      (e = .returned (.bool true) ∧ J (pre ++ [x]) W' ∧ Kp W1 W') ∨ (e = .returned (.bool false) ∧ Jx (pre ++ [x]) W')) →
    J [] W →
    CallsIn F n P g (#[.func (.yield l) #[] #[]] ++ lb) W fun e W' => (∃ v, e = .returned v) ∧ ((∃ xs, S xs W' ∧ J xs W') ∨ (∃ pre, Sp pre ∧ Jx pre W'))

/-- what the loop's law keeps of its own: the record, and the block for deferred calls -/
def Book (h : Nat) (r : Loop) (W : World) : Prop := W.heap[h + 1]? = some (.loop r) ∧ W.heap[h]? = some (.deferred (some []))

theorem Book.turn {h : Nat} {r : Loop} {X Y : World} {row : Option Nat} (k : Book h r X) (hg : X.grownBy Y row) (hr : ∀ i, row = some i → ∃ o : Obj, X.heap[i]? = some o ∧ o.isWalk = true) : Book h r Y :=
  ⟨(grownBy_keeps hg hr k.1 rfl).trans k.1, (grownBy_keeps hg hr k.2 rfl).trans k.2⟩
theorem Book.store {h : Nat} {r : Loop} {X : World} (k : Book h r X) {b : Nat} (h1 : b ≠ h) (h2 : b ≠ h + 1) (v : Value) : Book h r (X.setCell ⟨b, 0, none⟩ v) :=
  ⟨(Below.heap_setCell _ _ _ _ (fun e => h2 e.symm)).trans k.1, (Below.heap_setCell _ _ _ _ (fun e => h1 e.symm)).trans k.2⟩
theorem Book.put {h : Nat} {r : Loop} {X : World} (k : Book h r X) (r' : Loop) : Book h r' (X.putObj (h + 1) (.loop r')) :=
  ⟨World.putObj_heap_same (Array.getElem?_eq_some_iff.1 k.1).1, (World.putObj_heap_other (by omega)).trans k.2⟩

/-- one round: from yield's call to its answer. -/
theorem round_of {α : Type} {ps : Array Tmp} {assign body : Code} {a : Act} {h : Nat} {fn : FuncId} (hfn : F.fn fn) {encs : α → Array Value} {Kp : World → World → Prop}
    (hKt : ∀ {A B C : World}, Kp A B → Kp B C → Kp A C) (hKb : ∀ (W : World) (l : Nat) (o o' : Obj), h ≤ l → W.heap[l]? = some o → o.isCells = false → o.isWalk = false → Kp W (W.putObj l o'))
    (I : List α → World → Prop) (Ix : Code → List α → World → Prop) (hI : OwnFrom h I) (hIx : ∀ c, OwnFrom h (Ix c)) (a₁ : α → Act) (rec : LoopState → Option Code → Loop)
    (hrec : rec = fun st pe => { state := st, pending := pe, fn, tmps := a.tmps, params := ps, assign, body, defers := h }) (pre : List α) (x : α) (hps : (encs x).size = ps.size)
    (hassign : ∀ (W : World) (K : Act → World → Prop), K (a₁ x) W → assign.wpIn (F.inRound (h + 1)) n P (Exit.then K (fun _ _ _ => False)) { tmps := (ps.zip (encs x)).foldl (fun t (p, v) => t.setIfInBounds p v) a.tmps, defers := [] } W)
    (k : Nat) (hbody : ∀ W, I pre W → k ≤ W.heap.size → body.wpIn (F.inRound (h + 1)) n P (ownPostG h Kp I Ix (pre ++ [x]) W) (a₁ x) W) (W : World) (hi : I pre W) (hk : Book h (rec .ready none) W) (hsz : k ≤ W.heap.size) :
    YieldAt F n P (h + 1) (encs x) W fun e W' => (e = .returned (.bool true) ∧ (I (pre ++ [x]) W' ∧ Book h (rec .ready none) W') ∧ Kp W W') ∨ (e = .returned (.bool false) ∧ ∃ c, Ix c (pre ++ [x]) W' ∧ Book h (rec .done (some c)) W') := by
  have hy := run_yield (P := P) (args := encs x) hk.1 (by rw [hrec]; exact hps)
  rw [hrec] at hy
  have hbusy := hk.put { rec .ready none with state := .busy }
  have hKp := hKb W (h + 1) _ (.loop { rec .ready none with state := .busy }) (by omega) hk.1 rfl rfl
  refine ⟨fn, _, assign, body, hy, roundIn_of_wpIn hfn (hassign W _ ⟨_, run_beginRound hk.1 (by rw [hrec]), ?_⟩)⟩
  refine wpIn_mono (hbody _ (hI.putObj _ hi (by omega) hk.1 rfl) (by simpa [World.putObj] using hsz)) ?_
  have leave : ∀ (jump : Option Code) (W3 : World), KeepsFrom h (W.putObj (h + 1) (.loop { rec .ready none with state := .busy })) W3 →
      (Instr.endRound (h + 1) jump).run P W3 = .ok (.bool jump.isNone) (W3.putObj (h + 1) (.loop (rec (if jump.isNone then .ready else .done) jump))) ∧ Book h { rec .ready none with state := .busy } W3 := fun jump W3 hk3 => by
    have b3 : Book h { rec .ready none with state := .busy } W3 := ⟨hk3.same _ _ (by omega) hbusy.1 rfl, hk3.same _ _ (Nat.le_refl _) hbusy.2 rfl⟩
    have hr := run_endRound (P := P) jump b3.1
    rw [hrec] at hr ⊢
    rw [hrec] at b3
    exact ⟨hr, b3⟩
  have out : ∀ (c : Code) (W3 : World), KeepsFrom h (W.putObj (h + 1) (.loop { rec .ready none with state := .busy })) W3 → Ix c (pre ++ [x]) W3 →
      ∃ v w', (Instr.endRound (h + 1) (some c)).run P W3 = .ok v w' ∧ ((Ending.returned v = .returned (.bool true) ∧ (I (pre ++ [x]) w' ∧ Book h (rec .ready none) w') ∧ Kp W w') ∨ (Ending.returned v = .returned (.bool false) ∧ ∃ c, Ix c (pre ++ [x]) w' ∧ Book h (rec .done (some c)) w')) := fun c W3 hk3 hi3 => by
    obtain ⟨hr, b3⟩ := leave (some c) W3 hk3
    exact ⟨_, _, hr, .inr ⟨rfl, c, (hIx c).putObj _ hi3 (by omega) b3.1 rfl, b3.put _⟩⟩
  intro e a3 W3 hp
  cases e with
  | normal =>
    obtain ⟨hk3, hkp3, hi3⟩ := hp
    obtain ⟨hr, b3⟩ := leave none W3 hk3
    exact ⟨_, _, hr, .inl ⟨rfl, ⟨hI.putObj _ hi3 (by omega) b3.1 rfl, b3.put _⟩, hKt (hKt hKp hkp3) (hKb _ _ _ _ (by omega) b3.1 rfl rfl)⟩⟩
  | ret => exact out _ W3 hp.1 hp.2
  | exit id => exact out _ W3 hp.1 hp.2
  | goto t => exact out _ W3 hp.1 hp.2
  | panic ch => exact hp.elim
  | outgrown => exact hp.elim

/-- the loop over such an iterator -/
theorem wpIn_range_cells {α : Type} {g : Operand} {ps : Array Tmp} {assign body : Code} {Q : Exit → Act → World → Prop} {a : Act} {w : World}
    (hro : F.round = none) (h1 : 1 ≤ n) {gf : Nat} {lb : Array Value} (hg : a.eval g = .func (.func gf) #[] lb) (hFg : F.fn gf) (eg : ∀ args w, (callFunc gf args).run P w = .ok (.enter gf args) w)
    {encs : α → Array Value} {Kp : World → World → Prop} {ok : Nat → Nat → Prop} {m : Nat → Nat} {S : List α → World → Prop} {Sp : List α → Prop} {N : Nat} {w0 : World} (hseq : SeqC F (n - 1) P gf lb encs Kp ok m S Sp N w0)
    (hKt : ∀ {A B C : World}, Kp A B → Kp B C → Kp A C) (hKb : ∀ (W : World) (l : Nat) (o o' : Obj), w.heap.size ≤ l → W.heap[l]? = some o → o.isCells = false → o.isWalk = false → Kp W (W.putObj l o')) (hb0 : Below w0.heap.size w0 w) (hps : ∀ x, (encs x).size = ps.size)
    (I : List α → World → Prop) (Ix : Code → List α → World → Prop) (hI : OwnFrom w.heap.size I) (hIx : ∀ c, OwnFrom w.heap.size (Ix c)) (hok : ∀ b, ok (w.heap.size + 2) b → b ≠ w.heap.size ∧ b ≠ w.heap.size + 1) (hIw : Lets (ok (w.heap.size + 2)) I) (hS : OwnFrom w.heap.size S) (h0 : I [] w) (a₁ : α → Act)
    (hassign : ∀ (l : Nat) (x : α) (W : World) (K : Act → World → Prop), K (a₁ x) W →
      assign.wpIn (F.inRound l) (n - 1 - 1) P (Exit.then K (fun _ _ _ => False)) { tmps := (ps.zip (encs x)).foldl (fun t (p, v) => t.setIfInBounds p v) a.tmps, defers := [] } W)
    (hbody : ∀ (l : Nat) (pre : List α) (x : α) (W : World), I pre W → pre.length < N → m (w.heap.size + 2) ≤ W.heap.size → body.wpIn (F.inRound l) (n - 1 - 1) P (ownPostG w.heap.size Kp I Ix (pre ++ [x]) W) (a₁ x) W)
    (hdone : ∀ (D : Nat) (xs : List α) (W : World), w.heap.size ≤ D → S xs W → I xs W → W.heap[D]? = some (.deferred (some [])) → Q .normal { a with defers := { target := .collected D, args := #[] } :: a.defers } W)
    (hstop : ∀ (D : Nat) (c : Code) (pre : List α) (W : World), w.heap.size ≤ D → Sp pre → Ix c pre W → W.heap[D]? = some (.deferred (some [])) → c.wpIn F n P Q { a with defers := { target := .collected D, args := #[] } :: a.defers } W) :
    (Code.rangeFunc g ps assign body).wpIn F n P Q a w := by
  refine wpIn_rangeFunc fun fn hfn => ?_
  rw [hro]
  obtain ⟨h, hh⟩ : ∃ h, w.heap.size = h := ⟨_, rfl⟩
  obtain ⟨rec, hrec⟩ : ∃ rec : LoopState → Option Code → Loop, rec = fun st pe => { state := st, pending := pe, fn, tmps := a.tmps, params := ps, assign, body, defers := h } := ⟨_, rfl⟩
  obtain ⟨W1, hW1⟩ : ∃ W1, (w.alloc (.deferred (some []))).alloc (.loop (rec .ready none)) = W1 := ⟨_, rfl⟩
  have b1 : Book h (rec .ready none) W1 := by
    have e1 := World.alloc_heap_new (w.alloc (.deferred (some []))) (.loop (rec .ready none))
    rw [World.size_alloc] at e1
    rw [← hW1, ← hh]
    exact ⟨e1, (Below.heap_alloc _ _ _ (by simp)).trans (World.alloc_heap_new w _)⟩
  have z1 : W1.heap.size = h + 1 + 1 := by rw [← hW1, World.size_alloc, World.size_alloc, hh]
  have i1 : I [] W1 := by rw [← hW1]; exact hI.alloc _ (hI.alloc _ h0)
  have below1 : Below w0.heap.size w0 W1 := by
    rw [← hW1]; exact hb0.trans ((((Below.refl _ w).alloc (Nat.le_refl _) _).alloc (by simp) _).mono hb0.size)
  have enter : (Instr.enterLoop fn a.tmps ps assign body none).run P w = .ok (h + 1, [{ target := .collected h, args := #[] }]) W1 := by
    rw [← hW1, hrec, ← hh]; exact run_enterLoop_outer _ _ _ _ _
  rw [hh] at hKb hI hIx hok hIw hS hbody hdone hstop
  refine ⟨h + 1, _, W1, { target := .fn (.func gf) lb, args := #[.func (.yield (h + 1)) #[] #[]] }, W1, gf, #[.func (.yield (h + 1)) #[] #[]] ++ lb, W1, enter, ?_, ?_, ?_, fun _ => h1, ?_⟩
  · simp only [resolve, hg]
    simp [go_sem]
  · intro f' hf'; simp [Target.leads] at hf'; subst hf'; exact hFg
  · simp [invoke, go_sem, eg]
  have older : ∀ {A : World} {row : Option Nat}, (∀ r, row = some r → W1.heap.size ≤ r ∧ ∃ o : Obj, A.heap[r]? = some o ∧ o.isWalk = true) → ∀ r, row = some r → h ≤ r ∧ ∃ o : Obj, A.heap[r]? = some o ∧ o.isCells = false := fun hr r e => by
    obtain ⟨hB, o, ho, hw⟩ := hr r e
    exact ⟨by omega, o, ho, Obj.not_cells_of_walk hw⟩
  refine (hseq (h + 1) (fun pre W => I pre W ∧ Book h (rec .ready none) W) (fun pre W => ∃ c, Ix c pre W ∧ Book h (rec .done (some c)) W) W1 below1
    (fun s A B row hs hg' hr => ⟨hI s A B row hs.1 hg' (older hr), hs.2.turn hg' (fun i e => (hr i e).2)⟩)
    (fun s A B row hs hg' hr => by obtain ⟨c, hc, hk⟩ := hs; exact ⟨c, hIx c s A B row hc hg' (older hr), hk.turn hg' (fun i e => (hr i e).2)⟩)
    (fun s W b v hb hs => by
      rw [z1] at hb
      exact ⟨hIw s W b v hb hs.1, hs.2.store (hok b hb).1 (hok b hb).2 v⟩)
    (fun pre x W hs hlen hm => round_of (Kp := Kp) hfn (fun p q => hKt p q) hKb I Ix hI hIx a₁ rec hrec pre x (hps x) (fun W K hK => hassign _ x W K hK) (m (h + 2)) (fun W hi hsz => hbody _ pre x W hi hlen hsz) W hs.1 hs.2 (by rw [z1] at hm; exact hm))
    ⟨i1, b1⟩).mono ?_
  rintro e W2 ⟨⟨v, rfl⟩, ⟨xs, hs, hi, hk⟩ | ⟨pre, hsp, c, hi, hk⟩⟩
  · have hr := run_endLoop (P := P) hk.1 (by rw [hrec]; simp)
    rw [hrec] at hr
    exact ⟨none, _, hr, hdone h xs _ (Nat.le_refl _) (hS.putObj _ hs (by omega) hk.1 rfl) (hI.putObj _ hi (by omega) hk.1 rfl) ((World.putObj_heap_other (by omega)).trans hk.2)⟩
  · have hr := run_endLoop (P := P) hk.1 (by rw [hrec]; simp)
    rw [hrec] at hr
    exact ⟨some c, _, hr, hstop h c pre _ (Nat.le_refl _) hsp ((hIx c).putObj _ hi (by omega) hk.1 rfl) ((World.putObj_heap_other (by omega)).trans hk.2)⟩
end Go.Proofs.YtgechifbbhipaaaDoor

/- A range over an iterator that makes cells of its own: as Rng, where what a round keeps is told of the block at which the iterator was called. No condition. -/
namespace Go.Proofs.YtgechifbbhipaaaDoor
open Go.RowKit

variable {F : Fence} {n : Nat} {P : Program}

/-- An iterator's contract: it may write the first cells of the blocks that 'ok' names (which is told how many blocks there are when it is called); where it yields there are at least 'm' blocks; S tells of the elements and of the world in which it ends. -/
def SeqD {α : Type} (F : Fence) (n d : Nat) (P : Program) (g : Nat) (lb : Array Value) (encs : α → Array Value) (Kp : Nat → World → World → Prop) (ok : Nat → Nat → Prop) (m : Nat → Nat) (S : List α → World → Prop) (Sp : List α → Prop) (N : Nat) (w : World) : Prop :=
  ∀ (l : Nat) (J Jx : List α → World → Prop) (W : World), Below w.heap.size w W → AbidesFrom W.heap.size J → AbidesFrom W.heap.size Jx → Lets (ok W.heap.size) J →
    (∀ pre x W1, J pre W1 → pre.length < N → m W.heap.size ≤ W1.heap.size → YieldAt F (n - d) P l (encs x) W1 fun e W' =>
      (e = .returned (.bool true) ∧ J (pre ++ [x]) W' ∧ Kp W.heap.size W1 W') ∨ (e = .returned (.bool false) ∧ Jx (pre ++ [x]) W')) →
    J [] W →
    CallsIn F n P g (#[.func (.yield l) #[] #[]] ++ lb) W fun e W' => (∃ v, e = .returned v) ∧ ((∃ xs, S xs W' ∧ J xs W') ∨ (∃ pre, Sp pre ∧ Jx pre W'))

/-- the loop over such an iterator -/
theorem wpIn_range_cellsD {α : Type} {g : Operand} {ps : Array Tmp} {assign body : Code} {Q : Exit → Act → World → Prop} {a : Act} {w : World}
    (hro : F.round = none) (h1 : 1 ≤ n) {gf : Nat} {lb : Array Value} (hg : a.eval g = .func (.func gf) #[] lb) (hFg : F.fn gf) (eg : ∀ args w, (callFunc gf args).run P w = .ok (.enter gf args) w)
    {encs : α → Array Value} {Kp : Nat → World → World → Prop} {ok : Nat → Nat → Prop} {m : Nat → Nat} {S : List α → World → Prop} {Sp : List α → Prop} {N : Nat} {w0 : World} {d : Nat} (hseq : SeqD F (n - 1) d P gf lb encs Kp ok m S Sp N w0)
    (hKt : ∀ {A B C : World}, Kp (w.heap.size + 2) A B → Kp (w.heap.size + 2) B C → Kp (w.heap.size + 2) A C) (hKb : ∀ (W : World) (l : Nat) (o o' : Obj), w.heap.size ≤ l → W.heap[l]? = some o → o.isCells = false → o.isWalk = false → Kp (w.heap.size + 2) W (W.putObj l o')) (hb0 : Below w0.heap.size w0 w) (hps : ∀ x, (encs x).size = ps.size)
    (I : List α → World → Prop) (Ix : Code → List α → World → Prop) (hI : OwnFrom w.heap.size I) (hIx : ∀ c, OwnFrom w.heap.size (Ix c)) (hok : ∀ b, ok (w.heap.size + 2) b → b ≠ w.heap.size ∧ b ≠ w.heap.size + 1) (hIw : Lets (ok (w.heap.size + 2)) I) (hS : OwnFrom w.heap.size S) (h0 : I [] w) (a₁ : α → Act)
    (hassign : ∀ (l : Nat) (x : α) (W : World) (K : Act → World → Prop), K (a₁ x) W →
      assign.wpIn (F.inRound l) (n - 1 - d) P (Exit.then K (fun _ _ _ => False)) { tmps := (ps.zip (encs x)).foldl (fun t (p, v) => t.setIfInBounds p v) a.tmps, defers := [] } W)
    (hbody : ∀ (l : Nat) (pre : List α) (x : α) (W : World), I pre W → pre.length < N → m (w.heap.size + 2) ≤ W.heap.size → body.wpIn (F.inRound l) (n - 1 - d) P (ownPostG w.heap.size (Kp (w.heap.size + 2)) I Ix (pre ++ [x]) W) (a₁ x) W)
    (hdone : ∀ (D : Nat) (xs : List α) (W : World), w.heap.size ≤ D → S xs W → I xs W → W.heap[D]? = some (.deferred (some [])) → Q .normal { a with defers := { target := .collected D, args := #[] } :: a.defers } W)
    (hstop : ∀ (D : Nat) (c : Code) (pre : List α) (W : World), w.heap.size ≤ D → Sp pre → Ix c pre W → W.heap[D]? = some (.deferred (some [])) → c.wpIn F n P Q { a with defers := { target := .collected D, args := #[] } :: a.defers } W) :
    (Code.rangeFunc g ps assign body).wpIn F n P Q a w := by
  refine wpIn_rangeFunc fun fn hfn => ?_
  rw [hro]
  obtain ⟨h, hh⟩ : ∃ h, w.heap.size = h := ⟨_, rfl⟩
  obtain ⟨rec, hrec⟩ : ∃ rec : LoopState → Option Code → Loop, rec = fun st pe => { state := st, pending := pe, fn, tmps := a.tmps, params := ps, assign, body, defers := h } := ⟨_, rfl⟩
  obtain ⟨W1, hW1⟩ : ∃ W1, (w.alloc (.deferred (some []))).alloc (.loop (rec .ready none)) = W1 := ⟨_, rfl⟩
  have b1 : Book h (rec .ready none) W1 := by
    have e1 := World.alloc_heap_new (w.alloc (.deferred (some []))) (.loop (rec .ready none))
    rw [World.size_alloc] at e1
    rw [← hW1, ← hh]
    exact ⟨e1, (Below.heap_alloc _ _ _ (by simp)).trans (World.alloc_heap_new w _)⟩
  have z1 : W1.heap.size = h + 1 + 1 := by rw [← hW1, World.size_alloc, World.size_alloc, hh]
  have i1 : I [] W1 := by rw [← hW1]; exact hI.alloc _ (hI.alloc _ h0)
  have below1 : Below w0.heap.size w0 W1 := by
    rw [← hW1]; exact hb0.trans ((((Below.refl _ w).alloc (Nat.le_refl _) _).alloc (by simp) _).mono hb0.size)
  have enter : (Instr.enterLoop fn a.tmps ps assign body none).run P w = .ok (h + 1, [{ target := .collected h, args := #[] }]) W1 := by
    rw [← hW1, hrec, ← hh]; exact run_enterLoop_outer _ _ _ _ _
  rw [hh] at hKt hKb hI hIx hok hIw hS hbody hdone hstop
  refine ⟨h + 1, _, W1, { target := .fn (.func gf) lb, args := #[.func (.yield (h + 1)) #[] #[]] }, W1, gf, #[.func (.yield (h + 1)) #[] #[]] ++ lb, W1, enter, ?_, ?_, ?_, fun _ => h1, ?_⟩
  · simp only [resolve, hg]
    simp [go_sem]
  · intro f' hf'; simp [Target.leads] at hf'; subst hf'; exact hFg
  · simp [invoke, go_sem, eg]
  have older : ∀ {A : World} {row : Option Nat}, (∀ r, row = some r → W1.heap.size ≤ r ∧ ∃ o : Obj, A.heap[r]? = some o ∧ o.isWalk = true) → ∀ r, row = some r → h ≤ r ∧ ∃ o : Obj, A.heap[r]? = some o ∧ o.isCells = false := fun hr r e => by
    obtain ⟨hB, o, ho, hw⟩ := hr r e
    exact ⟨by omega, o, ho, Obj.not_cells_of_walk hw⟩
  refine (hseq (h + 1) (fun pre W => I pre W ∧ Book h (rec .ready none) W) (fun pre W => ∃ c, Ix c pre W ∧ Book h (rec .done (some c)) W) W1 below1
    (fun s A B row hs hg' hr => ⟨hI s A B row hs.1 hg' (older hr), hs.2.turn hg' (fun i e => (hr i e).2)⟩)
    (fun s A B row hs hg' hr => by obtain ⟨c, hc, hk⟩ := hs; exact ⟨c, hIx c s A B row hc hg' (older hr), hk.turn hg' (fun i e => (hr i e).2)⟩)
    (fun s W b v hb hs => by
      rw [z1] at hb
      exact ⟨hIw s W b v hb hs.1, hs.2.store (hok b hb).1 (hok b hb).2 v⟩)
    (fun pre x W hs hlen hm => by
      rw [z1]
      exact round_of (Kp := Kp (h + 2)) hfn (fun p q => hKt p q) hKb I Ix hI hIx a₁ rec hrec pre x (hps x) (fun W K hK => hassign _ x W K hK) (m (h + 2)) (fun W hi hsz => hbody _ pre x W hi hlen hsz) W hs.1 hs.2 (by rw [z1] at hm; exact hm))
    ⟨i1, b1⟩).mono ?_
  rintro e W2 ⟨⟨v, rfl⟩, ⟨xs, hs, hi, hk⟩ | ⟨pre, hsp, c, hi, hk⟩⟩
  · have hr := run_endLoop (P := P) hk.1 (by rw [hrec]; simp)
    rw [hrec] at hr
    exact ⟨none, _, hr, hdone h xs _ (Nat.le_refl _) (hS.putObj _ hs (by omega) hk.1 rfl) (hI.putObj _ hi (by omega) hk.1 rfl) ((World.putObj_heap_other (by omega)).trans hk.2)⟩
  · have hr := run_endLoop (P := P) hk.1 (by rw [hrec]; simp)
    rw [hrec] at hr
    exact ⟨some c, _, hr, hstop h c pre _ (Nat.le_refl _) hsp ((hIx c).putObj _ hi (by omega) hk.1 rfl) ((World.putObj_heap_other (by omega)).trans hk.2)⟩
end Go.Proofs.YtgechifbbhipaaaDoor

/- A range over an iterator that makes cells of its own, and that ranges over another: as Rng2, where the yield's answer tells that the iterator's own records stay. No condition. -/
namespace Go.Proofs.YtgechifbbhipaaaDoor
open Go.RowKit

variable {F : Fence} {n : Nat} {P : Program}

theorem keeps_put {W W3 : World} {h : Nat} {o o' : Obj} (k : KeepsFrom h (W.putObj (h + 1) o) W3) : KeepsFrom (h + 2) W (W3.putObj (h + 1) o') := by
  refine ⟨?_, fun i u hi hu hc => ?_⟩
  · have := k.size
    simpa [World.putObj] using this
  · have h1 : (W.putObj (h + 1) o).heap[i]? = some u := (World.putObj_heap_other (by omega)).trans hu
    exact (World.putObj_heap_other (by omega)).trans (k.same i u (by omega) h1 hc)

theorem Book.past {h : Nat} {r : Loop} {X Y : World} {row : Option Nat} (k : Book h r X) (hg : X.grownBy Y row) (hr : ∀ i, row = some i → h + 2 ≤ i) : Book h r Y :=
  ⟨(hg.block (h + 1) (Array.getElem?_eq_some_iff.1 k.1).1 (fun e => by have := hr _ e.symm; omega)).trans k.1, (hg.block h (Array.getElem?_eq_some_iff.1 k.2).1 (fun e => by have := hr _ e.symm; omega)).trans k.2⟩

/-- one round: from yield's call to its answer. -/
theorem round_ofE {α : Type} {ps : Array Tmp} {assign body : Code} {a : Act} {h : Nat} {fn : FuncId} (hfn : F.fn fn) {encs : α → Array Value} {Kp : World → World → Prop}
    (hKt : ∀ {A B C : World}, Kp A B → Kp B C → Kp A C) (hKb : ∀ (W : World) (l : Nat) (o o' : Obj), h ≤ l → W.heap[l]? = some o → o.isCells = false → o.isWalk = false → Kp W (W.putObj l o'))
    (I : List α → World → Prop) (Ix : Code → List α → World → Prop) (hI : OwnFrom h I) (hIx : ∀ c, OwnFrom h (Ix c)) (a₁ : α → Act) (rec : LoopState → Option Code → Loop)
    (hrec : rec = fun st pe => { state := st, pending := pe, fn, tmps := a.tmps, params := ps, assign, body, defers := h }) (pre : List α) (x : α) (hps : (encs x).size = ps.size)
    (hassign : ∀ (W : World) (K : Act → World → Prop), K (a₁ x) W → assign.wpIn (F.inRound (h + 1)) n P (Exit.then K (fun _ _ _ => False)) { tmps := (ps.zip (encs x)).foldl (fun t (p, v) => t.setIfInBounds p v) a.tmps, defers := [] } W)
    (k : Nat) (hbody : ∀ W, I pre W → k ≤ W.heap.size → body.wpIn (F.inRound (h + 1)) n P (ownPostG h Kp I Ix (pre ++ [x]) W) (a₁ x) W) (W : World) (hi : I pre W) (hk : Book h (rec .ready none) W) (hsz : k ≤ W.heap.size) :
    YieldAt F n P (h + 1) (encs x) W fun e W' => (e = .returned (.bool true) ∧ (I (pre ++ [x]) W' ∧ Book h (rec .ready none) W') ∧ Kp W W' ∧ KeepsFrom (h + 2) W W') ∨ (e = .returned (.bool false) ∧ (∃ c, Ix c (pre ++ [x]) W' ∧ Book h (rec .done (some c)) W') ∧ KeepsFrom (h + 2) W W') := by
  have hy := run_yield (P := P) (args := encs x) hk.1 (by rw [hrec]; exact hps)
  rw [hrec] at hy
  have hbusy := hk.put { rec .ready none with state := .busy }
  have hKp := hKb W (h + 1) _ (.loop { rec .ready none with state := .busy }) (by omega) hk.1 rfl rfl
  refine ⟨fn, _, assign, body, hy, roundIn_of_wpIn hfn (hassign W _ ⟨_, run_beginRound hk.1 (by rw [hrec]), ?_⟩)⟩
  refine wpIn_mono (hbody _ (hI.putObj _ hi (by omega) hk.1 rfl) (by simpa [World.putObj] using hsz)) ?_
  have leave : ∀ (jump : Option Code) (W3 : World), KeepsFrom h (W.putObj (h + 1) (.loop { rec .ready none with state := .busy })) W3 →
      (Instr.endRound (h + 1) jump).run P W3 = .ok (.bool jump.isNone) (W3.putObj (h + 1) (.loop (rec (if jump.isNone then .ready else .done) jump))) ∧ Book h { rec .ready none with state := .busy } W3 := fun jump W3 hk3 => by
    have b3 : Book h { rec .ready none with state := .busy } W3 := ⟨hk3.same _ _ (by omega) hbusy.1 rfl, hk3.same _ _ (Nat.le_refl _) hbusy.2 rfl⟩
    have hr := run_endRound (P := P) jump b3.1
    rw [hrec] at hr ⊢
    rw [hrec] at b3
    exact ⟨hr, b3⟩
  have out : ∀ (c : Code) (W3 : World), KeepsFrom h (W.putObj (h + 1) (.loop { rec .ready none with state := .busy })) W3 → Ix c (pre ++ [x]) W3 →
      ∃ v w', (Instr.endRound (h + 1) (some c)).run P W3 = .ok v w' ∧ ((Ending.returned v = .returned (.bool true) ∧ (I (pre ++ [x]) w' ∧ Book h (rec .ready none) w') ∧ Kp W w' ∧ KeepsFrom (h + 2) W w') ∨ (Ending.returned v = .returned (.bool false) ∧ (∃ c, Ix c (pre ++ [x]) w' ∧ Book h (rec .done (some c)) w') ∧ KeepsFrom (h + 2) W w')) := fun c W3 hk3 hi3 => by
    obtain ⟨hr, b3⟩ := leave (some c) W3 hk3
    exact ⟨_, _, hr, .inr ⟨rfl, ⟨c, (hIx c).putObj _ hi3 (by omega) b3.1 rfl, b3.put _⟩, keeps_put hk3⟩⟩
  intro e a3 W3 hp
  cases e with
  | normal =>
    obtain ⟨hk3, hkp3, hi3⟩ := hp
    obtain ⟨hr, b3⟩ := leave none W3 hk3
    exact ⟨_, _, hr, .inl ⟨rfl, ⟨hI.putObj _ hi3 (by omega) b3.1 rfl, b3.put _⟩, hKt (hKt hKp hkp3) (hKb _ _ _ _ (by omega) b3.1 rfl rfl), keeps_put hk3⟩⟩
  | ret => exact out _ W3 hp.1 hp.2
  | exit id => exact out _ W3 hp.1 hp.2
  | goto t => exact out _ W3 hp.1 hp.2
  | panic ch => exact hp.elim
  | outgrown => exact hp.elim

/-- An iterator's contract: it may write the first cells of the blocks that 'ok' names (which is told how many blocks there are when it is called); where it yields there are at least 'm' blocks; S tells of the elements and of the world in which it ends. -/
def SeqE {α : Type} (F : Fence) (n d : Nat) (P : Program) (g : Nat) (lb : Array Value) (encs : α → Array Value) (Kp : Nat → World → World → Prop) (ok : Nat → Nat → Prop) (m : Nat → Nat) (S : List α → World → Prop) (Sp : List α → Prop) (Nx : List α → α → Prop) (w : World) : Prop :=
  ∀ (l : Nat) (J Jx : List α → World → Prop) (W : World), Below w.heap.size w W → OwnFrom W.heap.size J → OwnFrom W.heap.size Jx → Lets (ok W.heap.size) J →
    (∀ pre x W1, J pre W1 → Nx pre x → m W.heap.size ≤ W1.heap.size → YieldAt F (n - d) P l (encs x) W1 fun e W' =>
      (e = .returned (.bool true) ∧ J (pre ++ [x]) W' ∧ Kp W.heap.size W1 W' ∧ KeepsFrom W.heap.size W1 W') ∨ (e = .returned (.bool false) ∧ Jx (pre ++ [x]) W' ∧ KeepsFrom W.heap.size W1 W')) →
    J [] W →
    CallsIn F n P g (#[.func (.yield l) #[] #[]] ++ lb) W fun e W' => (∃ v, e = .returned v) ∧ ((∃ xs, S xs W' ∧ J xs W') ∨ (∃ pre, Sp pre ∧ Jx pre W'))

/-- the loop over such an iterator -/
theorem wpIn_range_cellsE {α : Type} {g : Operand} {ps : Array Tmp} {assign body : Code} {Q : Exit → Act → World → Prop} {a : Act} {w : World}
    (hro : F.round = none) (h1 : 1 ≤ n) {gf : Nat} {lb : Array Value} (hg : a.eval g = .func (.func gf) #[] lb) (hFg : F.fn gf) (eg : ∀ args w, (callFunc gf args).run P w = .ok (.enter gf args) w)
    {encs : α → Array Value} {Kp : Nat → World → World → Prop} {ok : Nat → Nat → Prop} {m : Nat → Nat} {S : List α → World → Prop} {Sp : List α → Prop} {Nx : List α → α → Prop} {w0 : World} {d : Nat} (hseq : SeqE F (n - 1) d P gf lb encs Kp ok m S Sp Nx w0)
    (hKt : ∀ {A B C : World}, Kp (w.heap.size + 2) A B → Kp (w.heap.size + 2) B C → Kp (w.heap.size + 2) A C) (hKb : ∀ (W : World) (l : Nat) (o o' : Obj), w.heap.size ≤ l → W.heap[l]? = some o → o.isCells = false → o.isWalk = false → Kp (w.heap.size + 2) W (W.putObj l o')) (hb0 : Below w0.heap.size w0 w) (hps : ∀ x, (encs x).size = ps.size)
    (I : List α → World → Prop) (Ix : Code → List α → World → Prop) (hI : OwnFrom w.heap.size I) (hIx : ∀ c, OwnFrom w.heap.size (Ix c)) (hok : ∀ b, ok (w.heap.size + 2) b → b ≠ w.heap.size ∧ b ≠ w.heap.size + 1) (hIw : Lets (ok (w.heap.size + 2)) I) (hS : OwnFrom w.heap.size S) (h0 : I [] w) (a₁ : α → Act)
    (hassign : ∀ (l : Nat) (x : α) (W : World) (K : Act → World → Prop), K (a₁ x) W →
      assign.wpIn (F.inRound l) (n - 1 - d) P (Exit.then K (fun _ _ _ => False)) { tmps := (ps.zip (encs x)).foldl (fun t (p, v) => t.setIfInBounds p v) a.tmps, defers := [] } W)
    (hbody : ∀ (l : Nat) (pre : List α) (x : α) (W : World), I pre W → Nx pre x → m (w.heap.size + 2) ≤ W.heap.size → body.wpIn (F.inRound l) (n - 1 - d) P (ownPostG w.heap.size (Kp (w.heap.size + 2)) I Ix (pre ++ [x]) W) (a₁ x) W)
    (hdone : ∀ (D : Nat) (xs : List α) (W : World), w.heap.size ≤ D → S xs W → I xs W → W.heap[D]? = some (.deferred (some [])) → Q .normal { a with defers := { target := .collected D, args := #[] } :: a.defers } W)
    (hstop : ∀ (D : Nat) (c : Code) (pre : List α) (W : World), w.heap.size ≤ D → Sp pre → Ix c pre W → W.heap[D]? = some (.deferred (some [])) → c.wpIn F n P Q { a with defers := { target := .collected D, args := #[] } :: a.defers } W) :
    (Code.rangeFunc g ps assign body).wpIn F n P Q a w := by
  refine wpIn_rangeFunc fun fn hfn => ?_
  rw [hro]
  obtain ⟨h, hh⟩ : ∃ h, w.heap.size = h := ⟨_, rfl⟩
  obtain ⟨rec, hrec⟩ : ∃ rec : LoopState → Option Code → Loop, rec = fun st pe => { state := st, pending := pe, fn, tmps := a.tmps, params := ps, assign, body, defers := h } := ⟨_, rfl⟩
  obtain ⟨W1, hW1⟩ : ∃ W1, (w.alloc (.deferred (some []))).alloc (.loop (rec .ready none)) = W1 := ⟨_, rfl⟩
  have b1 : Book h (rec .ready none) W1 := by
    have e1 := World.alloc_heap_new (w.alloc (.deferred (some []))) (.loop (rec .ready none))
    rw [World.size_alloc] at e1
    rw [← hW1, ← hh]
    exact ⟨e1, (Below.heap_alloc _ _ _ (by simp)).trans (World.alloc_heap_new w _)⟩
  have z1 : W1.heap.size = h + 1 + 1 := by rw [← hW1, World.size_alloc, World.size_alloc, hh]
  have i1 : I [] W1 := by rw [← hW1]; exact hI.alloc _ (hI.alloc _ h0)
  have below1 : Below w0.heap.size w0 W1 := by
    rw [← hW1]; exact hb0.trans ((((Below.refl _ w).alloc (Nat.le_refl _) _).alloc (by simp) _).mono hb0.size)
  have enter : (Instr.enterLoop fn a.tmps ps assign body none).run P w = .ok (h + 1, [{ target := .collected h, args := #[] }]) W1 := by
    rw [← hW1, hrec, ← hh]; exact run_enterLoop_outer _ _ _ _ _
  rw [hh] at hKt hKb hI hIx hok hIw hS hbody hdone hstop
  refine ⟨h + 1, _, W1, { target := .fn (.func gf) lb, args := #[.func (.yield (h + 1)) #[] #[]] }, W1, gf, #[.func (.yield (h + 1)) #[] #[]] ++ lb, W1, enter, ?_, ?_, ?_, fun _ => h1, ?_⟩
  · simp only [resolve, hg]
    simp [go_sem]
  · intro f' hf'; simp [Target.leads] at hf'; subst hf'; exact hFg
  · simp [invoke, go_sem, eg]
  refine (hseq (h + 1) (fun pre W => I pre W ∧ Book h (rec .ready none) W) (fun pre W => ∃ c, Ix c pre W ∧ Book h (rec .done (some c)) W) W1 below1
    (fun s A B row hs hg' hr => ⟨hI s A B row hs.1 hg' (fun r e => ⟨by have := (hr r e).1; omega, (hr r e).2⟩), hs.2.past hg' (fun i e => by have := (hr i e).1; omega)⟩)
    (fun s A B row hs hg' hr => by obtain ⟨c, hc, hk⟩ := hs; exact ⟨c, hIx c s A B row hc hg' (fun r e => ⟨by have := (hr r e).1; omega, (hr r e).2⟩), hk.past hg' (fun i e => by have := (hr i e).1; omega)⟩)
    (fun s W b v hb hs => by
      rw [z1] at hb
      exact ⟨hIw s W b v hb hs.1, hs.2.store (hok b hb).1 (hok b hb).2 v⟩)
    (fun pre x W hs hlen hm => by
      rw [z1]
      exact round_ofE (Kp := Kp (h + 2)) hfn (fun p q => hKt p q) hKb I Ix hI hIx a₁ rec hrec pre x (hps x) (fun W K hK => hassign _ x W K hK) (m (h + 2)) (fun W hi hsz => hbody _ pre x W hi hlen hsz) W hs.1 hs.2 (by rw [z1] at hm; exact hm))
    ⟨i1, b1⟩).mono ?_
  rintro e W2 ⟨⟨v, rfl⟩, ⟨xs, hs, hi, hk⟩ | ⟨pre, hsp, c, hi, hk⟩⟩
  · have hr := run_endLoop (P := P) hk.1 (by rw [hrec]; simp)
    rw [hrec] at hr
    exact ⟨none, _, hr, hdone h xs _ (Nat.le_refl _) (hS.putObj _ hs (by omega) hk.1 rfl) (hI.putObj _ hi (by omega) hk.1 rfl) ((World.putObj_heap_other (by omega)).trans hk.2)⟩
  · have hr := run_endLoop (P := P) hk.1 (by rw [hrec]; simp)
    rw [hrec] at hr
    exact ⟨some c, _, hr, hstop h c pre _ (Nat.le_refl _) hsp ((hIx c).putObj _ hi (by omega) hk.1 rfl) ((World.putObj_heap_other (by omega)).trans hk.2)⟩
end Go.Proofs.YtgechifbbhipaaaDoor

/- A range over an iterator that makes cells of its own at each depth of a recursion: the caller is told of the blocks that are the iterator's, and keeps them. No condition. -/
namespace Go.Proofs.YtgechifbbhipaaaDoor
open Go.RowKit

variable {F : Fence} {n : Nat} {P : Program}

/-- the iterator's own blocks, and all below M, stay -/
def KpG (M : Nat) (O : List Nat) (W W' : World) : Prop := (∀ b ∈ O, ∀ o, W.heap[b]? = some o → o.isCells = true → W'.heap[b]? = some o) ∧ Below M W W'
theorem KpG.refl (M : Nat) (O : List Nat) (W : World) : KpG M O W W := ⟨fun _ _ _ h _ => h, Below.refl _ _⟩
theorem KpG.trans {M : Nat} {O : List Nat} {A B C : World} (h : KpG M O A B) (k : KpG M O B C) : KpG M O A C := ⟨fun b hb o ho hc => k.1 b hb o (h.1 b hb o ho hc) hc, h.2.trans k.2⟩
theorem KpG.put {M h : Nat} (O : List Nat) (hM : M ≤ h) (W : World) (l : Nat) (o o' : Obj) (hh : h ≤ l) (hl : W.heap[l]? = some o) (ho : o.isCells = false) (_ : o.isWalk = false) : KpG M O W (W.putObj l o') :=
  ⟨fun b _ u hu hc => by
    have hne : b ≠ l := by rintro rfl; rw [hl] at hu; cases hu; rw [ho] at hc; cases hc
    exact (World.putObj_heap_other hne).trans hu, ⟨rfl, rfl, rfl, by simp [World.putObj], fun k hk => World.putObj_heap_other (by omega)⟩⟩
theorem KpG.store {M b : Nat} {O : List Nat} (W : World) (v : Value) (h1 : b ∉ O) (h2 : M ≤ b) : KpG M O W (W.setCell ⟨b, 0, none⟩ v) :=
  ⟨fun c hc o ho _ => (Below.heap_setCell _ _ _ _ (fun e => h1 (by rw [show b = c from e.symm]; exact hc))).trans ho, (Below.refl M W).setCell (p := ⟨b, 0, none⟩) h2 v⟩
theorem KpG.box {M b t : Nat} {O : List Nat} {v : Value} {W W' : World} (h : KpG M O W W') (hb : b ∈ O) (hx : Boxed W b t v) : Boxed W' b t v := h.1 b hb _ hx rfl
theorem KpG.of_below {M : Nat} {O : List Nat} {W W' : World} (h : Below W.heap.size W W') (hM : M ≤ W.heap.size) : KpG M O W W' :=
  ⟨fun b _ o ho _ => (h.block b (Array.getElem?_eq_some_iff.1 ho).1).trans ho, h.mono hM⟩

/-- the caller's word abides growth, and new blocks that are the iterator's -/
def GrowG {α : Type} (B : Nat) (I : List Nat → List α → World → Prop) : Prop :=
  ∀ O O' s W W' row, I O s W → W.grownBy W' row → (∀ r, row = some r → B ≤ r ∧ ∃ o : Obj, W.heap[r]? = some o ∧ o.isCells = false) → (∀ b ∈ O', b ∈ O ∨ (W.heap.size ≤ b ∧ b < W'.heap.size)) → I O' s W'

/-- An iterator's contract: O are its own blocks. -/
def SeqG {α : Type} (F : Fence) (n d : Nat) (P : Program) (g : Nat) (lb : Array Value) (encs : α → Array Value) (M : Nat) (S Sp : List α → Prop) (Nx : List α → α → Prop) (w : World) : Prop :=
  ∀ (l : Nat) (J : List Nat → List α → World → Prop) (Jx : List α → World → Prop) (W : World), Below w.heap.size w W → GrowG W.heap.size J → OwnFrom W.heap.size Jx →
    (∀ O pre x W1, J O pre W1 → Nx pre x → Below M W W1 → W.heap.size ≤ W1.heap.size → YieldAt F (n - d) P l (encs x) W1 fun e W' =>
      (e = .returned (.bool true) ∧ J O (pre ++ [x]) W' ∧ KpG M O W1 W' ∧ KeepsFrom W.heap.size W1 W') ∨ (e = .returned (.bool false) ∧ Jx (pre ++ [x]) W' ∧ KeepsFrom W.heap.size W1 W')) →
    J [] [] W →
    CallsIn F n P g (#[.func (.yield l) #[] #[]] ++ lb) W fun e W' => (∃ v, e = .returned v) ∧ ((∃ O xs, S xs ∧ J O xs W') ∨ (∃ pre, Sp pre ∧ Jx pre W'))

/-- one round: from yield's call to its answer; the assignment may make blocks of its own. -/
theorem round_ofA {α : Type} {ps : Array Tmp} {assign body : Code} {a : Act} {h : Nat} {fn : FuncId} (hfn : F.fn fn) {encs : α → Array Value} {Kp : World → World → Prop}
    (hKt : ∀ {A B C : World}, Kp A B → Kp B C → Kp A C) (hKb : ∀ (W : World) (l : Nat) (o o' : Obj), h ≤ l → W.heap[l]? = some o → o.isCells = false → o.isWalk = false → Kp W (W.putObj l o'))
    (gA : α → World → World) (hKa : ∀ x W, h + 2 ≤ W.heap.size → Kp W (gA x W)) (hgA : ∀ x W, Below W.heap.size W (gA x W))
    (I : List α → World → Prop) (Ix : Code → List α → World → Prop) (hI : OwnFrom h I) (hIx : ∀ c, OwnFrom h (Ix c)) (a₁ : α → World → Act) (rec : LoopState → Option Code → Loop)
    (hrec : rec = fun st pe => { state := st, pending := pe, fn, tmps := a.tmps, params := ps, assign, body, defers := h }) (pre : List α) (x : α) (hps : (encs x).size = ps.size)
    (hassign : ∀ (W : World) (K : Act → World → Prop), K (a₁ x W) (gA x W) → assign.wpIn (F.inRound (h + 1)) n P (Exit.then K (fun _ _ _ => False)) { tmps := (ps.zip (encs x)).foldl (fun t (p, v) => t.setIfInBounds p v) a.tmps, defers := [] } W)
    (hbody : ∀ W X, h + 2 ≤ W.heap.size → I pre X → X.heap.size = (gA x W).heap.size → (∀ k, h + 2 ≤ k → X.heap[k]? = (gA x W).heap[k]?) → body.wpIn (F.inRound (h + 1)) n P (ownPostG h Kp I Ix (pre ++ [x]) X) (a₁ x W) X) (W : World) (hi : I pre W) (hk : Book h (rec .ready none) W) (hsz : h + 2 ≤ W.heap.size) :
    YieldAt F n P (h + 1) (encs x) W fun e W' => (e = .returned (.bool true) ∧ (I (pre ++ [x]) W' ∧ Book h (rec .ready none) W') ∧ Kp W W' ∧ KeepsFrom (h + 2) W W') ∨ (e = .returned (.bool false) ∧ (∃ c, Ix c (pre ++ [x]) W' ∧ Book h (rec .done (some c)) W') ∧ KeepsFrom (h + 2) W W') := by
  have hy := run_yield (P := P) (args := encs x) hk.1 (by rw [hrec]; exact hps)
  rw [hrec] at hy
  obtain ⟨V, hV⟩ : ∃ V, gA x W = V := ⟨_, rfl⟩
  have hWV := hgA x W
  rw [hV] at hWV
  have hKa2 := hKa x W hsz
  rw [hV] at hKa2
  have gV : W.grownBy V none := ⟨hWV.os, hWV.tape, hWV.output, hWV.size, fun k hk _ => hWV.block k hk⟩
  have hkV : Book h (rec .ready none) V := hk.past gV (fun i e => by cases e)
  have hiV : I pre V := hI pre W V none hi gV (fun r e => by cases e)
  have kWV : KeepsFrom (h + 2) W V := ⟨hWV.size, fun k o _ ho _ => (hWV.block k (Array.getElem?_eq_some_iff.1 ho).1).trans ho⟩
  have hbusy := hkV.put { rec .ready none with state := .busy }
  have hKp := hKt hKa2 (hKb V (h + 1) _ (.loop { rec .ready none with state := .busy }) (by omega) hkV.1 rfl rfl)
  refine ⟨fn, _, assign, body, hy, roundIn_of_wpIn hfn (hassign W _ ?_)⟩
  rw [hV]
  refine ⟨_, run_beginRound hkV.1 (by rw [hrec]), ?_⟩
  refine wpIn_mono (hbody W _ hsz (hI.putObj _ hiV (by omega) hkV.1 rfl) (by rw [hV]; simp [World.putObj]) (fun k hk => by rw [hV]; exact World.putObj_heap_other (by omega))) ?_
  have leave : ∀ (jump : Option Code) (W3 : World), KeepsFrom h (V.putObj (h + 1) (.loop { rec .ready none with state := .busy })) W3 →
      (Instr.endRound (h + 1) jump).run P W3 = .ok (.bool jump.isNone) (W3.putObj (h + 1) (.loop (rec (if jump.isNone then .ready else .done) jump))) ∧ Book h { rec .ready none with state := .busy } W3 := fun jump W3 hk3 => by
    have b3 : Book h { rec .ready none with state := .busy } W3 := ⟨hk3.same _ _ (by omega) hbusy.1 rfl, hk3.same _ _ (Nat.le_refl _) hbusy.2 rfl⟩
    have hr := run_endRound (P := P) jump b3.1
    rw [hrec] at hr ⊢
    rw [hrec] at b3
    exact ⟨hr, b3⟩
  have out : ∀ (c : Code) (W3 : World), KeepsFrom h (V.putObj (h + 1) (.loop { rec .ready none with state := .busy })) W3 → Ix c (pre ++ [x]) W3 →
      ∃ v w', (Instr.endRound (h + 1) (some c)).run P W3 = .ok v w' ∧ ((Ending.returned v = .returned (.bool true) ∧ (I (pre ++ [x]) w' ∧ Book h (rec .ready none) w') ∧ Kp W w' ∧ KeepsFrom (h + 2) W w') ∨ (Ending.returned v = .returned (.bool false) ∧ (∃ c, Ix c (pre ++ [x]) w' ∧ Book h (rec .done (some c)) w') ∧ KeepsFrom (h + 2) W w')) := fun c W3 hk3 hi3 => by
    obtain ⟨hr, b3⟩ := leave (some c) W3 hk3
    exact ⟨_, _, hr, .inr ⟨rfl, ⟨c, (hIx c).putObj _ hi3 (by omega) b3.1 rfl, b3.put _⟩, kWV.trans (keeps_put hk3)⟩⟩
  intro e a3 W3 hp
  cases e with
  | normal =>
    obtain ⟨hk3, hkp3, hi3⟩ := hp
    obtain ⟨hr, b3⟩ := leave none W3 hk3
    exact ⟨_, _, hr, .inl ⟨rfl, ⟨hI.putObj _ hi3 (by omega) b3.1 rfl, b3.put _⟩, hKt (hKt hKp hkp3) (hKb _ _ _ _ (by omega) b3.1 rfl rfl), kWV.trans (keeps_put hk3)⟩⟩
  | ret => exact out _ W3 hp.1 hp.2
  | exit id => exact out _ W3 hp.1 hp.2
  | goto t => exact out _ W3 hp.1 hp.2
  | panic ch => exact hp.elim
  | outgrown => exact hp.elim

/-- the loop over such an iterator; the assignment may make blocks of its own (gA) -/
theorem wpIn_range_cellsA {α : Type} {g : Operand} {ps : Array Tmp} {assign body : Code} {Q : Exit → Act → World → Prop} {a : Act} {w : World}
    (hro : F.round = none) (h1 : 1 ≤ n) {gf : Nat} {lb : Array Value} (hg : a.eval g = .func (.func gf) #[] lb) (hFg : F.fn gf) (eg : ∀ args w, (callFunc gf args).run P w = .ok (.enter gf args) w)
    {encs : α → Array Value} {M : Nat} {S Sp : List α → Prop} {Nx : List α → α → Prop} {w0 : World} {d : Nat} (hseq : SeqG F (n - 1) d P gf lb encs M S Sp Nx w0)
    (hM : M ≤ w.heap.size) (hb0 : Below w0.heap.size w0 w) (hps : ∀ x, (encs x).size = ps.size)
    (I : List Nat → List α → World → Prop) (Ix : Code → List α → World → Prop) (hI : GrowG w.heap.size I) (hIx : ∀ c, OwnFrom w.heap.size (Ix c)) (h0 : I [] [] w) (gA : α → World → World) (hgA : ∀ x W, Below W.heap.size W (gA x W)) (a₁ : α → World → Act)
    (hassign : ∀ (l : Nat) (pre : List α) (x : α) (W : World) (K : Act → World → Prop), Nx pre x → K (a₁ x W) (gA x W) →
      assign.wpIn (F.inRound l) (n - 1 - d) P (Exit.then K (fun _ _ _ => False)) { tmps := (ps.zip (encs x)).foldl (fun t (p, v) => t.setIfInBounds p v) a.tmps, defers := [] } W)
    (hbody : ∀ (l : Nat) (O : List Nat) (pre : List α) (x : α) (W X : World), w.heap.size + 2 ≤ W.heap.size → I O pre X → Nx pre x → X.heap.size = (gA x W).heap.size → (∀ k, w.heap.size + 2 ≤ k → X.heap[k]? = (gA x W).heap[k]?) → body.wpIn (F.inRound l) (n - 1 - d) P (ownPostG w.heap.size (KpG M O) (I O) Ix (pre ++ [x]) X) (a₁ x W) X)
    (hdone : ∀ (D : Nat) (O : List Nat) (xs : List α) (W : World), w.heap.size ≤ D → S xs → I O xs W → W.heap[D]? = some (.deferred (some [])) → Q .normal { a with defers := { target := .collected D, args := #[] } :: a.defers } W)
    (hstop : ∀ (D : Nat) (c : Code) (pre : List α) (W : World), w.heap.size ≤ D → Sp pre → Ix c pre W → W.heap[D]? = some (.deferred (some [])) → c.wpIn F n P Q { a with defers := { target := .collected D, args := #[] } :: a.defers } W) :
    (Code.rangeFunc g ps assign body).wpIn F n P Q a w := by
  refine wpIn_rangeFunc fun fn hfn => ?_
  rw [hro]
  obtain ⟨h, hh⟩ : ∃ h, w.heap.size = h := ⟨_, rfl⟩
  obtain ⟨rec, hrec⟩ : ∃ rec : LoopState → Option Code → Loop, rec = fun st pe => { state := st, pending := pe, fn, tmps := a.tmps, params := ps, assign, body, defers := h } := ⟨_, rfl⟩
  obtain ⟨W1, hW1⟩ : ∃ W1, (w.alloc (.deferred (some []))).alloc (.loop (rec .ready none)) = W1 := ⟨_, rfl⟩
  have b1 : Book h (rec .ready none) W1 := by
    have e1 := World.alloc_heap_new (w.alloc (.deferred (some []))) (.loop (rec .ready none))
    rw [World.size_alloc] at e1
    rw [← hW1, ← hh]
    exact ⟨e1, (Below.heap_alloc _ _ _ (by simp)).trans (World.alloc_heap_new w _)⟩
  have z1 : W1.heap.size = h + 1 + 1 := by rw [← hW1, World.size_alloc, World.size_alloc, hh]
  have hg1 : w.grownBy W1 none := by
    rw [← hW1]
    exact ⟨rfl, rfl, rfl, by simp; omega, fun k hk _ => (Below.heap_alloc _ _ _ (by simp; omega)).trans (Below.heap_alloc _ _ _ hk)⟩
  have i1 : I [] [] W1 := hI [] [] [] w W1 none h0 hg1 (fun r e => by cases e) (fun b hb => .inl hb)
  have below1 : Below w0.heap.size w0 W1 := by
    rw [← hW1]; exact hb0.trans ((((Below.refl _ w).alloc (Nat.le_refl _) _).alloc (by simp) _).mono hb0.size)
  have enter : (Instr.enterLoop fn a.tmps ps assign body none).run P w = .ok (h + 1, [{ target := .collected h, args := #[] }]) W1 := by
    rw [← hW1, hrec, ← hh]; exact run_enterLoop_outer _ _ _ _ _
  rw [hh] at hM hI hIx hbody hdone hstop
  refine ⟨h + 1, _, W1, { target := .fn (.func gf) lb, args := #[.func (.yield (h + 1)) #[] #[]] }, W1, gf, #[.func (.yield (h + 1)) #[] #[]] ++ lb, W1, enter, ?_, ?_, ?_, fun _ => h1, ?_⟩
  · simp only [resolve, hg]
    simp [go_sem]
  · intro f' hf'; simp [Target.leads] at hf'; subst hf'; exact hFg
  · simp [invoke, go_sem, eg]
  have IO : ∀ O, OwnFrom h (I O) := fun O s W W' row hs hg hr => hI O O s W W' row hs hg hr (fun b hb => .inl hb)
  refine (hseq (h + 1) (fun O pre W => I O pre W ∧ Book h (rec .ready none) W) (fun pre W => ∃ c, Ix c pre W ∧ Book h (rec .done (some c)) W) W1 below1
    (fun O O' s A B row hs hg' hr hO => ⟨hI O O' s A B row hs.1 hg' (fun r e => ⟨by have := (hr r e).1; omega, (hr r e).2⟩) hO, hs.2.past hg' (fun i e => by have := (hr i e).1; omega)⟩)
    (fun s A B row hs hg' hr => by obtain ⟨c, hc, hk⟩ := hs; exact ⟨c, hIx c s A B row hc hg' (fun r e => ⟨by have := (hr r e).1; omega, (hr r e).2⟩), hk.past hg' (fun i e => by have := (hr i e).1; omega)⟩)
    (fun O pre x W hs hnx _ hm => by
      rw [z1]
      exact round_ofA (Kp := KpG M O) hfn (fun p q => KpG.trans p q) (fun W l o o' a b c d => KpG.put O hM W l o o' a b c d) gA (fun x W hs => KpG.of_below (hgA x W) (by omega)) hgA (I O) Ix (IO O) hIx a₁ rec hrec pre x (hps x) (fun W K hK => hassign _ pre x W K hnx hK) (fun W X hs hi h3 h4 => hbody _ O pre x W X hs hi hnx h3 h4) W hs.1 hs.2 (by rw [z1] at hm; exact hm))
    ⟨i1, b1⟩).mono ?_
  rintro e W2 ⟨⟨v, rfl⟩, ⟨O, xs, hs, hi, hk⟩ | ⟨pre, hsp, c, hi, hk⟩⟩
  · have hr := run_endLoop (P := P) hk.1 (by rw [hrec]; simp)
    rw [hrec] at hr
    exact ⟨none, _, hr, hdone h O xs _ (Nat.le_refl _) hs ((IO O).putObj _ hi (by omega) hk.1 rfl) ((World.putObj_heap_other (by omega)).trans hk.2)⟩
  · have hr := run_endLoop (P := P) hk.1 (by rw [hrec]; simp)
    rw [hrec] at hr
    exact ⟨some c, _, hr, hstop h c pre _ (Nat.le_refl _) hsp ((hIx c).putObj _ hi (by omega) hk.1 rfl) ((World.putObj_heap_other (by omega)).trans hk.2)⟩

/-- the loop over such an iterator -/
theorem wpIn_range_cellsG {α : Type} {g : Operand} {ps : Array Tmp} {assign body : Code} {Q : Exit → Act → World → Prop} {a : Act} {w : World}
    (hro : F.round = none) (h1 : 1 ≤ n) {gf : Nat} {lb : Array Value} (hg : a.eval g = .func (.func gf) #[] lb) (hFg : F.fn gf) (eg : ∀ args w, (callFunc gf args).run P w = .ok (.enter gf args) w)
    {encs : α → Array Value} {M : Nat} {S Sp : List α → Prop} {Nx : List α → α → Prop} {w0 : World} {d : Nat} (hseq : SeqG F (n - 1) d P gf lb encs M S Sp Nx w0)
    (hM : M ≤ w.heap.size) (hb0 : Below w0.heap.size w0 w) (hps : ∀ x, (encs x).size = ps.size)
    (I : List Nat → List α → World → Prop) (Ix : Code → List α → World → Prop) (hI : GrowG w.heap.size I) (hIx : ∀ c, OwnFrom w.heap.size (Ix c)) (h0 : I [] [] w) (a₁ : α → Act)
    (hassign : ∀ (l : Nat) (x : α) (W : World) (K : Act → World → Prop), K (a₁ x) W →
      assign.wpIn (F.inRound l) (n - 1 - d) P (Exit.then K (fun _ _ _ => False)) { tmps := (ps.zip (encs x)).foldl (fun t (p, v) => t.setIfInBounds p v) a.tmps, defers := [] } W)
    (hbody : ∀ (l : Nat) (O : List Nat) (pre : List α) (x : α) (W : World), I O pre W → Nx pre x → w.heap.size + 2 ≤ W.heap.size → body.wpIn (F.inRound l) (n - 1 - d) P (ownPostG w.heap.size (KpG M O) (I O) Ix (pre ++ [x]) W) (a₁ x) W)
    (hdone : ∀ (D : Nat) (O : List Nat) (xs : List α) (W : World), w.heap.size ≤ D → S xs → I O xs W → W.heap[D]? = some (.deferred (some [])) → Q .normal { a with defers := { target := .collected D, args := #[] } :: a.defers } W)
    (hstop : ∀ (D : Nat) (c : Code) (pre : List α) (W : World), w.heap.size ≤ D → Sp pre → Ix c pre W → W.heap[D]? = some (.deferred (some [])) → c.wpIn F n P Q { a with defers := { target := .collected D, args := #[] } :: a.defers } W) :
    (Code.rangeFunc g ps assign body).wpIn F n P Q a w :=
  wpIn_range_cellsA hro h1 hg hFg eg hseq hM hb0 hps I Ix hI hIx h0 (fun _ W => W) (fun _ W => Below.refl _ W) (fun x _ => a₁ x) (fun l _ x W K _ hK => hassign l x W K hK) (fun l O pre x W X hs hi hnx h3 _ => hbody l O pre x X hi hnx (by rw [h3]; exact hs)) hdone hstop

/-- where no fence stands a call's depth says nothing -/
theorem yield_wide {P : Program} {l : Nat} {args : Array Value} {W : World} {R : Ending → World → Prop} (n m : Nat) (h : YieldAt Fence.wide n P l args W R) : YieldAt Fence.wide m P l args W R := by
  obtain ⟨fn, tmps, assign, body, h1, h2, h3⟩ := h
  exact ⟨fn, tmps, assign, body, h1, h2, fun c cs _ => h3 c cs (room_wide _)⟩
end Go.Proofs.YtgechifbbhipaaaDoor
