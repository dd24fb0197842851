/- vocab: the library's table of blanks, from what the row says that it reads as. No condition. -/
import Derived.Test.YtgechifbbhipaaaDoorVcP
import Derived.Test.YtgechifbbhipaaaDoorRows
import Derived.Lib.LaidU8
set_option linter.unusedVariables false
set_option linter.unusedSimpArgs false
namespace Go.Proofs.YtgechifbbhipaaaDoor
open Go.RowKit Go.Shelf

theorem wf_u8 {n : Int} (h : (Lit.int .u8 n).wf = true) : 0 ≤ n ∧ n ≤ 255 := by
  have h1 : IntKind.u8.min = 0 := rfl
  have h2 : IntKind.u8.max = 255 := rfl
  simp only [Lit.wf, Bool.and_eq_true, decide_eq_true_eq] at h
  omega

theorem space_same : (Rows.laid_strings_asciiSpace : DataW Unit) = Lib.tabData .u8 Lib.asciiSpaceTab := by kernel_rfl

theorem spt_of_reads {W : World} (h : Lib.VarReads Tryd.prog W "strings.asciiSpace" Rows.laid_strings_asciiSpace) : SpT W := by
  rw [space_same] at h
  obtain ⟨g, t, cs, fuel, p, hg, hty, hvar, hd⟩ := h
  have hg0 : Tryd.prog.globalNamed "strings.asciiSpace" = some 1 := by kernel_rfl
  obtain rfl := Option.some.inj (hg0.symm.trans hg)
  have hty0 : (Tryd.prog.globals[1]?).map (·.type) = some 198 := by kernel_rfl
  obtain rfl := Option.some.inj (hty0.symm.trans hty)
  have hT : Lib.TabIs Tryd.prog W "strings.asciiSpace" .u8 Lib.asciiSpaceTab := by
    unfold Lib.TabIs
    rw [hvar, ← Lib.cells_of_tab Tryd.underlying198 Tryd.underlying5 (by kernel_rfl) (by kernel_rfl) hd]
  have hc : ∀ c, c < 256 → W.cell? ⟨1, c, none⟩ = some (.int .u8 (if Lib.isSp (UInt8.ofNat c) then 1 else 0)) := fun c hc => by
    rw [hT.cell hg0 c (by rw [Lib.asciiSpaceTab_length]; exact hc), Lib.asciiSpaceTab_at c hc]
  refine ⟨hc 32 (by omega), fun c h1 h2 h3 => ?_⟩
  rw [hc c (by omega)]
  have hs : Lib.isSp (UInt8.ofNat c) = false := by
    have hn : ∀ d : Nat, d < 256 → c ≠ d → (UInt8.ofNat c == UInt8.ofNat d) = false := fun d hd hne => by
      rw [beq_eq_false_iff_ne]
      intro e
      have := congrArg UInt8.toNat e
      simp at this
      omega
    unfold Lib.isSp
    simp only [Bool.or_eq_false_iff]
    exact ⟨⟨⟨⟨⟨hn 9 (by omega) (by omega), hn 10 (by omega) (by omega)⟩, hn 11 (by omega) (by omega)⟩, hn 12 (by omega) (by omega)⟩, hn 13 (by omega) (by omega)⟩, hn 32 (by omega) (by omega)⟩
  rw [hs]; rfl
end Go.Proofs.YtgechifbbhipaaaDoor
