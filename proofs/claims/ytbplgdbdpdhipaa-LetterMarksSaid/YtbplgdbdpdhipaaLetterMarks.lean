/- The statement LetterMarks of the given program is proved, as it is given. No conditions. -/
import Derived.Test.YtbplgdbdpdhipaaBMarks3
namespace Go.Px
open Go.Proofs Go.Proofs.Ytbplgdbdpdhipaa
open Go.ChangeShapes Go.WideShapes Go.ChangeAt Go.RowKit
set_option maxRecDepth 100000 in
theorem letterMarks_lifted (os : Os) (started : os.Started) (H : Type) (enc : TypeId × Value → H) :
    ReturnsInHanded {} Try.checked os 6 .any (Rows.letterMarksSpec.pre6 enc Try.prog Try.f6 Rows.letterMarksRow.domain false) (Rows.letterMarksSpec.post enc Try.prog Try.f6 false true false false) := by
  refine row_of_ev (C := Try.checked) own started (by kernel_rfl) Try.func6
    (ChangeSpec.witness6 (enc := enc) (C := Try.checked) false ⟨#[], #[.slice none 0 0, .slice none 0 0, .slice none 0 0], []⟩ 8 (by kernel_rfl) (by kernel_rfl) (by kernel_rfl) (by kernel_rfl)) laid [strsSh, strsSh, .sl markSh] (by kernel_rfl) 4 (by kernel_rfl) (by kernel_rfl) rfl ?_ ?_
  · intro ds hd
    rw [Try.params6] at hd
    match ds, hd with | [d1, d2, d3], _ => rfl
  · intro xs h
    simp only [FitAs] at h; obtain ⟨_, _, rfl, h1, _, _, rfl, h2, _, _, rfl, h3, rfl⟩ := h; obtain ⟨a, ha, rfl⟩ := fits_letter _ h1; obtain ⟨c, hc, rfl⟩ := fits_letter _ h2; obtain ⟨ms, hms, rfl⟩ := fits_marks _ h3; exact letterMarks_ev a c hc ms
theorem letterMarks_said : Rows.LetterMarksSaid :=
  OpenClaim.holds_of_wide 6 Try.f6 rfl rfl rfl rfl rfl rfl rfl ⟨rfl, rfl, rfl, rfl, rfl⟩ rfl rfl rfl rfl rfl (by kernel_rfl) Try.func6 (by kernel_rfl)
    (of_decide_eq_true (by kernel_rfl)) (by unfold Func.isWrapper; first | (rw [if_pos (by decide +kernel)]; kernel_rfl) | (rw [if_neg (by decide +kernel)]; exact ⟨rfl, rfl⟩))
    (fun os started H enc _ => letterMarks_lifted os started H enc)


end Go.Px
namespace Go.Proofs.Ytbplgdbdpdhipaa
theorem letterMarks_holds : Rows.LetterMarksSaid := Px.letterMarks_said
#print axioms letterMarks_holds
end Go.Proofs.Ytbplgdbdpdhipaa

