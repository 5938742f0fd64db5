/- The statement LetterFewest of the given program is proved, as it is given. No conditions. -/
import Derived.Test.YtbplgdbdpdhipaaBFewest1
namespace Go.Px
open Go.Proofs Go.Proofs.Ytbplgdbdpdhipaa
open Go.ChangeShapes Go.WideShapes Go.ChangeAt Go.RowKit
set_option maxRecDepth 100000 in
theorem letterFewest_lifted (os : Os) (started : os.Started) (H : Type) (enc : TypeId × Value → H) :
    ReturnsInHanded {} Try.checked os 11 .any (Rows.letterFewestSpec.pre6 enc Try.prog Try.f11 Rows.letterFewestRow.domain false) (Rows.letterFewestSpec.post enc Try.prog Try.f11 false true false false) := by
  refine row_of_ev (C := Try.checked) own started (by kernel_rfl) Try.func11
    (ChangeSpec.witness6 (enc := enc) (C := Try.checked) false ⟨#[], #[.slice none 0 0, .slice none 0 0, .slice none 0 0], []⟩ 8 (by kernel_rfl) (by kernel_rfl) (by kernel_rfl) (by kernel_rfl)) laid [strsSh, strsSh, bytesSh] (by kernel_rfl) 4 (by kernel_rfl) (by kernel_rfl) rfl ?_ ?_
  · intro ds hd
    rw [Try.params11] at hd
    match ds, hd with | [d1, d2, d3], _ => rfl
  · intro xs h
    simp only [FitAs] at h; obtain ⟨_, _, rfl, h1, _, _, rfl, h2, _, _, rfl, h3, rfl⟩ := h; obtain ⟨a, ha, rfl⟩ := fits_letter _ h1; obtain ⟨c, hc, rfl⟩ := fits_letter _ h2; obtain ⟨x, rfl⟩ := fits_bytes _ h3; exact letterFewest_ev a c x
theorem letterFewest_said : Rows.LetterFewestSaid :=
  OpenClaim.holds_of_wide 11 Try.f11 rfl rfl rfl rfl rfl rfl rfl ⟨rfl, rfl, rfl, rfl, rfl⟩ rfl rfl rfl rfl rfl (by kernel_rfl) Try.func11 (by kernel_rfl)
    (of_decide_eq_true (by kernel_rfl)) (by unfold Func.isWrapper; first | (rw [if_pos (by decide +kernel)]; kernel_rfl) | (rw [if_neg (by decide +kernel)]; exact ⟨rfl, rfl⟩))
    (fun os started H enc _ => letterFewest_lifted os started H enc)


end Go.Px
namespace Go.Proofs.Ytbplgdbdpdhipaa
theorem letterFewest_holds : Rows.LetterFewestSaid := Px.letterFewest_said
#print axioms letterFewest_holds
end Go.Proofs.Ytbplgdbdpdhipaa

