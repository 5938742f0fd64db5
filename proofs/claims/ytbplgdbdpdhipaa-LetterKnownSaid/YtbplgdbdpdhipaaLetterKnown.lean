/- The statement LetterKnown of the given program is proved, as it is given. No conditions. -/
import Derived.Test.YtbplgdbdpdhipaaBKnown1
namespace Go.Px
open Go.Proofs Go.Proofs.Ytbplgdbdpdhipaa
open Go.ChangeShapes Go.WideShapes Go.ChangeAt Go.RowKit
set_option maxRecDepth 100000 in
theorem letterKnown_lifted (os : Os) (started : os.Started) (H : Type) (enc : TypeId × Value → H) :
    ReturnsInHanded {} Try.checked os 8 .any (Rows.letterKnownSpec.pre6 enc Try.prog Try.f8 Rows.letterKnownRow.domain false) (Rows.letterKnownSpec.post enc Try.prog Try.f8 false true false false) := by
  refine row_of_ev (C := Try.checked) own started (by kernel_rfl) Try.func8
    (ChangeSpec.witness6 (enc := enc) (C := Try.checked) false ⟨#[], #[], []⟩ 8 (by kernel_rfl) (by kernel_rfl) (by kernel_rfl) (by kernel_rfl)) laid [] (by kernel_rfl) 4 (by kernel_rfl) (by kernel_rfl) rfl ?_ ?_
  · intro ds hd
    rw [Try.params8] at hd
    match ds, hd with | [], _ => rfl
  · intro xs h
    simp only [FitAs] at h; subst h; exact letterKnown_ev
theorem letterKnown_said : Rows.LetterKnownSaid :=
  OpenClaim.holds_of_wide 8 Try.f8 rfl rfl rfl rfl rfl rfl rfl ⟨rfl, rfl, rfl, rfl, rfl⟩ rfl rfl rfl rfl rfl (by kernel_rfl) Try.func8 (by kernel_rfl)
    (of_decide_eq_true (by kernel_rfl)) (by unfold Func.isWrapper; first | (rw [if_pos (by decide +kernel)]; kernel_rfl) | (rw [if_neg (by decide +kernel)]; exact ⟨rfl, rfl⟩))
    (fun os started H enc _ => letterKnown_lifted os started H enc)


end Go.Px
namespace Go.Proofs.Ytbplgdbdpdhipaa
theorem letterKnown_holds : Rows.LetterKnownSaid := Px.letterKnown_said
#print axioms letterKnown_holds
end Go.Proofs.Ytbplgdbdpdhipaa

