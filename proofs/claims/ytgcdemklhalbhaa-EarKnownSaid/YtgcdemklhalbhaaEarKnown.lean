/- The statement EarKnown of the given program is proved, as it is given. No conditions. -/
import Derived.Test.YtgcdemklhalbhaaA21
namespace Go.Px
open Go.Proofs Go.Proofs.Ytgcdemklhalbhaa
open Go.ChangeShapes Go.WideShapes Go.ChangeAt Go.RowKit
set_option maxRecDepth 100000 in
theorem earKnown_lifted (os : Os) (started : os.Started) (H : Type) (enc : TypeId × Value → H) :
    ReturnsInHanded {} Try.checked os 8 .any (Rows.earKnownSpec.pre6 enc Try.prog Try.f8 Rows.earKnownRow.domain false) (Rows.earKnownSpec.post enc Try.prog Try.f8 false true false false) := by
  refine row_of_ev (C := Try.checked) own started (by kernel_rfl) Try.func8
    (ChangeSpec.witness6 (enc := enc) (C := Try.checked) false ⟨#[], #[], []⟩ 8 (by kernel_rfl) (by kernel_rfl) (by kernel_rfl) (by kernel_rfl)) laid [] (by kernel_rfl) 4 (by kernel_rfl) (by kernel_rfl) rfl ?_ ?_
  · intro ds hd
    rw [Try.params8] at hd
    match ds, hd with | [], _ => rfl
  · intro xs h
    simp only [FitAs] at h; subst h; exact earKnown_ev
theorem earKnown_said : Rows.EarKnownSaid :=
  OpenClaim.holds_of_wide 8 Try.f8 rfl rfl rfl rfl rfl rfl rfl ⟨rfl, rfl, rfl, rfl, rfl⟩ rfl rfl rfl rfl rfl (by kernel_rfl) Try.func8 (by kernel_rfl)
    (of_decide_eq_true (by kernel_rfl)) (by unfold Func.isWrapper; first | (rw [if_pos (by decide +kernel)]; kernel_rfl) | (rw [if_neg (by decide +kernel)]; exact ⟨rfl, rfl⟩))
    (fun os started H enc _ => earKnown_lifted os started H enc)

end Go.Px
namespace Go.Proofs.Ytgcdemklhalbhaa
theorem earKnown_holds : Rows.EarKnownSaid := Px.earKnown_said
#print axioms earKnown_holds
end Go.Proofs.Ytgcdemklhalbhaa

