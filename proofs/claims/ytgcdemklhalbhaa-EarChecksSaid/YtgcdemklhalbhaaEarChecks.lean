/- The statement EarChecks of the given program is proved, as it is given. No conditions. -/
import Derived.Test.YtgcdemklhalbhaaA21
namespace Go.Px
open Go.Proofs Go.Proofs.Ytgcdemklhalbhaa
open Go.ChangeShapes Go.WideShapes Go.ChangeAt Go.RowKit
set_option maxRecDepth 100000 in
theorem earChecks_lifted (os : Os) (started : os.Started) (H : Type) (enc : TypeId × Value → H) :
    ReturnsInHanded {} Try.checked os 3 .any (Rows.earChecksSpec.pre6 enc Try.prog Try.f3 Rows.earChecksRow.domain false) (Rows.earChecksSpec.post enc Try.prog Try.f3 false true false false) := by
  refine row_of_ev (C := Try.checked) own started (by kernel_rfl) Try.func3
    (ChangeSpec.witness6 (enc := enc) (C := Try.checked) false ⟨#[], #[.agg #[.int .i64 0, .slice none 0 0, .slice none 0 0], .string ⟨#[]⟩], []⟩ 8 (by kernel_rfl) (by kernel_rfl) (by kernel_rfl) (by kernel_rfl)) laid [bookSh, .str] (by kernel_rfl) 4 (by kernel_rfl) (by kernel_rfl) rfl ?_ ?_
  · intro ds hd
    rw [Try.params3] at hd
    match ds, hd with | [d1, d2], _ => rfl
  · intro xs h
    simp only [FitAs] at h; obtain ⟨_, _, rfl, h1, _, _, rfl, h2, rfl⟩ := h; obtain ⟨b, hw, _, _, rfl⟩ := fits_book _ h1; obtain ⟨s, hs, rfl⟩ := fits_str _ h2; exact earChecks_ev b hw s hs
theorem earChecks_said : Rows.EarChecksSaid :=
  OpenClaim.holds_of_wide 3 Try.f3 rfl rfl rfl rfl rfl rfl rfl ⟨rfl, rfl, rfl, rfl, rfl⟩ rfl rfl rfl rfl rfl (by kernel_rfl) Try.func3 (by kernel_rfl)
    (of_decide_eq_true (by kernel_rfl)) (by unfold Func.isWrapper; first | (rw [if_pos (by decide +kernel)]; kernel_rfl) | (rw [if_neg (by decide +kernel)]; exact ⟨rfl, rfl⟩))
    (fun os started H enc _ => earChecks_lifted os started H enc)

end Go.Px
namespace Go.Proofs.Ytgcdemklhalbhaa
theorem earChecks_holds : Rows.EarChecksSaid := Px.earChecks_said
#print axioms earChecks_holds
end Go.Proofs.Ytgcdemklhalbhaa

