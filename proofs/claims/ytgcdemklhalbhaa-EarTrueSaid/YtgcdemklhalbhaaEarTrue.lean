/- The statement EarTrue of the given program is proved, as it is given. No conditions. -/
import Derived.Test.YtgcdemklhalbhaaC16
namespace Go.Px
open Go.Proofs Go.Proofs.Ytgcdemklhalbhaa
open Go.ChangeShapes Go.WideShapes Go.ChangeAt Go.RowKit
set_option maxRecDepth 100000 in
theorem earTrue_lifted (os : Os) (started : os.Started) (H : Type) (enc : TypeId × Value → H) :
    ReturnsInHanded {} Try.checked os 9 .any (Rows.earTrueSpec.pre6 enc Try.prog Try.f9 Rows.earTrueRow.domain false) (Rows.earTrueSpec.post enc Try.prog Try.f9 false true false false) := by
  refine row_of_ev (C := Try.checked) own started (by kernel_rfl) Try.func9
    (ChangeSpec.witness6 (enc := enc) (C := Try.checked) false ⟨#[], #[.agg #[.int .i64 0, .slice none 0 0, .slice none 0 0], .agg #[.int .u8 0, .int .u8 0], .slice none 0 0], []⟩ 8 (by kernel_rfl) (by kernel_rfl) (by kernel_rfl) (by kernel_rfl)) laid [bookSh, .arr 2 (.int .u8), bytesSh] (by kernel_rfl) 4 (by kernel_rfl) (by kernel_rfl) rfl ?_ ?_
  · intro ds hd
    rw [Try.params9] at hd
    match ds, hd with | [d1, d2, d3], _ => rfl
  · intro xs h
    simp only [FitAs] at h; obtain ⟨_, _, rfl, h1, _, _, rfl, h2, _, _, rfl, h3, rfl⟩ := h; obtain ⟨b, hw, hal, hs, rfl⟩ := fits_book _ h1; obtain ⟨i, j, a1, a2, a3, a4, rfl⟩ := fits_u2 _ h2; obtain ⟨x, rfl⟩ := fits_bytes _ h3; exact earTrue_ev b hw hs i j a1 a2 a3 a4 x
theorem earTrue_said : Rows.EarTrueSaid :=
  OpenClaim.holds_of_wide 9 Try.f9 rfl rfl rfl rfl rfl rfl rfl ⟨rfl, rfl, rfl, rfl, rfl⟩ rfl rfl rfl rfl rfl (by kernel_rfl) Try.func9 (by kernel_rfl)
    (of_decide_eq_true (by kernel_rfl)) (by unfold Func.isWrapper; first | (rw [if_pos (by decide +kernel)]; kernel_rfl) | (rw [if_neg (by decide +kernel)]; exact ⟨rfl, rfl⟩))
    (fun os started H enc _ => earTrue_lifted os started H enc)


end Go.Px
namespace Go.Proofs.Ytgcdemklhalbhaa
theorem earTrue_holds : Rows.EarTrueSaid := Px.earTrue_said
#print axioms earTrue_holds
end Go.Proofs.Ytgcdemklhalbhaa

