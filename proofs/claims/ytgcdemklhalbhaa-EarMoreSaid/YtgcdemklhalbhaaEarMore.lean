/- The statement EarMore of the given program is proved, as it is given. No conditions. -/
import Derived.Test.YtgcdemklhalbhaaC16
namespace Go.Px
open Go.Proofs Go.Proofs.Ytgcdemklhalbhaa
open Go.ChangeShapes Go.WideShapes Go.ChangeAt Go.RowKit
set_option maxRecDepth 100000 in
theorem earMore_lifted (os : Os) (started : os.Started) (H : Type) (enc : TypeId × Value → H) :
    ReturnsInHanded {} Try.checked os 13 .any (Rows.earMoreSpec.pre6 enc Try.prog Try.f13 Rows.earMoreRow.domain false) (Rows.earMoreSpec.post enc Try.prog Try.f13 false true false false) := by
  refine row_of_ev (C := Try.checked) own started (by kernel_rfl) Try.func13
    (ChangeSpec.witness6 (enc := enc) (C := Try.checked) false ⟨#[], #[.agg #[.int .i64 0, .slice none 0 0, .slice none 0 0], .agg #[.int .u8 0, .int .u8 0, .int .u8 0], .agg #[.int .u8 0, .int .u8 0]], []⟩ 8 (by kernel_rfl) (by kernel_rfl) (by kernel_rfl) (by kernel_rfl)) laid [bookSh, .arr 3 (.int .u8), .arr 2 (.int .u8)] (by kernel_rfl) 4 (by kernel_rfl) (by kernel_rfl) rfl ?_ ?_
  · intro ds hd
    rw [Try.params13] at hd
    match ds, hd with | [d1, d2, d3], _ => rfl
  · intro xs h
    simp only [FitAs] at h; obtain ⟨_, _, rfl, h1, _, _, rfl, h2, _, _, rfl, h3, rfl⟩ := h; obtain ⟨b, hw, hal, hs, rfl⟩ := fits_book _ h1; obtain ⟨i, j, k, a1, a2, a3, a4, a5, a6, rfl⟩ := fits_u3 _ h2; obtain ⟨u, v, c1, c2, c3, c4, rfl⟩ := fits_u2 _ h3; exact earMore_ev b hw hs i j k u v a1 a2 a3 a4 a5 a6 c1 c2 c3 c4
theorem earMore_said : Rows.EarMoreSaid :=
  OpenClaim.holds_of_wide 13 Try.f13 rfl rfl rfl rfl rfl rfl rfl ⟨rfl, rfl, rfl, rfl, rfl⟩ rfl rfl rfl rfl rfl (by kernel_rfl) Try.func13 (by kernel_rfl)
    (of_decide_eq_true (by kernel_rfl)) (by unfold Func.isWrapper; first | (rw [if_pos (by decide +kernel)]; kernel_rfl) | (rw [if_neg (by decide +kernel)]; exact ⟨rfl, rfl⟩))
    (fun os started H enc _ => earMore_lifted os started H enc)


end Go.Px
namespace Go.Proofs.Ytgcdemklhalbhaa
theorem earMore_holds : Rows.EarMoreSaid := Px.earMore_said
#print axioms earMore_holds
end Go.Proofs.Ytgcdemklhalbhaa

