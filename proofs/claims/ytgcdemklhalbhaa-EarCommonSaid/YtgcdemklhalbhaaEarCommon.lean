/- The statement EarCommon of the given program is proved, as it is given. No conditions. -/
import Derived.Test.YtgcdemklhalbhaaC16
namespace Go.Px
open Go.Proofs Go.Proofs.Ytgcdemklhalbhaa
open Go.ChangeShapes Go.WideShapes Go.ChangeAt Go.RowKit
set_option maxRecDepth 100000 in
theorem earCommon_lifted (os : Os) (started : os.Started) (H : Type) (enc : TypeId × Value → H) :
    ReturnsInHanded {} Try.checked os 15 .any (Rows.earCommonSpec.pre6 enc Try.prog Try.f15 Rows.earCommonRow.domain false) (Rows.earCommonSpec.post enc Try.prog Try.f15 false true false false) := by
  refine row_of_ev (C := Try.checked) own started (by kernel_rfl) Try.func15
    (ChangeSpec.witness6 (enc := enc) (C := Try.checked) false ⟨#[], #[.agg #[.int .i64 0, .slice none 0 0, .slice none 0 0], .int .u8 0, .int .u8 0], []⟩ 8 (by kernel_rfl) (by kernel_rfl) (by kernel_rfl) (by kernel_rfl)) laid [bookSh, .int .u8, .int .u8] (by kernel_rfl) 4 (by kernel_rfl) (by kernel_rfl) rfl ?_ ?_
  · intro ds hd
    rw [Try.params15] at hd
    match ds, hd with | [d1, d2, d3], _ => rfl
  · intro xs h
    simp only [FitAs] at h; obtain ⟨_, _, rfl, h1, _, _, rfl, h2, _, _, rfl, h3, rfl⟩ := h; obtain ⟨b, hw, hal, hs, rfl⟩ := fits_book _ h1; obtain ⟨w, a1, a2, rfl⟩ := fits_u8 _ h2; obtain ⟨v, a3, a4, rfl⟩ := fits_u8 _ h3; exact earCommon_ev b hw hs w v a1 a2 a3 a4
theorem earCommon_said : Rows.EarCommonSaid :=
  OpenClaim.holds_of_wide 15 Try.f15 rfl rfl rfl rfl rfl rfl rfl ⟨rfl, rfl, rfl, rfl, rfl⟩ rfl rfl rfl rfl rfl (by kernel_rfl) Try.func15 (by kernel_rfl)
    (of_decide_eq_true (by kernel_rfl)) (by unfold Func.isWrapper; first | (rw [if_pos (by decide +kernel)]; kernel_rfl) | (rw [if_neg (by decide +kernel)]; exact ⟨rfl, rfl⟩))
    (fun os started H enc _ => earCommon_lifted os started H enc)


end Go.Px
namespace Go.Proofs.Ytgcdemklhalbhaa
theorem earCommon_holds : Rows.EarCommonSaid := Px.earCommon_said
#print axioms earCommon_holds
end Go.Proofs.Ytgcdemklhalbhaa

