/- The statement EarCounted of the given program is proved, as it is given. No conditions. -/
import Derived.Test.YtgcdemklhalbhaaC16
namespace Go.Px
open Go.Proofs Go.Proofs.Ytgcdemklhalbhaa
open Go.ChangeShapes Go.WideShapes Go.ChangeAt Go.RowKit
set_option maxRecDepth 100000 in
theorem earCounted_lifted (os : Os) (started : os.Started) (H : Type) (enc : TypeId × Value → H) :
    ReturnsInHanded {} Try.checked os 14 .any (Rows.earCountedSpec.pre6 enc Try.prog Try.f14 Rows.earCountedRow.domain false) (Rows.earCountedSpec.post enc Try.prog Try.f14 false true false false) := by
  refine row_of_ev (C := Try.checked) own started (by kernel_rfl) Try.func14
    (ChangeSpec.witness6 (enc := enc) (C := Try.checked) false ⟨#[], #[.agg #[.int .i64 0, .slice none 0 0, .slice none 0 0], .int .u8 0], []⟩ 8 (by kernel_rfl) (by kernel_rfl) (by kernel_rfl) (by kernel_rfl)) laid [bookSh, .int .u8] (by kernel_rfl) 4 (by kernel_rfl) (by kernel_rfl) rfl ?_ ?_
  · intro ds hd
    rw [Try.params14] at hd
    match ds, hd with | [d1, d2], _ => rfl
  · intro xs h
    simp only [FitAs] at h; obtain ⟨_, _, rfl, h1, _, _, rfl, h2, rfl⟩ := h; obtain ⟨b, hw, hal, hs, rfl⟩ := fits_book _ h1; obtain ⟨w, a1, a2, rfl⟩ := fits_u8 _ h2; exact earCounted_ev b hw hs w a1 a2
theorem earCounted_said : Rows.EarCountedSaid :=
  OpenClaim.holds_of_wide 14 Try.f14 rfl rfl rfl rfl rfl rfl rfl ⟨rfl, rfl, rfl, rfl, rfl⟩ rfl rfl rfl rfl rfl (by kernel_rfl) Try.func14 (by kernel_rfl)
    (of_decide_eq_true (by kernel_rfl)) (by unfold Func.isWrapper; first | (rw [if_pos (by decide +kernel)]; kernel_rfl) | (rw [if_neg (by decide +kernel)]; exact ⟨rfl, rfl⟩))
    (fun os started H enc _ => earCounted_lifted os started H enc)


end Go.Px
namespace Go.Proofs.Ytgcdemklhalbhaa
theorem earCounted_holds : Rows.EarCountedSaid := Px.earCounted_said
#print axioms earCounted_holds
end Go.Proofs.Ytgcdemklhalbhaa

