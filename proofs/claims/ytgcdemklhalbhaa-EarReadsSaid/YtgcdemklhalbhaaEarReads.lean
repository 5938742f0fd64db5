/- The statement EarReads of the given program is proved, as it is given. No conditions. -/
import Derived.Test.YtgcdemklhalbhaaA21
namespace Go.Px
open Go.Proofs Go.Proofs.Ytgcdemklhalbhaa
open Go.ChangeShapes Go.WideShapes Go.ChangeAt Go.RowKit
set_option maxRecDepth 100000 in
theorem earReads_lifted (os : Os) (started : os.Started) (H : Type) (enc : TypeId × Value → H) :
    ReturnsInHanded {} Try.checked os 4 .any (Rows.earReadsSpec.pre6 enc Try.prog Try.f4 Rows.earReadsRow.domain false) (Rows.earReadsSpec.post enc Try.prog Try.f4 false true false false) := by
  refine row_of_ev (C := Try.checked) own started (by kernel_rfl) Try.func4
    (ChangeSpec.witness6 (enc := enc) (C := Try.checked) false ⟨#[], #[.agg #[.int .i64 0, .slice none 0 0, .slice none 0 0], .int .i64 0, .slice none 0 0], []⟩ 8 (by kernel_rfl) (by kernel_rfl) (by kernel_rfl) (by kernel_rfl)) laid [bookSh, .int .i64, intsSh] (by kernel_rfl) 4 (by kernel_rfl) (by kernel_rfl) rfl ?_ ?_
  · intro ds hd
    rw [Try.params4] at hd
    match ds, hd with | [d1, d2, d3], _ => rfl
  · intro xs h
    simp only [FitAs] at h; obtain ⟨_, _, rfl, h1, _, _, rfl, h2, _, _, rfl, h3, rfl⟩ := h; obtain ⟨b, hw, _, hs, rfl⟩ := fits_book _ h1; obtain ⟨i, _, rfl⟩ := fits_int _ h2; obtain ⟨l, _, _, rfl⟩ := fits_ints _ h3; exact earReads_ev b hw hs i l
theorem earReads_said : Rows.EarReadsSaid :=
  OpenClaim.holds_of_wide 4 Try.f4 rfl rfl rfl rfl rfl rfl rfl ⟨rfl, rfl, rfl, rfl, rfl⟩ rfl rfl rfl rfl rfl (by kernel_rfl) Try.func4 (by kernel_rfl)
    (of_decide_eq_true (by kernel_rfl)) (by unfold Func.isWrapper; first | (rw [if_pos (by decide +kernel)]; kernel_rfl) | (rw [if_neg (by decide +kernel)]; exact ⟨rfl, rfl⟩))
    (fun os started H enc _ => earReads_lifted os started H enc)

end Go.Px
namespace Go.Proofs.Ytgcdemklhalbhaa
theorem earReads_holds : Rows.EarReadsSaid := Px.earReads_said
#print axioms earReads_holds
end Go.Proofs.Ytgcdemklhalbhaa

