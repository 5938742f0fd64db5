/- The statement EarOrders of the given program is proved, as it is given. No conditions. -/
import Derived.Test.YtgcdemklhalbhaaC16
namespace Go.Px
open Go.Proofs Go.Proofs.Ytgcdemklhalbhaa
open Go.ChangeShapes Go.WideShapes Go.ChangeAt Go.RowKit
set_option maxRecDepth 100000 in
theorem earOrders_lifted (os : Os) (started : os.Started) (H : Type) (enc : TypeId × Value → H) :
    ReturnsInHanded {} Try.checked os 16 .any (Rows.earOrdersSpec.pre6 enc Try.prog Try.f16 Rows.earOrdersRow.domain false) (Rows.earOrdersSpec.post enc Try.prog Try.f16 false true false false) := by
  refine row_of_ev (C := Try.checked) own started (by kernel_rfl) Try.func16
    (ChangeSpec.witness6 (enc := enc) (C := Try.checked) false ⟨#[], #[.agg #[.int .i64 0, .slice none 0 0, .slice none 0 0], .agg #[.int .i64 0, .int .i64 0], .slice none 0 0], []⟩ 8 (by kernel_rfl) (by kernel_rfl) (by kernel_rfl) (by kernel_rfl)) laid [bookSh, .arr 2 (.int .i64), intsSh] (by kernel_rfl) 4 (by kernel_rfl) (by kernel_rfl) rfl ?_ ?_
  · intro ds hd
    rw [Try.params16] at hd
    match ds, hd with | [d1, d2, d3], _ => rfl
  · intro xs h
    simp only [FitAs] at h; obtain ⟨_, _, rfl, h1, _, _, rfl, h2, _, _, rfl, h3, rfl⟩ := h; obtain ⟨b, hw, hal, hs, rfl⟩ := fits_book _ h1; obtain ⟨i, j, _, _, rfl⟩ := fits_two _ h2; obtain ⟨l, _, _, rfl⟩ := fits_ints _ h3; exact earOrders_ev b hw hs i j l
theorem earOrders_said : Rows.EarOrdersSaid :=
  OpenClaim.holds_of_wide 16 Try.f16 rfl rfl rfl rfl rfl rfl rfl ⟨rfl, rfl, rfl, rfl, rfl⟩ rfl rfl rfl rfl rfl (by kernel_rfl) Try.func16 (by kernel_rfl)
    (of_decide_eq_true (by kernel_rfl)) (by unfold Func.isWrapper; first | (rw [if_pos (by decide +kernel)]; kernel_rfl) | (rw [if_neg (by decide +kernel)]; exact ⟨rfl, rfl⟩))
    (fun os started H enc _ => earOrders_lifted os started H enc)


end Go.Px
namespace Go.Proofs.Ytgcdemklhalbhaa
theorem earOrders_holds : Rows.EarOrdersSaid := Px.earOrders_said
#print axioms earOrders_holds
end Go.Proofs.Ytgcdemklhalbhaa

