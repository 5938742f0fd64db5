/- The statement PersonWhys of the given program is proved, as it is given. No conditions. -/
import Derived.Test.YtcioapljmakidaaGreatBWhys4
namespace Go.Px
open Go.Proofs Go.Proofs.YtcioapljmakidaaGreat
open Go.ChangeShapes Go.WideShapes Go.ChangeAt Go.RowKit
set_option maxRecDepth 100000 in
theorem personWhys_lifted (os : Os) (started : os.Started) (H : Type) (enc : TypeId × Value → H) :
    ReturnsInHanded {} Tryz.checked os 5 .any (Rows.personWhysSpec.pre6 enc Tryz.prog Tryz.f5 Rows.personWhysRow.domain false) (Rows.personWhysSpec.post enc Tryz.prog Tryz.f5 false true false false) := by
  refine row_of_ev (C := Tryz.checked) own started (by kernel_rfl) Tryz.func5
    (ChangeSpec.witness6 (enc := enc) (C := Tryz.checked) false ⟨#[], #[.agg #[.int .i64 0, .slice none 0 0, .slice none 0 0, .int .i64 0, .slice none 0 0, .slice none 0 0], .agg #[.int .i64 0, .int .i64 0], .agg #[.int .i64 0, .int .i64 0, .int .i64 0, .int .i64 0, .int .i64 0]], []⟩ 8 (by kernel_rfl) (by kernel_rfl) (by kernel_rfl) (by kernel_rfl)) laid [townSh, .arr 2 (.int .i64), menSh] (by kernel_rfl) 4 (by kernel_rfl) (by kernel_rfl) rfl ?_ ?_
  · intro ds hd
    rw [Tryz.params5] at hd
    match ds, hd with | [d1, d2, d3], _ => rfl
  · intro xs h
    simp only [FitAs] at h; obtain ⟨_, _, rfl, h1, _, _, rfl, h2, _, _, rfl, h3, rfl⟩ := h; obtain ⟨t, hw, rfl⟩ := fits_town _ h1; obtain ⟨i, j, rfl⟩ := fits_two _ h2; obtain ⟨x, _, rfl⟩ := fits_men1 _ h3; exact personWhys_ev t hw i j x
theorem personWhys_said : Rows.PersonWhysSaid :=
  OpenClaim.holds_of_wide 5 Tryz.f5 rfl rfl rfl rfl rfl rfl rfl ⟨rfl, rfl, rfl, rfl, rfl⟩ rfl rfl rfl rfl rfl (by kernel_rfl) Tryz.func5 (by kernel_rfl)
    (of_decide_eq_true (by kernel_rfl)) (by unfold Func.isWrapper; first | (rw [if_pos (by decide +kernel)]; kernel_rfl) | (rw [if_neg (by decide +kernel)]; exact ⟨rfl, rfl⟩))
    (fun os started H enc _ => personWhys_lifted os started H enc)


end Go.Px
namespace Go.Proofs.YtcioapljmakidaaGreat
theorem personWhys_holds : Rows.PersonWhysSaid := Px.personWhys_said
#print axioms personWhys_holds
end Go.Proofs.YtcioapljmakidaaGreat

