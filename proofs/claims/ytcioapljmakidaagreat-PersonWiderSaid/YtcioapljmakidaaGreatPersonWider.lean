/- The statement PersonWider of the given program is proved, as it is given. No conditions. -/
import Derived.Test.YtcioapljmakidaaGreatBWider3
namespace Go.Px
open Go.Proofs Go.Proofs.YtcioapljmakidaaGreat
open Go.ChangeShapes Go.WideShapes Go.ChangeAt Go.RowKit
set_option maxRecDepth 100000 in
theorem personWider_lifted (os : Os) (started : os.Started) (H : Type) (enc : TypeId × Value → H) :
    ReturnsInHanded {} Tryz.checked os 14 .any (Rows.personWiderSpec.pre6 enc Tryz.prog Tryz.f14 Rows.personWiderRow.domain false) (Rows.personWiderSpec.post enc Tryz.prog Tryz.f14 false true false false) := by
  refine row_of_ev (C := Tryz.checked) own started (by kernel_rfl) Tryz.func14
    (ChangeSpec.witness6 (enc := enc) (C := Tryz.checked) false ⟨#[], #[.agg #[.int .i64 0, .slice none 0 0, .slice none 0 0, .int .i64 0, .slice none 0 0, .slice none 0 0], .agg #[.int .u8 0, .int .u8 0, .int .u8 0]], []⟩ 8 (by kernel_rfl) (by kernel_rfl) (by kernel_rfl) (by kernel_rfl)) laid [townSh, .arr 3 (.int .u8)] (by kernel_rfl) 4 (by kernel_rfl) (by kernel_rfl) rfl ?_ ?_
  · intro ds hd
    rw [Tryz.params14] at hd
    match ds, hd with | [d1, d2], _ => rfl
  · intro xs h
    simp only [FitAs] at h; obtain ⟨_, _, rfl, h1, _, _, rfl, h2, rfl⟩ := h; obtain ⟨t, hw, rfl⟩ := fits_town _ h1; obtain ⟨i, j, k, i1, i2, j1, j2, k1, k2, rfl⟩ := fits_u3 _ h2; exact personWider_ev t hw i j k i1 i2 j1 j2 k1 k2
theorem personWider_said : Rows.PersonWiderSaid :=
  OpenClaim.holds_of_wide 14 Tryz.f14 rfl rfl rfl rfl rfl rfl rfl ⟨rfl, rfl, rfl, rfl, rfl⟩ rfl rfl rfl rfl rfl (by kernel_rfl) Tryz.func14 (by kernel_rfl)
    (of_decide_eq_true (by kernel_rfl)) (by unfold Func.isWrapper; first | (rw [if_pos (by decide +kernel)]; kernel_rfl) | (rw [if_neg (by decide +kernel)]; exact ⟨rfl, rfl⟩))
    (fun os started H enc _ => personWider_lifted os started H enc)


end Go.Px
namespace Go.Proofs.YtcioapljmakidaaGreat
theorem personWider_holds : Rows.PersonWiderSaid := Px.personWider_said
#print axioms personWider_holds
end Go.Proofs.YtcioapljmakidaaGreat

