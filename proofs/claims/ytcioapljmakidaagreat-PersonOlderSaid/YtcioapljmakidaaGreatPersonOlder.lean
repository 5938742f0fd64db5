/- The statement PersonOlder of the given program is proved, as it is given. No conditions. -/
import Derived.Test.YtcioapljmakidaaGreatBOlder4
namespace Go.Px
open Go.Proofs Go.Proofs.YtcioapljmakidaaGreat
open Go.ChangeShapes Go.WideShapes Go.ChangeAt Go.RowKit
set_option maxRecDepth 100000 in
theorem personOlder_lifted (os : Os) (started : os.Started) (H : Type) (enc : TypeId × Value → H) :
    ReturnsInHanded {} Tryz.checked os 13 .any (Rows.personOlderSpec.pre6 enc Tryz.prog Tryz.f13 Rows.personOlderRow.domain false) (Rows.personOlderSpec.post enc Tryz.prog Tryz.f13 false true false false) := by
  refine row_of_ev (C := Tryz.checked) own started (by kernel_rfl) Tryz.func13
    (ChangeSpec.witness6 (enc := enc) (C := Tryz.checked) false ⟨#[], #[.agg #[.int .i64 0, .slice none 0 0, .slice none 0 0, .int .i64 0, .slice none 0 0, .slice none 0 0]], []⟩ 8 (by kernel_rfl) (by kernel_rfl) (by kernel_rfl) (by kernel_rfl)) laid [townSh] (by kernel_rfl) 4 (by kernel_rfl) (by kernel_rfl) rfl ?_ ?_
  · intro ds hd
    rw [Tryz.params13] at hd
    match ds, hd with | [d1], _ => rfl
  · intro xs h
    simp only [FitAs] at h; obtain ⟨_, _, rfl, h1, rfl⟩ := h; obtain ⟨t, hw, rfl⟩ := fits_town _ h1; exact personOlder_ev t hw
theorem personOlder_said : Rows.PersonOlderSaid :=
  OpenClaim.holds_of_wide 13 Tryz.f13 rfl rfl rfl rfl rfl rfl rfl ⟨rfl, rfl, rfl, rfl, rfl⟩ rfl rfl rfl rfl rfl (by kernel_rfl) Tryz.func13 (by kernel_rfl)
    (of_decide_eq_true (by kernel_rfl)) (by unfold Func.isWrapper; first | (rw [if_pos (by decide +kernel)]; kernel_rfl) | (rw [if_neg (by decide +kernel)]; exact ⟨rfl, rfl⟩))
    (fun os started H enc _ => personOlder_lifted os started H enc)


end Go.Px
namespace Go.Proofs.YtcioapljmakidaaGreat
theorem personOlder_holds : Rows.PersonOlderSaid := Px.personOlder_said
#print axioms personOlder_holds
end Go.Proofs.YtcioapljmakidaaGreat

