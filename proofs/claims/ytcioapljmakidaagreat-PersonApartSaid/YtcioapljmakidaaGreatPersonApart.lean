/- The statement PersonApart of the given program is proved, as it is given. No conditions. -/
import Derived.Test.YtcioapljmakidaaGreatBApart3
namespace Go.Px
open Go.Proofs Go.Proofs.YtcioapljmakidaaGreat
open Go.ChangeShapes Go.WideShapes Go.ChangeAt Go.RowKit
set_option maxRecDepth 100000 in
theorem personApart_lifted (os : Os) (started : os.Started) (H : Type) (enc : TypeId × Value → H) :
    ReturnsInHanded {} Tryz.checked os 9 .any (Rows.personApartSpec.pre6 enc Tryz.prog Tryz.f9 Rows.personApartRow.domain false) (Rows.personApartSpec.post enc Tryz.prog Tryz.f9 false true false false) := by
  refine row_of_ev (C := Tryz.checked) own started (by kernel_rfl) Tryz.func9
    (ChangeSpec.witness6 (enc := enc) (C := Tryz.checked) false ⟨#[], #[.agg #[.int .i64 0, .slice none 0 0, .slice none 0 0, .int .i64 0, .slice none 0 0, .slice none 0 0], .agg #[.int .u8 0, .int .u8 0]], []⟩ 8 (by kernel_rfl) (by kernel_rfl) (by kernel_rfl) (by kernel_rfl)) laid [townSh, .arr 2 (.int .u8)] (by kernel_rfl) 4 (by kernel_rfl) (by kernel_rfl) rfl ?_ ?_
  · intro ds hd
    rw [Tryz.params9] at hd
    match ds, hd with | [d1, d2], _ => rfl
  · intro xs h
    simp only [FitAs] at h; obtain ⟨_, _, rfl, h1, _, _, rfl, h2, rfl⟩ := h; obtain ⟨t, hw, rfl⟩ := fits_town _ h1; obtain ⟨i, j, a1, a2, a3, a4, rfl⟩ := fits_u2 _ h2; exact personApart_ev t hw i j a1 a2 a3 a4
theorem personApart_said : Rows.PersonApartSaid :=
  OpenClaim.holds_of_wide 9 Tryz.f9 rfl rfl rfl rfl rfl rfl rfl ⟨rfl, rfl, rfl, rfl, rfl⟩ rfl rfl rfl rfl rfl (by kernel_rfl) Tryz.func9 (by kernel_rfl)
    (of_decide_eq_true (by kernel_rfl)) (by unfold Func.isWrapper; first | (rw [if_pos (by decide +kernel)]; kernel_rfl) | (rw [if_neg (by decide +kernel)]; exact ⟨rfl, rfl⟩))
    (fun os started H enc _ => personApart_lifted os started H enc)


end Go.Px
namespace Go.Proofs.YtcioapljmakidaaGreat
theorem personApart_holds : Rows.PersonApartSaid := Px.personApart_said
#print axioms personApart_holds
end Go.Proofs.YtcioapljmakidaaGreat

