/- The statement PersonFewest of the given program is proved, as it is given. No conditions. -/
import Derived.Test.YtcioapljmakidaaGreatBFewest4
namespace Go.Px
open Go.Proofs Go.Proofs.YtcioapljmakidaaGreat
open Go.ChangeShapes Go.WideShapes Go.ChangeAt Go.RowKit
set_option maxRecDepth 100000 in
theorem personFewest_lifted (os : Os) (started : os.Started) (H : Type) (enc : TypeId × Value → H) :
    ReturnsInHanded {} Tryz.checked os 10 .any (Rows.personFewestSpec.pre6 enc Tryz.prog Tryz.f10 Rows.personFewestRow.domain false) (Rows.personFewestSpec.post enc Tryz.prog Tryz.f10 false true false false) := by
  refine row_of_ev (C := Tryz.checked) own started (by kernel_rfl) Tryz.func10
    (ChangeSpec.witness6 (enc := enc) (C := Tryz.checked) false ⟨#[], #[.agg #[.int .i64 0, .slice none 0 0, .slice none 0 0, .int .i64 0, .slice none 0 0, .slice none 0 0], .int .u8 0], []⟩ 8 (by kernel_rfl) (by kernel_rfl) (by kernel_rfl) (by kernel_rfl)) laid [townSh, .int .u8] (by kernel_rfl) 4 (by kernel_rfl) (by kernel_rfl) rfl ?_ ?_
  · intro ds hd
    rw [Tryz.params10] at hd
    match ds, hd with | [d1, d2], _ => rfl
  · intro xs h
    simp only [FitAs] at h; obtain ⟨_, _, rfl, h1, _, _, rfl, h2, rfl⟩ := h; obtain ⟨t, hw, rfl⟩ := fits_town _ h1; obtain ⟨w, a1, a2, rfl⟩ := fits_u8 _ h2; exact personFewest_ev t hw w a1 a2
theorem personFewest_said : Rows.PersonFewestSaid :=
  OpenClaim.holds_of_wide 10 Tryz.f10 rfl rfl rfl rfl rfl rfl rfl ⟨rfl, rfl, rfl, rfl, rfl⟩ rfl rfl rfl rfl rfl (by kernel_rfl) Tryz.func10 (by kernel_rfl)
    (of_decide_eq_true (by kernel_rfl)) (by unfold Func.isWrapper; first | (rw [if_pos (by decide +kernel)]; kernel_rfl) | (rw [if_neg (by decide +kernel)]; exact ⟨rfl, rfl⟩))
    (fun os started H enc _ => personFewest_lifted os started H enc)


end Go.Px
namespace Go.Proofs.YtcioapljmakidaaGreat
theorem personFewest_holds : Rows.PersonFewestSaid := Px.personFewest_said
#print axioms personFewest_holds
end Go.Proofs.YtcioapljmakidaaGreat

