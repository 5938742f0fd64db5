/- The statement LetterMade of the given program is proved, as it is given. No conditions. -/
import Derived.Test.YtbplgdbdpdhipaaBMade1
namespace Go.Px
open Go.Proofs Go.Proofs.Ytbplgdbdpdhipaa
open Go.ChangeShapes Go.WideShapes Go.ChangeAt Go.RowKit
set_option maxRecDepth 100000 in
theorem letterMade_lifted (os : Os) (started : os.Started) (H : Type) (enc : TypeId × Value → H) :
    ReturnsInHanded {} Try.checked os 9 .any (Rows.letterMadeSpec.pre6 enc Try.prog Try.f9 Rows.letterMadeRow.domain false) (Rows.letterMadeSpec.post enc Try.prog Try.f9 false true false false) := by
  refine row_of_ev (C := Try.checked) own started (by kernel_rfl) Try.func9
    (ChangeSpec.witness6 (enc := enc) (C := Try.checked) false ⟨#[], #[.agg #[.int .i64 0, .slice none 0 0], .int .u8 0, .slice none 0 0], []⟩ 8 (by kernel_rfl) (by kernel_rfl) (by kernel_rfl) (by kernel_rfl)) laid [shelfSh, .int .u8, bytesSh] (by kernel_rfl) 4 (by kernel_rfl) (by kernel_rfl) rfl ?_ ?_
  · intro ds hd
    rw [Try.params9] at hd
    match ds, hd with | [d1, d2, d3], _ => rfl
  · intro xs h
    simp only [FitAs] at h; obtain ⟨_, _, rfl, h1, _, _, rfl, h2, _, _, rfl, h3, rfl⟩ := h; obtain ⟨s, hw, rfl⟩ := fits_shelf _ h1; obtain ⟨w, a1, a2, rfl⟩ := fits_u8 _ h2; obtain ⟨x, rfl⟩ := fits_bytes _ h3; exact letterMade_ev s hw w a1 a2 x
theorem letterMade_said : Rows.LetterMadeSaid :=
  OpenClaim.holds_of_wide 9 Try.f9 rfl rfl rfl rfl rfl rfl rfl ⟨rfl, rfl, rfl, rfl, rfl⟩ rfl rfl rfl rfl rfl (by kernel_rfl) Try.func9 (by kernel_rfl)
    (of_decide_eq_true (by kernel_rfl)) (by unfold Func.isWrapper; first | (rw [if_pos (by decide +kernel)]; kernel_rfl) | (rw [if_neg (by decide +kernel)]; exact ⟨rfl, rfl⟩))
    (fun os started H enc _ => letterMade_lifted os started H enc)


end Go.Px
namespace Go.Proofs.Ytbplgdbdpdhipaa
theorem letterMade_holds : Rows.LetterMadeSaid := Px.letterMade_said
#print axioms letterMade_holds
end Go.Proofs.Ytbplgdbdpdhipaa

