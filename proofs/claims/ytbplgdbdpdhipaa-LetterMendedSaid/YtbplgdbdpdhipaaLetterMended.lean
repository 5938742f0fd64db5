/- The statement LetterMended of the given program is proved, as it is given. No conditions. -/
import Derived.Test.YtbplgdbdpdhipaaBMended2
namespace Go.Px
open Go.Proofs Go.Proofs.Ytbplgdbdpdhipaa
open Go.ChangeShapes Go.WideShapes Go.ChangeAt Go.RowKit
set_option maxRecDepth 100000 in
theorem letterMended_lifted (os : Os) (started : os.Started) (H : Type) (enc : TypeId × Value → H) :
    ReturnsInHanded {} Try.checked os 13 .any (Rows.letterMendedSpec.pre6 enc Try.prog Try.f13 Rows.letterMendedRow.domain false) (Rows.letterMendedSpec.post enc Try.prog Try.f13 false true false false) := by
  refine row_of_ev (C := Try.checked) own started (by kernel_rfl) Try.func13
    (ChangeSpec.witness6 (enc := enc) (C := Try.checked) false ⟨#[], #[.agg #[.int .i64 0, .slice none 0 0], .slice none 0 0, .agg #[.int .u8 0, .slice none 0 0, .int .u8 0, .bool false]], []⟩ 8 (by kernel_rfl) (by kernel_rfl) (by kernel_rfl) (by kernel_rfl)) laid [shelfSh, strsSh, mendedSh] (by kernel_rfl) 4 (by kernel_rfl) (by kernel_rfl) rfl ?_ ?_
  · intro ds hd
    rw [Try.params13] at hd
    match ds, hd with | [d1, d2, d3], _ => rfl
  · intro xs h
    simp only [FitAs] at h; obtain ⟨_, _, rfl, h1, _, _, rfl, h2, _, _, rfl, h3, rfl⟩ := h; obtain ⟨s, hw, rfl⟩ := fits_shelf _ h1; obtain ⟨l, hl, rfl⟩ := fits_letter _ h2; obtain ⟨f, x, a, t, f1, f2, a1, a2, rfl⟩ := fits_mended _ h3; exact letterMended_ev s hw l f x a t f1 f2 a1 a2
theorem letterMended_said : Rows.LetterMendedSaid :=
  OpenClaim.holds_of_wide 13 Try.f13 rfl rfl rfl rfl rfl rfl rfl ⟨rfl, rfl, rfl, rfl, rfl⟩ rfl rfl rfl rfl rfl (by kernel_rfl) Try.func13 (by kernel_rfl)
    (of_decide_eq_true (by kernel_rfl)) (by unfold Func.isWrapper; first | (rw [if_pos (by decide +kernel)]; kernel_rfl) | (rw [if_neg (by decide +kernel)]; exact ⟨rfl, rfl⟩))
    (fun os started H enc _ => letterMended_lifted os started H enc)


end Go.Px
namespace Go.Proofs.Ytbplgdbdpdhipaa
theorem letterMended_holds : Rows.LetterMendedSaid := Px.letterMended_said
#print axioms letterMended_holds
end Go.Proofs.Ytbplgdbdpdhipaa

