/- The statement LetterRound of the given program is proved, as it is given. No conditions. -/
import Derived.Test.YtbplgdbdpdhipaaBRound1
namespace Go.Px
open Go.Proofs Go.Proofs.Ytbplgdbdpdhipaa
open Go.ChangeShapes Go.WideShapes Go.ChangeAt Go.RowKit
set_option maxRecDepth 100000 in
theorem letterRound_lifted (os : Os) (started : os.Started) (H : Type) (enc : TypeId × Value → H) :
    ReturnsInHanded {} Try.checked os 10 .any (Rows.letterRoundSpec.pre6 enc Try.prog Try.f10 Rows.letterRoundRow.domain false) (Rows.letterRoundSpec.post enc Try.prog Try.f10 false true false false) := by
  refine row_of_ev (C := Try.checked) own started (by kernel_rfl) Try.func10
    (ChangeSpec.witness6 (enc := enc) (C := Try.checked) false ⟨#[], #[.agg #[.int .i64 0, .slice none 0 0], .slice none 0 0, .string ⟨#[]⟩], []⟩ 8 (by kernel_rfl) (by kernel_rfl) (by kernel_rfl) (by kernel_rfl)) laid [shelfSh, strsSh, .str] (by kernel_rfl) 4 (by kernel_rfl) (by kernel_rfl) rfl ?_ ?_
  · intro ds hd
    rw [Try.params10] at hd
    match ds, hd with | [d1, d2, d3], _ => rfl
  · intro xs h
    simp only [FitAs] at h; obtain ⟨_, _, rfl, h1, _, _, rfl, h2, _, _, rfl, h3, rfl⟩ := h; obtain ⟨s, hw, rfl⟩ := fits_shelf _ h1; obtain ⟨l, hl, rfl⟩ := fits_letter _ h2; obtain ⟨t, ht, rfl⟩ := fits_str _ h3; exact letterRound_ev s hw l t
theorem letterRound_said : Rows.LetterRoundSaid :=
  OpenClaim.holds_of_wide 10 Try.f10 rfl rfl rfl rfl rfl rfl rfl ⟨rfl, rfl, rfl, rfl, rfl⟩ rfl rfl rfl rfl rfl (by kernel_rfl) Try.func10 (by kernel_rfl)
    (of_decide_eq_true (by kernel_rfl)) (by unfold Func.isWrapper; first | (rw [if_pos (by decide +kernel)]; kernel_rfl) | (rw [if_neg (by decide +kernel)]; exact ⟨rfl, rfl⟩))
    (fun os started H enc _ => letterRound_lifted os started H enc)


end Go.Px
namespace Go.Proofs.Ytbplgdbdpdhipaa
theorem letterRound_holds : Rows.LetterRoundSaid := Px.letterRound_said
#print axioms letterRound_holds
end Go.Proofs.Ytbplgdbdpdhipaa

