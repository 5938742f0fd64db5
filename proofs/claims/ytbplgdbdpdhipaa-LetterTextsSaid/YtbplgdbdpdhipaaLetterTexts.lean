/- The statement LetterTexts of the given program is proved, as it is given. No conditions. -/
import Derived.Test.YtbplgdbdpdhipaaBTexts1
namespace Go.Px
open Go.Proofs Go.Proofs.Ytbplgdbdpdhipaa
open Go.ChangeShapes Go.WideShapes Go.ChangeAt Go.RowKit
set_option maxRecDepth 100000 in
theorem letterTexts_lifted (os : Os) (started : os.Started) (H : Type) (enc : TypeId × Value → H) :
    ReturnsInHanded {} Try.checked os 5 .any (Rows.letterTextsSpec.pre6 enc Try.prog Try.f5 Rows.letterTextsRow.domain false) (Rows.letterTextsSpec.post enc Try.prog Try.f5 false true false false) := by
  refine row_of_ev (C := Try.checked) own started (by kernel_rfl) Try.func5
    (ChangeSpec.witness6 (enc := enc) (C := Try.checked) false ⟨#[], #[.agg #[.int .i64 0, .slice none 0 0], .slice none 0 0, .string ⟨#[]⟩], []⟩ 8 (by kernel_rfl) (by kernel_rfl) (by kernel_rfl) (by kernel_rfl)) laid [shelfSh, strsSh, .str] (by kernel_rfl) 4 (by kernel_rfl) (by kernel_rfl) rfl ?_ ?_
  · intro ds hd
    rw [Try.params5] at hd
    match ds, hd with | [d1, d2, d3], _ => rfl
  · intro xs h
    simp only [FitAs] at h; obtain ⟨_, _, rfl, h1, _, _, rfl, h2, _, _, rfl, h3, rfl⟩ := h; obtain ⟨s, hw, rfl⟩ := fits_shelf _ h1; obtain ⟨l, hl, rfl⟩ := fits_letter _ h2; obtain ⟨t, ht, rfl⟩ := fits_str _ h3; exact letterTexts_ev s hw l t
theorem letterTexts_said : Rows.LetterTextsSaid :=
  OpenClaim.holds_of_wide 5 Try.f5 rfl rfl rfl rfl rfl rfl rfl ⟨rfl, rfl, rfl, rfl, rfl⟩ rfl rfl rfl rfl rfl (by kernel_rfl) Try.func5 (by kernel_rfl)
    (of_decide_eq_true (by kernel_rfl)) (by unfold Func.isWrapper; first | (rw [if_pos (by decide +kernel)]; kernel_rfl) | (rw [if_neg (by decide +kernel)]; exact ⟨rfl, rfl⟩))
    (fun os started H enc _ => letterTexts_lifted os started H enc)


end Go.Px
namespace Go.Proofs.Ytbplgdbdpdhipaa
theorem letterTexts_holds : Rows.LetterTextsSaid := Px.letterTexts_said
#print axioms letterTexts_holds
end Go.Proofs.Ytbplgdbdpdhipaa

