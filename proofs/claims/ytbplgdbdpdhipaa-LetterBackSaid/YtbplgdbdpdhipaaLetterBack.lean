/- The statement LetterBack of the given program is proved, as it is given. No conditions. -/
import Derived.Test.YtbplgdbdpdhipaaBBack1
namespace Go.Px
open Go.Proofs Go.Proofs.Ytbplgdbdpdhipaa
open Go.ChangeShapes Go.WideShapes Go.ChangeAt Go.RowKit
set_option maxRecDepth 100000 in
theorem letterBack_lifted (os : Os) (started : os.Started) (H : Type) (enc : TypeId × Value → H) :
    ReturnsInHanded {} Try.checked os 12 .any (Rows.letterBackSpec.pre6 enc Try.prog Try.f12 Rows.letterBackRow.domain false) (Rows.letterBackSpec.post enc Try.prog Try.f12 false true false false) := by
  refine row_of_ev (C := Try.checked) own started (by kernel_rfl) Try.func12
    (ChangeSpec.witness6 (enc := enc) (C := Try.checked) false ⟨#[], #[.slice none 0 0, .slice none 0 0, .slice none 0 0], []⟩ 8 (by kernel_rfl) (by kernel_rfl) (by kernel_rfl) (by kernel_rfl)) laid [strsSh, strsSh, strsSh] (by kernel_rfl) 4 (by kernel_rfl) (by kernel_rfl) rfl ?_ ?_
  · intro ds hd
    rw [Try.params12] at hd
    match ds, hd with | [d1, d2, d3], _ => rfl
  · intro xs h
    simp only [FitAs] at h; obtain ⟨_, _, rfl, h1, _, _, rfl, h2, _, _, rfl, h3, rfl⟩ := h; obtain ⟨a, ha, rfl⟩ := fits_letter _ h1; obtain ⟨b, hb, rfl⟩ := fits_letter _ h2; obtain ⟨c, hc, rfl⟩ := fits_letter _ h3; exact letterBack_ev a b c
theorem letterBack_said : Rows.LetterBackSaid :=
  OpenClaim.holds_of_wide 12 Try.f12 rfl rfl rfl rfl rfl rfl rfl ⟨rfl, rfl, rfl, rfl, rfl⟩ rfl rfl rfl rfl rfl (by kernel_rfl) Try.func12 (by kernel_rfl)
    (of_decide_eq_true (by kernel_rfl)) (by unfold Func.isWrapper; first | (rw [if_pos (by decide +kernel)]; kernel_rfl) | (rw [if_neg (by decide +kernel)]; exact ⟨rfl, rfl⟩))
    (fun os started H enc _ => letterBack_lifted os started H enc)


end Go.Px
namespace Go.Proofs.Ytbplgdbdpdhipaa
theorem letterBack_holds : Rows.LetterBackSaid := Px.letterBack_said
#print axioms letterBack_holds
end Go.Proofs.Ytbplgdbdpdhipaa

