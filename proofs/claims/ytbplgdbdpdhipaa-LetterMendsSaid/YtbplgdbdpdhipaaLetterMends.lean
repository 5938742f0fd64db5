/- The statement LetterMends of the given program is proved, as it is given. No conditions. -/
import Derived.Test.YtbplgdbdpdhipaaBMends3
namespace Go.Px
open Go.Proofs Go.Proofs.Ytbplgdbdpdhipaa
open Go.ChangeShapes Go.WideShapes Go.ChangeAt Go.RowKit
set_option maxRecDepth 100000 in
theorem letterMends_lifted (os : Os) (started : os.Started) (H : Type) (enc : TypeId × Value → H) :
    ReturnsInHanded {} Try.checked os 7 .any (Rows.letterMendsSpec.pre6 enc Try.prog Try.f7 Rows.letterMendsRow.domain false) (Rows.letterMendsSpec.post enc Try.prog Try.f7 false true false false) := by
  refine row_of_ev (C := Try.checked) own started (by kernel_rfl) Try.func7
    (ChangeSpec.witness6 (enc := enc) (C := Try.checked) false ⟨#[], #[.agg #[.int .i64 0, .slice none 0 0], .int .i64 0, .slice none 0 0], []⟩ 8 (by kernel_rfl) (by kernel_rfl) (by kernel_rfl) (by kernel_rfl)) laid [shelfSh, .int .i64, strsSh] (by kernel_rfl) 4 (by kernel_rfl) (by kernel_rfl) rfl ?_ ?_
  · intro ds hd
    rw [Try.params7] at hd
    match ds, hd with | [d1, d2, d3], _ => rfl
  · intro xs h
    simp only [FitAs] at h; obtain ⟨_, _, rfl, h1, _, _, rfl, h2, _, _, rfl, h3, rfl⟩ := h; obtain ⟨s, hw, rfl⟩ := fits_shelf _ h1; obtain ⟨n, _, rfl⟩ := fits_int _ h2; obtain ⟨l, hl, rfl⟩ := fits_letter _ h3; exact letterMends_ev s hw n l
theorem letterMends_said : Rows.LetterMendsSaid :=
  OpenClaim.holds_of_wide 7 Try.f7 rfl rfl rfl rfl rfl rfl rfl ⟨rfl, rfl, rfl, rfl, rfl⟩ rfl rfl rfl rfl rfl (by kernel_rfl) Try.func7 (by kernel_rfl)
    (of_decide_eq_true (by kernel_rfl)) (by unfold Func.isWrapper; first | (rw [if_pos (by decide +kernel)]; kernel_rfl) | (rw [if_neg (by decide +kernel)]; exact ⟨rfl, rfl⟩))
    (fun os started H enc _ => letterMends_lifted os started H enc)


end Go.Px
namespace Go.Proofs.Ytbplgdbdpdhipaa
theorem letterMends_holds : Rows.LetterMendsSaid := Px.letterMends_said
#print axioms letterMends_holds
end Go.Proofs.Ytbplgdbdpdhipaa

