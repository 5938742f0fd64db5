/- The statement LetterRoom of the given program is proved, as it is given. No conditions. -/
import Derived.Test.YtbplgdbdpdhipaaBRoom2
namespace Go.Px
open Go.Proofs Go.Proofs.Ytbplgdbdpdhipaa
open Go.ChangeShapes Go.WideShapes Go.ChangeAt Go.RowKit
set_option maxRecDepth 100000 in
theorem letterRoom_lifted (os : Os) (started : os.Started) (H : Type) (enc : TypeId × Value → H) :
    ReturnsInHanded {} Try.checked os 15 .any (Rows.letterRoomSpec.pre6 enc Try.prog Try.f15 Rows.letterRoomRow.domain false) (Rows.letterRoomSpec.post enc Try.prog Try.f15 false true false false) := by
  refine row_of_ev (C := Try.checked) own started (by kernel_rfl) Try.func15
    (ChangeSpec.witness6 (enc := enc) (C := Try.checked) false ⟨#[], #[.agg #[.int .i64 0, .slice none 0 0], .slice none 0 0, .agg #[.int .u8 0, .int .u8 0, .int .u8 0]], []⟩ 8 (by kernel_rfl) (by kernel_rfl) (by kernel_rfl) (by kernel_rfl)) laid [shelfSh, strsSh, .arr 3 (.int .u8)] (by kernel_rfl) 4 (by kernel_rfl) (by kernel_rfl) rfl ?_ ?_
  · intro ds hd
    rw [Try.params15] at hd
    match ds, hd with | [d1, d2, d3], _ => rfl
  · intro xs h
    simp only [FitAs] at h; obtain ⟨_, _, rfl, h1, _, _, rfl, h2, _, _, rfl, h3, rfl⟩ := h; obtain ⟨s, hw, rfl⟩ := fits_shelf _ h1; obtain ⟨l, hl, rfl⟩ := fits_letter _ h2; obtain ⟨i, j, k, i1, i2, j1, j2, k1, k2, rfl⟩ := fits_u3 _ h3; exact letterRoom_ev s hw l i j k i1 i2 j1 j2 k1 k2
theorem letterRoom_said : Rows.LetterRoomSaid :=
  OpenClaim.holds_of_wide 15 Try.f15 rfl rfl rfl rfl rfl rfl rfl ⟨rfl, rfl, rfl, rfl, rfl⟩ rfl rfl rfl rfl rfl (by kernel_rfl) Try.func15 (by kernel_rfl)
    (of_decide_eq_true (by kernel_rfl)) (by unfold Func.isWrapper; first | (rw [if_pos (by decide +kernel)]; kernel_rfl) | (rw [if_neg (by decide +kernel)]; exact ⟨rfl, rfl⟩))
    (fun os started H enc _ => letterRoom_lifted os started H enc)


end Go.Px
namespace Go.Proofs.Ytbplgdbdpdhipaa
theorem letterRoom_holds : Rows.LetterRoomSaid := Px.letterRoom_said
#print axioms letterRoom_holds
end Go.Proofs.Ytbplgdbdpdhipaa

