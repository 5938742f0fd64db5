/- The statement PersonKnown of the given program is proved, as it is given. No conditions. -/
import Derived.Test.YtcioapljmakidaaBKnown1
namespace Go.Px
open Go.Proofs Go.Proofs.Ytcioapljmakidaa
open Go.ChangeShapes Go.WideShapes Go.ChangeAt Go.RowKit
set_option maxRecDepth 100000 in
theorem personKnown_lifted (os : Os) (started : os.Started) (H : Type) (enc : TypeId × Value → H) :
    ReturnsInHanded {} Try.checked os 3 .any (Rows.personKnownSpec.pre6 enc Try.prog Try.f3 Rows.personKnownRow.domain false) (Rows.personKnownSpec.post enc Try.prog Try.f3 false true false false) := by
  refine row_of_ev (C := Try.checked) own started (by kernel_rfl) Try.func3
    (ChangeSpec.witness6 (enc := enc) (C := Try.checked) false ⟨#[], #[], []⟩ 8 (by kernel_rfl) (by kernel_rfl) (by kernel_rfl) (by kernel_rfl)) laid [] (by kernel_rfl) 4 (by kernel_rfl) (by kernel_rfl) rfl ?_ ?_
  · intro ds hd
    rw [Try.params3] at hd
    match ds, hd with | [], _ => rfl
  · intro xs h
    simp only [FitAs] at h; subst h; exact personKnown_ev
theorem personKnown_said : Rows.PersonKnownSaid :=
  OpenClaim.holds_of_wide 3 Try.f3 rfl rfl rfl rfl rfl rfl rfl ⟨rfl, rfl, rfl, rfl, rfl⟩ rfl rfl rfl rfl rfl (by kernel_rfl) Try.func3 (by kernel_rfl)
    (of_decide_eq_true (by kernel_rfl)) (by unfold Func.isWrapper; first | (rw [if_pos (by decide +kernel)]; kernel_rfl) | (rw [if_neg (by decide +kernel)]; exact ⟨rfl, rfl⟩))
    (fun os started H enc _ => personKnown_lifted os started H enc)


end Go.Px
namespace Go.Proofs.Ytcioapljmakidaa
theorem personKnown_holds : Rows.PersonKnownSaid := Px.personKnown_said
#print axioms personKnown_holds
end Go.Proofs.Ytcioapljmakidaa

