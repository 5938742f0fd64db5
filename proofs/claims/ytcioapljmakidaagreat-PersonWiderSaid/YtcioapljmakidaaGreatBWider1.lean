/- Part 1 of the proof of the statement PersonWider (contracts of the functions that it alone wants). No conditions. -/
import Derived.Test.YtcioapljmakidaaGreatD7
namespace Go.Px
section
variable {P : Program} {r : Option Nat} {N : Nat} {env : Env} {H : Heap} {D : List Nat} {dst : Option Nat} {K : Env → Heap → List Nat → Prop} {Q : Post}
theorem Sat.peek {C : Ctx} {a : Act} {w : World} {S : Snap} {L : Nat → Option Nat} (hs : Sat C env H D a w S L) {t T kk : Nat} {es : List (List AV)} (ht : env t = .lin T kk es) : ∃ ad cap, ∃ L', Sat C (upd env t (.linV T kk es ad cap)) H D a w S L' := by
  have hr := hs.env t
  rw [ht] at hr
  simp only [RepT] at hr
  have hg : ∀ b, L t = some b → b ∉ (H ++ C.F).map (·.1) ∧ ∀ u, u ≠ t → L u ≠ some b := fun b e => ⟨hs.lin t b e, fun u hu e' => hu (hs.linj u t b e' e)⟩
  rcases hr with ⟨hy, he, hL⟩ | ⟨g, cap, hL, hy, ho⟩
  · exact ⟨none, 0, _, hs.reenvL (g := L t) (by simp only [RepT]; exact ⟨by rw [hy, he]; rfl, .inl ⟨hy, he, hL⟩⟩) hg⟩
  · exact ⟨some ⟨g, 0, none⟩, cap, _, hs.reenvL (g := L t) (by simp only [RepT]; exact ⟨hy, .inr ⟨g, cap, hL, hy, ho⟩⟩) hg⟩
theorem LWp.peek {x : LCode} (t : Nat) {T kk : Nat} {es : List (List AV)} (ht : env t = .lin T kk es) (h : ∀ ad cap, LWp P r N x Q (upd env t (.linV T kk es ad cap)) H D) : LWp P r N x Q env H D :=
  fun c hc C a w S L hN hs => by obtain ⟨ad, cap, L', h'⟩ := hs.peek ht; exact h ad cap c hc C a w S L' hN h'
theorem WOps.peek {ls : List LOper} (t : Nat) {T kk : Nat} {es : List (List AV)} (ht : env t = .lin T kk es) (h : ∀ ad cap, WOps P r N ls Q (upd env t (.linV T kk es ad cap)) H D) : WOps P r N ls Q env H D :=
  fun arr is hm C a w S L hN hs => by obtain ⟨ad, cap, L', h'⟩ := hs.peek ht; exact h ad cap arr is hm C a w S L' hN h'
end
end Go.Px

