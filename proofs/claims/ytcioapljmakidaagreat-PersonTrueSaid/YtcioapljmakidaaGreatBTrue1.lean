/- Part 1 of the proof of the statement PersonTrue (contracts of the functions that it alone wants). No conditions. -/
import Derived.Test.YtcioapljmakidaaGreatD7
namespace Go.Px
section
variable {P : Program} {r : Option Nat} {N : Nat} {env : Env} {H : Heap} {D : List Nat} {dst : Option Nat} {K : Env → Heap → List Nat → Prop} {Q : Post}
theorem Sat.peek {C : Ctx} {a : Act} {w : World} {S : Snap} {L : Nat → Option Nat} (hs : Sat C env H D a w S L) {t T kk : Nat} {es : List (List AV)} (ht : env t = .lin T kk es) : ∃ ad cap, ∃ L', Sat C (upd env t (.linV T kk es ad cap)) H D a w S L' := by
  have hr := hs.env t
  rw [ht] at hr
  simp only [RepT] at hr
  have hg : ∀ b, L t = some b → b ∉ (H ++ C.F).map (·.1) ∧ ∀ u, u ≠ t → L u ≠ some b := fun b e => ⟨hs.lin t b e, fun u hu e' => hu (hs.linj u t b e' e)⟩
  rcases hr with ⟨hy, he, hL⟩ | ⟨g, cap, hL, hy, ho⟩
  · exact ⟨none, 0, _, hs.reenvL (g := L t) (by simp only [RepT]; exact ⟨by rw [hy, he]; rfl, .inl ⟨hy, he, hL⟩⟩) hg⟩
  · exact ⟨some ⟨g, 0, none⟩, cap, _, hs.reenvL (g := L t) (by simp only [RepT]; exact ⟨hy, .inr ⟨g, cap, hL, hy, ho⟩⟩) hg⟩
theorem LWp.peek {x : LCode} (t : Nat) {T kk : Nat} {es : List (List AV)} (ht : env t = .lin T kk es) (h : ∀ ad cap, LWp P r N x Q (upd env t (.linV T kk es ad cap)) H D) : LWp P r N x Q env H D :=
  fun c hc C a w S L hN hs => by obtain ⟨ad, cap, L', h'⟩ := hs.peek ht; exact h ad cap c hc C a w S L' hN h'
theorem WOps.peek {ls : List LOper} (t : Nat) {T kk : Nat} {es : List (List AV)} (ht : env t = .lin T kk es) (h : ∀ ad cap, WOps P r N ls Q (upd env t (.linV T kk es ad cap)) H D) : WOps P r N ls Q env H D :=
  fun arr is hm C a w S L hN hs => by obtain ⟨ad, cap, L', h'⟩ := hs.peek ht; exact h ad cap arr is hm C a w S L' hN h'
end
end Go.Px

namespace Go.Px
theorem all2_append {α β : Type} {R : α → β → Prop} : ∀ {l : List α} {m : List β} {l' : List α} {m' : List β}, All2 R l m → All2 R l' m' → All2 R (l ++ l') (m ++ m')
  | [], [], _, _, _, k => k
  | _ :: _, _ :: _, _, _, h, k => ⟨h.1, all2_append h.2 k⟩
  | [], _ :: _, _, _, h, _ => h.elim
  | _ :: _, [], _, _, h, _ => h.elim
theorem all2_flatten {R : AV → AV → Prop} : ∀ {es es' : List (List AV)}, All2 (All2 R) es es' → All2 R es.flatten es'.flatten
  | [], [], _ => trivial
  | _ :: _, _ :: _, h => by simp only [List.flatten_cons]; exact all2_append h.1 (all2_flatten h.2)
  | [], _ :: _, h => h.elim
  | _ :: _, [], h => h.elim
theorem all2_each {R : AV → AV → Prop} {k : Nat} : ∀ {es es' : List (List AV)}, All2 (All2 R) es es' → (∀ e ∈ es, e.length = k) → ∀ e ∈ es', e.length = k
  | [], [], _, _, e, he => by cases he
  | a :: es, b :: es', h, hk, e, he => by
    rcases List.mem_cons.1 he with rfl | he
    · rw [← all2_length h.1]; exact hk a (by simp)
    · exact all2_each h.2 (fun e he => hk e (by simp [he])) e he
  | [], _ :: _, h, _, _, _ => h.elim
  | _ :: _, [], h, _, _, _ => h.elim
section
variable {env : Env} {H : Heap} {D : List Nat}
theorem Ent.linSub {t T k : Nat} {es : List (List AV)} (es' : List (List AV)) (ht : env t = .lin T k es) (h : All2 (All2 SubA) es es') : Ent env H D (upd env t (.lin T k es')) H D := by
  intro C a w S L hs
  have hr := hs.env t
  rw [ht] at hr
  simp only [RepT] at hr
  have hl := all2_length h
  refine ⟨S, _, Snap.Le.refl S, hs.reenvL (g := L t) ?_ (fun b e => ⟨hs.lin t b e, fun u hu e' => hu (hs.linj u t b e' e)⟩)⟩
  simp only [RepT]
  rcases hr with ⟨hy, he, hb⟩ | ⟨g, cap, hb, hy, ho⟩
  · left
    refine ⟨hy, ?_, hb⟩
    subst he
    cases es' with
    | nil => rfl
    | cons _ _ => exact h.elim
  · right
    obtain ⟨o, e, cur, h1, h2, h3, h4, h5, h6, h7⟩ := ho.holds
    refine ⟨g, cap, hb, by rw [← hl]; exact hy, ho.base, ho.apart, o, e, cur, h1, h2, by rw [← hl]; exact h3, h4, all2_each h h5, ?_, ?_⟩
    · rw [← hl]; exact subL_of (all2_flatten h) h6
    · rw [← hl]; exact h7
end
end Go.Px

