/- Part 1 of the proof of the statement LetterMends (contracts of the functions that it alone wants). No conditions. -/
import Derived.Test.YtbplgdbdpdhipaaA7
namespace Go.Px
section
variable {P : Program} {r : Option Nat} {N : Nat} {env : Env} {H : Heap} {D : List Nat} {Q : Post}
theorem getI {l : List Int} {n : Nat} {x : Int} (h : l[n]? = some x) : (l.map fun x => [I x])[n]? = some [I x] := by
  rw [List.getElem?_map, h]; rfl
end
end Go.Px

namespace Go.Px
theorem all2_append {α β : Type} {R : α → β → Prop} : ∀ {l : List α} {m : List β} {l' : List α} {m' : List β}, All2 R l m → All2 R l' m' → All2 R (l ++ l') (m ++ m')
  | [], [], _, _, _, k => k
  | _ :: _, _ :: _, _, _, h, k => ⟨h.1, all2_append h.2 k⟩
  | [], _ :: _, _, _, h, _ => h.elim
  | _ :: _, [], _, _, h, _ => h.elim
theorem all2_flatten {R : AV → AV → Prop} : ∀ {es es' : List (List AV)}, All2 (All2 R) es es' → All2 R es.flatten es'.flatten
  | [], [], _ => trivial
  | _ :: _, _ :: _, h => by simp only [List.flatten_cons]; exact all2_append h.1 (all2_flatten h.2)
  | [], _ :: _, h => h.elim
  | _ :: _, [], h => h.elim
theorem all2_each {R : AV → AV → Prop} {k : Nat} : ∀ {es es' : List (List AV)}, All2 (All2 R) es es' → (∀ e ∈ es, e.length = k) → ∀ e ∈ es', e.length = k
  | [], [], _, _, e, he => by cases he
  | a :: es, b :: es', h, hk, e, he => by
    rcases List.mem_cons.1 he with rfl | he
    · rw [← all2_length h.1]; exact hk a (by simp)
    · exact all2_each h.2 (fun e he => hk e (by simp [he])) e he
  | [], _ :: _, h, _, _, _ => h.elim
  | _ :: _, [], h, _, _, _ => h.elim
section
variable {env : Env} {H : Heap} {D : List Nat}
/-- The elements of an owned list are said otherwise. -/
theorem Ent.linSub {t T k : Nat} {es : List (List AV)} (es' : List (List AV)) (ht : env t = .lin T k es) (h : All2 (All2 SubA) es es') : Ent env H D (upd env t (.lin T k es')) H D := by
  intro C a w S L hs
  have hr := hs.env t
  rw [ht] at hr
  simp only [RepT] at hr
  have hl := all2_length h
  refine ⟨S, _, Snap.Le.refl S, hs.reenvL (g := L t) ?_ (fun b e => ⟨hs.lin t b e, fun u hu e' => hu (hs.linj u t b e' e)⟩)⟩
  simp only [RepT]
  rcases hr with ⟨hy, he, hb⟩ | ⟨g, cap, hb, hy, ho⟩
  · left
    refine ⟨hy, ?_, hb⟩
    subst he
    cases es' with
    | nil => rfl
    | cons _ _ => exact h.elim
  · right
    obtain ⟨o, e, cur, h1, h2, h3, h4, h5, h6, h7⟩ := ho.holds
    refine ⟨g, cap, hb, by rw [← hl]; exact hy, ho.base, ho.apart, o, e, cur, h1, h2, by rw [← hl]; exact h3, h4, all2_each h h5, ?_, ?_⟩
    · rw [← hl]; exact subL_of (all2_flatten h) h6
    · rw [← hl]; exact h7
end
end Go.Px

namespace Go.Px
section
variable {P : Program} {r : Option Nat} {N : Nat} {env : Env} {H : Heap} {D : List Nat} {dst : Option Nat} {K : Env → Heap → List Nat → Prop}
theorem arr3 {α : Type} {a : Array α} {x y z : α} (h : a.toList = [x, y, z]) : a = #[x, y, z] := by cases a; simp_all
theorem Op1.min3 {ts : List TypeId} {ty : TypeId} {x y z : Operand} {kd : IntKind} {a b c : Int} (hx : evO env x = .v (.int kd a)) (hy : evO env y = .v (.int kd b)) (hz : evO env z = .v (.int kd c)) (k : K (updO env dst (.v (.int kd (min (min a b) c)))) H D) :
    Op1 P r N (.min ts ty [x, y, z]) dst env H D K :=
  Op1.pure rfl (by simp) (fun o hlo C ac w S L hs => ⟨.int kd (min (min a b) c), by
    generalize hxs : [x, y, z] = xs at hlo
    cases hlo with
    | min hop =>
      rw [arr3 hxs.symm] at hop
      have e : ∀ p q : Int, min p q = if q < p then q else p := by
        intro p q
        rw [Int.min_def]; split <;> split <;> omega
      simp [execOp, hop, resolve, invoke, builtin, Builtin.min_, Builtin.min2, hs.int hx, hs.int hy, hs.int hz, e], by simp [Rep]⟩) k
end
section
variable {P : Program} {r : Option Nat} {N : Nat} {env : Env} {H : Heap} {D : List Nat} {Q : Post}
end
end Go.Px

