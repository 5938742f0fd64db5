/- Part 1 of the proof of the statement LetterMarks (contracts of the functions that it alone wants). No conditions. -/
import Derived.Test.YtbplgdbdpdhipaaA7
namespace Go.Px
section
variable {P : Program} {r : Option Nat} {N : Nat} {env : Env} {H : Heap} {D : List Nat} {Q : Post}
theorem getI {l : List Int} {n : Nat} {x : Int} (h : l[n]? = some x) : (l.map fun x => [I x])[n]? = some [I x] := by
  rw [List.getElem?_map, h]; rfl
end
end Go.Px

namespace Go.Px
section
variable {P : Program} {r : Option Nat} {N : Nat} {env : Env} {H : Heap} {D : List Nat} {dst : Option Nat} {K : Env → Heap → List Nat → Prop}
theorem arr3 {α : Type} {a : Array α} {x y z : α} (h : a.toList = [x, y, z]) : a = #[x, y, z] := by cases a; simp_all
theorem Op1.min3 {ts : List TypeId} {ty : TypeId} {x y z : Operand} {kd : IntKind} {a b c : Int} (hx : evO env x = .v (.int kd a)) (hy : evO env y = .v (.int kd b)) (hz : evO env z = .v (.int kd c)) (k : K (updO env dst (.v (.int kd (min (min a b) c)))) H D) :
    Op1 P r N (.min ts ty [x, y, z]) dst env H D K :=
  Op1.pure rfl (by simp) (fun o hlo C ac w S L hs => ⟨.int kd (min (min a b) c), by
    generalize hxs : [x, y, z] = xs at hlo
    cases hlo with
    | min hop =>
      rw [arr3 hxs.symm] at hop
      have e : ∀ p q : Int, min p q = if q < p then q else p := by
        intro p q
        rw [Int.min_def]; split <;> split <;> omega
      simp [execOp, hop, resolve, invoke, builtin, Builtin.min_, Builtin.min2, hs.int hx, hs.int hy, hs.int hz, e], by simp [Rep]⟩) k
end
section
variable {P : Program} {r : Option Nat} {N : Nat} {env : Env} {H : Heap} {D : List Nat} {Q : Post}
end
end Go.Px

