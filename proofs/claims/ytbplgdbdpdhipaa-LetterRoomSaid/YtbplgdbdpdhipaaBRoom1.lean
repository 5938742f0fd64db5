/- Part 1 of the proof of the statement LetterRoom (contracts of the functions that it alone wants). No conditions. -/
import Derived.Test.YtbplgdbdpdhipaaA7
namespace Go.Px
section
variable {P : Program} {r : Option Nat} {N : Nat} {env : Env} {H : Heap} {D : List Nat} {dst : Option Nat} {K : Env → Heap → List Nat → Prop} {Q : Post}
theorem LWp.shx {y : LCode} {gs : List (Nat × Bool)} {ls : List LOper} {hs hs' : List Hint} {env' : Env} {H' : Heap} {ob : Prop} (h : hrun P gs ls hs env H = (env', H', [], hs', ob)) (o : ob) (k : LWp P r N y Q env' H' D) : LWp P r N (.seq (.ops ls) y) Q env H D := LWp.seq (LWp.hx h o k)
end
end Go.Px

