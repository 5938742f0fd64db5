/- Part 1 of the proof of the statement LetterKnown (contracts of the functions that it alone wants). No conditions. -/
import Derived.Test.YtbplgdbdpdhipaaA7
import Derived.Test.YtbplgdbdpdhipaaChecked
import Derived.KernelRfl
namespace Go.Px
open Go.Proofs
set_option maxRecDepth 100000
def L8 : LCode :=
 (.seq
 (.ops [⟨(some 0), none, .mov (.const (.bool false))⟩])
 (.seq
 (.ops [⟨(some 14), none, .call 41 [] 24⟩,
 ⟨(some 1), none, .alloc 24 [(.int .i64 0), (.slice none 0 0)]⟩,
 ⟨none, none, .store 24 (tm 1) (tm 14) 2⟩])
 (.seq
 (.ops [⟨(some 15), none, .call 42 [(.const (.string ⟨#[116, 111, 32, 116, 104, 101, 32, 106, 117, 100, 103, 101, 32, 105, 32, 97, 115, 107, 32, 109, 101, 114, 99, 121]⟩))] 29⟩,
 ⟨(some 2), none, .mov (tm 15)⟩])
 (.seq
 (.ops [⟨(some 17), none, .load 24 (tm 1) (some 2)⟩,
 ⟨(some 18), none, .mov (tm 2)⟩,
 ⟨(some 19), none, .call 22 [(tm 17), (tm 18)] 36⟩,
 ⟨(some 16), none, .mov (tm 19)⟩,
 ⟨(some 20), none, .extract (tm 16) 0⟩,
 ⟨(some 21), none, .extract (tm 16) 1⟩,
 ⟨(some 3), none, .mov (tm 20)⟩,
 ⟨(some 4), none, .mov (tm 21)⟩])
 (.seq
 (.dops [(⟨(some 23), none, .load 24 (tm 1) (some 2)⟩, []),
 (⟨(some 24), none, .call 42 [(.const (.string ⟨#[116, 111, 32, 116, 104, 101, 32, 105, 32, 97, 115, 107, 32, 105, 32, 97, 115, 107]⟩))] 29⟩, []),
 (⟨(some 25), none, .call 22 [(tm 23), (tm 24)] 36⟩, [0, 1, 1]),
 (⟨(some 22), none, .mov (tm 25)⟩, [2]),
 (⟨(some 26), none, .extract (tm 22) 0⟩, [3]),
 (⟨(some 27), none, .extract (tm 22) 1⟩, [3]),
 (⟨(some 5), none, .mov (tm 26)⟩, [4, 2, 0, 1, 2, 3, 4]),
 (⟨(some 6), none, .mov (tm 27)⟩, [5, 6, 0, 1, 2, 3, 4, 5, 6])])
 (.seq
 (.ops [⟨(some 29), none, .load 24 (tm 1) (some 2)⟩,
 ⟨(some 30), none, .mov (tm 2)⟩,
 ⟨(some 31), none, .call 25 [(tm 29), (kc 0), (tm 30)] 39⟩,
 ⟨(some 28), none, .mov (tm 31)⟩,
 ⟨(some 32), none, .extract (tm 28) 0⟩,
 ⟨(some 33), none, .extract (tm 28) 1⟩,
 ⟨(some 34), none, .extract (tm 28) 2⟩,
 ⟨(some 7), none, .mov (tm 32)⟩,
 ⟨(some 8), none, .mov (tm 33)⟩,
 ⟨(some 9), none, .mov (tm 34)⟩])
 (.seq
 (.ops [⟨(some 36), none, .load 24 (tm 1) (some 2)⟩,
 ⟨(some 37), none, .mov (tm 2)⟩,
 ⟨(some 38), none, .call 37 [(tm 36), (kc 0), (tm 37)] 53⟩,
 ⟨(some 35), none, .mov (tm 38)⟩,
 ⟨(some 39), none, .extract (tm 35) 0⟩,
 ⟨(some 40), none, .extract (tm 35) 1⟩,
 ⟨(some 10), none, .mov (tm 39)⟩,
 ⟨(some 11), none, .mov (tm 40)⟩])
 (.seq
 (.ops [⟨(some 42), none, .load 24 (tm 1) (some 2)⟩,
 ⟨(some 43), none, .mov (tm 2)⟩,
 ⟨(some 44), none, .call 37 [(tm 42), (kc 1), (tm 43)] 53⟩,
 ⟨(some 41), none, .mov (tm 44)⟩,
 ⟨(some 45), none, .extract (tm 41) 0⟩,
 ⟨(some 46), none, .extract (tm 41) 1⟩,
 ⟨(some 12), none, .mov (tm 45)⟩,
 ⟨(some 13), none, .mov (tm 46)⟩])
 (.seq
 (.ops [⟨(some 47), none, .mov (tm 4)⟩,
 ⟨(some 48), none, .bin .eql 26 (tm 47) (kc 0)⟩,
 ⟨(some 49), none, .mov (tm 48)⟩,
 ⟨(some 50), some (49, true), .mov (tm 6)⟩,
 ⟨(some 51), some (49, true), .bin .eql 26 (tm 50) (kc 0)⟩,
 ⟨(some 52), none, .pick (tm 49) (tm 51) (.const (.bool false))⟩,
 ⟨(some 53), none, .mov (tm 52)⟩,
 ⟨(some 54), some (53, true), .mov (tm 9)⟩,
 ⟨(some 55), some (53, true), .bin .eql 26 (tm 54) (kc 0)⟩,
 ⟨(some 56), none, .pick (tm 53) (tm 55) (.const (.bool false))⟩,
 ⟨(some 57), none, .mov (tm 56)⟩,
 ⟨(some 58), some (57, true), .mov (tm 11)⟩,
 ⟨(some 59), some (57, true), .bin .eql 26 (tm 58) (kc 0)⟩,
 ⟨(some 60), none, .pick (tm 57) (tm 59) (.const (.bool false))⟩,
 ⟨(some 61), none, .mov (tm 60)⟩,
 ⟨(some 62), some (61, true), .mov (tm 13)⟩,
 ⟨(some 63), some (61, true), .bin .eql 26 (tm 62) (kc 0)⟩,
 ⟨(some 64), none, .pick (tm 61) (tm 63) (.const (.bool false))⟩,
 ⟨(some 65), none, .mov (tm 64)⟩,
 ⟨(some 66), some (65, true), .mov (tm 3)⟩,
 ⟨(some 67), some (65, true), .bslice 35 1 [(0, (kc 0))] 3 1 [(.int .i64 0)]⟩,
 ⟨(some 68), some (65, true), .call 24 [(tm 66), (tm 67)] 4⟩,
 ⟨(some 69), none, .pick (tm 65) (tm 68) (.const (.bool false))⟩,
 ⟨(some 70), none, .mov (tm 69)⟩,
 ⟨(some 71), some (70, true), .mov (tm 5)⟩,
 ⟨(some 72), some (70, true), .bslice 35 1 [(0, (kc 1))] 3 1 [(.int .i64 0)]⟩,
 ⟨(some 73), some (70, true), .call 24 [(tm 71), (tm 72)] 4⟩,
 ⟨(some 74), none, .pick (tm 70) (tm 73) (.const (.bool false))⟩,
 ⟨(some 75), none, .mov (tm 74)⟩,
 ⟨(some 76), some (75, true), .mov (tm 7)⟩,
 ⟨(some 77), some (75, true), .call 42 [(.const (.string ⟨#[106, 117, 100, 103, 101]⟩))] 29⟩,
 ⟨(some 78), some (75, true), .call 42 [(.const (.string ⟨#[109, 101, 114, 99, 121]⟩))] 29⟩,
 ⟨(some 79), some (75, true), .bslice 25 2 [(0, (tm 77)), (1, (tm 78))] 29 1 [(.slice none 0 0)]⟩,
 ⟨(some 80), some (75, true), .call 27 [(tm 76), (tm 79)] 4⟩,
 ⟨(some 81), none, .pick (tm 75) (tm 80) (.const (.bool false))⟩,
 ⟨(some 82), none, .mov (tm 81)⟩,
 ⟨(some 83), some (82, true), .mov (tm 8)⟩,
 ⟨(some 84), some (82, true), .bin .eql 3 (tm 83) (kc 1)⟩,
 ⟨(some 85), none, .pick (tm 82) (tm 84) (.const (.bool false))⟩,
 ⟨(some 86), none, .mov (tm 85)⟩,
 ⟨(some 87), some (86, true), .mov (tm 10)⟩,
 ⟨(some 88), some (86, true), .bin .eql 3 (tm 87) (kc 0)⟩,
 ⟨(some 89), none, .pick (tm 86) (tm 88) (.const (.bool false))⟩,
 ⟨(some 90), none, .mov (tm 89)⟩,
 ⟨(some 91), some (90, true), .mov (tm 12)⟩,
 ⟨(some 92), some (90, true), .bin .eql 3 (tm 91) (kc 1)⟩,
 ⟨(some 93), none, .pick (tm 90) (tm 92) (.const (.bool false))⟩,
 ⟨(some 94), none, .mov (tm 93)⟩,
 ⟨(some 95), some (94, true), .call 21 [] 4⟩,
 ⟨(some 96), none, .pick (tm 94) (tm 95) (.const (.bool false))⟩,
 ⟨(some 0), none, .mov (tm 96)⟩])
 .ret)))))))))
theorem fn8 : FnOK Try.prog 8 97 [.tmp 0] L8 := ⟨Try.f8, Try.func8, by kernel_rfl, Try.ntmps8, by rw [Try.results8], by kernel_rfl⟩
end Go.Px

namespace Go.Px
open Go.Proofs
theorem known_facts : ofR shelfB wA = ([0], 0) ∧ ofR shelfB [[116, 111], [116, 104, 101], [105], [97, 115, 107], [105], [97, 115, 107]] = ([1], 0) ∧ fillsR shelfB 0 wA = ([[[106, 117, 100, 103, 101]], [[109, 101, 114, 99, 121]]], 1, 0) ∧ mendR shelfB 0 wA = (0, 0) ∧ mendR shelfB 1 wA = (1, 0) := by
  refine ⟨?_, ?_, ?_, ?_, ?_⟩ <;> kernel_rfl
set_option maxRecDepth 20000 in
theorem letterKnown_ev : Ev Try.prog 8 [] (B true) := by
  obtain ⟨f1, f2, f3, f4, f5⟩ := known_facts
  have e1 := of_ev shelfB shelfB_wf wA
  have e2 := of_ev shelfB shelfB_wf [[116, 111], [116, 104, 101], [105], [97, 115, 107], [105], [97, 115, 107]]
  have e3 := fills_ev shelfB shelfB_wf 0 wA
  have e4 := mend_ev shelfB shelfB_wf 0 wA
  have e5 := mend_ev shelfB shelfB_wf 1 wA
  rw [f1] at e1
  rw [f2] at e2
  rw [f3] at e3
  rw [f4] at e4
  rw [f5] at e5
  have w1 : Ev Try.prog 42 [Str [116, 111, 32, 116, 104, 101, 32, 106, 117, 100, 103, 101, 32, 105, 32, 97, 115, 107, 32, 109, 101, 114, 99, 121]] (strs wA) := words_ev _ (by decide)
  have w2 : Ev Try.prog 42 [Str [116, 111, 32, 116, 104, 101, 32, 105, 32, 97, 115, 107, 32, 105, 32, 97, 115, 107]] (strs [[116, 111], [116, 104, 101], [105], [97, 115, 107], [105], [97, 115, 107]]) := words_ev _ (by decide)
  have w3 : Ev Try.prog 42 [Str [106, 117, 100, 103, 101]] (strs [[106, 117, 100, 103, 101]]) := words_ev _ (by decide)
  have w4 : Ev Try.prog 42 [Str [109, 101, 114, 99, 121]] (strs [[109, 101, 114, 99, 121]]) := words_ev _ (by decide)
  have i0 := ints_refl [0]
  have i1 := ints_refl [1]
  have i2 := sames_refl [[[106, 117, 100, 103, 101]], [[109, 101, 114, 99, 121]]]
  refine Ev.intro fn8 ?_
  refine LWp.sx (gs := []) (hs := []) rfl trivial ?_
  refine LWp.sx (gs := []) (hs := [.ret (.agg shelfB.enc), .lin]) rfl ⟨shelf_ev, rfl, ⟨rfl, rfl, rfl, by decide⟩, trivial⟩ ?_
  refine LWp.ent (Ent.freezeLbox (t := 1) rfl) ?_
  refine LWp.sx (gs := []) (hs := [.ret (strs wA)]) rfl ⟨w1, trivial⟩ ?_
  refine LWp.sx (gs := []) (hs := [.ret (.tup [ints [0], I 0])]) rfl ⟨e1, trivial⟩ ?_
  refine LWp.sd (gs := []) (hs := [.ret (strs [[116, 111], [116, 104, 101], [105], [97, 115, 107], [105], [97, 115, 107]]), .ret (.tup [ints [1], I 0])]) hmix rfl (by kernel_rfl) ⟨w2, e2, trivial⟩ ?_
  refine LWp.sx (gs := []) (hs := [.ret (.tup [fillsV [[[106, 117, 100, 103, 101]], [[109, 101, 114, 99, 121]]], I 1, I 0])]) rfl ⟨e3, trivial⟩ ?_
  refine LWp.sx (gs := []) (hs := [.ret (.tup [I 0, I 0])]) rfl ⟨e4, trivial⟩ ?_
  refine LWp.sx (gs := []) (hs := [.ret (.tup [I 1, I 0])]) rfl ⟨e5, trivial⟩ ?_
  refine LWp.seq (LWp.ops ?_)
  refine WOps.ent (Ent.el (l := [(4, I 0), (6, I 0), (9, I 0), (11, I 0), (13, I 0), (3, ints [0]), (5, ints [1]), (7, fillsV [[[106, 117, 100, 103, 101]], [[109, 101, 114, 99, 121]]]), (8, I 1), (10, I 0), (12, I 1)]) ⟨rfl, rfl, rfl, rfl, rfl, rfl, rfl, rfl, rfl, rfl, rfl, trivial⟩) ?_
  refine WOps.xn (gs := [(49, true), (53, true), (57, true), (61, true)]) (hs := []) 18 rfl rfl (by (repeat' (with_reducible apply And.intro)); (all_goals try first | (with_reducible exact trivial) | (with_reducible rfl) | (with_reducible assumption) | ((with_reducible apply isB); first | exact rfl | exact beq_self_eq_true _))) ?_
  refine WOps.ent (Ent.el (l := [(64, B true), (3, ints [0]), (5, ints [1]), (7, fillsV [[[106, 117, 100, 103, 101]], [[109, 101, 114, 99, 121]]]), (8, I 1), (10, I 0), (12, I 1)]) ⟨rfl, rfl, rfl, rfl, rfl, rfl, rfl, trivial⟩) ?_
  refine WOps.xn (gs := [(65, true), (70, true)]) (hs := [.ice, .ret (B true), .ice, .ret (B true)]) 10 rfl rfl (by (repeat' (with_reducible apply And.intro)); (all_goals try first | (with_reducible exact trivial) | (with_reducible rfl) | (with_reducible assumption) | ((with_reducible apply isB); first | exact rfl | exact beq_self_eq_true _)); exact i0; exact i1) ?_
  refine WOps.ent (Ent.el (l := [(74, B true), (7, fillsV [[[106, 117, 100, 103, 101]], [[109, 101, 114, 99, 121]]]), (8, I 1), (10, I 0), (12, I 1)]) ⟨rfl, rfl, rfl, rfl, rfl, trivial⟩) ?_
  refine WOps.xd (gs := [(75, true), (82, true), (86, true), (90, true), (94, true)]) (hs := [.ret (strs [[106, 117, 100, 103, 101]]), .ret (strs [[109, 101, 114, 99, 121]]), .ice, .ret (B true), .ret (B true)]) rfl (by (repeat' (with_reducible apply And.intro)); (all_goals try first | (with_reducible exact trivial) | (with_reducible rfl) | (with_reducible assumption) | ((with_reducible apply isB); first | exact rfl | exact beq_self_eq_true _)); exact w3; exact w4; exact i2; exact awake_ev) ?_
  refine LWp.ret (retT (.inr rfl) (.one (.tmp ?_ rfl)))
  rfl
end Go.Px

