/- Part 1 of the proof of the statement PersonKnown (contracts of the functions that it alone wants). No conditions. -/
import Derived.Test.YtcioapljmakidaaD7
import Derived.Test.YtcioapljmakidaaChecked
import Derived.KernelRfl
namespace Go.Px
open Go.Proofs
set_option maxRecDepth 100000
def L3 : LCode :=
 (.seq
 (.ops [ow 0 (.mov (.const (.bool false)))])
 (.seq
 (.ops [ow 16 (.call 4 [(kc 0)] 29), ow 17 (.call 4 [(kc 1)] 29), ow 1 (.alloc 29 [(.int .i64 0), (.slice none 0 0), (.slice none 0 0), (.int .i64 0), (.slice none 0 0), (.slice none 0 0)]), ow 2 (.alloc 29 [(.int .i64 0), (.slice none 0 0), (.slice none 0 0), (.int .i64 0), (.slice none 0 0), (.slice none 0 0)]), ⟨none, none, .store 29 (tm 1) (tm 16) 6⟩, ⟨none, none, .store 29 (tm 2) (tm 17) 6⟩])
 (.seq
 (.ops [ow 19 (.load 29 (tm 2) (some 6)), ow 20 (.call 5 [(tm 19)] 33), om 18 20, ow 21 (.extract (tm 18) 0), ow 22 (.extract (tm 18) 1), ow 23 (.extract (tm 18) 2), om 3 21, om 4 22, om 5 23])
 (.seq
 (.ops [ow 25 (.load 29 (tm 1) (some 6)), ow 26 (.call 6 [(tm 25)] 37), om 24 26, ow 27 (.extract (tm 24) 0), ow 28 (.extract (tm 24) 1), ow 6 (.alloc 36 [(.int .i64 0), (.int .i64 0)]), ⟨none, none, .store 36 (tm 6) (tm 27) 2⟩, om 7 28])
 (.seq
 (.ops [ow 30 (.load 29 (tm 1) (some 6)), ow 31 (.call 7 [(tm 30), (kc 0)] 37), om 29 31, ow 32 (.extract (tm 29) 0), ow 33 (.extract (tm 29) 1), ow 8 (.alloc 36 [(.int .i64 0), (.int .i64 0)]), ⟨none, none, .store 36 (tm 8) (tm 32) 2⟩, om 9 33])
 (.seq
 (.ops [ow 35 (.load 29 (tm 1) (some 6)), ow 36 (.call 7 [(tm 35), (kc 3)] 37), om 34 36, ow 37 (.extract (tm 34) 0), ow 38 (.extract (tm 34) 1), ow 10 (.alloc 36 [(.int .i64 0), (.int .i64 0)]), ⟨none, none, .store 36 (tm 10) (tm 37) 2⟩, om 11 38])
 (.seq
 (.ops [ow 40 (.load 29 (tm 1) (some 6)), ow 41 (.call 8 [(tm 40), (kc 2), (kc 3)] 40), om 39 41, ow 42 (.extract (tm 39) 0), ow 43 (.extract (tm 39) 1), om 12 42, om 13 43])
 (.seq
 (.ops [ow 45 (.load 29 (tm 2) (some 6)), ow 46 (.call 9 [(tm 45)] 42), om 44 46, ow 47 (.extract (tm 44) 0), ow 48 (.extract (tm 44) 1), om 14 47, om 15 48])
 (.seq
 (.dops [(om 49 5, []), (ow 50 (.bin .eql 32 (tm 49) (kc 0)), [0]), (om 51 50, [1]), (oy 52 51 (.mov (tm 7)), [2]), (oy 53 51 (.bin .eql 32 (tm 52) (kc 0)), [3, 2]), (ow 54 (.pick (tm 51) (tm 53) (.const (.bool false))), [2, 4]), (om 55 54, [5, 2]), (oy 56 55 (.mov (tm 9)), [6]), (oy 57 55 (.bin .eql 32 (tm 56) (kc 0)), [7, 6]), (ow 58 (.pick (tm 55) (tm 57) (.const (.bool false))), [6, 8]), (om 59 58, [9, 6]), (oy 60 59 (.mov (tm 11)), [10]), (oy 61 59 (.bin .eql 32 (tm 60) (kc 0)), [11, 10]), (ow 62 (.pick (tm 59) (tm 61) (.const (.bool false))), [10, 12]), (om 63 62, [13, 10]), (oy 64 63 (.mov (tm 13)), [14]), (oy 65 63 (.bin .eql 32 (tm 64) (kc 0)), [15, 14]), (ow 66 (.pick (tm 63) (tm 65) (.const (.bool false))), [14, 16]), (om 67 66, [17, 14]), (oy 68 67 (.mov (tm 15)), [18]), (oy 69 67 (.bin .eql 32 (tm 68) (kc 0)), [19, 18]), (ow 70 (.pick (tm 67) (tm 69) (.const (.bool false))), [18, 20]), (om 71 70, [21, 18]), (oy 72 71 (.mov (tm 3)), [22]), (oy 73 71 (.bslice 31 4 [(0, (kc 0)), (1, (kc 0)), (2, (kc 1)), (3, (kc 1))] 3 1 [(.int .i64 0)]), [22]), (oy 74 71 (.call 10 [(tm 72), (tm 73)] 4), [23, 24, 22, 22]), (ow 75 (.pick (tm 71) (tm 74) (.const (.bool false))), [22, 25]), (om 76 75, [26, 25]), (oy 77 76 (.load 36 (tm 6) (some 2)), [27]), (oy 78 76 (.call 11 [(kc 2), (kc 4)] 36), [27, 27]), (oy 79 76 (.eqT false 36 (tm 77) (tm 78)), [28, 29, 27]), (ow 80 (.pick (tm 76) (tm 79) (.const (.bool false))), [27, 30]), (om 81 80, [31, 29]), (oy 82 81 (.load 36 (tm 8) (some 2)), [32]), (oy 83 81 (.call 11 [(kc 100), (kc 110)] 36), [32, 32]), (oy 84 81 (.eqT false 36 (tm 82) (tm 83)), [33, 34, 32]), (ow 85 (.pick (tm 81) (tm 84) (.const (.bool false))), [32, 35]), (om 86 85, [36, 34]), (oy 87 86 (.load 36 (tm 10) (some 2)), [37]), (oy 88 86 (.call 11 [(kc 130), (kc 140)] 36), [37, 37]), (oy 89 86 (.eqT false 36 (tm 87) (tm 88)), [38, 39, 37]), (ow 90 (.pick (tm 86) (tm 89) (.const (.bool false))), [37, 40]), (om 91 90, [41, 39]), (oy 92 91 (.mov (tm 12)), [42]), (oy 93 91 (.bin .eql 3 (tm 92) (kc 0)), [43, 42]), (ow 94 (.pick (tm 91) (tm 93) (.const (.bool false))), [42, 44]), (om 95 94, [45, 42]), (oy 96 95 (.mov (tm 14)), [46]), (oy 97 95 (.len false 31 3 (tm 96)), [47, 46]), (oy 98 95 (.bin .eql 3 (tm 97) (kc 0)), [48, 46]), (ow 99 (.pick (tm 95) (tm 98) (.const (.bool false))), [46, 49]), (om 100 99, [50, 46]), (oy 101 100 (.call 12 [] 4), [51, 51]), (ow 102 (.pick (tm 100) (tm 101) (.const (.bool false))), [51, 52]), (om 0 102, [53, 52, 0, 1, 2, 3, 4, 5, 6, 7, 8, 9, 10, 11, 12, 13, 14, 15, 16, 17, 18, 19, 20, 21, 22, 23, 24, 25, 26, 27, 28, 29, 30, 31, 32, 33, 34, 35, 36, 37, 38, 39, 40, 41, 42, 43, 44, 45, 46, 47, 48, 49, 50, 51, 52, 53])]) .ret)))))))))
theorem fn3 : FnOK Try.prog 3 103 [.tmp 0] L3 := ⟨Try.f3, Try.func3, by kernel_rfl, Try.ntmps3, by rw [Try.results3], by kernel_rfl⟩
end Go.Px

namespace Go.Px
open Go.Proofs Go.MapKept
theorem known_two : entE (townB (tiesX 0)) (oneE (townB (tiesX 0)) 0) = 0 ∧ entE (townB (tiesX 0)) (oneE (townB (tiesX 0)) 3) = 0 ∧ entE (townB (tiesX 0)) (twoE (townB (tiesX 0)) 2 3) = 0 := by
  refine ⟨?_, ?_, ?_⟩ <;> kernel_rfl
theorem town1_G : setG (townB (tiesX 1)) [] = true := by
  unfold setG
  show (!(truthsL (townB (tiesX 1)) (butL [])).isEmpty) = true
  rw [butL_nil, town1_T]; rfl
theorem known3_facts : firstT (townB (tiesX 1)) = ([0, 0, 1, 1], 2, 0) ∧ personsT (townB (tiesX 0)) = ((2, 4), 0) ∧ bornT (townB (tiesX 0)) 0 = ((100, 110), 0) ∧ bornT (townB (tiesX 0)) 3 = ((130, 140), 0) ∧ whyT (townB (tiesX 0)) 2 3 = (0, 0) ∧ wrongT (townB (tiesX 1)) = ([], 0) := by
  obtain ⟨e1, e2, e3⟩ := known_two
  refine ⟨?_, ?_, ?_, ?_, ?_, ?_⟩
  · unfold firstT
    rw [if_pos (someX town1_T town1_E), town1_T]; rfl
  · unfold personsT
    rw [if_pos (someX town0_T town0_E), town0_T]; rfl
  · unfold bornT
    rw [if_pos (someX town0_T e1), town0_T]; kernel_rfl
  · unfold bornT
    rw [if_pos (someX town0_T e2), town0_T]; kernel_rfl
  · unfold whyT
    rw [if_pos e3]; kernel_rfl
  · obtain ⟨p1, p2⟩ := wrong_plain (t := townB (tiesX 1)) (m := 0) (i := 0) (c := []) rfl town1_G (fun m' hm => by omega) (fun j c' hj => by omega)
    unfold wrongT
    rw [if_pos town1_E, if_pos p1, p2]; rfl
set_option maxRecDepth 20000 in
theorem personKnown_ev : Ev Try.prog 3 [] (B true) := by
  obtain ⟨f1, f2, f3, f4, f5, f6⟩ := known3_facts
  have e1 := pfirst_ev _ (townB_wf (tiesX 1))
  have e2 := ppersons_ev _ (townB_wf (tiesX 0))
  have e3 := pborn_ev _ (townB_wf (tiesX 0)) 0
  have e4 := pborn_ev _ (townB_wf (tiesX 0)) 3
  have e5 := pwhy_ev _ (townB_wf (tiesX 0)) 2 3
  have e6 := pwrong_ev _ (townB_wf (tiesX 1))
  have w0 : Ev Try.prog 4 [I 0] (.agg (townB (tiesX 0)).enc) := town_ev 0 (by omega)
  have w1 : Ev Try.prog 4 [I 1] (.agg (townB (tiesX 1)).enc) := town_ev 1 (by omega)
  rw [f1] at e1
  rw [f2] at e2
  rw [f3] at e3
  rw [f4] at e4
  rw [f5] at e5
  rw [f6] at e6
  generalize townB (tiesX 0) = T0 at e2 e3 e4 e5 w0
  generalize townB (tiesX 1) = T1 at e1 e6 w1
  refine Ev.intro fn3 ?_
  refine LWp.sx (gs := []) (hs := []) rfl trivial ?_
  refine LWp.sx (gs := []) (hs := [.ret (.agg T0.enc), .ret (.agg T1.enc), .lin, .lin]) rfl ⟨w0, w1, rfl, rfl, ⟨rfl, rfl, rfl, by decide⟩, ⟨rfl, rfl, rfl, by decide⟩, trivial⟩ ?_
  refine LWp.ent (Ent.trans (Ent.freezeLbox (t := 1) rfl) (Ent.freezeLbox (t := 2) rfl)) ?_
  refine LWp.ent (Ent.el (l := [(1, .pi T0.enc), (2, .pi T1.enc)]) ⟨rfl, rfl, trivial⟩) ?_
  refine LWp.sx (gs := []) (hs := [.ret (.tup [ints [0, 0, 1, 1], I 2, I 0])]) rfl ⟨e1, trivial⟩ ?_
  refine LWp.sx (gs := []) (hs := [.ret (.tup [.agg [I 2, I 4], I 0]), .lin]) rfl ⟨e2, rfl, ⟨rfl, rfl, rfl, by decide⟩, trivial⟩ ?_
  refine LWp.ent (Ent.freezeLbox (t := 6) rfl) ?_
  refine LWp.sx (gs := []) (hs := [.ret (.tup [.agg [I 100, I 110], I 0]), .lin]) rfl ⟨e3, rfl, ⟨rfl, rfl, rfl, by decide⟩, trivial⟩ ?_
  refine LWp.ent (Ent.freezeLbox (t := 8) rfl) ?_
  refine LWp.sx (gs := []) (hs := [.ret (.tup [.agg [I 130, I 140], I 0]), .lin]) rfl ⟨e4, rfl, ⟨rfl, rfl, rfl, by decide⟩, trivial⟩ ?_
  refine LWp.ent (Ent.freezeLbox (t := 10) rfl) ?_
  refine LWp.sx (gs := []) (hs := [.ret (.tup [I 0, I 0])]) rfl ⟨e5, trivial⟩ ?_
  refine LWp.sx (gs := []) (hs := [.ret (.tup [ints [], I 0])]) rfl ⟨e6, trivial⟩ ?_
  have i1 := ints_ev [0, 0, 1, 1] [0, 0, 1, 1]
  have s1 := lspan_ev 2 4
  have s2 := lspan_ev 100 110
  have s3 := lspan_ev 130 140
  have wide1 : spB 1000000 (2, 4) := ⟨by decide, by decide, by decide, by decide⟩
  have wide2 : spB 1000000 (100, 110) := ⟨by decide, by decide, by decide, by decide⟩
  have wide3 : spB 1000000 (130, 140) := ⟨by decide, by decide, by decide, by decide⟩
  refine LWp.ent (Ent.el (l := [(3, ints [0, 0, 1, 1]), (4, I 2), (5, I 0), (6, .pi [I 2, I 4]), (7, I 0), (8, .pi [I 100, I 110]), (9, I 0), (10, .pi [I 130, I 140]), (11, I 0), (12, I 0), (13, I 0), (14, ints []), (15, I 0)]) ⟨rfl, rfl, rfl, rfl, rfl, rfl, rfl, rfl, rfl, rfl, rfl, rfl, rfl, trivial⟩) ?_
  refine LWp.sd (gs := [(51, true), (55, true), (59, true), (63, true), (67, true), (71, true), (76, true), (81, true), (86, true), (91, true), (95, true), (100, true)]) (hs := [.ice, .ret (B true), .ret (.agg [I 2, I 4]), .op (B true), .ret (.agg [I 100, I 110]), .op (B true), .ret (.agg [I 130, I 140]), .op (B true), .ret (B true)]) hmix rfl (by kernel_rfl) (by (repeat' (with_reducible apply And.intro)); (all_goals first | (with_reducible exact trivial) | (with_reducible rfl) | (with_reducible assumption) | ((with_reducible apply isB); first | exact rfl | exact beq_self_eq_true _) | omega | ((first | exact i1 | exact s1 | exact s2 | exact s3 | exact awake3_ev | exact op_eqSpan (x := (2, 4)) (y := (2, 4)) rfl rfl wide1 wide1 | exact op_eqSpan (x := (100, 110)) (y := (100, 110)) rfl rfl wide2 wide2 | exact op_eqSpan (x := (130, 140)) (y := (130, 140)) rfl rfl wide3 wide3 | rfl)))) ?_
  refine LWp.ret (retT (.inr rfl) (.one (.tmp ?_ rfl)))
  rfl
end Go.Px

