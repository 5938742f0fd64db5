/- Part 18 of the proof of the statements of this seat (a logic of pure contracts, the functions lowered, their contracts, the statements). No conditions. -/
import Derived.Test.YtgcdemklhalbhaaA17
namespace Go.Px
open Go.Proofs

theorem letter_ev (c s : Int) (q : Bool) : Ev Try.prog 82 [U c, I s, B q] (.agg [U c, I s, B q]) := by
  refine Ev.intro fn82 ?_
  refine LWp.sx (gs := []) (hs := [.lin]) rfl ⟨rfl, trivial⟩ ?_
  refine LWp.sx (gs := []) (hs := []) rfl ⟨⟨rfl, rfl, rfl, by decide⟩, trivial⟩ ?_
  refine LWp.ent (Ent.freezeLbox (t := 6) rfl) (LWp.ret (retT (.inr rfl) (.one (.cellI (n := some 3) (upd_same _ _ _) (by kernel_rfl) rfl))))

/-- The book of the examples. -/
def bookB : Book :=
  { n := 3
    al := [⟨[114, 111, 109, 97, 110], [⟨97, 1, false⟩, ⟨101, 3, false⟩, ⟨107, 4, false⟩, ⟨104, 0, true⟩]⟩, ⟨[97, 98, 106, 97, 100], [⟨107, 4, false⟩, ⟨121, 2, true⟩, ⟨110, 1, false⟩]⟩]
    ss := [⟨0, [107, 101]⟩, ⟨1, [107, 121]⟩, ⟨0, [104, 107, 97]⟩, ⟨1, [107, 110]⟩] }
theorem book_ev : Ev Try.prog 37 [] (.agg bookB.enc) := by
  refine Ev.intro fn37 ?_
  refine LWp.sx (gs := []) (hs := [.lin]) rfl ⟨rfl, trivial⟩ ?_
  refine LWp.sx (gs := []) (hs := [.ret (.agg [U 97, I 1, B false]), .ret (.agg [U 101, I 3, B false]), .ret (.agg [U 107, I 4, B false]), .ret (.agg [U 104, I 0, B true]), .ice, .lin]) rfl ⟨letter_ev 97 1 false, letter_ev 101 3 false, letter_ev 107 4 false, letter_ev 104 0 true, rfl, rfl, ⟨rfl, rfl, rfl, by decide⟩, trivial⟩ ?_
  refine LWp.ent (Ent.freezeLbox (t := 1) rfl) ?_
  refine LWp.sx (gs := []) (hs := [.ret (.agg [U 107, I 4, B false]), .ret (.agg [U 121, I 2, B true]), .ret (.agg [U 110, I 1, B false]), .ice, .lin]) rfl ⟨letter_ev 107 4 false, letter_ev 121 2 true, letter_ev 110 1 false, rfl, rfl, ⟨rfl, rfl, rfl, by decide⟩, trivial⟩ ?_
  refine LWp.ent (Ent.freezeLbox (t := 2) rfl) ?_
  refine LWp.sx (gs := []) (hs := [.ice, .ice]) rfl ⟨rfl, rfl, ⟨rfl, rfl, rfl, by decide⟩, trivial⟩ ?_
  refine LWp.ent (Ent.freezeLbox (t := 0) rfl) (LWp.ret (retT (.inr rfl) (.one (.cellI (n := some 3) (upd_same _ _ _) (by kernel_rfl) rfl))))

theorem bookB_wf : bookB.wf := by
  refine ⟨by decide, by decide, ?_, ?_⟩
  · intro a ha
    simp only [bookB, List.mem_cons, List.not_mem_nil, or_false] at ha
    rcases ha with rfl | rfl
    · refine ⟨by decide, ?_⟩
      intro x hx
      simp only [List.mem_cons, List.not_mem_nil, or_false] at hx
      rcases hx with rfl | rfl | rfl | rfl <;> exact ⟨by decide, by decide, by decide, by decide⟩
    · refine ⟨by decide, ?_⟩
      intro x hx
      simp only [List.mem_cons, List.not_mem_nil, or_false] at hx
      rcases hx with rfl | rfl | rfl <;> exact ⟨by decide, by decide, by decide, by decide⟩
  · intro s hs
    simp only [bookB, List.mem_cons, List.not_mem_nil, or_false] at hs
    rcases hs with rfl | rfl | rfl | rfl <;> exact ⟨by decide, by decide, by decide⟩
theorem awake_facts : countR bookB 0 = (2, 0) ∧ firstR bookB 1 = ([2], 0) ∧ readsR bookB 1 [2, 1] = (true, 0) ∧ readsR bookB 1 [2, 0] = (false, 0) ∧ alikeR bookB 2 3 = (1, 0) ∧ alikeR bookB 0 1 = (0, 0) ∧ alikeR bookB 1 2 = (2, 0) ∧
    commonR bookB [0, 2, 3] = ([2, 0], 0) ∧ commonR bookB [1, 2] = ([], 9) ∧ oddR bookB = ([1], 0) ∧ spellR bookB 0 [2, 1] = ([107, 101], 0) ∧ spellR bookB 1 [0, 0] = ([110, 110], 0) ∧ nameB [97, 46, 57] = true ∧ nameB [46, 97] = false := by
  refine ⟨?_, ?_, ?_, ?_, ?_, ?_, ?_, ?_, ?_, ?_, ?_, ?_, ?_, ?_⟩ <;> kernel_rfl

theorem awake_ev : Ev Try.prog 21 [] (B true) := by
  obtain ⟨f1, f2, f3, f4, f5, f6, f7, f8, f9, f10, f11, f12, f13, f14⟩ := awake_facts
  have hsl : bookB.ss.length ≤ 9223372036854775807 := by decide
  have hal : bookB.al.length ≤ 9223372036854775807 := by decide
  have e1 := count_ev bookB bookB_wf hsl 0
  have e2 := efirst_ev bookB bookB_wf hsl 1
  have e3 := ereads_ev bookB bookB_wf hsl 1 [2, 1]
  have e4 := ereads_ev bookB bookB_wf hsl 1 [2, 0]
  have e5 := ealike_ev bookB bookB_wf hsl 2 3
  have e6 := ealike_ev bookB bookB_wf hsl 0 1
  have e7 := ealike_ev bookB bookB_wf hsl 1 2
  have e8 := ecommon_ev bookB bookB_wf hsl [0, 2, 3]
  have e9 := ecommon_ev bookB bookB_wf hsl [1, 2]
  have e10 := eodd_ev bookB bookB_wf hsl
  have e11 := espell_ev bookB bookB_wf hal 0 [2, 1]
  have e12 := espell_ev bookB bookB_wf hal 1 [0, 0]
  have e13 := name_ev [97, 46, 57] (by decide)
  have e14 := name_ev [46, 97] (by decide)
  rw [f1] at e1
  rw [f2] at e2
  rw [f3] at e3
  rw [f4] at e4
  rw [f5] at e5
  rw [f6] at e6
  rw [f7] at e7
  rw [f8] at e8
  rw [f9] at e9
  rw [f10] at e10
  rw [f11] at e11
  rw [f12] at e12
  rw [f13] at e13
  rw [f14] at e14
  refine Ev.intro fn21 ?_
  refine LWp.sx (gs := []) (hs := []) rfl trivial ?_
  refine LWp.sx (gs := []) (hs := [.ret (.agg bookB.enc), .lin]) rfl ⟨book_ev, rfl, ⟨rfl, rfl, rfl, by decide⟩, trivial⟩ ?_
  refine LWp.ent (Ent.freezeLbox (t := 1) rfl) ?_
  refine LWp.sx (gs := []) (hs := [.ret (.tup [I 2, I 0])]) rfl ⟨e1, trivial⟩ ?_
  refine LWp.sx (gs := []) (hs := [.ret (.tup [ints [2], I 0])]) rfl ⟨e2, trivial⟩ ?_
  refine LWp.sx (gs := []) (hs := [.ice, .ret (.tup [B true, I 0])]) rfl ⟨rfl, e3, trivial⟩ ?_
  refine LWp.sx (gs := []) (hs := [.ice, .ret (.tup [B false, I 0])]) rfl ⟨rfl, e4, trivial⟩ ?_
  refine LWp.sx (gs := []) (hs := [.ret (.tup [I 1, I 0])]) rfl ⟨e5, trivial⟩ ?_
  refine LWp.sx (gs := []) (hs := [.ret (.tup [I 0, I 0])]) rfl ⟨e6, trivial⟩ ?_
  refine LWp.sx (gs := []) (hs := [.ret (.tup [I 2, I 0])]) rfl ⟨e7, trivial⟩ ?_
  refine LWp.sx (gs := []) (hs := [.ice, .ret (.tup [ints [2, 0], I 0])]) rfl ⟨rfl, e8, trivial⟩ ?_
  refine LWp.sx (gs := []) (hs := [.ice, .ret (.tup [ints [], I 9])]) rfl ⟨rfl, e9, trivial⟩ ?_
  refine LWp.sx (gs := []) (hs := [.ret (.tup [ints [1], I 0])]) rfl ⟨e10, trivial⟩ ?_
  refine LWp.sx (gs := []) (hs := [.ice, .ret (.tup [Str [107, 101], I 0])]) rfl ⟨rfl, e11, trivial⟩ ?_
  refine LWp.sx (gs := []) (hs := [.ice, .ret (.tup [Str [110, 110], I 0])]) rfl ⟨rfl, e12, trivial⟩ ?_
  have i1 := ints_ev [2] [2]
  have i2 := ints_ev [2, 0] [2, 0]
  have i3 := ints_ev [1] [1]
  refine LWp.seq (LWp.ops ?_)
  refine WOps.ent (Ent.el (l := [(3, I 0), (5, I 0), (7, I 0), (9, I 0), (11, I 0), (13, I 0), (15, I 0), (17, I 0), (19, I 9), (21, I 0), (23, I 0), (25, I 0), (2, I 2), (4, ints [2]), (6, B true), (8, B false), (10, I 1), (12, I 0), (14, I 2), (16, ints [2, 0]), (20, ints [1]), (22, Str [107, 101]), (24, Str [110, 110])]) ⟨rfl, rfl, rfl, rfl, rfl, rfl, rfl, rfl, rfl, rfl, rfl, rfl, rfl, rfl, rfl, rfl, rfl, rfl, rfl, rfl, rfl, rfl, rfl, trivial⟩) ?_
  refine WOps.xn (gs := [(95, true), (99, true), (103, true), (107, true), (111, true), (115, true), (119, true), (123, true), (127, true), (131, true), (135, true)]) (hs := []) 47 rfl rfl (by (repeat' (with_reducible apply And.intro)); (all_goals try first | (with_reducible exact trivial) | (with_reducible rfl) | ((with_reducible apply isB); first | exact rfl | exact beq_self_eq_true _))) ?_
  refine WOps.ent (Ent.el (l := [(139, B true), (2, I 2), (4, ints [2]), (6, B true), (8, B false), (10, I 1), (12, I 0), (14, I 2), (16, ints [2, 0]), (20, ints [1]), (22, Str [107, 101]), (24, Str [110, 110])]) ⟨rfl, rfl, rfl, rfl, rfl, rfl, rfl, rfl, rfl, rfl, rfl, rfl, trivial⟩) ?_
  refine WOps.xn (gs := [(139, true), (143, true), (148, true), (151, true), (155, true)]) (hs := [.ice, .ret (B true)]) 20 rfl rfl (by (repeat' (with_reducible apply And.intro)); (all_goals try first | (with_reducible exact trivial) | (with_reducible rfl) | ((with_reducible apply isB); first | exact rfl | exact beq_self_eq_true _)); exact i1) ?_
  refine WOps.ent (Ent.el (l := [(159, B true), (12, I 0), (14, I 2), (16, ints [2, 0]), (20, ints [1]), (22, Str [107, 101]), (24, Str [110, 110])]) ⟨rfl, rfl, rfl, rfl, rfl, rfl, rfl, trivial⟩) ?_
  refine WOps.xn (gs := [(159, true), (163, true), (167, true), (172, true)]) (hs := [.ice, .ret (B true), .ice, .ret (B true)]) 18 rfl rfl (by (repeat' (with_reducible apply And.intro)); (all_goals try first | (with_reducible exact trivial) | (with_reducible rfl) | ((with_reducible apply isB); first | exact rfl | exact beq_self_eq_true _)); exact i2; exact i3) ?_
  refine WOps.ent (Ent.el (l := [(177, B true), (22, Str [107, 101]), (24, Str [110, 110])]) ⟨rfl, rfl, rfl, trivial⟩) ?_
  refine WOps.xd (gs := [(177, true), (181, true), (185, true), (188, true)]) (hs := [.ret (B true), .ret (B false)]) rfl (by (repeat' (with_reducible apply And.intro)); (all_goals try first | (with_reducible exact trivial) | (with_reducible rfl) | ((with_reducible apply isB); first | exact rfl | exact beq_self_eq_true _)); exact e13; exact e14) ?_
  refine LWp.ret (retT (.inr rfl) (.one (.tmp ?_ rfl)))
  rfl
end Go.Px

