/- Part 19 of the proof of the statements of this seat (a logic of pure contracts, the functions lowered, their contracts, the statements). No conditions. -/
import Derived.Test.YtgcdemklhalbhaaA18
namespace Go.Px
open Go.Proofs

theorem intsEq_refl (a : List Int) : intsEq a a = true := intsEq_iff.2 rfl
theorem ints_refl (a : List Int) : Ev Try.prog 26 [ints a, ints a] (B true) := by
  have := ints_ev a a
  rw [intsEq_refl] at this; exact this
theorem ub : Try.prog.underlying 4 = some .bool := by kernel_rfl

theorem earChecks_ev (b : Book) (hw : b.wf) (s : List UInt8) (hs : s.length ≤ 9223372036854775807) : Ev Try.prog 3 [.agg b.enc, Str s] (B true) := by
  have e1 := check_ev b hw
  have e2 := rcheck_ev b hw
  have e3 := name_ev s hs
  have e4 := rname_ev s hs
  generalize (check b).1 = p at e1 e2
  generalize (check b).2.1 = q at e1 e2
  generalize (check b).2.2 = r at e1 e2
  generalize nameB s = n at e3 e4
  refine Ev.intro fn3 ?_
  refine LWp.sx (gs := []) (hs := [.ice]) rfl ⟨⟨rfl, rfl⟩, trivial⟩ ?_
  refine LWp.sx (gs := []) (hs := [.ret (.tup [I p, I q, I r])]) rfl ⟨e1, trivial⟩ ?_
  refine LWp.sx (gs := []) (hs := [.ret (.tup [I p, I q, I r])]) rfl ⟨e2, trivial⟩ ?_
  refine LWp.sx (gs := [(26, true), (31, true), (36, true), (43, true)]) (hs := [.ret (B n), .ret (B n), .ret (B true)]) rfl (by (repeat' (with_reducible apply And.intro)); (all_goals try first | (with_reducible exact trivial) | (with_reducible rfl) | ((with_reducible apply isB); first | exact rfl | exact beq_self_eq_true _)); exact e3; exact e4; exact ub; exact awake_ev) ?_
  refine LWp.ret (retT (.inr rfl) (.one (.tmp ?_ rfl)))
  rfl

theorem earReads_ev (b : Book) (hw : b.wf) (hs : b.ss.length ≤ 9223372036854775807) (i : Int) (l : List Int) : Ev Try.prog 4 [.agg b.enc, I i, ints l] (B true) := by
  have e1 := count_ev b hw hs i
  have f1 := rcount_ev b hw hs i
  generalize (countR b i).1 = p1 at e1 f1
  generalize (countR b i).2 = q1 at e1 f1
  have e2 := efirst_ev b hw hs i
  have f2 := rfirst_ev b hw hs i
  generalize (firstR b i).1 = p2 at e2 f2
  generalize (firstR b i).2 = q2 at e2 f2
  have e3 := ereads_ev b hw hs i l
  have f3 := rreads_ev b hw hs i l
  generalize (readsR b i l).1 = p3 at e3 f3
  generalize (readsR b i l).2 = q3 at e3 f3
  refine Ev.intro fn4 ?_
  refine LWp.sx (gs := []) (hs := [.ice]) rfl ⟨⟨rfl, rfl⟩, trivial⟩ ?_
  refine LWp.sx (gs := []) (hs := [.ret (.tup [I p1, I q1])]) rfl ⟨e1, trivial⟩ ?_
  refine LWp.sx (gs := []) (hs := [.ret (.tup [I p1, I q1])]) rfl ⟨f1, trivial⟩ ?_
  refine LWp.seq (LWp.seq ?_)
  refine LWp.x (gs := [(30, false)]) (hs := []) rfl (by simp) ?_
  refine LWp.ite rfl (fun h => ?_) (fun _ => LWp.skip ?_)
  · simp at h
  refine LWp.sx (gs := []) (hs := [.ret (.tup [ints p2, I q2])]) rfl ⟨e2, trivial⟩ ?_
  refine LWp.sx (gs := []) (hs := [.ret (.tup [ints p2, I q2])]) rfl ⟨f2, trivial⟩ ?_
  refine LWp.seq (LWp.seq ?_)
  refine LWp.x (gs := [(51, false)]) (hs := [.ret (B true)]) rfl (by (repeat' (with_reducible apply And.intro)); (all_goals try first | (with_reducible exact trivial) | (with_reducible rfl) | ((with_reducible apply isB); first | exact rfl | exact beq_self_eq_true _)); exact ints_refl _) ?_
  refine LWp.ite rfl (fun h => ?_) (fun _ => LWp.skip ?_)
  · simp at h
  refine LWp.sx (gs := []) (hs := [.ret (.tup [B p3, I q3])]) rfl ⟨e3, trivial⟩ ?_
  refine LWp.sx (gs := []) (hs := [.ret (.tup [B p3, I q3])]) rfl ⟨f3, trivial⟩ ?_
  refine LWp.sx (gs := [(73, true), (78, true)]) (hs := [.ret (B true)]) rfl (by (repeat' (with_reducible apply And.intro)); (all_goals try first | (with_reducible exact trivial) | (with_reducible rfl) | ((with_reducible apply isB); first | exact rfl | exact beq_self_eq_true _)); exact ub; exact awake_ev) ?_
  refine LWp.ret (retT (.inr rfl) (.one (.tmp ?_ rfl)))
  rfl

theorem earAlikes_ev (b : Book) (hw : b.wf) (hs : b.ss.length ≤ 9223372036854775807) (i j : Int) : Ev Try.prog 5 [.agg b.enc, .agg [I i, I j]] (B true) := by
  have e1 := ealike_ev b hw hs i j
  have f1 := ralike_ev b hw hs i j
  generalize (alikeR b i j).1 = p1 at e1 f1
  generalize (alikeR b i j).2 = q1 at e1 f1
  have e2 := eodd_ev b hw hs
  have f2 := rodd_ev b hw
  generalize (oddR b).1 = p2 at e2 f2
  generalize (oddR b).2 = q2 at e2 f2
  refine Ev.intro fn5 ?_
  refine LWp.sx (gs := []) (hs := [.ice, .ice]) rfl ⟨⟨rfl, rfl⟩, ⟨rfl, rfl⟩, trivial⟩ ?_
  refine LWp.sx (gs := []) (hs := [.ret (.tup [I p1, I q1])]) rfl ⟨⟨by omega, by decide⟩, ⟨by omega, by decide⟩, e1, trivial⟩ ?_
  refine LWp.sx (gs := []) (hs := [.ret (.tup [I p1, I q1])]) rfl ⟨⟨by omega, by decide⟩, ⟨by omega, by decide⟩, f1, trivial⟩ ?_
  refine LWp.seq (LWp.seq ?_)
  refine LWp.x (gs := [(32, false)]) (hs := []) rfl (by simp) ?_
  refine LWp.ite rfl (fun h => ?_) (fun _ => LWp.skip ?_)
  · simp at h
  refine LWp.sx (gs := []) (hs := [.ret (.tup [ints p2, I q2])]) rfl ⟨e2, trivial⟩ ?_
  refine LWp.sx (gs := []) (hs := [.ret (.tup [ints p2, I q2])]) rfl ⟨f2, trivial⟩ ?_
  refine LWp.sx (gs := [(50, true), (55, true)]) (hs := [.ret (B true), .ret (B true)]) rfl (by (repeat' (with_reducible apply And.intro)); (all_goals try first | (with_reducible exact trivial) | (with_reducible rfl) | ((with_reducible apply isB); first | exact rfl | exact beq_self_eq_true _)); exact ints_refl _; exact awake_ev) ?_
  refine LWp.ret (retT (.inr rfl) (.one (.tmp ?_ rfl)))
  rfl

theorem earCommons_ev (b : Book) (hw : b.wf) (hs : b.ss.length ≤ 9223372036854775807) (l : List Int) : Ev Try.prog 6 [.agg b.enc, ints l] (B true) := by
  have e1 := ecommon_ev b hw hs l
  have f1 := rcommon_ev b hw hs l
  generalize (commonR b l).1 = p1 at e1 f1
  generalize (commonR b l).2 = q1 at e1 f1
  refine Ev.intro fn6 ?_
  refine LWp.sx (gs := []) (hs := [.ice]) rfl ⟨⟨rfl, rfl⟩, trivial⟩ ?_
  refine LWp.sx (gs := []) (hs := [.ret (.tup [ints p1, I q1])]) rfl ⟨e1, trivial⟩ ?_
  refine LWp.sx (gs := []) (hs := [.ret (.tup [ints p1, I q1])]) rfl ⟨f1, trivial⟩ ?_
  refine LWp.sx (gs := [(24, true), (29, true)]) (hs := [.ret (B true), .ret (B true)]) rfl (by (repeat' (with_reducible apply And.intro)); (all_goals try first | (with_reducible exact trivial) | (with_reducible rfl) | ((with_reducible apply isB); first | exact rfl | exact beq_self_eq_true _)); exact ints_refl _; exact awake_ev) ?_
  refine LWp.ret (retT (.inr rfl) (.one (.tmp ?_ rfl)))
  rfl

theorem earSpells_ev (b : Book) (hw : b.wf) (hs : b.al.length ≤ 9223372036854775807) (i : Int) (l : List Int) : Ev Try.prog 7 [.agg b.enc, I i, ints l] (B true) := by
  have e1 := espell_ev b hw hs i l
  have f1 := rspell_ev b hw hs i l
  generalize (spellR b i l).1 = p1 at e1 f1
  generalize (spellR b i l).2 = q1 at e1 f1
  refine Ev.intro fn7 ?_
  refine LWp.sx (gs := []) (hs := [.ice]) rfl ⟨⟨rfl, rfl⟩, trivial⟩ ?_
  refine LWp.sx (gs := []) (hs := [.ret (.tup [Str p1, I q1])]) rfl ⟨e1, trivial⟩ ?_
  refine LWp.sx (gs := []) (hs := [.ret (.tup [Str p1, I q1])]) rfl ⟨f1, trivial⟩ ?_
  refine LWp.sx (gs := [(28, true), (33, true)]) (hs := [.ret (B true)]) rfl (by (repeat' (with_reducible apply And.intro)); (all_goals try first | (with_reducible exact trivial) | (with_reducible rfl) | ((with_reducible apply isB); first | exact rfl | exact beq_self_eq_true _)); exact awake_ev) ?_
  refine LWp.ret (retT (.inr rfl) (.one (.tmp ?_ rfl)))
  rfl

theorem known_facts : countR bookB 1 = (2, 0) ∧ countR bookB 2 = (1, 0) ∧ firstR bookB 0 = ([2, 0], 0) ∧ commonR bookB [0, 1] = ([2, 1], 0) ∧ spellR bookB 1 [2] = ([107], 0) := by
  refine ⟨?_, ?_, ?_, ?_, ?_⟩ <;> kernel_rfl
theorem earKnown_ev : Ev Try.prog 8 [] (B true) := by
  obtain ⟨f1, f2, f3, f4, f5⟩ := known_facts
  have hsl : bookB.ss.length ≤ 9223372036854775807 := by decide
  have hal : bookB.al.length ≤ 9223372036854775807 := by decide
  have e1 := count_ev bookB bookB_wf hsl 1
  have e2 := count_ev bookB bookB_wf hsl 2
  have e3 := efirst_ev bookB bookB_wf hsl 0
  have e4 := ecommon_ev bookB bookB_wf hsl [0, 1]
  have e5 := espell_ev bookB bookB_wf hal 1 [2]
  rw [f1] at e1
  rw [f2] at e2
  rw [f3] at e3
  rw [f4] at e4
  rw [f5] at e5
  refine Ev.intro fn8 ?_
  refine LWp.sx (gs := []) (hs := []) rfl trivial ?_
  refine LWp.sx (gs := []) (hs := [.ret (.agg bookB.enc), .lin]) rfl ⟨book_ev, rfl, ⟨rfl, rfl, rfl, by decide⟩, trivial⟩ ?_
  refine LWp.ent (Ent.freezeLbox (t := 1) rfl) ?_
  refine LWp.sx (gs := []) (hs := [.ret (.tup [I 2, I 0])]) rfl ⟨e1, trivial⟩ ?_
  refine LWp.sx (gs := []) (hs := [.ret (.tup [I 1, I 0])]) rfl ⟨e2, trivial⟩ ?_
  refine LWp.sx (gs := []) (hs := [.ret (.tup [ints [2, 0], I 0])]) rfl ⟨e3, trivial⟩ ?_
  refine LWp.sx (gs := []) (hs := [.ice, .ret (.tup [ints [2, 1], I 0])]) rfl ⟨rfl, e4, trivial⟩ ?_
  refine LWp.sx (gs := []) (hs := [.ice, .ret (.tup [Str [107], I 0])]) rfl ⟨rfl, e5, trivial⟩ ?_
  refine LWp.ent (Ent.el (l := [(3, I 0), (5, I 0), (7, I 0), (9, I 0), (11, I 0), (2, I 2), (4, I 1), (6, ints [2, 0]), (8, ints [2, 1]), (10, Str [107])]) ⟨rfl, rfl, rfl, rfl, rfl, rfl, rfl, rfl, rfl, rfl, trivial⟩) ?_
  refine LWp.sx (gs := [(42, true), (46, true), (50, true), (54, true), (58, true), (62, true), (66, true), (71, true), (76, true), (80, true)]) (hs := [.ice, .ret (B true), .ice, .ret (B true), .ret (B true)]) rfl (by (repeat' (with_reducible apply And.intro)); (all_goals try first | (with_reducible exact trivial) | (with_reducible rfl) | ((with_reducible apply isB); first | exact rfl | exact beq_self_eq_true _)); exact ints_refl _; exact ints_refl _; exact awake_ev) ?_
  refine LWp.ret (retT (.inr rfl) (.one (.tmp ?_ rfl)))
  rfl
end Go.Px

