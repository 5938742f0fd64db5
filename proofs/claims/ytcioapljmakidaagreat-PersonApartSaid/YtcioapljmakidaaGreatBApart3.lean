/- Part 3 of the proof of the statement PersonApart (contracts of the functions that it alone wants). No conditions. -/
import Derived.Test.YtcioapljmakidaaGreatBApart2
namespace Go.Px
open Go.Proofs Go.MapKept
set_option maxRecDepth 10000 in
set_option maxHeartbeats 2000000 in
theorem personApart_ev (t : Town) (hw : t.wf) (x0 x1 : Int) (h0 : 0 ≤ x0) (h0' : x0 ≤ 255) (h1 : 0 ≤ x1) (h1' : x1 ≤ 255) : Ev Tryz.prog 9 [.agg t.enc, .agg [U x0, U x1]] (B true) := by
  have ev := lvalid3_ev t hw
  have hln : ((t.ms.map Men.enc).length : Int) = t.ms.length := by simp
  have hlnN : (t.ms.map Men.enc).length = t.ms.length := by simp
  have hU : Tryz.prog.underlying 4 = some .bool := by kernel_rfl
  refine Ev.intro fn9 ?_
  refine LWp.sx (gs := []) (hs := [.ice, .ice]) rfl ⟨⟨rfl, rfl⟩, ⟨rfl, rfl⟩, trivial⟩ ?_
  refine LWp.seq (LWp.seq ?_)
  by_cases hbad : townE t ≠ 0 ∨ t.ms.length < 2
  · have hwf := why_few hbad
    have ew := pwhy_ev t hw 0 1
    generalize (whyT t 0 1).1 = y at ew
    generalize (whyT t 0 1).2 = e at ew hwf
    have he : (e != 0) = true := by rw [bne_iff_ne]; exact hwf
    refine LWp.cutT (fun _ : Unit => True) (fun _ => el [(2, .pi t.enc), (23, B true)]) (fun _ => []) (fun _ => []) ?_ ?_
    · by_cases hE : townE t = 0
      · have h2 : decide (((t.ms.map Men.enc).length : Int) < 2) = true := decide_eq_true (by rw [hln]; omega)
        rw [show (townE t == 0) = true by rw [beq_iff_eq]; exact hE] at ev
        refine LWp.x (gs := [(18, false)]) (hs := [.ret (B true)]) rfl (by (repeat' (with_reducible apply And.intro)); (all_goals first | (with_reducible exact trivial) | (with_reducible rfl) | (with_reducible assumption) | ((with_reducible apply isB); first | exact rfl | exact beq_self_eq_true _) | omega | ((exact ev)))) ?_
        exact ⟨(), trivial, Ent.el ⟨rfl, congrArg B h2, trivial⟩⟩
      · rw [show (townE t == 0) = false by rw [beq_eq_false_iff_ne]; exact hE] at ev
        refine LWp.x (gs := [(18, true)]) (hs := [.ret (B false)]) rfl (by (repeat' (with_reducible apply And.intro)); (all_goals first | (with_reducible exact trivial) | (with_reducible rfl) | (with_reducible assumption) | ((with_reducible apply isB); first | exact rfl | exact beq_self_eq_true _) | omega | ((exact ev)))) ?_
        exact ⟨(), trivial, Ent.el ⟨rfl, rfl, trivial⟩⟩
    intro _ _
    refine LWp.ite (b := true) rfl (fun _ => ?_) (fun h => by cases h)
    refine LWp.sx (gs := []) (hs := [.ret (.tup [I y, I e])]) rfl ⟨ew, trivial⟩ ?_
    refine LWp.sx (gs := [(31, true)]) (hs := [.ret (B true)]) rfl (by (repeat' (with_reducible apply And.intro)); (all_goals first | (with_reducible exact trivial) | (with_reducible rfl) | (with_reducible assumption) | ((with_reducible apply isB); first | exact rfl | exact beq_self_eq_true _) | omega | ((first | exact awake3_ev | ((with_reducible apply isB); exact he))))) ?_
    refine LWp.ret (retT (.inr rfl) (.one (.tmp ?_ rfl)))
    rfl
  have hE : townE t = 0 := Classical.byContradiction fun h => hbad (.inl h)
  have hn : 2 ≤ t.ms.length := Nat.le_of_not_lt fun h => hbad (.inr h)
  obtain ⟨hO, h5⟩ := (townE_zero hw).1 hE
  rw [show (townE t == 0) = true by rw [beq_iff_eq]; exact hE] at ev
  have h2 : decide (((t.ms.map Men.enc).length : Int) < 2) = false := decide_eq_false (by rw [hln]; omega)
  refine LWp.x (gs := [(18, false)]) (hs := [.ret (B true)]) rfl (by (repeat' (with_reducible apply And.intro)); (all_goals first | (with_reducible exact trivial) | (with_reducible rfl) | (with_reducible assumption) | ((with_reducible apply isB); first | exact rfl | exact beq_self_eq_true _) | omega | ((exact ev)))) ?_
  refine LWp.ite (b := false) (congrArg B h2) (fun h => by cases h) (fun _ => LWp.skip ?_)
  obtain ⟨i, hi, ei⟩ := w_mod h0 (n := t.ms.length) (by omega)
  obtain ⟨j, hj, ej⟩ := w_mod h1 (n := t.ms.length) (by omega)
  refine LWp.sd (gs := []) (hs := []) hmix rfl (by kernel_rfl) ⟨⟨by omega, by decide⟩, i64_wrap (n := x0) (by omega) (by omega), ⟨by omega, by rw [hlnN]; omega⟩, ⟨by omega, by decide⟩, i64_wrap (n := x1) (by omega) (by omega), ⟨by omega, by rw [hlnN]; omega⟩, trivial⟩ ?_
  refine LWp.ent (Ent.el (l := [(2, .pi t.enc), (7, I i), (8, I j)]) ⟨rfl, by show I _ = I _; rw [← ei, hlnN], by show I _ = I _; rw [← ej, hlnN], trivial⟩) ?_
  have ew := pwhy_ev t hw (i : Nat) (j : Nat)
  by_cases hij : i = j
  · subst hij
    rw [why_same hE hi] at ew
    refine LWp.sx (gs := []) (hs := [.ret (.tup [I 0, I 2])]) rfl ⟨ew, trivial⟩ ?_
    refine LWp.seq (LWp.seq ?_)
    refine LWp.x (gs := []) (hs := []) rfl trivial ?_
    refine LWp.ite (b := true) (by show B _ = B _; rw [beq_self_eq_true]) (fun _ => ?_) (fun h => by cases h)
    refine LWp.sx (gs := [(60, true)]) (hs := [.ret (B true)]) rfl (by (repeat' (with_reducible apply And.intro)); (all_goals first | (with_reducible exact trivial) | (with_reducible rfl) | (with_reducible assumption) | ((with_reducible apply isB); first | exact rfl | exact beq_self_eq_true _) | omega | ((exact awake3_ev)))) ?_
    refine LWp.ret (retT (.inr rfl) (.one (.tmp ?_ rfl)))
    rfl
  rw [why_ok hE hi hj hij] at ew
  obtain ⟨y0, y4⟩ := whyF_range t i j
  have hsame := same_any hE hi hj hij
  have hnev := fun hS hwy => same_why hO hS hi hj hij hwy
  have em := psame_ev t hw (i : Nat) (j : Nat)
  obtain ⟨pw, pE, pS, pf⟩ := plain_facts hw hE (by omega)
  obtain ⟨pf1, pf2⟩ := pf i hi j hj hij
  have pl := plain_len t
  have pwy := why_ok pE (a := i) (b := j) (by omega) (by omega) hij
  have psm : (sameT (plainT t) (i : Nat) (j : Nat)).2 = 0 := by rw [same_ok pS (by omega) (by omega) hij]
  have ew2 := pwhy_ev (plainT t) pw (i : Nat) (j : Nat)
  have em2 := psame_ev (plainT t) pw (i : Nat) (j : Nat)
  rw [pwy] at ew2
  rw [psm] at em2
  generalize whyF t i j = y at ew hnev y0 y4
  generalize hs1 : (sameT t (i : Nat) (j : Nat)).1 = m at em hnev
  generalize hs2 : (sameT t (i : Nat) (j : Nat)).2 = f at em hsame
  have hf : (someE t (townE t) = 0 ∧ f = 0) ∨ f = 8 := by
    rcases hsame with h | h
    · exact .inl h
    · right
      rw [← hs2, h]
  clear hs1 hs2 hsame
  refine LWp.sx (gs := []) (hs := [.ret (.tup [I y, I 0])]) rfl ⟨ew, trivial⟩ ?_
  refine LWp.seq (LWp.seq ?_)
  refine LWp.x (gs := []) (hs := []) rfl trivial ?_
  refine LWp.ite (b := false) (by show B _ = B _; refine congrArg B ?_; rw [beq_eq_false_iff_ne]; omega) (fun h => by cases h) (fun _ => LWp.skip ?_)
  refine LWp.sx (gs := []) (hs := [.ret (.tup [I m, I f])]) rfl ⟨em, trivial⟩ ?_
  have ein : Ev Tryz.prog 40 [I y, I 0, I 4] (B true) := by
    have := in_ev y 0 4
    rw [decide_eq_true y0, decide_eq_true y4] at this
    exact this
  refine LWp.seq (LWp.seq ?_)
  refine LWp.cutT (fun _ : Unit => True) (fun _ => el [(2, .pi t.enc), (7, I i), (8, I j), (96, B false)]) (fun _ => []) (fun _ => []) ?_ ?_
  · rcases hf with ⟨hS, rfl⟩ | rfl
    · by_cases hy : y = 0
      · subst hy
        refine LWp.x (gs := [(72, false), (77, false), (80, false), (85, false), (88, true), (92, false)]) (hs := [.ret (B true)]) rfl (by (repeat' (with_reducible apply And.intro)); (all_goals first | (with_reducible exact trivial) | (with_reducible rfl) | (with_reducible assumption) | ((with_reducible apply isB); first | exact rfl | exact beq_self_eq_true _) | omega | ((exact ein)))) ?_
        exact ⟨(), trivial, Ent.el ⟨rfl, rfl, rfl, rfl, trivial⟩⟩
      · have g1 : (y != 0) = true := by rw [bne_iff_ne]; exact hy
        have hm := hnev hS hy
        subst hm
        refine LWp.x (gs := [(72, false), (77, false), (80, false), (85, false), (88, true), (92, true)]) (hs := [.ret (B true)]) rfl (by (repeat' (with_reducible apply And.intro)); (all_goals first | (with_reducible exact trivial) | (with_reducible rfl) | (with_reducible assumption) | ((with_reducible apply isB); first | exact rfl | exact beq_self_eq_true _) | omega | ((first | exact ein | ((with_reducible apply isB); exact g1))))) ?_
        exact ⟨(), trivial, Ent.el ⟨rfl, rfl, rfl, rfl, trivial⟩⟩
    · refine LWp.x (gs := [(72, false), (77, false), (80, true), (85, false), (88, false), (92, false)]) (hs := [.ret (B true)]) rfl (by (repeat' (with_reducible apply And.intro)); (all_goals first | (with_reducible exact trivial) | (with_reducible rfl) | (with_reducible assumption) | ((with_reducible apply isB); first | exact rfl | exact beq_self_eq_true _) | omega | ((exact ein)))) ?_
      exact ⟨(), trivial, Ent.el ⟨rfl, rfl, rfl, rfl, trivial⟩⟩
  intro _ _
  refine LWp.ite (b := false) rfl (fun h => by cases h) (fun _ => LWp.skip ?_)
  refine LWp.sx (gs := []) (hs := [.lin]) rfl ⟨rfl, ⟨rfl, rfl, rfl, by decide⟩, trivial⟩ ?_
  refine LWp.seq (LWp.ops ?_)
  refine WOps.shareB (t := 13) rfl (fun b13 => ?_)
  refine WOps.xn (gs := []) (hs := [.lin]) 4 rfl rfl ⟨rfl, ⟨by simp [chunk]; omega, by simp [chunk]; omega⟩, trivial⟩ ?_
  refine WOps.ent (Ent.el (l := [(2, .pi t.enc), (7, I i), (8, I j), (13, .po b13 0), (101, .lin 49 5 (t.ms.map Men.enc))]) ⟨rfl, rfl, rfl, rfl, rfl, trivial⟩) ?_
  refine WOps.share (t := 101) rfl (fun h => absurd (show t.ms.map Men.enc = [] from h) (by intro e; rw [List.map_eq_nil_iff.1 e] at hn; simp at hn)) (fun bA cap => ?_)
  refine WOps.hd (gs := []) (hs := [.stO 1, .stO 1]) rfl ⟨⟨rfl, rfl, rfl, rfl, (show 6 ≤ 6 by omega)⟩, ⟨rfl, rfl, rfl, rfl, (show 5 ≤ 6 by omega)⟩, trivial⟩ ?_
  refine LWp.ent (Ent.trans (Ent.ofH (H' := [(bA, .arr 49 5 cap ((partM t.ms 0).map Men.enc)), (b13, .cells 29 (t.ear.enc ++ [I t.vil, .so bA (t.ms.map Men.enc).length cap, .nil]))]) (by rw [partM_0]; rfl)) (Ent.el (l := [(2, .pi t.enc), (7, I i), (8, I j), (13, .po b13 0)]) ⟨rfl, rfl, rfl, rfl, trivial⟩)) ?_
  refine LWp.seq (LWp.seq ?_)
  refine LWp.hx (gs := []) (hs := []) rfl trivial ?_
  refine LWp.blockT (fun _ : Unit => True) (fun _ => el [(2, .pi t.enc), (7, I i), (8, I j), (13, .po b13 0)]) (fun _ => [(bA, .arr 49 5 cap ((partM t.ms t.ms.length).map Men.enc)), (b13, .cells 29 (t.ear.enc ++ [I t.vil, .so bA (t.ms.map Men.enc).length cap, .nil]))]) (fun _ => []) ?_ ?_
  · refine LWp.loopN (fun k : Nat => k ≤ t.ms.length) (fun k => el [(2, .pi t.enc), (7, I i), (8, I j), (13, .po b13 0), (14, I k)]) (fun k => [(bA, .arr 49 5 cap ((partM t.ms k).map Men.enc)), (b13, .cells 29 (t.ear.enc ++ [I t.vil, .so bA (t.ms.map Men.enc).length cap, .nil]))]) (fun _ => []) (fun k => t.ms.length - k) 0 (by omega) (Ent.el ⟨rfl, rfl, rfl, rfl, rfl, trivial⟩) ?_
    intro k hk
    refine LWp.seq (LWp.seq ?_)
    refine LWp.hx (gs := []) (hs := [.at 1]) rfl ⟨rfl, trivial⟩ ?_
    refine LWp.ite rfl (fun hc => LWp.skip ?_) (fun hc => ?_)
    · rw [hln, decide_eq_true_eq] at hc
      have hkk : k < t.ms.length := by omega
      obtain ⟨x, hx⟩ := ex_get hkk
      have hpg := partM_get hx
      have hpl := partM_len t.ms k hk
      refine LWp.blockX (fun _ : Unit => True) (fun _ => el [(2, .pi t.enc), (7, I i), (8, I j), (13, .po b13 0), (14, I k)]) (fun _ => [(bA, .arr 49 5 cap ((partM t.ms (k + 1)).map Men.enc)), (b13, .cells 29 (t.ear.enc ++ [I t.vil, .so bA (t.ms.map Men.enc).length cap, .nil]))]) (fun _ => []) ?_ ?_
      · rw [← partM_set hx, List.map_set]
        refine LWp.hx (gs := []) (hs := [.at 1, .stE 0 k 4 x.enc]) rfl ⟨rfl, ⟨by omega, by rw [hlnN]; omega⟩, ⟨rfl, by simp, by simp [hpg], rfl, rfl, rfl, (show 5 ≤ 5 by omega)⟩, trivial⟩ ?_
        exact ⟨(), trivial, Ent.el ⟨rfl, rfl, rfl, rfl, rfl, trivial⟩⟩
      · intro _ _
        refine LWp.hx (gs := []) (hs := []) rfl ⟨by omega, trivial⟩ ?_
        exact ⟨k + 1, by omega, by omega, Ent.el ⟨rfl, rfl, rfl, rfl, rfl, trivial⟩⟩
    · rw [hln, decide_eq_false_iff_not] at hc
      have e : k = t.ms.length := by omega
      subst e
      exact LWp.exit ⟨(), trivial, Ent.el ⟨rfl, rfl, rfl, rfl, trivial⟩⟩
  intro _ _
  rw [partM_all]
  refine LWp.ent (Ent.cellsSub (j := 1) (t.ear.enc ++ [I t.vil, .so bA (t.ms.map Men.enc).length cap, tiesV []]) rfl ⟨SubA.refl _, SubA.refl _, SubA.refl _, SubA.refl _, SubA.refl _, SubA.nil 3, trivial⟩) ?_
  refine LWp.ent (Ent.trans (Ent.ofH (H' := [(bA, .arr 49 5 cap ((plainT t).ms.map Men.enc)), (b13, .cells 29 (t.ear.enc ++ [I t.vil, .so bA (t.ms.map Men.enc).length cap, tiesV []]))]) rfl)
    (Ent.trans (Ent.freezeArrAt (i := 0) (j := 0) (plainT t).enc rfl rfl ⟨.inl rfl, .inl rfl, .inl rfl, .inl rfl, .inr ⟨by simp [plainT], rfl⟩, .inl rfl, trivial⟩)
    (Ent.trans (Ent.freezeBox (t := 13) (i := 0) rfl rfl) (Ent.el (l := [(7, I i), (8, I j), (13, .pi (plainT t).enc)]) ⟨rfl, rfl, rfl, trivial⟩)))) ?_
  generalize plainT t = u at *
  generalize whyF u i j = y2 at ew2 pf1 pf2
  generalize (sameT u (i : Nat) (j : Nat)).1 = m2 at em2 pf1
  refine LWp.sx (gs := []) (hs := [.ret (.tup [I y2, I 0])]) rfl ⟨ew2, trivial⟩ ?_
  refine LWp.sx (gs := []) (hs := [.ret (.tup [I m2, I 0])]) rfl ⟨em2, trivial⟩ ?_
  have g2 : (y2 != 4) = true := by rw [bne_iff_ne]; exact pf2
  by_cases hy : y2 = 0
  · have g3 : (m2 != 2) = true := by rw [bne_iff_ne]; exact pf1.1 hy
    subst hy
    refine LWp.sx (gs := [(132, true), (136, true), (143, true), (147, true)]) (hs := [.ret (B true)]) rfl (by (repeat' (with_reducible apply And.intro)); (all_goals first | (with_reducible exact trivial) | (with_reducible rfl) | (with_reducible assumption) | ((with_reducible apply isB); first | exact rfl | exact beq_self_eq_true _) | omega | ((first | exact hU | exact awake3_ev | ((with_reducible apply isB); first | exact g2 | (rw [g3]; rfl)))))) ?_
    refine LWp.ret (retT (.inr rfl) (.one (.tmp ?_ rfl)))
    rfl
  · have g3 : m2 = 2 := Classical.byContradiction fun h => hy (pf1.2 h)
    have g4 : (y2 == 0) = false := by rw [beq_eq_false_iff_ne]; exact hy
    subst g3
    refine LWp.sx (gs := [(132, true), (136, true), (143, true), (147, true)]) (hs := [.ret (B true)]) rfl (by (repeat' (with_reducible apply And.intro)); (all_goals first | (with_reducible exact trivial) | (with_reducible rfl) | (with_reducible assumption) | ((with_reducible apply isB); first | exact rfl | exact beq_self_eq_true _) | omega | ((first | exact hU | exact awake3_ev | ((with_reducible apply isB); first | exact g2 | (rw [g4]; rfl)))))) ?_
    refine LWp.ret (retT (.inr rfl) (.one (.tmp ?_ rfl)))
    rfl
end Go.Px

