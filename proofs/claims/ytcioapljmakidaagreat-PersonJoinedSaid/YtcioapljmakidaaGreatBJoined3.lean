/- Part 3 of the proof of the statement PersonJoined (contracts of the functions that it alone wants). No conditions. -/
import Derived.Test.YtcioapljmakidaaGreatBJoined2
namespace Go.Px
open Go.Proofs Go.MapKept
theorem first_any (t : Town) : (someE t (townE t) = 0 ∧ ∃ l n, firstT t = (l, n, 0)) ∨ (someE t (townE t) ≠ 0 ∧ firstT t = ([], 0, someE t (townE t)) ∧ (townE t = 0 → someE t (townE t) = 8)) := by
  by_cases h : someE t (townE t) = 0
  · left
    unfold firstT
    rw [if_pos h]
    exact ⟨h, _, _, rfl⟩
  · right
    refine ⟨h, by unfold firstT; rw [if_neg h], fun h0 => ?_⟩
    have e : (truthsL t noBut).isEmpty = true := by
      cases hE : (truthsL t noBut).isEmpty with
      | true => rfl
      | false => exact absurd (someE_zero.2 ⟨h0, by intro e; rw [e] at hE; cases hE⟩) h
    unfold someE
    rw [if_neg (by simp [h0]), if_pos e]
theorem with_wf {t : Town} (hw : t.wf) {x : Men} (hx : x.wf) : (withT t x).wf := by
  refine ⟨hw.ear, hw.vil0, hw.vil1, fun y hy => ?_⟩
  rcases List.mem_append.1 hy with h | h
  · exact hw.ms y h
  · rw [List.mem_singleton.1 h]; exact hx
theorem tied_wf {t : Town} (hw : t.wf) (y : Tie) : (tiedT t y).wf := ⟨hw.ear, hw.vil0, hw.vil1, hw.ms⟩
def Down (t u : Town) : Prop := t.ms.length ≤ u.ms.length ∧ (townE u = 0 → ∀ p ∈ truthsL u noBut, ∃ q ∈ truthsL t noBut, ∀ i, i < t.ms.length → per p i = per q i)
theorem down_with {t : Town} (hO : t.OK) {x : Men} (hw : (withT t x).wf) : Down t (withT t x) := by
  refine ⟨by rw [with_len]; omega, fun h0 p hp => ?_⟩
  obtain ⟨q, k, hq, rfl, hl⟩ := truth_with hO ((townE_zero hw).1 h0).1 hp
  exact ⟨q, hq, fun i hi => per_lt (by omega)⟩
theorem down_tied {t : Town} (hO : t.OK) {y : Tie} (hw : (tiedT t y).wf) : Down t (tiedT t y) :=
  ⟨Nat.le_refl _, fun h0 p hp => ⟨p, truth_tied hO ((townE_zero hw).1 h0).1 hp, fun _ _ => rfl⟩⟩
theorem down_facts {t u : Town} (h0 : townE t = 0) (hS : someE u (townE u) = 0) (hd : Down t u) : someE t (townE t) = 0 ∧
    ∀ a, a < t.ms.length → ∀ b, b < t.ms.length → a ≠ b → (sameT t (a : Nat) (b : Nat)).2 = 0 ∧ (sameT u (a : Nat) (b : Nat)).2 = 0 ∧ ((sameT t (a : Nat) (b : Nat)).1 ≠ 0 → (sameT u (a : Nat) (b : Nat)).1 = (sameT t (a : Nat) (b : Nat)).1) := by
  obtain ⟨hl, hm⟩ := hd
  have hm := hm (someE_zero.1 hS).1
  have hSt : someE t (townE t) = 0 := by
    obtain ⟨p, hp⟩ := List.exists_mem_of_ne_nil _ (someE_zero.1 hS).2
    obtain ⟨q, hq, _⟩ := hm p hp
    exact someE_zero.2 ⟨h0, List.ne_nil_of_mem hq⟩
  refine ⟨hSt, fun a ha b hb hab => ⟨by rw [same_ok hSt ha hb hab], by rw [same_ok hS (by omega) (by omega) hab], fun hne => ?_⟩⟩
  rcases same_three hSt ha hb hab with h | h | h
  · exact absurd h hne
  · rw [h, same_must hS (by omega) (by omega) hab]
    intro p hp
    obtain ⟨q, hq, he⟩ := hm p hp
    rw [he a ha, he b hb]
    exact (same_must hSt ha hb hab).1 h q hq
  · rw [h, same_never hS (by omega) (by omega) hab]
    intro p hp
    obtain ⟨q, hq, he⟩ := hm p hp
    rw [he a ha, he b hb]
    exact (same_never hSt ha hb hab).1 h q hq
theorem same_few {t : Town} (h : townE t ≠ 0 ∨ t.ms.length < 2) : (sameT t 0 1).2 ≠ 0 := by
  have : entE t (twoE t 0 1) ≠ 0 := by
    intro e
    obtain ⟨e1, e2⟩ := entE_zero.1 e
    obtain ⟨_, ⟨_, e3⟩, _⟩ := twoE_zero.1 e2
    rcases h with h | h
    · exact h e1
    · omega
  have h2 : someE t (entE t (twoE t 0 1)) ≠ 0 := fun e => this (someE_zero.1 e).1
  unfold sameT
  rw [if_neg h2]
  exact h2
set_option maxRecDepth 10000 in
set_option maxHeartbeats 2000000 in
theorem personJoined_ev (t : Town) (hw : t.wf) (x : Men) (hx : x.wf) (y : Tie) : Ev Tryz.prog 8 [.agg t.enc, .agg x.enc, .agg y.enc] (B true) := by
  have ev := lvalid3_ev t hw
  have hln : ((t.ms.map Men.enc).length : Int) = t.ms.length := by simp
  have htl : (t.ties.map Tie.enc).length = t.ties.length := by simp
  refine Ev.intro fn8 ?_
  refine LWp.sx (gs := []) (hs := [.ice, .ice, .ice]) rfl ⟨⟨rfl, rfl⟩, ⟨rfl, rfl⟩, ⟨rfl, rfl⟩, trivial⟩ ?_
  refine LWp.seq (LWp.seq ?_)
  by_cases hbad : townE t ≠ 0 ∨ t.ms.length < 2
  · have hwf := same_few hbad
    have ew := psame_ev t hw 0 1
    generalize (sameT t 0 1).1 = y at ew
    generalize (sameT t 0 1).2 = e at ew hwf
    have he : (e != 0) = true := by rw [bne_iff_ne]; exact hwf
    refine LWp.cutT (fun _ : Unit => True) (fun _ => el [(3, .pi t.enc), (30, B true)]) (fun _ => []) (fun _ => []) ?_ ?_
    · by_cases hE : townE t = 0
      · have h2 : decide (((t.ms.map Men.enc).length : Int) < 2) = true := decide_eq_true (by rw [hln]; omega)
        rw [show (townE t == 0) = true by rw [beq_iff_eq]; exact hE] at ev
        refine LWp.x (gs := [(25, false)]) (hs := [.ret (B true)]) rfl (by (repeat' (with_reducible apply And.intro)); (all_goals first | (with_reducible exact trivial) | (with_reducible rfl) | (with_reducible assumption) | ((with_reducible apply isB); first | exact rfl | exact beq_self_eq_true _) | omega | ((exact ev)))) ?_
        exact ⟨(), trivial, Ent.el ⟨rfl, congrArg B h2, trivial⟩⟩
      · rw [show (townE t == 0) = false by rw [beq_eq_false_iff_ne]; exact hE] at ev
        refine LWp.x (gs := [(25, true)]) (hs := [.ret (B false)]) rfl (by (repeat' (with_reducible apply And.intro)); (all_goals first | (with_reducible exact trivial) | (with_reducible rfl) | (with_reducible assumption) | ((with_reducible apply isB); first | exact rfl | exact beq_self_eq_true _) | omega | ((exact ev)))) ?_
        exact ⟨(), trivial, Ent.el ⟨rfl, rfl, trivial⟩⟩
    intro _ _
    refine LWp.ite (b := true) rfl (fun _ => ?_) (fun h => by cases h)
    refine LWp.sx (gs := []) (hs := [.ret (.tup [I y, I e])]) rfl ⟨ew, trivial⟩ ?_
    refine LWp.sx (gs := [(38, true)]) (hs := [.ret (B true)]) rfl (by (repeat' (with_reducible apply And.intro)); (all_goals first | (with_reducible exact trivial) | (with_reducible rfl) | (with_reducible assumption) | ((with_reducible apply isB); first | exact rfl | exact beq_self_eq_true _) | omega | ((first | exact awake3_ev | ((with_reducible apply isB); exact he))))) ?_
    refine LWp.ret (retT (.inr rfl) (.one (.tmp ?_ rfl)))
    rfl
  have hE : townE t = 0 := Classical.byContradiction fun h => hbad (.inl h)
  have hn : 2 ≤ t.ms.length := Nat.le_of_not_lt fun h => hbad (.inr h)
  obtain ⟨hO, h5⟩ := (townE_zero hw).1 hE
  have ht4 := hO.ties4
  rw [show (townE t == 0) = true by rw [beq_iff_eq]; exact hE] at ev
  have h2 : decide (((t.ms.map Men.enc).length : Int) < 2) = false := decide_eq_false (by rw [hln]; omega)
  refine LWp.x (gs := [(25, false)]) (hs := [.ret (B true)]) rfl (by (repeat' (with_reducible apply And.intro)); (all_goals first | (with_reducible exact trivial) | (with_reducible rfl) | (with_reducible assumption) | ((with_reducible apply isB); first | exact rfl | exact beq_self_eq_true _) | omega | ((exact ev)))) ?_
  refine LWp.ite (b := false) (congrArg B h2) (fun h => by cases h) (fun _ => LWp.skip ?_)
  have hwi := with_ev t x (by omega)
  have w1 := with_wf hw hx
  have w2 := tied_wf hw y
  have d1 := down_with hO w1
  have d2 := down_tied hO w2
  have hte : (tiedT t y).enc = t.ear.enc ++ [I t.vil, mensV t.ms, .sl 3 (t.ties.map Tie.enc ++ [y.enc])] := by
    simp only [tiedT, Town.enc, tiesV, List.map_append, List.map_cons, List.map_nil]
  refine LWp.sd (gs := []) (hs := [.ret (.agg (withT t x).enc), .lin, .lin]) hmix rfl (by kernel_rfl) ⟨hwi, rfl, rfl, ⟨rfl, rfl, rfl, Nat.le_refl 6⟩, ⟨rfl, rfl, rfl, Nat.le_refl 6⟩, trivial⟩ ?_
  refine LWp.ent (Ent.freezeLbox (t := 9) rfl) ?_
  refine LWp.shareB (t := 10) rfl fun b10 => ?_
  refine LWp.seq ?_
  refine LWp.d (gs := []) (hs := [.lin, .ice]) hmix rfl (by kernel_rfl) ⟨rfl, ⟨by simp [chunk]; omega, by simp [chunk]; omega⟩, rfl, ⟨by simp [chunk]; omega, by simp [chunk]; omega⟩, trivial⟩ ?_
  refine WOps.ent (Ent.freezeLin (t := 51) rfl) ?_
  refine WOps.hd (gs := []) (hs := [.stO 0]) rfl ⟨⟨rfl, rfl, rfl, rfl, (show 6 ≤ 6 by omega)⟩, trivial⟩ ?_
  refine LWp.ent (Ent.trans (Ent.ofH (H' := [(b10, .cells 29 (tiedT t y).enc)]) (by rw [hte]; rfl)) (Ent.trans (Ent.freezeBox (t := 10) (i := 0) rfl rfl) (Ent.el (l := [(3, .pi t.enc), (9, .pi (withT t x).enc), (10, .pi (tiedT t y).enc)]) ⟨rfl, rfl, rfl, trivial⟩))) ?_
  generalize withT t x = u0 at *
  generalize tiedT t y = u1 at *
  refine LWp.seq (LWp.seq ?_)
  refine LWp.x (gs := []) (hs := []) rfl trivial ?_
  refine LWp.blockT (fun _ : Unit => True) (fun _ => el []) (fun _ => []) (fun _ => []) ?_ ?_
  · refine LWp.loopN (fun k : Nat => k ≤ 2) (fun k => el [(3, .pi t.enc), (9, .pi u0.enc), (10, .pi u1.enc), (11, I k)]) (fun _ => []) (fun _ => []) (fun k => 2 - k) 0 (by omega) (Ent.el ⟨rfl, rfl, rfl, rfl, trivial⟩) ?_
    intro k hk
    refine LWp.seq (LWp.seq ?_)
    refine LWp.x (gs := []) (hs := []) rfl trivial ?_
    refine LWp.ite rfl (fun hc => LWp.skip ?_) (fun hc => LWp.exit ⟨(), trivial, Ent.el trivial⟩)
    rw [decide_eq_true_eq] at hc
    refine LWp.blockX (fun _ : Unit => True) (fun _ => el [(3, .pi t.enc), (9, .pi u0.enc), (10, .pi u1.enc), (11, I k)]) (fun _ => []) (fun _ => []) ?_ ?_
    · refine LWp.sx (gs := []) (hs := [.lin]) rfl ⟨rfl, ⟨rfl, rfl, rfl, Nat.le_refl 6⟩, trivial⟩ ?_
      refine LWp.cutX (fun u : Town => u.wf ∧ Down t u) (fun u => el [(3, .pi t.enc), (9, .pi u0.enc), (10, .pi u1.enc), (11, I k), (12, .pi u.enc)]) (fun _ => []) (fun _ => []) ?_ ?_
      · refine LWp.seq ?_
        refine LWp.x (gs := []) (hs := []) rfl trivial ?_
        refine LWp.ite rfl (fun _ => ?_) (fun _ => ?_)
        · refine LWp.x (gs := []) (hs := []) rfl ⟨⟨rfl, rfl, rfl, Nat.le_refl 6⟩, trivial⟩ ?_
          exact ⟨u1, ⟨w2, d2⟩, Ent.trans (Ent.freezeLbox (t := 12) rfl) (Ent.el ⟨rfl, rfl, rfl, rfl, rfl, trivial⟩)⟩
        · exact LWp.skip ⟨u0, ⟨w1, d1⟩, Ent.trans (Ent.freezeLbox (t := 12) rfl) (Ent.el ⟨rfl, rfl, rfl, rfl, rfl, trivial⟩)⟩
      rintro u ⟨wu, du⟩
      have ef := pfirst_ev u wu
      have evu := lvalid3_ev u wu
      rcases first_any u with ⟨hS, l, c, hf⟩ | ⟨hS, hf, h8⟩
      case inr =>
        rw [hf] at ef
        generalize someE u (townE u) = e at ef hS h8
        refine LWp.sx (gs := []) (hs := [.ret (.tup [ints [], I 0, I e])]) rfl ⟨ef, trivial⟩ ?_
        have he : (e != 0) = true := by rw [bne_iff_ne]; exact hS
        refine LWp.seq (LWp.seq ?_)
        refine LWp.cutT (fun _ : Unit => True) (fun _ => el [(3, .pi t.enc), (9, .pi u0.enc), (10, .pi u1.enc), (11, I k), (12, .pi u.enc), (14, I 0), (15, I e), (73, B true)]) (fun _ => []) (fun _ => []) ?_ ?_
        · by_cases hEu : townE u = 0
          · rw [show (townE u == 0) = true by rw [beq_iff_eq]; exact hEu] at evu
            refine LWp.x (gs := [(70, false)]) (hs := [.ret (B true)]) rfl (by (repeat' (with_reducible apply And.intro)); (all_goals first | (with_reducible exact trivial) | (with_reducible rfl) | (with_reducible assumption) | ((with_reducible apply isB); first | exact rfl | exact beq_self_eq_true _) | omega | ((exact evu)))) ?_
            exact ⟨(), trivial, Ent.el ⟨rfl, rfl, rfl, rfl, rfl, rfl, rfl, congrArg B he, trivial⟩⟩
          · rw [show (townE u == 0) = false by rw [beq_eq_false_iff_ne]; exact hEu] at evu
            refine LWp.x (gs := [(70, true)]) (hs := [.ret (B false)]) rfl (by (repeat' (with_reducible apply And.intro)); (all_goals first | (with_reducible exact trivial) | (with_reducible rfl) | (with_reducible assumption) | ((with_reducible apply isB); first | exact rfl | exact beq_self_eq_true _) | omega | ((exact evu)))) ?_
            exact ⟨(), trivial, Ent.el ⟨rfl, rfl, rfl, rfl, rfl, rfl, rfl, rfl, trivial⟩⟩
        intro _ _
        refine LWp.ite (b := true) rfl (fun _ => ?_) (fun h => by cases h)
        refine LWp.seq (LWp.seq ?_)
        by_cases hEu : townE u = 0
        · have := h8 hEu
          subst this
          rw [show (townE u == 0) = true by rw [beq_iff_eq]; exact hEu] at evu
          refine LWp.x (gs := [(76, true), (80, false)]) (hs := [.ret (B true)]) rfl (by (repeat' (with_reducible apply And.intro)); (all_goals first | (with_reducible exact trivial) | (with_reducible rfl) | (with_reducible assumption) | ((with_reducible apply isB); first | exact rfl | exact beq_self_eq_true _) | omega | ((exact evu)))) ?_
          exact LWp.ite (b := false) rfl (fun h => by cases h) (fun _ => LWp.skip (LWp.exit ⟨(), trivial, Ent.el ⟨rfl, rfl, rfl, rfl, trivial⟩⟩))
        · rw [show (townE u == 0) = false by rw [beq_eq_false_iff_ne]; exact hEu] at evu
          refine LWp.x (gs := [(76, false), (80, false)]) (hs := [.ret (B false)]) rfl (by (repeat' (with_reducible apply And.intro)); (all_goals first | (with_reducible exact trivial) | (with_reducible rfl) | (with_reducible assumption) | ((with_reducible apply isB); first | exact rfl | exact beq_self_eq_true _) | omega | ((exact evu)))) ?_
          exact LWp.ite (b := false) rfl (fun h => by cases h) (fun _ => LWp.skip (LWp.exit ⟨(), trivial, Ent.el ⟨rfl, rfl, rfl, rfl, trivial⟩⟩))
      have hEu := (someE_zero.1 hS).1
      rw [show (townE u == 0) = true by rw [beq_iff_eq]; exact hEu] at evu
      rw [hf] at ef
      obtain ⟨hSt, hsame⟩ := down_facts hE hS du
      refine LWp.sx (gs := []) (hs := [.ret (.tup [ints l, I c, I 0])]) rfl ⟨ef, trivial⟩ ?_
      refine LWp.seq (LWp.seq ?_)
      refine LWp.x (gs := [(70, false)]) (hs := [.ret (B true)]) rfl (by (repeat' (with_reducible apply And.intro)); (all_goals first | (with_reducible exact trivial) | (with_reducible rfl) | (with_reducible assumption) | ((with_reducible apply isB); first | exact rfl | exact beq_self_eq_true _) | omega | ((exact evu)))) ?_
      refine LWp.ite (b := false) rfl (fun h => by cases h) (fun _ => LWp.skip ?_)
      refine LWp.seq ?_
      refine LWp.x (gs := []) (hs := []) rfl trivial ?_
      refine LWp.block ?_
      refine LWp.loopN (fun i : Nat => i ≤ t.ms.length) (fun i => el [(3, .pi t.enc), (9, .pi u0.enc), (10, .pi u1.enc), (11, I k), (12, .pi u.enc), (16, I i)]) (fun _ => []) (fun _ => []) (fun i => t.ms.length - i) 0 (by omega) (Ent.el ⟨rfl, rfl, rfl, rfl, rfl, rfl, trivial⟩) ?_
      intro i hi
      refine LWp.seq (LWp.seq ?_)
      refine LWp.x (gs := []) (hs := []) rfl trivial ?_
      refine LWp.ite rfl (fun hc => LWp.skip ?_) (fun hc => LWp.exit ⟨(), trivial, Ent.el ⟨rfl, rfl, rfl, rfl, trivial⟩⟩)
      rw [hln, decide_eq_true_eq] at hc
      have hii : i < t.ms.length := by omega
      refine LWp.blockX (fun _ : Unit => True) (fun _ => el [(3, .pi t.enc), (9, .pi u0.enc), (10, .pi u1.enc), (11, I k), (12, .pi u.enc), (16, I i)]) (fun _ => []) (fun _ => []) ?_ ?_
      · refine LWp.seq ?_
        refine LWp.x (gs := []) (hs := []) rfl trivial ?_
        refine LWp.block ?_
        refine LWp.loopN (fun j : Nat => j ≤ i) (fun j => el [(3, .pi t.enc), (9, .pi u0.enc), (10, .pi u1.enc), (11, I k), (12, .pi u.enc), (16, I i), (17, I j)]) (fun _ => []) (fun _ => []) (fun j => i - j) 0 (by omega) (Ent.el ⟨rfl, rfl, rfl, rfl, rfl, rfl, rfl, trivial⟩) ?_
        intro j hj
        refine LWp.seq (LWp.seq ?_)
        refine LWp.x (gs := []) (hs := []) rfl trivial ?_
        refine LWp.ite rfl (fun hc => LWp.skip ?_) (fun hc => LWp.exit ⟨(), trivial, Ent.el ⟨rfl, rfl, rfl, rfl, rfl, rfl, trivial⟩⟩)
        rw [decide_eq_true_eq] at hc
        have hji : j < i := by omega
        refine LWp.blockX (fun _ : Unit => True) (fun _ => el [(3, .pi t.enc), (9, .pi u0.enc), (10, .pi u1.enc), (11, I k), (12, .pi u.enc), (16, I i), (17, I j)]) (fun _ => []) (fun _ => []) ?_ ?_
        · obtain ⟨s1, s2, s3⟩ := hsame i hii j (by omega) (by omega)
          have e1 := psame_ev t hw (i : Nat) (j : Nat)
          have e2 := psame_ev u wu (i : Nat) (j : Nat)
          rw [s1] at e1
          rw [s2] at e2
          generalize (sameT t (i : Nat) (j : Nat)).1 = a at e1 s3
          generalize (sameT u (i : Nat) (j : Nat)).1 = b at e2 s3
          refine LWp.sx (gs := []) (hs := [.ret (.tup [I a, I 0])]) rfl ⟨e1, trivial⟩ ?_
          refine LWp.sx (gs := []) (hs := [.ret (.tup [I b, I 0])]) rfl ⟨e2, trivial⟩ ?_
          refine LWp.seq ?_
          by_cases ha : a = 0
          · have g1 : (a != 0) = false := by rw [bne_eq_false_iff_eq]; exact ha
            refine LWp.x (gs := [(112, false), (116, false), (119, false)]) (hs := []) rfl (by (repeat' (with_reducible apply And.intro)); (all_goals first | (with_reducible exact trivial) | (with_reducible rfl) | (with_reducible assumption) | ((with_reducible apply isB); first | exact rfl | exact beq_self_eq_true _) | omega | (((with_reducible apply isB); exact g1)))) ?_
            exact LWp.ite (b := false) rfl (fun h => by cases h) (fun _ => LWp.skip ⟨(), trivial, Ent.el ⟨rfl, rfl, rfl, rfl, rfl, rfl, rfl, trivial⟩⟩)
          · have g1 : (a != 0) = true := by rw [bne_iff_ne]; exact ha
            have g2 := s3 ha
            subst g2
            have g3 : (b != b) = false := by rw [bne_eq_false_iff_eq]
            refine LWp.x (gs := [(112, false), (116, false), (119, true)]) (hs := []) rfl (by (repeat' (with_reducible apply And.intro)); (all_goals first | (with_reducible exact trivial) | (with_reducible rfl) | (with_reducible assumption) | ((with_reducible apply isB); first | exact rfl | exact beq_self_eq_true _) | omega | (((with_reducible apply isB); exact g1)))) ?_
            exact LWp.ite (b := false) (congrArg B g3) (fun h => by cases h) (fun _ => LWp.skip ⟨(), trivial, Ent.el ⟨rfl, rfl, rfl, rfl, rfl, rfl, rfl, trivial⟩⟩)
        · intro _ _
          refine LWp.x (gs := []) (hs := []) rfl ⟨by omega, trivial⟩ ?_
          exact ⟨j + 1, by omega, by omega, Ent.el ⟨rfl, rfl, rfl, rfl, rfl, rfl, rfl, trivial⟩⟩
      · intro _ _
        refine LWp.x (gs := []) (hs := []) rfl ⟨by omega, trivial⟩ ?_
        exact ⟨i + 1, by omega, by omega, Ent.el ⟨rfl, rfl, rfl, rfl, rfl, rfl, trivial⟩⟩
    · intro _ _
      refine LWp.x (gs := []) (hs := []) rfl ⟨by omega, trivial⟩ ?_
      exact ⟨k + 1, by omega, by omega, Ent.el ⟨rfl, rfl, rfl, rfl, trivial⟩⟩
  intro _ _
  refine LWp.sx (gs := []) (hs := [.ret (B true)]) rfl ⟨awake3_ev, trivial⟩ ?_
  refine LWp.ret (retT (.inr rfl) (.one (.tmp ?_ rfl)))
  rfl
end Go.Px

