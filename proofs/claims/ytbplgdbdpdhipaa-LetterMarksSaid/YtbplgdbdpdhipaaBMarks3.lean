/- Part 3 of the proof of the statement LetterMarks (contracts of the functions that it alone wants). No conditions. -/
import Derived.Test.YtbplgdbdpdhipaaBMarks2
namespace Go.Px
open Go.Proofs
theorem rapply_ev (l : List Wd) (ms : List Mark) : Ev Try.prog 36 [strs l, marksV ms] (.tup [strs (applyR l ms).1, I (applyR l ms).2]) := by
  have hll : (l.map fun s => [Str s]).length = l.length := List.length_map _
  have hml : (ms.map Mark.enc).length = ms.length := List.length_map _
  have hlt := rLetter_ev l
  have hA : applyR l ms = if letterE l = 0 then (if 30 < ms.length then ([], 3) else applyG ms l []) else ([], letterE l) := rfl
  refine Ev.intro fn36 ?_
  refine LWp.slLen 0 rfl fun hlmax => ?_
  rw [hll] at hlmax
  generalize letterE l = e0 at hlt hA
  refine LWp.sx (gs := []) (hs := []) rfl trivial ?_
  refine LWp.sx (gs := []) (hs := [.ret (I e0)]) rfl ⟨hlt, trivial⟩ ?_
  refine LWp.cutX (Y := Int) (fun e => (e = 0 → ms.length ≤ 30 ∧ applyR l ms = applyG ms l []) ∧ (e ≠ 0 → applyR l ms = ([], e))) (fun e => el [(0, strs l), (1, marksV ms), (6, I e)]) (fun _ => []) (fun _ => []) ?_ ?_
  · refine LWp.cutX (fun _ : Unit => True) (fun _ => el [(0, strs l), (1, marksV ms), (6, I e0), (20, B (decide (e0 = 0 ∧ 30 < ms.length)))]) (fun _ => []) (fun _ => []) ?_ ?_
    · by_cases h : e0 = 0
      · have g : (e0 == 0) = true := by rw [beq_iff_eq]; exact h
        refine LWp.x (gs := [(16, true)]) (hs := []) rfl (by (repeat' (with_reducible apply And.intro)); (all_goals try first | (with_reducible exact trivial) | (with_reducible rfl) | (with_reducible assumption) | ((with_reducible apply isB); first | exact rfl | exact beq_self_eq_true _))) ?_
        refine ⟨(), trivial, Ent.el ⟨rfl, rfl, rfl, ?_, trivial⟩⟩
        show B _ = B _
        refine congrArg B ?_
        rw [hml, Bool.eq_iff_iff]; simp [h]; omega
      · have g : (e0 == 0) = false := by rw [beq_eq_false_iff_ne]; exact h
        refine LWp.x (gs := [(16, false)]) (hs := []) rfl (by (repeat' (with_reducible apply And.intro)); (all_goals try first | (with_reducible exact trivial) | (with_reducible rfl) | (with_reducible assumption) | ((with_reducible apply isB); first | exact rfl | exact beq_self_eq_true _))) ?_
        refine ⟨(), trivial, Ent.el ⟨rfl, rfl, rfl, ?_, trivial⟩⟩
        show B _ = B _
        refine congrArg B ?_
        rw [Bool.eq_iff_iff]; simp [h]
    intro _ _
    refine LWp.ite rfl (fun h => ?_) (fun h => LWp.skip ?_)
    · have h : e0 = 0 ∧ 30 < ms.length := of_decide_eq_true h
      rw [if_pos h.1, if_pos h.2] at hA
      refine LWp.x (gs := []) (hs := []) rfl trivial ?_
      exact ⟨3, ⟨fun h => (by cases h), fun _ => hA⟩, Ent.el ⟨rfl, rfl, rfl, trivial⟩⟩
    · have h : ¬ (e0 = 0 ∧ 30 < ms.length) := of_decide_eq_false h
      refine ⟨e0, ⟨fun h0 => ?_, fun h0 => ?_⟩, Ent.el ⟨rfl, rfl, rfl, trivial⟩⟩
      · have : ms.length ≤ 30 := by omega
        rw [if_pos h0, if_neg (by omega)] at hA
        exact ⟨this, hA⟩
      · rw [if_neg h0] at hA; exact hA
  rintro e1 ⟨hz, hnz⟩
  refine LWp.sx (gs := []) (hs := []) rfl trivial ?_
  refine LWp.ent (Ent.nilLin (t := 7) 9 1 rfl) ?_
  refine LWp.sx (gs := []) (hs := []) rfl trivial ?_
  refine LWp.seq (LWp.seq ?_)
  refine LWp.x (gs := []) (hs := []) rfl trivial ?_
  refine LWp.blockT (Y := Nat × List Wd × Int) (fun y => y.1 ≤ l.length ∧ (y.2.2 = 0 → y.2.1.length ≤ 30 ∧ applyR l ms = applyG [] (l.drop y.1) y.2.1) ∧ (y.2.2 ≠ 0 → applyR l ms = ([], y.2.2))) (fun y => el [(0, strs l), (6, I y.2.2), (7, strs y.2.1), (8, I y.1)]) (fun _ => []) (fun _ => []) ?_ ?_
  · refine LWp.loopN (X := Nat × Nat × List Wd × Int) (fun x => x.1 ≤ ms.length ∧ x.2.1 ≤ l.length ∧ (x.2.2.2 = 0 → ms.length ≤ 30 ∧ x.2.2.1.length ≤ x.1 ∧ applyR l ms = applyG (ms.drop x.1) (l.drop x.2.1) x.2.2.1) ∧ (x.2.2.2 ≠ 0 → applyR l ms = ([], x.2.2.2))) (fun x => el [(0, strs l), (1, marksV ms), (6, I x.2.2.2), (7, .lin 9 1 (x.2.2.1.map fun s => [Str s])), (8, I x.2.1), (9, I x.1)]) (fun _ => []) (fun _ => []) (fun x => ms.length - x.1) (0, 0, [], e1) ⟨Nat.zero_le _, Nat.zero_le _, fun h => ⟨(hz h).1, by simp, (hz h).2⟩, hnz⟩
      (Ent.el ⟨rfl, rfl, rfl, rfl, rfl, rfl, trivial⟩) ?_
    rintro ⟨k, at_, out, e⟩ ⟨hk, ha, h0, hn⟩
    simp only at hk ha h0 hn
    have hol : (out.map fun s => [Str s]).length = out.length := List.length_map _
    refine LWp.ent (Ent.el (l := [(0, strs l), (1, marksV ms), (6, I e), (7, .lin 9 1 (out.map fun s => [Str s])), (8, I at_), (9, I k)]) ⟨rfl, rfl, rfl, rfl, rfl, rfl, trivial⟩) ?_
    refine LWp.seq (LWp.cutX (fun _ : Unit => True) (fun _ => el [(0, strs l), (1, marksV ms), (6, I e), (7, .lin 9 1 (out.map fun s => [Str s])), (8, I at_), (9, I k), (28, B (decide (k < ms.length ∧ e = 0)))]) (fun _ => []) (fun _ => []) ?_ ?_)
    · by_cases h : k < ms.length
      · have g : decide ((k : Int) < ((ms.map Mark.enc).length : Int)) = true := decide_eq_true (by rw [hml]; omega)
        refine LWp.x (gs := [(25, true)]) (hs := []) rfl (by (repeat' (with_reducible apply And.intro)); (all_goals try first | (with_reducible exact trivial) | (with_reducible rfl) | (with_reducible assumption) | ((with_reducible apply isB); first | exact rfl | exact beq_self_eq_true _))) ?_
        refine ⟨(), trivial, Ent.el ⟨rfl, rfl, rfl, rfl, rfl, rfl, ?_, trivial⟩⟩
        show B _ = B _
        refine congrArg B ?_
        rw [Bool.eq_iff_iff]; simp [h]
      · have g : decide ((k : Int) < ((ms.map Mark.enc).length : Int)) = false := decide_eq_false (by rw [hml]; omega)
        refine LWp.x (gs := [(25, false)]) (hs := []) rfl (by (repeat' (with_reducible apply And.intro)); (all_goals try first | (with_reducible exact trivial) | (with_reducible rfl) | (with_reducible assumption) | ((with_reducible apply isB); first | exact rfl | exact beq_self_eq_true _))) ?_
        refine ⟨(), trivial, Ent.el ⟨rfl, rfl, rfl, rfl, rfl, rfl, ?_, trivial⟩⟩
        show B _ = B _
        refine congrArg B ?_
        rw [Bool.eq_iff_iff]; simp [h]
    intro _ _
    refine LWp.ite rfl (fun he => ?_) (fun he => ?_)
    · obtain ⟨hkl, he0⟩ : k < ms.length ∧ e = 0 := of_decide_eq_true he
      subst he0
      obtain ⟨h30, hok, hi⟩ := h0 rfl
      obtain ⟨m, hm⟩ := ex_get hkl
      have hmk := rmark_ev m (l.drop at_)
      rw [drop_cons hm, applyG] at hi
      refine LWp.skip ?_
      refine LWp.blockX (Y := Nat × List Wd × Int) (fun y => y.1 ≤ l.length ∧ (y.2.2 = 0 → y.2.1.length ≤ k + 1 ∧ applyR l ms = applyG (ms.drop (k + 1)) (l.drop y.1) y.2.1) ∧ (y.2.2 ≠ 0 → applyR l ms = ([], y.2.2))) (fun y => el [(0, strs l), (1, marksV ms), (6, I y.2.2), (7, .lin 9 1 (y.2.1.map fun s => [Str s])), (8, I y.1), (9, I k)]) (fun _ => []) (fun _ => []) ?_ ?_
      · generalize hW : markV m (l.drop at_) = W at hmk
        generalize hE : markE m (l.drop at_) = f at hmk hi
        have hmk2 : Ev Try.prog 86 [.agg m.enc, .sl 1 (segE (l.map fun s => [Str s]) (some (at_ : Int).toNat) none)] (.tup [strs W, I f]) := by
          have e1 : segE (l.map fun s => [Str s]) (some (at_ : Int).toNat) none = (l.drop at_).map fun s => [Str s] := by
            rw [Int.toNat_natCast, List.map_drop]; rfl
          rw [e1]; exact hmk
        refine LWp.sd (gs := []) (hs := [.cells m.enc, .ret (.tup [strs W, I f])]) hmix rfl (by kernel_rfl) ⟨⟨by omega, by simp [hm]⟩, ⟨⟨by omega, trivial⟩, by simp only [Option.getD]; rw [hll]; omega, Nat.le_refl _⟩, hmk2, trivial⟩ ?_
        have hWl : W.length ≤ 1 := by
          rw [← hW]
          unfold markV markO
          split
          · split
            · simp; omega
            · split <;> simp
          · simp
        have hWl2 : (W.map fun s => [Str s]).length = W.length := List.length_map _
        refine LWp.sx (gs := []) (hs := []) rfl ⟨⟨by rw [hol, hWl2]; omega, by rw [hol, hWl2]; omega⟩, trivial⟩ ?_
        refine LWp.ent (Ent.el (l := [(0, strs l), (1, marksV ms), (6, I f), (7, .lin 9 1 ((out ++ W).map fun s => [Str s])), (8, I at_), (9, I k), (11, I f)]) ⟨rfl, rfl, rfl, by rw [List.map_append]; rfl, rfl, rfl, rfl, trivial⟩) ?_
        have hfin : applyR l ms = if f = 0 then applyG (ms.drop (k + 1)) (markL m (l.drop at_)) (out ++ W) else ([], f) := by
          rw [hi]
          split
          · rename_i h
            rw [← hW]; unfold markV; rw [hE, if_pos h]
          · rfl
        have hkp : f = 0 → m.k ≠ 3 → at_ < l.length := by
          intro h3 h4
          rcases Nat.lt_or_ge at_ l.length with g | g
          · exact g
          · exfalso
            rw [List.drop_eq_nil_of_le g] at hE
            by_cases hk4 : 0 ≤ m.k ∧ m.k ≤ 3
            · rw [markE_in hk4, if_neg h4] at hE
              (repeat' split at hE) <;> first | omega | (simp only [markE4] at hE; omega)
            · unfold markE at hE
              rw [if_pos hk4] at hE
              omega
        refine LWp.cutX (fun _ : Unit => True) (fun _ => el [(0, strs l), (1, marksV ms), (6, I f), (7, .lin 9 1 ((out ++ W).map fun s => [Str s])), (8, I at_), (9, I k), (55, B (decide (m.k ≠ 3 ∧ f = 0)))]) (fun _ => []) (fun _ => []) ?_ ?_
        · by_cases h3 : m.k = 3
          · have g : (m.k != 3) = false := by rw [h3]; rfl
            refine LWp.x (gs := [(52, false)]) (hs := [.cells m.enc]) rfl (by (repeat' (with_reducible apply And.intro)); (all_goals first | (with_reducible exact trivial) | (with_reducible rfl) | (with_reducible assumption) | ((with_reducible apply isB); first | exact rfl | exact beq_self_eq_true _) | omega | ((simp [hm])))) ?_
            refine ⟨(), trivial, Ent.el ⟨rfl, rfl, rfl, rfl, rfl, rfl, ?_, trivial⟩⟩
            show B _ = B _
            refine congrArg B ?_
            rw [Bool.eq_iff_iff]; simp [h3]
          · have g : (m.k != 3) = true := by rw [bne_iff_ne]; exact h3
            refine LWp.x (gs := [(52, true)]) (hs := [.cells m.enc]) rfl (by (repeat' (with_reducible apply And.intro)); (all_goals first | (with_reducible exact trivial) | (with_reducible rfl) | (with_reducible assumption) | ((with_reducible apply isB); first | exact rfl | exact beq_self_eq_true _) | omega | ((simp [hm])))) ?_
            refine ⟨(), trivial, Ent.el ⟨rfl, rfl, rfl, rfl, rfl, rfl, ?_, trivial⟩⟩
            show B _ = B _
            refine congrArg B ?_
            rw [Bool.eq_iff_iff]; simp [h3]
        intro _ _
        refine LWp.ite rfl (fun h => ?_) (fun h => LWp.skip ?_)
        · have h : m.k ≠ 3 ∧ f = 0 := of_decide_eq_true h
          have hlt2 := hkp h.2 h.1
          refine LWp.x (gs := []) (hs := []) rfl ⟨by omega, trivial⟩ ?_
          refine ⟨(at_ + 1, out ++ W, f), ⟨by simp only; omega, fun _ => ⟨by simp; omega, ?_⟩, fun hn => absurd h.2 hn⟩, Ent.el ⟨rfl, rfl, rfl, rfl, rfl, rfl, trivial⟩⟩
          rw [hfin, if_pos h.2, markL, if_neg h.1, List.tail_drop]
        · have h : ¬ (m.k ≠ 3 ∧ f = 0) := of_decide_eq_false h
          refine ⟨(at_, out ++ W, f), ⟨ha, fun hf => ⟨by simp; omega, ?_⟩, fun hn => ?_⟩, Ent.el ⟨rfl, rfl, rfl, rfl, rfl, rfl, trivial⟩⟩
          · have hf : f = 0 := hf
            have h3 : m.k = 3 := by
              rcases Classical.em (m.k = 3) with g | g
              · exact g
              · exact absurd ⟨g, hf⟩ h
            rw [hfin, if_pos hf, markL, if_pos h3]
          · rw [hfin, if_neg hn]
      rintro ⟨at', out', e'⟩ ⟨h1, h2, h3⟩
      simp only at h1 h2 h3
      refine LWp.x (gs := []) (hs := []) rfl ⟨by omega, trivial⟩ ?_
      exact ⟨(k + 1, at', out', e'), ⟨by simp only; omega, h1, fun h => ⟨h30, (h2 h).1, (h2 h).2⟩, h3⟩, by simp only; omega, Ent.el ⟨rfl, rfl, rfl, rfl, rfl, rfl, trivial⟩⟩
    · have he : ¬ (k < ms.length ∧ e = 0) := of_decide_eq_false he
      refine LWp.exit ⟨(at_, out, e), ⟨ha, fun h => ?_, hn⟩, Ent.trans (Ent.freezeLin (t := 7) rfl) (Ent.el ⟨rfl, rfl, rfl, rfl, trivial⟩)⟩
      have : k = ms.length := by have := h; simp only at this; omega
      subst this
      obtain ⟨a1, a2, a3⟩ := h0 h
      rw [List.drop_length] at a3
      exact ⟨by simp only; omega, a3⟩
  rintro ⟨at_, out, e⟩ ⟨ha, h0, hn⟩
  simp only at ha h0 hn
  refine LWp.cutX (Y := Int) (fun e => (e = 0 → applyR l ms = if 15 < out.length then ([], 3) else (out, 0)) ∧ (e ≠ 0 → applyR l ms = ([], e))) (fun e => el [(6, I e), (7, strs out)]) (fun _ => []) (fun _ => []) ?_ ?_
  · refine LWp.cutX (fun _ : Unit => True) (fun _ => el [(6, I e), (7, strs out), (65, B (decide (e = 0 ∧ at_ < l.length)))]) (fun _ => []) (fun _ => []) ?_ ?_
    · by_cases h : e = 0
      · have g : (e == 0) = true := by rw [beq_iff_eq]; exact h
        refine LWp.x (gs := [(60, true)]) (hs := []) rfl (by (repeat' (with_reducible apply And.intro)); (all_goals try first | (with_reducible exact trivial) | (with_reducible rfl) | (with_reducible assumption) | ((with_reducible apply isB); first | exact rfl | exact beq_self_eq_true _))) ?_
        refine ⟨(), trivial, Ent.el ⟨rfl, rfl, ?_, trivial⟩⟩
        show B _ = B _
        refine congrArg B ?_
        rw [hll, Bool.eq_iff_iff]; simp [h]
      · have g : (e == 0) = false := by rw [beq_eq_false_iff_ne]; exact h
        refine LWp.x (gs := [(60, false)]) (hs := []) rfl (by (repeat' (with_reducible apply And.intro)); (all_goals try first | (with_reducible exact trivial) | (with_reducible rfl) | (with_reducible assumption) | ((with_reducible apply isB); first | exact rfl | exact beq_self_eq_true _))) ?_
        refine ⟨(), trivial, Ent.el ⟨rfl, rfl, ?_, trivial⟩⟩
        show B _ = B _
        refine congrArg B ?_
        rw [Bool.eq_iff_iff]; simp [h]
    intro _ _
    refine LWp.ite rfl (fun h => ?_) (fun h => LWp.skip ?_)
    · have h : e = 0 ∧ at_ < l.length := of_decide_eq_true h
      refine LWp.x (gs := []) (hs := []) rfl trivial ?_
      refine ⟨2, ⟨fun h => (by cases h), fun _ => ?_⟩, Ent.el ⟨rfl, rfl, trivial⟩⟩
      rw [(h0 h.1).2, applyG, if_pos]
      intro hd
      have := congrArg List.length hd
      rw [List.length_drop, List.length_nil] at this; omega
    · have h : ¬ (e = 0 ∧ at_ < l.length) := of_decide_eq_false h
      refine ⟨e, ⟨fun he => ?_, hn⟩, Ent.el ⟨rfl, rfl, trivial⟩⟩
      rw [(h0 he).2, applyG, if_neg (by rw [List.drop_eq_nil_of_le (by omega)]; simp)]
  rintro e2 ⟨h0, hn⟩
  have hol : (out.map fun s => [Str s]).length = out.length := List.length_map _
  refine LWp.cutX (Y := Int) (fun e => (e = 0 → applyR l ms = (out, 0)) ∧ (e ≠ 0 → applyR l ms = ([], e))) (fun e => el [(6, I e), (7, strs out)]) (fun _ => []) (fun _ => []) ?_ ?_
  · refine LWp.cutX (fun _ : Unit => True) (fun _ => el [(6, I e2), (7, strs out), (72, B (decide (e2 = 0 ∧ 15 < out.length)))]) (fun _ => []) (fun _ => []) ?_ ?_
    · by_cases h : e2 = 0
      · have g : (e2 == 0) = true := by rw [beq_iff_eq]; exact h
        refine LWp.x (gs := [(68, true)]) (hs := []) rfl (by (repeat' (with_reducible apply And.intro)); (all_goals try first | (with_reducible exact trivial) | (with_reducible rfl) | (with_reducible assumption) | ((with_reducible apply isB); first | exact rfl | exact beq_self_eq_true _))) ?_
        refine ⟨(), trivial, Ent.el ⟨rfl, rfl, ?_, trivial⟩⟩
        show B _ = B _
        refine congrArg B ?_
        rw [hol, Bool.eq_iff_iff]; simp [h]; omega
      · have g : (e2 == 0) = false := by rw [beq_eq_false_iff_ne]; exact h
        refine LWp.x (gs := [(68, false)]) (hs := []) rfl (by (repeat' (with_reducible apply And.intro)); (all_goals try first | (with_reducible exact trivial) | (with_reducible rfl) | (with_reducible assumption) | ((with_reducible apply isB); first | exact rfl | exact beq_self_eq_true _))) ?_
        refine ⟨(), trivial, Ent.el ⟨rfl, rfl, ?_, trivial⟩⟩
        show B _ = B _
        refine congrArg B ?_
        rw [Bool.eq_iff_iff]; simp [h]
    intro _ _
    refine LWp.ite rfl (fun h => ?_) (fun h => LWp.skip ?_)
    · have h : e2 = 0 ∧ 15 < out.length := of_decide_eq_true h
      refine LWp.x (gs := []) (hs := []) rfl trivial ?_
      refine ⟨3, ⟨fun h => (by cases h), fun _ => ?_⟩, Ent.el ⟨rfl, rfl, trivial⟩⟩
      rw [h0 h.1, if_pos h.2]
    · have h : ¬ (e2 = 0 ∧ 15 < out.length) := of_decide_eq_false h
      refine ⟨e2, ⟨fun he => ?_, hn⟩, Ent.el ⟨rfl, rfl, trivial⟩⟩
      rw [h0 he, if_neg (by omega)]
  rintro e3 ⟨h0, hn⟩
  refine LWp.seq (LWp.seq ?_)
  refine LWp.x (gs := []) (hs := []) rfl trivial ?_
  by_cases h : e3 = 0
  · refine LWp.ite (b := false) (by show B _ = B _; exact congrArg B (by rw [h]; rfl)) (fun h => by cases h) (fun _ => LWp.skip ?_)
    refine LWp.sx (gs := []) (hs := []) rfl trivial ?_
    rw [h0 h]
    exact LWp.ret (retT (.inr rfl) (.many (by decide) ⟨.tmp rfl rfl, .tmp rfl rfl, trivial⟩))
  · refine LWp.ite (b := true) (by show B _ = B _; exact congrArg B (by rw [bne_iff_ne]; exact h)) (fun _ => ?_) (fun h => by cases h)
    refine LWp.sx (gs := []) (hs := []) rfl trivial ?_
    refine LWp.ent (Ent.nilSl (t := 4) 1 rfl) ?_
    rw [hn h]
    exact LWp.ret (retT (.inr rfl) (.many (by decide) ⟨.tmp rfl rfl, .tmp rfl rfl, trivial⟩))
end Go.Px

namespace Go.Px
open Go.Proofs
theorem marksF_wf : ∀ (f : Nat) {A C : List Wd}, WdsOK C → ∀ x ∈ marksF f A C, x.wf
  | 0, A, C, _, x, h => by cases h
  | f + 1, A, C, hC, x, h => by
    have ht : WdsOK C.tail := fun s hs => hC s (List.mem_of_mem_tail hs)
    have hh : WdOK (C.headD []) := by
      cases C with
      | nil => show ([] : Wd).length ≤ _; simp
      | cons c cs => exact hC c (by simp)
    have h0 : WdOK [] := by show ([] : Wd).length ≤ _; simp
    simp only [marksF] at h
    split at h
    · rcases List.mem_cons.1 h with rfl | h
      · exact ⟨by simp only; omega, by simp only; omega, h0⟩
      · exact marksF_wf f ht x h
    · split at h
      · rcases List.mem_cons.1 h with rfl | h
        · exact ⟨by simp only; omega, by simp only; omega, hh⟩
        · exact marksF_wf f ht x h
      · split at h
        · rcases List.mem_cons.1 h with rfl | h
          · exact ⟨by simp only; omega, by simp only; omega, h0⟩
          · exact marksF_wf f hC x h
        · split at h
          · rcases List.mem_cons.1 h with rfl | h
            · exact ⟨by simp only; omega, by simp only; omega, hh⟩
            · exact marksF_wf f ht x h
          · cases h
theorem fewestR_wf {A C : List Wd} (hC : WdsOK C) : ∀ x ∈ (fewestR A C).1, x.wf := by
  unfold fewestR
  split
  · exact marksF_wf _ hC
  · intro x h; cases h
theorem rfewest_ev2 (A C : List Wd) : Ev Try.prog 33 [strs A, strs C] (.tup [marksV (fewestR A C).1, I (fewestR A C).2.1, I (fewestR A C).2.2]) :=
  rfewest_ev A C fun hA hC => rmarks_ev A C (by have := (letter_zero.1 hA).1; omega) (by have := (letter_zero.1 hC).1; omega) (letter_ne hC)
theorem letterMarks_ev (A C : List Wd) (hC : WdsOK C) (ms : List Mark) : Ev Try.prog 6 [strs A, strs C, marksV ms] (B true) := by
  have e1 := fewest_ev A C
  have e2 := rfewest_ev2 A C
  have e3 := apply_ev A ms
  have e4 := rapply_ev A ms
  have hwf := fewestR_wf (A := A) hC
  generalize (fewestR A C).1 = p at e1 e2 hwf
  generalize (fewestR A C).2.1 = q at e1 e2
  generalize (fewestR A C).2.2 = r at e1 e2
  generalize (applyR A ms).1 = x at e3 e4
  generalize (applyR A ms).2 = y at e3 e4
  refine Ev.intro fn6 ?_
  refine LWp.sx (gs := []) (hs := []) rfl trivial ?_
  refine LWp.sx (gs := []) (hs := [.ret (.tup [marksV p, I q, I r])]) rfl ⟨e1, trivial⟩ ?_
  refine LWp.sx (gs := []) (hs := [.ret (.tup [marksV p, I q, I r])]) rfl ⟨e2, trivial⟩ ?_
  refine LWp.seq (LWp.seq ?_)
  refine LWp.x (gs := [(33, false), (38, false)]) (hs := [.ret (B true)]) rfl (by (repeat' (with_reducible apply And.intro)); (all_goals first | (with_reducible exact trivial) | (with_reducible rfl) | (with_reducible assumption) | ((with_reducible apply isB); first | exact rfl | exact beq_self_eq_true _) | omega | ((first | exact equal_refl _ hwf | (simp; done))))) ?_
  refine LWp.ite rfl (fun h => ?_) (fun _ => LWp.skip ?_)
  · simp at h
  refine LWp.sx (gs := []) (hs := [.ret (.tup [strs x, I y])]) rfl ⟨e3, trivial⟩ ?_
  refine LWp.sx (gs := []) (hs := [.ret (.tup [strs x, I y])]) rfl ⟨e4, trivial⟩ ?_
  refine LWp.sx (gs := [(58, true), (63, true)]) (hs := [.ret (B true), .ret (B true)]) rfl (by (repeat' (with_reducible apply And.intro)); (all_goals try first | (with_reducible exact trivial) | (with_reducible rfl) | (with_reducible assumption) | ((with_reducible apply isB); first | exact rfl | exact beq_self_eq_true _)); exact same_refl _; exact awake_ev) ?_
  refine LWp.ret (retT (.inr rfl) (.one (.tmp ?_ rfl)))
  rfl
end Go.Px

