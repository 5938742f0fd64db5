/- Part 3 of the proof of the statement PersonWider (contracts of the functions that it alone wants). No conditions. -/
import Derived.Test.YtcioapljmakidaaGreatBWider2
namespace Go.Px
open Go.Proofs Go.MapKept
theorem op_rem8 {T : TypeId} {d : Nat} {a b : Operand} {env : Env} {H : Heap} {x : Int} (h0 : 0 ≤ x) (ha : evO env a = U x) (hb : evO env b = U 2) :
    ∀ (r : Option Nat) (N : Nat) (D : List Nat), Q1 Tryz.prog r N (.bin .rem T a b) (some d) env H D [(d, U (x % 2))] := by
  intro r N D
  obtain ⟨n, rfl⟩ := Int.eq_ofNat_of_zero_le h0
  exact Op1.rem (kd := .u8) (a := n) (b := 2) ha hb (by decide) ⟨rfl, rfl, rfl⟩
set_option maxRecDepth 10000 in
set_option maxHeartbeats 2000000 in
theorem personWider_ev (t : Town) (hw : t.wf) (x0 x1 x2 : Int) (h0 : 0 ≤ x0) (h0' : x0 ≤ 255) (h1 : 0 ≤ x1) (h1' : x1 ≤ 255) (h2 : 0 ≤ x2) (_h2' : x2 ≤ 255) : Ev Tryz.prog 14 [.agg t.enc, .agg [U x0, U x1, U x2]] (B true) := by
  have ev := lvalid3_ev t hw
  have hln : ((t.ms.map Men.enc).length : Int) = t.ms.length := by simp
  have hlnN : (t.ms.map Men.enc).length = t.ms.length := by simp
  refine Ev.intro fn14 ?_
  refine LWp.sx (gs := []) (hs := [.ice, .ice]) rfl ⟨⟨rfl, rfl⟩, ⟨rfl, rfl⟩, trivial⟩ ?_
  refine LWp.seq (LWp.seq ?_)
  by_cases hE : townE t = 0
  case neg =>
    rw [show (townE t == 0) = false by rw [beq_eq_false_iff_ne]; exact hE] at ev
    refine LWp.x (gs := [(21, true)]) (hs := [.ret (B false)]) rfl (by (repeat' (with_reducible apply And.intro)); (all_goals first | (with_reducible exact trivial) | (with_reducible rfl) | (with_reducible assumption) | ((with_reducible apply isB); first | exact rfl | exact beq_self_eq_true _) | omega | ((exact ev)))) ?_
    refine LWp.ite (b := true) rfl (fun _ => ?_) (fun h => by cases h)
    refine LWp.sx (gs := []) (hs := [.ret (B true)]) rfl ⟨awake3_ev, trivial⟩ ?_
    refine LWp.ret (retT (.inr rfl) (.one (.tmp ?_ rfl)))
    rfl
  rw [show (townE t == 0) = true by rw [beq_iff_eq]; exact hE] at ev
  refine LWp.x (gs := [(21, false)]) (hs := [.ret (B true)]) rfl (by (repeat' (with_reducible apply And.intro)); (all_goals first | (with_reducible exact trivial) | (with_reducible rfl) | (with_reducible assumption) | ((with_reducible apply isB); first | exact rfl | exact beq_self_eq_true _) | omega | ((exact ev)))) ?_
  refine LWp.ite rfl (fun _ => ?_) (fun h => LWp.skip ?_)
  · refine LWp.sx (gs := []) (hs := [.ret (B true)]) rfl ⟨awake3_ev, trivial⟩ ?_
    refine LWp.ret (retT (.inr rfl) (.one (.tmp ?_ rfl)))
    rfl
  rw [beq_eq_false_iff_ne, hln] at h
  have hn : 0 < t.ms.length := by omega
  obtain ⟨m, hm, em⟩ := w_mod h0 hn
  obtain ⟨x, hx⟩ := ex_get hm
  have hxm := Town.m_get hx
  obtain ⟨hO, h5⟩ := (townE_zero hw).1 hE
  have ox := hO.men m x hx
  have o1 := ox.lo0
  have o2 := ox.hi1
  have o3 := ox.lh
  have ha : 0 ≤ x1 % 40 := Int.emod_nonneg _ (by decide)
  have hb : 0 ≤ x1 % 30 := Int.emod_nonneg _ (by decide)
  have ha' : x1 % 40 < 40 := Int.emod_lt_of_pos _ (by decide)
  have hb' : x1 % 30 < 30 := Int.emod_lt_of_pos _ (by decide)
  obtain ⟨f1, f2, f3, f4⟩ := wide_facts hw hE hm ha hb (decide (x2 % 2 = 0))
  rw [hxm] at f1 f2 f3 f4
  refine LWp.sx (gs := []) (hs := [.lin]) rfl ⟨rfl, ⟨rfl, rfl, rfl, by decide⟩, trivial⟩ ?_
  refine LWp.seq (LWp.ops ?_)
  refine WOps.shareB (t := 5) rfl (fun b5 => ?_)
  refine WOps.xn (gs := []) (hs := [.lin]) 4 rfl rfl ⟨rfl, ⟨by simp [chunk]; omega, by simp [chunk]; omega⟩, trivial⟩ ?_
  refine WOps.ent (Ent.el (l := [(2, .pi t.enc), (3, .pi [U x0, U x1, U x2]), (5, .po b5 0), (32, .lin 49 5 (t.ms.map Men.enc))]) ⟨rfl, rfl, rfl, rfl, trivial⟩) ?_
  refine WOps.share (t := 32) rfl (fun h => absurd (show t.ms.map Men.enc = [] from h) (by intro e; rw [List.map_eq_nil_iff.1 e] at hn; simp at hn)) (fun bA cap => ?_)
  refine WOps.hd (gs := []) (hs := [.stO 1]) rfl ⟨⟨rfl, rfl, rfl, rfl, (show 5 ≤ 6 by omega)⟩, trivial⟩ ?_
  refine LWp.sx (gs := []) (hs := []) rfl ⟨⟨by omega, by decide⟩, i64_wrap (n := x0) (by omega) (by omega), ⟨by omega, by rw [hlnN]; omega⟩, trivial⟩ ?_
  refine LWp.ent (Ent.el (l := [(2, .pi t.enc), (3, .pi [U x0, U x1, U x2]), (5, .po b5 0), (6, I m)]) ⟨rfl, rfl, rfl, by show I _ = I _; rw [← em, hlnN], trivial⟩) ?_
  refine LWp.sx (gs := []) (hs := [.at 1, .elt 0 m 0 x.enc, .lin]) rfl ⟨rfl, ⟨by omega, by rw [hlnN]; omega⟩, ⟨rfl, by simp, by simp [hx]⟩, rfl, ⟨rfl, rfl, rfl, by decide⟩, trivial⟩ ?_
  refine LWp.shareB (t := 7) rfl (fun b7 => ?_)
  refine LWp.ent (Ent.el (l := [(2, .pi t.enc), (3, .pi [U x0, U x1, U x2]), (5, .po b5 0), (6, I m), (7, .po b7 0)]) ⟨rfl, rfl, rfl, rfl, rfl, trivial⟩) ?_
  have sp := lspan_ev (max 0 (x.lo - x1 % 40)) (min 199 (x.hi + x1 % 30))
  refine LWp.shx (gs := []) (hs := [.at 0, .at 0, .ret (.agg [I (max 0 (x.lo - x1 % 40)), I (min 199 (x.hi + x1 % 30))]), .stO 0]) rfl (by (repeat' (with_reducible apply And.intro)); (all_goals first | (with_reducible exact trivial) | (with_reducible rfl) | (with_reducible assumption) | ((with_reducible apply isB); first | exact rfl | exact beq_self_eq_true _) | omega | ((first | exact i64_wrap (by omega) (by omega) | exact sp | rfl | exact (show 4 ≤ 5 by omega))))) ?_
  refine LWp.cutX (fun _ : Unit => True) (fun _ => el [(2, .pi t.enc), (3, .pi [U x0, U x1, U x2]), (5, .po b5 0), (6, I m), (7, .po b7 0)]) (fun _ => [(b7, .cells 49 (wideM x (x1 % 40) (x1 % 30) (decide (x2 % 2 = 0))).enc), (bA, .arr 49 5 cap (t.ms.map Men.enc)), (b5, .cells 29 (t.ear.enc ++ [I t.vil, .so bA (t.ms.map Men.enc).length cap, tiesV t.ties]))]) (fun _ => []) ?_ (fun _ _ => ?_)
  · refine LWp.seq ?_
    refine LWp.x (gs := []) (hs := [.op (U (x2 % 2))]) rfl (by (repeat' (with_reducible apply And.intro)); (all_goals first | (with_reducible exact trivial) | (with_reducible rfl) | (with_reducible assumption) | ((with_reducible apply isB); first | exact rfl | exact beq_self_eq_true _) | omega | ((first | exact op_rem8 h2 rfl rfl)))) ?_
    refine LWp.ite rfl (fun h => ?_) (fun h => ?_)
    · have e : decide (x2 % 2 = 0) = true := by rw [decide_eq_true_eq]; exact beq_iff_eq.1 h
      rw [e]
      refine LWp.hx (gs := []) (hs := [.stO 0]) rfl ⟨⟨rfl, rfl, rfl, rfl, (show 2 ≤ 5 by omega)⟩, trivial⟩ ?_
      exact ⟨(), trivial, Ent.el ⟨rfl, rfl, rfl, rfl, rfl, trivial⟩⟩
    · have e : decide (x2 % 2 = 0) = false := by rw [decide_eq_false_iff_not]; exact beq_eq_false_iff_ne.1 h
      rw [e]
      exact LWp.skip ⟨(), trivial, Ent.el ⟨rfl, rfl, rfl, rfl, rfl, trivial⟩⟩
  generalize wideM x (x1 % 40) (x1 % 30) (decide (x2 % 2 = 0)) = y at *
  refine LWp.ent (Ent.freezeBox (t := 7) (i := 0) rfl rfl) ?_
  refine LWp.shx (gs := []) (hs := [.at 1, .stE 0 m 0 x.enc]) rfl ⟨rfl, ⟨by omega, by rw [hlnN]; omega⟩, ⟨rfl, by simp, by simp [hx], rfl, rfl, rfl, Nat.le_refl 5⟩, trivial⟩ ?_
  have hset : ((t.ms.map Men.enc).set m y.enc) = (putT t m y).ms.map Men.enc := by show _ = (t.ms.set m y).map Men.enc; rw [List.map_set]
  refine LWp.ent (Ent.trans (Ent.ofH (H' := [(bA, .arr 49 5 cap ((putT t m y).ms.map Men.enc)), (b5, .cells 29 (t.ear.enc ++ [I t.vil, .so bA (t.ms.map Men.enc).length cap, tiesV t.ties]))]) (by rw [← hset]; rfl))
    (Ent.trans (Ent.freezeArrAt (i := 0) (j := 0) (putT t m y).enc rfl rfl ⟨.inl rfl, .inl rfl, .inl rfl, .inl rfl, .inr ⟨by simp [putT], rfl⟩, .inl rfl, trivial⟩)
    (Ent.trans (Ent.freezeBox (t := 5) (i := 0) rfl rfl) (Ent.el (l := [(2, .pi t.enc), (5, .pi (putT t m y).enc)]) ⟨rfl, rfl, trivial⟩)))) ?_
  generalize putT t m y = u at *
  have e1 := pfirst_ev t hw
  have e2 := pfirst_ev u f1
  have e3 := pwrong_ev t hw
  have e4 := pwrong_ev u f1
  obtain ⟨z1, _⟩ := first_few hE
  obtain ⟨z2, _⟩ := first_few f2
  generalize (firstT t).1 = l1 at e1
  generalize (firstT t).2.1 = k1 at e1 f3
  generalize (firstT t).2.2 = r1 at e1 z1
  generalize (firstT u).1 = l2 at e2
  generalize (firstT u).2.1 = k2 at e2 f3
  generalize (firstT u).2.2 = r2 at e2 z2
  generalize (wrongT t).1 = l3 at e3 f4
  generalize (wrongT t).2 = r3 at e3 f4
  generalize (wrongT u).1 = l4 at e4 f4
  generalize (wrongT u).2 = r4 at e4 f4
  refine LWp.sx (gs := []) (hs := [.ret (.tup [ints l1, I k1, I r1])]) rfl ⟨e1, trivial⟩ ?_
  refine LWp.sx (gs := []) (hs := [.ret (.tup [ints l2, I k2, I r2])]) rfl ⟨e2, trivial⟩ ?_
  refine LWp.sx (gs := []) (hs := [.ret (.tup [ints l3, I r3])]) rfl ⟨e3, trivial⟩ ?_
  refine LWp.sx (gs := []) (hs := [.ret (.tup [ints l4, I r4])]) rfl ⟨e4, trivial⟩ ?_
  have g1 : decide (k1 ≤ k2) = true := decide_eq_true f3
  have hl4 : ((l4.map fun x => [I x]).length : Int) = l4.length := by simp
  have hl3 : ((l3.map fun x => [I x]).length : Int) = l3.length := by simp
  by_cases hr : r3 = 0
  · obtain ⟨f5, f6⟩ := f4 hr
    have g2 : decide (((l4.map fun x => [I x]).length : Int) ≤ ((l3.map fun x => [I x]).length : Int)) = true := decide_eq_true (by rw [hl4, hl3]; omega)
    have g3 : (r3 != 0) = false := by rw [bne_eq_false_iff_eq]; exact hr
    have g4 : (r4 == 0) = true := by rw [beq_iff_eq]; exact f5
    rcases z1 with rfl | rfl <;> rcases z2 with rfl | rfl
    · refine LWp.sx (gs := [(100, true), (104, true), (107, true), (112, true), (117, true), (120, false), (123, true), (132, true)]) (hs := [.ret (B true)]) rfl (by (repeat' (with_reducible apply And.intro)); (all_goals first | (with_reducible exact trivial) | (with_reducible rfl) | (with_reducible assumption) | ((with_reducible apply isB); first | exact rfl | exact beq_self_eq_true _) | omega | ((first | exact awake3_ev | ((with_reducible apply isB); first | exact g1 | exact g2 | exact g3 | exact g4))))) ?_
      refine LWp.ret (retT (.inr rfl) (.one (.tmp ?_ rfl)))
      rfl

    · refine LWp.sx (gs := [(100, true), (104, true), (107, false), (112, true), (117, true), (120, false), (123, true), (132, true)]) (hs := [.ret (B true)]) rfl (by (repeat' (with_reducible apply And.intro)); (all_goals first | (with_reducible exact trivial) | (with_reducible rfl) | (with_reducible assumption) | ((with_reducible apply isB); first | exact rfl | exact beq_self_eq_true _) | omega | ((first | exact awake3_ev | ((with_reducible apply isB); first | exact g1 | exact g2 | exact g3 | exact g4))))) ?_
      refine LWp.ret (retT (.inr rfl) (.one (.tmp ?_ rfl)))
      rfl

    · refine LWp.sx (gs := [(100, false), (104, true), (107, true), (112, true), (117, true), (120, false), (123, true), (132, true)]) (hs := [.ret (B true)]) rfl (by (repeat' (with_reducible apply And.intro)); (all_goals first | (with_reducible exact trivial) | (with_reducible rfl) | (with_reducible assumption) | ((with_reducible apply isB); first | exact rfl | exact beq_self_eq_true _) | omega | ((first | exact awake3_ev | ((with_reducible apply isB); first | exact g1 | exact g2 | exact g3 | exact g4))))) ?_
      refine LWp.ret (retT (.inr rfl) (.one (.tmp ?_ rfl)))
      rfl

    · refine LWp.sx (gs := [(100, false), (104, true), (107, false), (112, true), (117, true), (120, false), (123, true), (132, true)]) (hs := [.ret (B true)]) rfl (by (repeat' (with_reducible apply And.intro)); (all_goals first | (with_reducible exact trivial) | (with_reducible rfl) | (with_reducible assumption) | ((with_reducible apply isB); first | exact rfl | exact beq_self_eq_true _) | omega | ((first | exact awake3_ev | ((with_reducible apply isB); first | exact g1 | exact g2 | exact g3 | exact g4))))) ?_
      refine LWp.ret (retT (.inr rfl) (.one (.tmp ?_ rfl)))
      rfl

  · have g3 : (r3 != 0) = true := by rw [bne_iff_ne]; exact hr
    have g2 : True := trivial
    have g4 : True := trivial
    rcases z1 with rfl | rfl <;> rcases z2 with rfl | rfl
    · refine LWp.sx (gs := [(100, true), (104, true), (107, true), (112, true), (117, true), (120, true), (123, true), (132, true)]) (hs := [.ret (B true)]) rfl (by (repeat' (with_reducible apply And.intro)); (all_goals first | (with_reducible exact trivial) | (with_reducible rfl) | (with_reducible assumption) | ((with_reducible apply isB); first | exact rfl | exact beq_self_eq_true _) | omega | ((first | exact awake3_ev | ((with_reducible apply isB); first | exact g1 | exact g2 | exact g3 | exact g4))))) ?_
      refine LWp.ret (retT (.inr rfl) (.one (.tmp ?_ rfl)))
      rfl

    · refine LWp.sx (gs := [(100, true), (104, true), (107, false), (112, true), (117, true), (120, true), (123, true), (132, true)]) (hs := [.ret (B true)]) rfl (by (repeat' (with_reducible apply And.intro)); (all_goals first | (with_reducible exact trivial) | (with_reducible rfl) | (with_reducible assumption) | ((with_reducible apply isB); first | exact rfl | exact beq_self_eq_true _) | omega | ((first | exact awake3_ev | ((with_reducible apply isB); first | exact g1 | exact g2 | exact g3 | exact g4))))) ?_
      refine LWp.ret (retT (.inr rfl) (.one (.tmp ?_ rfl)))
      rfl

    · refine LWp.sx (gs := [(100, false), (104, true), (107, true), (112, true), (117, true), (120, true), (123, true), (132, true)]) (hs := [.ret (B true)]) rfl (by (repeat' (with_reducible apply And.intro)); (all_goals first | (with_reducible exact trivial) | (with_reducible rfl) | (with_reducible assumption) | ((with_reducible apply isB); first | exact rfl | exact beq_self_eq_true _) | omega | ((first | exact awake3_ev | ((with_reducible apply isB); first | exact g1 | exact g2 | exact g3 | exact g4))))) ?_
      refine LWp.ret (retT (.inr rfl) (.one (.tmp ?_ rfl)))
      rfl

    · refine LWp.sx (gs := [(100, false), (104, true), (107, false), (112, true), (117, true), (120, true), (123, true), (132, true)]) (hs := [.ret (B true)]) rfl (by (repeat' (with_reducible apply And.intro)); (all_goals first | (with_reducible exact trivial) | (with_reducible rfl) | (with_reducible assumption) | ((with_reducible apply isB); first | exact rfl | exact beq_self_eq_true _) | omega | ((first | exact awake3_ev | ((with_reducible apply isB); first | exact g1 | exact g2 | exact g3 | exact g4))))) ?_
      refine LWp.ret (retT (.inr rfl) (.one (.tmp ?_ rfl)))
      rfl
end Go.Px

