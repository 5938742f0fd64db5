/- Part 6 of the proofs of the statements of this seat (a logic of pure contracts, the functions lowered, their contracts). No conditions. -/
import Derived.Test.YtbplgdbdpdhipaaA5
namespace Go.Px
open Go.Proofs
abbrev act1Out (a _b : Wd) : Wd := a
abbrev act2Out (_a b : Wd) : Wd := b
abbrev act4Out (_a b : Wd) : Wd := b
theorem act1_ev (a b : Wd) : Ev Try.prog 117 [Str a, Str b] (strs [act1Out a b]) := by
  refine Ev.intro fn117 ?_
  refine LWp.sx (gs := []) (hs := []) rfl trivial ?_
  refine LWp.sx (gs := []) (hs := [.ice]) rfl ⟨rfl, trivial⟩ ?_
  refine LWp.ret (retT (.inr rfl) (.one (.tmp ?_ rfl)))
  rfl
theorem act2_ev (a b : Wd) : Ev Try.prog 118 [Str a, Str b] (strs [act2Out a b]) := by
  refine Ev.intro fn118 ?_
  refine LWp.sx (gs := []) (hs := []) rfl trivial ?_
  refine LWp.sx (gs := []) (hs := [.ice]) rfl ⟨rfl, trivial⟩ ?_
  refine LWp.ret (retT (.inr rfl) (.one (.tmp ?_ rfl)))
  rfl
theorem act4_ev (a b : Wd) : Ev Try.prog 120 [Str a, Str b] (strs [act4Out a b]) := by
  refine Ev.intro fn120 ?_
  refine LWp.sx (gs := []) (hs := []) rfl trivial ?_
  refine LWp.sx (gs := []) (hs := [.ice]) rfl ⟨rfl, trivial⟩ ?_
  refine LWp.ret (retT (.inr rfl) (.one (.tmp ?_ rfl)))
  rfl
theorem act3_ev (a b : Wd) : Ev Try.prog 119 [Str a, Str b] (strs []) := by
  refine Ev.intro fn119 ?_
  refine LWp.sx (gs := []) (hs := []) rfl trivial ?_
  refine LWp.sx (gs := []) (hs := []) rfl trivial ?_
  refine LWp.ent (Ent.nilSl (t := 4) 1 rfl) ?_
  refine LWp.ret (retT (.inr rfl) (.one (.tmp ?_ rfl)))
  rfl
/-- What a mark writes. -/
def becF (k : Int) (rd own : Wd) : List Wd := if k = 0 then [rd] else if k = 2 then [] else [own]
theorem apply_ev (l : List Wd) (ms : List Mark) : Ev Try.prog 35 [strs l, marksV ms] (.tup [strs (applyR l ms).1, I (applyR l ms).2]) := by
  have hlt := lettered_ev l
  have hll : (l.map fun s => [Str s]).length = l.length := List.length_map _
  have hml : (ms.map Mark.enc).length = ms.length := List.length_map _
  have res : ∀ {Q : Post} {env : Env} {H : Heap} {x : List Wd} {r : Int}, (∀ env H, retP Try.prog [.tmp 4, .tmp 5] (.tup [strs (applyR l ms).1, I (applyR l ms).2]) .ret env H [] → Q .ret env H []) → applyR l ms = (x, r) → env 4 = strs x → env 5 = I r → Q .ret env H [] := by
    intro Q env H x r hQ h h2 h3
    refine hQ _ _ ?_
    rw [h]
    exact retT (.inr rfl) (.many (by decide) ⟨.tmp h2 rfl, .tmp h3 rfl, trivial⟩)
  refine Ev.intro fn35 ?_
  obtain ⟨e, hE⟩ : ∃ e, letterE l = e := ⟨_, rfl⟩
  rw [hE] at hlt
  refine LWp.sx (gs := []) (hs := []) rfl trivial ?_
  refine LWp.sx (gs := []) (hs := [.ret (I e)]) rfl ⟨hlt, trivial⟩ ?_
  refine LWp.seqBlock ?_
  refine LWp.sx (gs := []) (hs := []) rfl trivial ?_
  by_cases h0 : e = 0
  case neg =>
    have hA : applyR l ms = ([], e) := by unfold applyR; rw [hE, if_neg h0]
    refine LWp.ite (b := true) (by show B _ = B _; exact congrArg B (by rw [bne_iff_ne]; exact h0)) (fun _ => ?_) (fun h => by cases h)
    refine LWp.sx (gs := []) (hs := []) rfl trivial ?_
    refine LWp.ent (Ent.nilSl (t := 4) 1 rfl) ?_
    exact LWp.ret (res (fun _ _ h => h) hA rfl rfl)
  subst h0
  obtain ⟨h15, hws⟩ := letter_zero.1 hE
  refine LWp.ite (b := false) rfl (fun h => by cases h) (fun _ => ?_)
  refine LWp.sx (gs := []) (hs := []) rfl trivial ?_
  by_cases h30 : 30 < ms.length
  · have hA : applyR l ms = ([], 3) := by unfold applyR; rw [if_pos hE, if_pos h30]
    refine LWp.ite (b := true) (by show B _ = B _; exact congrArg B (decide_eq_true (by omega))) (fun _ => ?_) (fun h => by cases h)
    refine LWp.sx (gs := []) (hs := []) rfl trivial ?_
    refine LWp.ent (Ent.nilSl (t := 4) 1 rfl) ?_
    exact LWp.ret (res (fun _ _ h => h) hA rfl rfl)
  have hA : applyR l ms = applyG ms l [] := by unfold applyR; rw [if_pos hE, if_neg h30]
  refine LWp.ite (b := false) (by show B _ = B _; exact congrArg B (decide_eq_false (by omega))) (fun h => by cases h) (fun _ => LWp.skip ?_)
  refine LWp.sx (gs := []) (hs := []) rfl trivial ?_
  refine LWp.ent (Ent.nilLin (t := 4) 9 1 rfl) ?_
  refine LWp.seq (LWp.seq ?_)
  refine LWp.x (gs := []) (hs := []) rfl trivial ?_
  refine LWp.blockT (Y := Nat × List Wd) (fun y => y.1 ≤ l.length ∧ y.2.length ≤ 30 ∧ applyR l ms = applyG [] (l.drop y.1) y.2) (fun y => el [(0, strs l), (4, .lin 9 1 (y.2.map fun s => [Str s])), (6, I y.1)]) (fun _ => []) (fun _ => []) ?_ ?_
  · refine LWp.loopN (X := Nat × Nat × List Wd) (fun x => x.1 ≤ ms.length ∧ x.2.1 ≤ l.length ∧ x.2.2.length ≤ x.1 ∧ applyR l ms = applyG (ms.drop x.1) (l.drop x.2.1) x.2.2) (fun x => el [(0, strs l), (4, .lin 9 1 (x.2.2.map fun s => [Str s])), (6, I x.2.1), (21, marksV ms), (22, I ms.length), (23, I x.1)]) (fun _ => []) (fun _ => []) (fun x => ms.length - x.1) (0, 0, []) ⟨Nat.zero_le _, Nat.zero_le _, by simp, hA⟩
      (Ent.el ⟨rfl, rfl, rfl, rfl, by show I _ = I _; rw [hml], rfl, trivial⟩) ?_
    rintro ⟨k, at_, out⟩ ⟨hk, ha, ho, hi⟩
    simp only at hk ha ho hi
    have hol : (out.map fun s => [Str s]).length = out.length := List.length_map _
    refine LWp.ent (Ent.el (l := [(0, strs l), (4, .lin 9 1 (out.map fun s => [Str s])), (6, I at_), (21, marksV ms), (22, I ms.length), (23, I k)]) ⟨rfl, rfl, rfl, rfl, rfl, rfl, trivial⟩) ?_
    refine LWp.sx (gs := []) (hs := []) rfl trivial ?_
    refine LWp.seq (LWp.ite rfl (fun he => ?_) (fun he => ?_))
    · have he : k < ms.length := by simp only [decide_eq_true_eq, Int.ofNat_lt] at he; exact he
      obtain ⟨m, hm⟩ := ex_get he
      rw [drop_cons hm, applyG] at hi
      refine LWp.skip ?_
      refine LWp.blockX (Y := Nat × List Wd) (fun y => y.1 ≤ l.length ∧ y.2.length ≤ k + 1 ∧ applyR l ms = applyG (ms.drop (k + 1)) (l.drop y.1) y.2) (fun y => el [(0, strs l), (4, .lin 9 1 (y.2.map fun s => [Str s])), (6, I y.1), (21, marksV ms), (22, I ms.length), (23, I k)]) (fun _ => []) (fun _ => []) ?_ ?_
      · refine LWp.sx (gs := []) (hs := [.cells m.enc, .lin]) rfl ⟨⟨by omega, by simp [hm]⟩, rfl, ⟨rfl, rfl, rfl, by decide⟩, trivial⟩ ?_
        refine LWp.ent (Ent.freezeLbox (t := 8) rfl) ?_
        have hof := off_ev 0 3 [m.k]
        have hob : beyondB 0 3 [m.k] = !decide (0 ≤ m.k ∧ m.k ≤ 3) := by
          rw [Bool.eq_iff_iff]; simp [beyondB] <;> omega
        rw [hob] at hof
        refine LWp.seq (LWp.seq ?_)
        by_cases hk4 : 0 ≤ m.k ∧ m.k ≤ 3
        case neg =>
          have hE7 : markE m (l.drop at_) = 7 := by unfold markE; rw [if_pos hk4]
          rw [hE7, if_neg (by decide)] at hi
          rw [decide_eq_false hk4] at hof
          refine LWp.x (gs := []) (hs := [.ice, .ret (B true)]) rfl ⟨rfl, hof, trivial⟩ ?_
          refine LWp.ite (b := true) rfl (fun _ => ?_) (fun h => by cases h)
          refine LWp.sx (gs := []) (hs := []) rfl trivial ?_
          refine LWp.ent (Ent.nilSl (t := 4) 1 rfl) ?_
          exact LWp.ret (res (fun _ _ h => h) hi rfl rfl)
        rw [decide_eq_true hk4] at hof
        refine LWp.x (gs := []) (hs := [.ice, .ret (B false)]) rfl ⟨rfl, hof, trivial⟩ ?_
        refine LWp.ite (b := false) rfl (fun h => by cases h) (fun _ => LWp.skip ?_)
        refine LWp.cutX (Y := Bool × Bool × Nat) (fun y => y.1 = decide (m.k ≠ 3) ∧ y.2.1 = decide (m.k = 1 ∨ m.k = 3) ∧ ∀ a b, Ev Try.prog y.2.2 [Str a, Str b] (strs (becF m.k a b))) (fun y => el [(0, strs l), (4, .lin 9 1 (out.map fun s => [Str s])), (6, I at_), (8, .pi m.enc), (9, .pi [B y.1, B y.2.1, actF y.2.2]), (10, Str []), (21, marksV ms), (22, I ms.length), (23, I k)]) (fun _ => []) (fun _ => []) ?_ ?_
        · have hk5 : m.k = 0 ∨ m.k = 1 ∨ m.k = 2 ∨ m.k = 3 := by omega
          rcases hk5 with h | h | h | h
          · refine LWp.dd (gs := []) (hs := [.ret (.agg actsL), .op (.agg [B true, B false, actF 117]), .lin]) hmix rfl (by kernel_rfl) ⟨acts_ev, fun _ _ _ => Op1.indexA 0 rfl rfl h (by decide) rfl rfl ⟨rfl, rfl, rfl⟩, rfl, ⟨rfl, rfl, rfl, by show 3 ≤ 3; decide⟩, trivial⟩ ?_
            exact ⟨(true, false, 117), ⟨by simp [h], by simp [h], fun a b => by unfold becF; rw [if_pos h]; exact act1_ev a b⟩, Ent.trans (Ent.freezeLbox (t := 9) rfl) (Ent.el ⟨rfl, rfl, rfl, rfl, rfl, rfl, rfl, rfl, rfl, trivial⟩)⟩
          · refine LWp.dd (gs := []) (hs := [.ret (.agg actsL), .op (.agg [B true, B true, actF 118]), .lin]) hmix rfl (by kernel_rfl) ⟨acts_ev, fun _ _ _ => Op1.indexA 1 rfl rfl h (by decide) rfl rfl ⟨rfl, rfl, rfl⟩, rfl, ⟨rfl, rfl, rfl, by show 3 ≤ 3; decide⟩, trivial⟩ ?_
            exact ⟨(true, true, 118), ⟨by simp [h], by simp [h], fun a b => by unfold becF; rw [if_neg (by omega), if_neg (by omega)]; exact act2_ev a b⟩, Ent.trans (Ent.freezeLbox (t := 9) rfl) (Ent.el ⟨rfl, rfl, rfl, rfl, rfl, rfl, rfl, rfl, rfl, trivial⟩)⟩
          · refine LWp.dd (gs := []) (hs := [.ret (.agg actsL), .op (.agg [B true, B false, actF 119]), .lin]) hmix rfl (by kernel_rfl) ⟨acts_ev, fun _ _ _ => Op1.indexA 2 rfl rfl h (by decide) rfl rfl ⟨rfl, rfl, rfl⟩, rfl, ⟨rfl, rfl, rfl, by show 3 ≤ 3; decide⟩, trivial⟩ ?_
            exact ⟨(true, false, 119), ⟨by simp [h], by simp [h], fun a b => by unfold becF; rw [if_neg (by omega), if_pos h]; exact act3_ev a b⟩, Ent.trans (Ent.freezeLbox (t := 9) rfl) (Ent.el ⟨rfl, rfl, rfl, rfl, rfl, rfl, rfl, rfl, rfl, trivial⟩)⟩
          · refine LWp.dd (gs := []) (hs := [.ret (.agg actsL), .op (.agg [B false, B true, actF 120]), .lin]) hmix rfl (by kernel_rfl) ⟨acts_ev, fun _ _ _ => Op1.indexA 3 rfl rfl h (by decide) rfl rfl ⟨rfl, rfl, rfl⟩, rfl, ⟨rfl, rfl, rfl, by show 3 ≤ 3; decide⟩, trivial⟩ ?_
            exact ⟨(false, true, 120), ⟨by simp [h], by simp [h], fun a b => by unfold becF; rw [if_neg (by omega), if_neg (by omega)]; exact act4_ev a b⟩, Ent.trans (Ent.freezeLbox (t := 9) rfl) (Ent.el ⟨rfl, rfl, rfl, rfl, rfl, rfl, rfl, rfl, rfl, trivial⟩)⟩
        rintro ⟨r, w, g⟩ ⟨hr, hwr, hbec⟩
        simp only at hr hwr hbec
        have hmE : markE m (l.drop at_) = if (if w = true then wordB m.w = false else m.w ≠ []) then 6 else if r = false then 0 else match l.drop at_ with
            | [] => 4
            | x :: _ => if m.k = 1 ∧ m.w = x then 5 else 0 := by
          unfold markE
          rw [if_neg (by simp [hk4])]
          have e1 : (w = true) = (m.k = 1 ∨ m.k = 3) := by rw [hwr]; simp
          have e2 : (r = false) = (m.k = 3) := by rw [hr]; simp
          simp only [e1, e2]
          rfl
        have hwe := word_ev m.w
        -- what is read
        refine LWp.cutX (fun _ : Unit => True) (fun _ => el [(0, strs l), (4, .lin 9 1 (out.map fun s => [Str s])), (6, I at_), (8, .pi m.enc), (9, .pi [B r, B w, actF g]), (10, Str (if r = true then (l[at_]?).getD [] else [])), (21, marksV ms), (22, I ms.length), (23, I k)]) (fun _ => []) (fun _ => []) ?_ ?_
        · refine LWp.seq ?_
          cases r with
          | true =>
            refine LWp.x (gs := [(37, true)]) (hs := []) rfl (by (repeat' (with_reducible apply And.intro)); (all_goals try first | (with_reducible exact trivial) | (with_reducible rfl) | (with_reducible assumption) | ((with_reducible apply isB); first | exact rfl | exact beq_self_eq_true _))) ?_
            by_cases h : at_ < l.length
            · obtain ⟨x, hx⟩ := ex_get h
              refine LWp.ite (b := true) (by show B _ = B _; exact congrArg B (decide_eq_true (by omega))) (fun _ => ?_) (fun h => by cases h)
              refine LWp.x (gs := []) (hs := [.cells [Str x]]) rfl ⟨⟨by omega, by simp [hx]⟩, trivial⟩ ?_
              exact ⟨(), trivial, Ent.el ⟨rfl, rfl, rfl, rfl, rfl, by rw [if_pos rfl, hx]; rfl, rfl, rfl, rfl, trivial⟩⟩
            · refine LWp.ite (b := false) (by show B _ = B _; exact congrArg B (decide_eq_false (by omega))) (fun h => by cases h) (fun _ => LWp.skip ?_)
              exact ⟨(), trivial, Ent.el ⟨rfl, rfl, rfl, rfl, rfl, by rw [if_pos rfl, List.getElem?_eq_none (by omega)]; rfl, rfl, rfl, rfl, trivial⟩⟩
          | false =>
            refine LWp.x (gs := [(37, false)]) (hs := []) rfl (by (repeat' (with_reducible apply And.intro)); (all_goals try first | (with_reducible exact trivial) | (with_reducible rfl) | (with_reducible assumption) | ((with_reducible apply isB); first | exact rfl | exact beq_self_eq_true _))) ?_
            refine LWp.ite (b := false) rfl (fun h => by cases h) (fun _ => LWp.skip ?_)
            exact ⟨(), trivial, Ent.el ⟨rfl, rfl, rfl, rfl, rfl, rfl, rfl, rfl, rfl, trivial⟩⟩
        intro _ _
        generalize hrd : (if r = true then (l[at_]?).getD [] else []) = rd
        refine LWp.blockX (Y := Nat) (fun y => markE m (l.drop at_) = 0 ∧ y = (if r = true then at_ + 1 else at_) ∧ (r = true → at_ < l.length)) (fun y => el [(0, strs l), (4, .lin 9 1 (out.map fun s => [Str s])), (6, I y), (8, .pi m.enc), (9, .pi [B r, B w, actF g]), (10, Str rd), (21, marksV ms), (22, I ms.length), (23, I k)]) (fun _ => []) (fun _ => []) ?_ ?_
        · -- whether the mark's word is right
          refine LWp.cutX (fun _ : Unit => True) (fun _ => el [(0, strs l), (4, .lin 9 1 (out.map fun s => [Str s])), (6, I at_), (8, .pi m.enc), (9, .pi [B r, B w, actF g]), (10, Str rd), (21, marksV ms), (22, I ms.length), (23, I k), (47, B (if w = true then !wordB m.w else decide (m.w ≠ [])))]) (fun _ => []) (fun _ => []) ?_ ?_
          · cases w with
            | true =>
              generalize wordB m.w = b at hwe
              cases b with
              | true =>
                refine LWp.x (gs := [(50, true), (56, false), (60, false)]) (hs := [.ret (B true)]) rfl (by (repeat' (with_reducible apply And.intro)); (all_goals try first | (with_reducible exact trivial) | (with_reducible rfl) | (with_reducible assumption) | ((with_reducible apply isB); first | exact rfl | exact beq_self_eq_true _)); exact hwe) ?_
                exact ⟨(), trivial, Ent.el ⟨rfl, rfl, rfl, rfl, rfl, rfl, rfl, rfl, rfl, rfl, trivial⟩⟩
              | false =>
                refine LWp.x (gs := [(50, true), (56, true)]) (hs := [.ret (B false)]) rfl (by (repeat' (with_reducible apply And.intro)); (all_goals try first | (with_reducible exact trivial) | (with_reducible rfl) | (with_reducible assumption) | ((with_reducible apply isB); first | exact rfl | exact beq_self_eq_true _)); exact hwe) ?_
                exact ⟨(), trivial, Ent.el ⟨rfl, rfl, rfl, rfl, rfl, rfl, rfl, rfl, rfl, rfl, trivial⟩⟩
            | false =>
              refine LWp.x (gs := [(50, false), (56, false), (60, true)]) (hs := []) rfl (by (repeat' (with_reducible apply And.intro)); (all_goals try first | (with_reducible exact trivial) | (with_reducible rfl) | (with_reducible assumption) | ((with_reducible apply isB); first | exact rfl | exact beq_self_eq_true _))) ?_
              refine ⟨(), trivial, Ent.el ⟨rfl, rfl, rfl, rfl, rfl, rfl, rfl, rfl, rfl, ?_, trivial⟩⟩
              show B _ = B _
              refine congrArg B ?_
              rw [if_neg (by decide), Bool.eq_iff_iff]
              simp
          intro _ _
          refine LWp.ite rfl (fun h => ?_) (fun h => ?_)
          · have hc : (if w = true then wordB m.w = false else m.w ≠ []) := by
              cases w with
              | true => simpa using h
              | false => simpa using h
            rw [if_pos hc] at hmE
            rw [hmE, if_neg (by decide)] at hi
            refine LWp.sx (gs := []) (hs := []) rfl trivial ?_
            refine LWp.ent (Ent.nilSl (t := 4) 1 rfl) ?_
            exact LWp.ret (res (fun _ _ h => h) hi rfl rfl)
          have hc : ¬ (if w = true then wordB m.w = false else m.w ≠ []) := by
            cases w with
            | true => simpa using h
            | false => simpa using h
          rw [if_neg hc] at hmE
          cases r with
          | false =>
            rw [if_pos rfl] at hmE
            refine LWp.sx (gs := [(69, false)]) (hs := []) rfl (by (repeat' (with_reducible apply And.intro)); (all_goals try first | (with_reducible exact trivial) | (with_reducible rfl) | (with_reducible assumption) | ((with_reducible apply isB); first | exact rfl | exact beq_self_eq_true _))) ?_
            refine LWp.ite (b := false) rfl (fun h => by cases h) (fun _ => ?_)
            have hk3 : m.k = 3 := by simpa using hr
            have g1 : (m.k == 1) = false := by rw [beq_eq_false_iff_ne]; omega
            refine LWp.sx (gs := [(79, false)]) (hs := []) rfl (by (repeat' (with_reducible apply And.intro)); (all_goals try first | (with_reducible exact trivial) | (with_reducible rfl) | (with_reducible assumption) | ((with_reducible apply isB); first | exact rfl | exact beq_self_eq_true _))) ?_
            refine LWp.ite (b := false) rfl (fun h => by cases h) (fun _ => ?_)
            refine LWp.sx (gs := []) (hs := []) rfl trivial ?_
            refine LWp.ite (b := false) rfl (fun h => by cases h) (fun _ => LWp.skip ?_)
            exact ⟨at_, ⟨hmE, rfl, fun h => by cases h⟩, Ent.el ⟨rfl, rfl, rfl, rfl, rfl, rfl, rfl, rfl, rfl, trivial⟩⟩
          | true =>
            rw [if_neg (by decide)] at hmE
            rw [if_pos rfl] at hrd
            refine LWp.sx (gs := [(69, true)]) (hs := []) rfl (by (repeat' (with_reducible apply And.intro)); (all_goals try first | (with_reducible exact trivial) | (with_reducible rfl) | (with_reducible assumption) | ((with_reducible apply isB); first | exact rfl | exact beq_self_eq_true _))) ?_
            by_cases hat : at_ < l.length
            case neg =>
              rw [List.drop_eq_nil_of_le (by omega)] at hmE
              rw [List.drop_eq_nil_of_le (by omega)] at hi
              simp only at hmE
              rw [hmE, if_neg (by decide)] at hi
              refine LWp.ite (b := true) (by show B _ = B _; exact congrArg B (by rw [beq_iff_eq]; omega)) (fun _ => ?_) (fun h => by cases h)
              refine LWp.sx (gs := []) (hs := []) rfl trivial ?_
              refine LWp.ent (Ent.nilSl (t := 4) 1 rfl) ?_
              exact LWp.ret (res (fun _ _ h => h) hi rfl rfl)
            obtain ⟨x, hx⟩ := ex_get hat
            rw [drop_cons hx] at hmE
            simp only at hmE
            rw [hx] at hrd
            have hrd : rd = x := hrd.symm
            subst hrd
            refine LWp.ite (b := false) (by show B _ = B _; exact congrArg B (by rw [beq_eq_false_iff_ne]; omega)) (fun h => by cases h) (fun _ => ?_)
            refine LWp.cutX (fun _ : Unit => True) (fun _ => el [(0, strs l), (4, .lin 9 1 (out.map fun s => [Str s])), (6, I at_), (8, .pi m.enc), (9, .pi [B true, B w, actF g]), (10, Str rd), (21, marksV ms), (22, I ms.length), (23, I k), (75, B (decide (m.k = 1 ∧ m.w = rd)))]) (fun _ => []) (fun _ => []) ?_ ?_
            · by_cases h1 : m.k = 1
              · have g1 : (m.k == 1) = true := by rw [beq_iff_eq]; exact h1
                refine LWp.x (gs := [(79, true)]) (hs := []) rfl (by (repeat' (with_reducible apply And.intro)); (all_goals try first | (with_reducible exact trivial) | (with_reducible rfl) | (with_reducible assumption) | ((with_reducible apply isB); first | exact rfl | exact beq_self_eq_true _))) ?_
                refine ⟨(), trivial, Ent.el ⟨rfl, rfl, rfl, rfl, rfl, rfl, rfl, rfl, rfl, ?_, trivial⟩⟩
                show B _ = B _
                refine congrArg B ?_
                rw [Bool.eq_iff_iff]
                simp [h1]
              · have g1 : (m.k == 1) = false := by rw [beq_eq_false_iff_ne]; exact h1
                refine LWp.x (gs := [(79, false)]) (hs := []) rfl (by (repeat' (with_reducible apply And.intro)); (all_goals try first | (with_reducible exact trivial) | (with_reducible rfl) | (with_reducible assumption) | ((with_reducible apply isB); first | exact rfl | exact beq_self_eq_true _))) ?_
                refine ⟨(), trivial, Ent.el ⟨rfl, rfl, rfl, rfl, rfl, rfl, rfl, rfl, rfl, ?_, trivial⟩⟩
                show B _ = B _
                refine congrArg B ?_
                rw [Bool.eq_iff_iff]
                simp [h1]
            intro _ _
            refine LWp.ite rfl (fun h => ?_) (fun h => ?_)
            · rw [decide_eq_true_iff] at h
              rw [if_pos h] at hmE
              rw [drop_cons hx, hmE, if_neg (by decide)] at hi
              refine LWp.sx (gs := []) (hs := []) rfl trivial ?_
              refine LWp.ent (Ent.nilSl (t := 4) 1 rfl) ?_
              exact LWp.ret (res (fun _ _ h => h) hi rfl rfl)
            · rw [decide_eq_false_iff_not] at h
              rw [if_neg h] at hmE
              refine LWp.sx (gs := []) (hs := []) rfl trivial ?_
              refine LWp.ite (b := true) rfl (fun _ => ?_) (fun h => by cases h)
              refine LWp.x (gs := []) (hs := []) rfl ⟨by omega, trivial⟩ ?_
              exact ⟨at_ + 1, ⟨by rw [drop_cons hx]; exact hmE, rfl, fun _ => hat⟩, Ent.el ⟨rfl, rfl, rfl, rfl, rfl, rfl, rfl, rfl, rfl, trivial⟩⟩
        rintro y ⟨hm0, hy, hat⟩
        rw [hm0, if_pos rfl] at hi
        have hbl : (becF m.k rd m.w).length ≤ 1 := by
          unfold becF
          split
          · simp
          · split <;> simp
        have hmO : markO m (l.drop at_) = becF m.k rd m.w := by
          unfold markO becF
          by_cases h : m.k = 0
          · rw [if_pos h, if_pos h]
            have hrt : r = true := by rw [hr]; simp [h]
            obtain ⟨x, hx⟩ := ex_get (hat hrt)
            rw [drop_cons hx]
            rw [if_pos hrt, hx] at hrd
            rw [← hrd]; rfl
          · rw [if_neg h, if_neg h]
        have hmL : markL m (l.drop at_) = l.drop y := by
          unfold markL
          by_cases h : m.k = 3
          · rw [if_pos h, hy, if_neg (by rw [hr]; simp [h])]
          · rw [if_neg h, hy, if_pos (by rw [hr]; simp [h]), List.tail_drop]
        rw [hmO, hmL] at hi
        have hbec := hbec rd m.w
        generalize becF m.k rd m.w = bc at hi hbl hbec
        have hbcl : (bc.map fun s => [Str s]).length = bc.length := List.length_map _
        refine LWp.x (gs := []) (hs := [.ret (strs bc)]) rfl ⟨hbec, ⟨by rw [hol, hbcl]; omega, by rw [hol, hbcl]; omega⟩, trivial⟩ ?_
        refine ⟨(y, out ++ bc), ⟨?_, by simp; omega, hi⟩, Ent.el ⟨rfl, by show AV.lin _ _ _ = _; rw [List.map_append], rfl, rfl, rfl, rfl, trivial⟩⟩
        rw [hy]
        split
        · rename_i h; have := hat h; omega
        · exact ha
      rintro ⟨a', out'⟩ ⟨h1, h2, h3⟩
      refine LWp.x (gs := []) (hs := []) rfl ⟨by omega, trivial⟩ ?_
      exact ⟨(k + 1, a', out'), ⟨by simp only; omega, h1, h2, h3⟩, by simp only; omega, Ent.el ⟨rfl, rfl, rfl, rfl, rfl, rfl, trivial⟩⟩
    · have he : ¬ k < ms.length := by simp only [decide_eq_false_iff_not, Int.ofNat_lt] at he; exact he
      rw [List.drop_eq_nil_of_le (show ms.length ≤ k by omega)] at hi
      exact LWp.exit ⟨(at_, out), ⟨ha, by simp only; omega, hi⟩, Ent.el ⟨rfl, rfl, rfl, trivial⟩⟩
  · rintro ⟨at_, out⟩ ⟨ha, ho, hi⟩
    simp only at ha ho hi
    have hol : (out.map fun s => [Str s]).length = out.length := List.length_map _
    refine LWp.ent (Ent.el (l := [(0, strs l), (4, .lin 9 1 (out.map fun s => [Str s])), (6, I at_)]) ⟨rfl, rfl, rfl, trivial⟩) ?_
    refine LWp.ent (Ent.freezeLin (t := 4) rfl) ?_
    simp only [applyG] at hi
    refine LWp.seqBlock ?_
    refine LWp.sx (gs := []) (hs := []) rfl trivial ?_
    by_cases h1 : at_ < l.length
    · rw [if_pos (by intro e; have := congrArg List.length e; rw [List.length_drop] at this; simp at this; omega)] at hi
      refine LWp.ite (b := true) (by show B _ = B _; exact congrArg B (decide_eq_true (by omega))) (fun _ => ?_) (fun h => by cases h)
      refine LWp.sx (gs := []) (hs := []) rfl trivial ?_
      refine LWp.ent (Ent.nilSl (t := 4) 1 rfl) ?_
      exact LWp.ret (res (fun _ _ h => h) hi rfl rfl)
    · rw [if_neg (by simp; omega)] at hi
      refine LWp.ite (b := false) (by show B _ = B _; exact congrArg B (decide_eq_false (by omega))) (fun h => by cases h) (fun _ => ?_)
      refine LWp.sx (gs := []) (hs := []) rfl trivial ?_
      by_cases h2 : 15 < out.length
      · rw [if_pos h2] at hi
        refine LWp.ite (b := true) (by show B _ = B _; exact congrArg B (decide_eq_true (by omega))) (fun _ => ?_) (fun h => by cases h)
        refine LWp.sx (gs := []) (hs := []) rfl trivial ?_
        refine LWp.ent (Ent.nilSl (t := 4) 1 rfl) ?_
        exact LWp.ret (res (fun _ _ h => h) hi rfl rfl)
      · rw [if_neg h2] at hi
        refine LWp.ite (b := false) (by show B _ = B _; exact congrArg B (decide_eq_false (by omega))) (fun h => by cases h) (fun _ => LWp.skip ?_)
        refine LWp.sx (gs := []) (hs := []) rfl trivial ?_
        exact LWp.ret (res (fun _ _ h => h) hi rfl rfl)
end Go.Px

namespace Go.Px
open Go.Proofs
theorem listen2_ev (F S : List Wd) : Ev Try.prog 79 [strs F, strs S] (.lmap [strs F, strs S] []) := by
  refine Ev.intro fn79 ?_
  refine LWp.sx (gs := []) (hs := []) rfl trivial ?_
  refine LWp.seq (LWp.ops ?_)
  refine WOps.xn (gs := []) (hs := []) 2 rfl rfl trivial ?_
  refine WOps.cons (Op1.mmap (fun bm => ?_))
  refine WOps.xd (gs := []) (hs := [.ice]) rfl ⟨⟨rfl, rfl⟩, trivial⟩ ?_
  refine LWp.ent (Ent.unshareM (i := 0) (t := 4) (cs := [strs F, strs S]) rfl rfl) ?_
  exact LWp.ret (retT (.inr rfl) (.lin rfl rfl))
theorem minN_snoc : ∀ {l : List Nat}, l ≠ [] → ∀ x, minN (l ++ [x]) = min (minN l) x
  | [a], _, x => rfl
  | a :: b :: l, _, x => by
    have ih := minN_snoc (l := b :: l) (by simp) x
    show min a (minN ((b :: l) ++ [x])) = _
    rw [ih]
    show _ = min (min a (minN (b :: l))) x
    omega
  | [], h, _ => absurd rfl h
/-- The fewest corrections that were found, or -1. -/
def bestM (f : Form) (l : List Wd) (dn : List (List Nat)) : Int := if dn = [] then -1 else (minN (dn.map fun m => far l (shapeF f.parts m)) : Nat)
theorem bestM_snoc (f : Form) (l : List Wd) (dn : List (List Nat)) (c : List Nat) : bestM f l (dn ++ [c]) = if bestM f l dn < 0 ∨ ((far l (shapeF f.parts c) : Nat) : Int) < bestM f l dn then ((far l (shapeF f.parts c) : Nat) : Int) else bestM f l dn := by
  unfold bestM
  rw [if_neg (by simp), List.map_append]
  by_cases h : dn = []
  · subst h
    simp [minN]
  · rw [if_neg h, List.map_cons, List.map_nil, minN_snoc (by simp [h])]
    generalize minN (dn.map fun m => far l (shapeF f.parts m)) = a
    generalize far l (shapeF f.parts c) = b
    split <;> omega
theorem mends_ev (f : Form) (hv : FormV f) (l : List Wd) (h15 : l.length ≤ 15) : Ev Try.prog 87 [lookV f, strs l] (I (mendsF f.parts l : Nat)) := by
  have hro := rooms_ok hv.parts
  have h5 : (roomsL f.parts).length ≤ 5 := Nat.le_trans (roomsL_len _) hv.p5
  have hcn := counts_ev f
  have hcl : ∀ c ∈ cnts (roomsL f.parts), c.length = (roomsL f.parts).length ∧ (∀ m ∈ c, m ≤ 3) ∧ (shapeF f.parts c).length ≤ 15 := fun c hc => shape_small hv hc
  have hne := form_cnts_ne hv.parts
  have hB : ((mendsF f.parts l : Nat) : Int) = bestM f l (cnts (roomsL f.parts)) := by
    unfold bestM mendsF
    rw [if_neg hne]
  rw [hB]
  generalize hall : cnts (roomsL f.parts) = all at hcl
  refine Ev.intro fn87 ?_
  refine LWp.sx (gs := []) (hs := [.ice, .ice]) rfl ⟨⟨rfl, rfl⟩, ⟨rfl, rfl⟩, trivial⟩ ?_
  refine LWp.seq (LWp.ops (WOps.cons (Op1.alloc rfl (fun b5 => ?_))))
  refine WOps.cons (Op1.storeO (i := 0) rfl rfl rfl rfl rfl rfl (by show 1 ≤ 1; decide) ?_)
  refine WOps.nil ?_
  refine LWp.ent (Ent.trans (Ent.ofH (H' := [(b5, .cells 3 [I (bestM f l [])])]) rfl) (Ent.el (l := [(2, .pi [lookV f]), (3, .pi [strs l]), (5, .po b5 0)]) ⟨rfl, rfl, rfl, trivial⟩)) ?_
  refine LWp.seq (LWp.seq ?_)
  refine LWp.x (gs := []) (hs := [.ret (.fn (.func 128) [] [.pi [lookV f]])]) rfl ⟨hcn, trivial⟩ ?_
  refine LWp.block ?_
  refine LWp.rfun (X := List (List Nat)) (HS := fun dn => [(b5, .cells 3 [I (bestM f l dn)])]) (H0 := []) [] (fun dn => dn = all) (fun dn args dn' => ∃ c rest, dn ++ c :: rest = all ∧ args = [manyV c] ∧ dn' = dn ++ [c])
    (el [(2, .pi [lookV f]), (3, .pi [strs l]), (5, .po b5 0)]) rfl (by simp) (el_nl ⟨rfl, rfl, rfl, trivial⟩ rfl) (by simp) ?_ ?_ ?_
  · rintro lp dn args dn' ⟨c, rest, hdn, rfl, rfl⟩
    refine ⟨rfl, ?_⟩
    obtain ⟨c1, c2, c3⟩ := hcl c (by rw [← hdn]; simp)
    have hcp := pad5_len (show c.length ≤ 5 by omega)
    have hsh := shape_ev f c c1 (by omega) (by omega)
    have hbs := bestM_snoc f l dn c
    show LWp Try.prog (some lp) 27 _ _ (setPs [10] [.agg (intsC (pad5 c))] _) _ []
    rw [hbs]
    obtain ⟨c0, c1', c2', c3', c4, hpc⟩ := five hcp
    rw [hpc]
    generalize shapeF f.parts c = S at hsh c3
    have hco := fun bm => corr_at (F := l) (S := S) (bm := bm) (a := 0) (b := 0) (by omega) (by omega) (Nat.zero_le _) (Nat.zero_le _) [] (fun p hp => by cases hp)
    have hf0 : farAt l S (0, 0) = far l S := rfl
    refine LWp.x (gs := []) (hs := [.lin]) rfl ⟨rfl, ⟨rfl, rfl, rfl, by decide⟩, trivial⟩ ?_
    refine ⟨rfl, LWp.ent (Ent.freezeLbox (t := 6) rfl) ?_⟩
    refine LWp.ent (Ent.el (l := [(2, .pi [lookV f]), (3, .pi [strs l]), (5, .po b5 0), (6, .pi (intsC [c0, c1', c2', c3', c4]))]) ⟨rfl, rfl, rfl, rfl, trivial⟩) ?_
    refine LWp.block (LWp.seq ?_)
    refine LWp.d (gs := []) (hs := [.retS [lookV f, manyV c] (strs S), .ret (.lmap [strs l, strs S] [])]) hmix rfl (by kernel_rfl) ⟨⟨hsh, subL_self (by show [lookV f, AV.agg (intsC [c0, c1', c2', c3', c4])] = [lookV f, manyV c]; rw [← hpc])⟩, listen2_ev l S, trivial⟩ ?_
    refine WOps.shareM (t := 15) rfl (fun g => ?_)
    refine WOps.cons (Op1.callR (Hin := mapH l S g []) (H0 := [(b5, .cells 3 [I (bestM f l dn)])]) (hco g) rfl rfl (SubL.refl _) rfl ?_)
    rintro res Hout ⟨rfl, ks', hks', rfl⟩
    refine WOps.ent (Ent.subH (H' := [(b5, .cells 3 [I (bestM f l dn)])]) (List.sublist_cons_self _ _)) ?_
    refine WOps.xd (gs := []) (hs := []) rfl trivial ?_
    rw [hf0]
    generalize bestM f l dn = bst
    generalize far l S = v
    by_cases h1 : bst < 0
    · have g1 : decide (bst < 0) = true := decide_eq_true h1
      rw [if_pos (.inl h1)]
      refine LWp.sx (gs := [(20, true)]) (hs := [.at 0]) rfl (by (repeat' (with_reducible apply And.intro)); (all_goals try first | (with_reducible exact trivial) | (with_reducible rfl) | (with_reducible assumption) | ((with_reducible apply isB); first | exact rfl | exact beq_self_eq_true _))) ?_
      refine LWp.ite (b := true) rfl (fun _ => ?_) (fun h => by cases h)
      refine LWp.ops ?_
      refine WOps.xn (gs := []) (hs := []) 1 rfl rfl trivial ?_
      refine WOps.cons (Op1.storeO (i := 0) rfl rfl rfl rfl rfl rfl (by show 1 ≤ 1; decide) ?_)
      exact WOps.nil ⟨rfl, List.Sublist.refl _⟩
    · have g1 : decide (bst < 0) = false := decide_eq_false h1
      refine LWp.sx (gs := [(20, false)]) (hs := [.at 0, .at 0]) rfl (by (repeat' (with_reducible apply And.intro)); (all_goals try first | (with_reducible exact trivial) | (with_reducible rfl) | (with_reducible assumption) | ((with_reducible apply isB); first | exact rfl | exact beq_self_eq_true _))) ?_
      by_cases h2 : (v : Int) < bst
      · rw [if_pos (.inr h2)]
        refine LWp.ite (b := true) (by show B _ = B _; exact congrArg B (decide_eq_true h2)) (fun _ => ?_) (fun h => by cases h)
        refine LWp.ops ?_
        refine WOps.xn (gs := []) (hs := []) 1 rfl rfl trivial ?_
        refine WOps.cons (Op1.storeO (i := 0) rfl rfl rfl rfl rfl rfl (by show 1 ≤ 1; decide) ?_)
        exact WOps.nil ⟨rfl, List.Sublist.refl _⟩
      · rw [if_neg (fun h => h.elim h1 h2)]
        refine LWp.ite (b := false) (by show B _ = B _; exact congrArg B (decide_eq_false h2)) (fun h => by cases h) (fun _ => LWp.skip ?_)
        exact ⟨rfl, List.Sublist.refl _⟩
  · intro lp lo hy
    refine (counts1_ev (fun dn => [(lp, lo), (b5, .cells 3 [I (bestM f l dn)])]) all (.yield lp) f h5 hro hall.symm ?_).mono ?_
    · intro dn c rest hdn
      exact ⟨rfl, hy dn _ _ ⟨c, rest, hdn, rfl, rfl⟩⟩
    · intro r Ho hHo
      exact ⟨all, rfl, hHo⟩
  · rintro dn rD rfl
    refine LWp.sx (gs := []) (hs := [.at 1]) rfl ⟨rfl, trivial⟩ ?_
    exact LWp.ret ⟨.inr rfl, _, ⟨0, rfl, rfl⟩, .one (.tmp rfl rfl)⟩
end Go.Px

namespace Go.Px
open Go.Proofs
theorem leastG_append (of_ : Int → Int) : ∀ (l m : List Int) (r : Int × Int), leastG of_ (l ++ m) r = leastG of_ m (leastG of_ l r)
  | [], _, _ => rfl
  | _x :: l, m, _r => leastG_append of_ l m _
theorem least_range (vals : List Nat) (of_ : Int → Int) (ho : ∀ (i : Nat) v, vals[i]? = some v → of_ i = v) : ∀ k, k ≤ vals.length → 1 ≤ k → ∃ i0 v0, leastF ((List.range k).map fun (i : Nat) => (i : Int)) of_ = (((i0 : Nat) : Int), ((v0 : Nat) : Int)) ∧ i0 < k ∧ vals[i0]? = some v0 ∧ ∀ i v, i < k → vals[i]? = some v → v0 ≤ v ∧ (i < i0 → v0 < v) := by
  intro k
  induction k with
  | zero => intro _ h; omega
  | succ k ih =>
    intro hk _
    obtain ⟨vk, hvk⟩ := ex_get (l := vals) (k := k) (by omega)
    have hof := ho k vk hvk
    have hs : leastF ((List.range (k + 1)).map fun (i : Nat) => (i : Int)) of_ = leastG of_ [(k : Int)] (leastF ((List.range k).map fun (i : Nat) => (i : Int)) of_) := by
      rw [List.range_succ, List.map_append]
      exact leastG_append _ _ _ _
    rw [hs]
    by_cases h0 : k = 0
    · subst h0
      refine ⟨0, vk, ?_, by omega, hvk, ?_⟩
      · have hof : of_ 0 = vk := hof
        show pickL (0, -1) 0 (of_ 0) = _
        rw [hof]
        exact pickL_yes (by omega) (.inl (by decide))
      · intro i v hi hv
        have : i = 0 := by omega
        subst this
        rw [hvk] at hv
        cases hv
        exact ⟨Nat.le_refl _, fun h => absurd h (by omega)⟩
    · obtain ⟨i0, v0, e, hi0, hv0, hall⟩ := ih (by omega) (by omega)
      rw [e]
      show ∃ i1 v1, (if 0 ≤ of_ k ∧ (((i0 : Int), (v0 : Int)).2 < 0 ∨ of_ k < ((i0 : Int), (v0 : Int)).2) then ((k : Int), of_ k) else ((i0 : Int), (v0 : Int))) = _ ∧ _
      rw [hof]
      by_cases hlt : vk < v0
      · refine ⟨k, vk, if_pos ⟨by omega, .inr (by simp only; omega)⟩, by omega, hvk, ?_⟩
        intro i v hi hv
        by_cases hik : i = k
        · subst hik
          rw [hvk] at hv
          cases hv
          exact ⟨Nat.le_refl _, fun h => absurd h (by omega)⟩
        · have := hall i v (by omega) hv
          exact ⟨by omega, fun _ => by omega⟩
      · refine ⟨i0, v0, if_neg (fun h => by simp only at h; omega), by omega, hv0, ?_⟩
        intro i v hi hv
        by_cases hik : i = k
        · subst hik
          rw [hvk] at hv
          cases hv
          exact ⟨by omega, fun h => absurd h (by omega)⟩
        · exact hall i v (by omega) hv
theorem least_best (vals : List Nat) (hne : vals ≠ []) (of_ : Int → Int) (ho : ∀ (i : Nat) v, vals[i]? = some v → of_ i = v) : leastF ((List.range vals.length).map fun (i : Nat) => (i : Int)) of_ = ((((bestN vals).1 : Nat) : Int), (((bestN vals).2 : Nat) : Int)) := by
  obtain ⟨i0, v0, e, hi0, hv0, hall⟩ := least_range vals of_ ho vals.length (Nat.le_refl _) (List.length_pos_iff.2 hne)
  obtain ⟨⟨a, ha1, ha2⟩, hb⟩ := bestN_spec hne
  subst ha2
  have h1 := hb i0 v0 hv0
  have hlt := (List.getElem?_eq_some_iff.1 ha1).1
  have h2 := hall _ _ hlt ha1
  have h3 : v0 = (bestN vals).2 := by omega
  have h4 : i0 = (bestN vals).1 := by
    rcases Nat.lt_trichotomy i0 (bestN vals).1 with h | h | h
    · have := h1.2 h; omega
    · exact h
    · have := h2.2 h; omega
  rw [e, h3, h4]
theorem mend_ev (s : Shelf) (hw : s.wf) (n : Int) (l : List Wd) : Ev Try.prog 37 [.agg s.enc, I n, strs l] (.tup [I (mendR s n l).1, I (mendR s n l).2]) := by
  have hen := enter_ev s hw n
  have hlt := lettered_ev l
  refine Ev.intro fn37 ?_
  have hR : mendR s n l = if thenE (formI s n) l = 0 then (((mendsF (partsOf s n) l : Nat) : Int), 0) else (0, thenE (formI s n) l) := rfl
  rw [hR]
  refine LWp.sx (gs := []) (hs := [.ice]) rfl ⟨⟨rfl, rfl⟩, trivial⟩ ?_
  refine LWp.cutX (fun _ : Unit => True) (fun _ => el [(2, strs l), (8, enterV s n), (9, I (formI s n))]) (fun _ => []) (fun _ => []) ?_ ?_
  · by_cases h : formI s n = 0
    · have hV : enterV s n = lookV (formOf s n) := by unfold enterV; rw [if_pos h]
      rw [hV] at hen ⊢
      refine LWp.x (gs := []) (hs := [.ret (.tup [lookV (formOf s n), I (formI s n)])]) rfl ⟨hen, trivial⟩ ?_
      exact ⟨(), trivial, Ent.el ⟨rfl, rfl, rfl, trivial⟩⟩
    · have hV : enterV s n = .v (.pointer none) := by unfold enterV; rw [if_neg h]
      rw [hV] at hen ⊢
      refine LWp.x (gs := []) (hs := [.ret (.tup [.v (.pointer none), I (formI s n)])]) rfl ⟨hen, trivial⟩ ?_
      exact ⟨(), trivial, Ent.el ⟨rfl, rfl, rfl, trivial⟩⟩
  intro _ _
  refine LWp.cutX (fun _ : Unit => True) (fun _ => el [(2, strs l), (8, enterV s n), (9, I (thenE (formI s n) l))]) (fun _ => []) (fun _ => []) ?_ ?_
  · refine LWp.seq ?_
    refine LWp.x (gs := []) (hs := []) rfl trivial ?_
    refine LWp.ite rfl (fun h => ?_) (fun h => LWp.skip ?_)
    · have h : formI s n = 0 := by simpa using h
      have e : thenE (formI s n) l = letterE l := by unfold thenE; rw [if_pos h]
      rw [e]
      refine LWp.x (gs := []) (hs := [.ret (I (letterE l))]) rfl ⟨hlt, trivial⟩ ?_
      exact ⟨(), trivial, Ent.el ⟨rfl, rfl, rfl, trivial⟩⟩
    · have h : formI s n ≠ 0 := by simpa using h
      have e : thenE (formI s n) l = formI s n := by unfold thenE; rw [if_neg h]
      rw [e]
      exact ⟨(), trivial, Ent.el ⟨rfl, rfl, rfl, trivial⟩⟩
  intro _ _
  refine LWp.seq (LWp.seq ?_)
  refine LWp.x (gs := []) (hs := []) rfl trivial ?_
  refine LWp.ite rfl (fun h => ?_) (fun h => LWp.skip ?_)
  · have h : thenE (formI s n) l ≠ 0 := by simpa using h
    rw [if_neg h]
    refine LWp.sx (gs := []) (hs := []) rfl trivial ?_
    exact LWp.ret (retT (.inr rfl) (.many (by decide) ⟨.tmp rfl rfl, .tmp rfl rfl, trivial⟩))
  have h : thenE (formI s n) l = 0 := by simpa using h
  rw [if_pos h]
  have h0 : formI s n = 0 := by
    by_cases g : formI s n = 0
    · exact g
    · rw [thenE, if_neg g] at h; exact absurd h g
  have hlE : letterE l = 0 := by rw [thenE, if_pos h0] at h; exact h
  have h15 := (letter_zero.1 hlE).1
  obtain ⟨_, V, n0, n1, n2, f, hf, hv, hpo⟩ := formI_iff h0
  have hfo : formOf s n = f := by unfold formOf; rw [hf]
  have hV : enterV s n = lookV f := by unfold enterV; rw [if_pos h0, hfo]
  rw [hV, hpo]
  refine LWp.sx (gs := []) (hs := [.ret (I (mendsF f.parts l : Nat))]) rfl ⟨mends_ev f hv l h15, trivial⟩ ?_
  exact LWp.ret (retT (.inr rfl) (.many (by decide) ⟨.tmp rfl rfl, .tmp rfl rfl, trivial⟩))
theorem near1_ev (s : Shelf) (V : ShelfV s) (l : List Wd) (h15 : l.length ≤ 15) (i : Nat) (f : Form) (hf : s.forms[i]? = some f) : Ev Try.prog 90 [I i, .pi s.enc, .pi [strs l]] (I (mendsF f.parts l : Nat)) := by
  have hv := (V.forms f (List.mem_of_getElem? hf)).2
  refine Ev.intro fn90 ?_
  refine LWp.sx (gs := []) (hs := []) rfl trivial ?_
  refine LWp.sd (gs := []) (hs := [.cells f.enc, .ret (lookV f), .ret (I (mendsF f.parts l : Nat))]) hmix rfl (by kernel_rfl) ⟨⟨by omega, by simp [hf]⟩, look_ev f hv.p5, mends_ev f hv l h15, trivial⟩ ?_
  refine LWp.ret (retT (.inr rfl) (.one (.tmp ?_ rfl)))
  rfl
theorem nearest_ev (s : Shelf) (hw : s.wf) (l : List Wd) : Ev Try.prog 39 [.agg s.enc, strs l] (.tup [I (nearestR s l).1, I (nearestR s l).2.1, I (nearestR s l).2.2]) := by
  have hfl : (s.forms.map Form.enc).length = s.forms.length := List.length_map _
  have hck := check_ev s hw
  have hlt := lettered_ev l
  have res : ∀ {Q : Post} {env : Env} {H : Heap} {x y r : Int}, (∀ env H, retP Try.prog [.tmp 4, .tmp 5, .tmp 6] (.tup [I (nearestR s l).1, I (nearestR s l).2.1, I (nearestR s l).2.2]) .ret env H [] → Q .ret env H []) → nearestR s l = (x, y, r) → env 4 = I x → env 5 = I y → env 6 = I r → Q .ret env H [] := by
    intro Q env H x y r hQ h h2 h3 h4
    refine hQ _ _ ?_
    rw [h]
    exact retT (.inr rfl) (.many (by decide) ⟨.tmp h2 rfl, .tmp h3 rfl, .tmp h4 rfl, trivial⟩)
  have hE : nearE s l = if thenE (checkS s).2.2 l = 0 then (if s.forms = [] then 9 else 0) else thenE (checkS s).2.2 l := rfl
  have hbad : nearE s l ≠ 0 → nearestR s l = (0, 0, nearE s l) := fun h => by unfold nearestR; rw [if_neg h]
  have hV := @thenE_shelf s l
  refine Ev.intro fn39 ?_
  generalize (checkS s).1 = c1 at hck
  generalize (checkS s).2.1 = c2 at hck
  generalize (checkS s).2.2 = c3 at hck hV hE
  refine LWp.sx (gs := []) (hs := [.ice, .ice]) rfl ⟨⟨rfl, rfl⟩, ⟨rfl, rfl⟩, trivial⟩ ?_
  refine LWp.seq (LWp.seq ?_)
  refine LWp.x (gs := []) (hs := [.ret (.tup [I c1, I c2, I c3])]) rfl ⟨hck, trivial⟩ ?_
  refine LWp.cutT (fun _ : Unit => True) (fun _ => el [(2, .pi s.enc), (3, .pi [strs l]), (6, I (thenE c3 l))]) (fun _ => []) (fun _ => []) ?_ ?_
  · refine LWp.seq ?_
    refine LWp.x (gs := []) (hs := []) rfl trivial ?_
    refine LWp.ite rfl (fun h => ?_) (fun h => LWp.skip ?_)
    · have h : c3 = 0 := by simpa using h
      have e : thenE c3 l = letterE l := by unfold thenE; rw [if_pos h]
      rw [e]
      refine LWp.x (gs := []) (hs := [.ret (I (letterE l))]) rfl ⟨hlt, trivial⟩ ?_
      exact ⟨(), trivial, Ent.el ⟨rfl, rfl, rfl, trivial⟩⟩
    · have h : c3 ≠ 0 := by simpa using h
      have e : thenE c3 l = c3 := by unfold thenE; rw [if_neg h]
      rw [e]
      exact ⟨(), trivial, Ent.el ⟨rfl, rfl, rfl, trivial⟩⟩
  intro _ _
  generalize thenE c3 l = e at hV hE
  refine LWp.seqBlock ?_
  refine LWp.sx (gs := []) (hs := []) rfl trivial ?_
  by_cases h0 : e = 0
  case neg =>
    rw [if_neg h0] at hE
    refine LWp.ite (b := true) (by show B _ = B _; exact congrArg B (by rw [bne_iff_ne]; exact h0)) (fun _ => ?_) (fun h => by cases h)
    refine LWp.sx (gs := []) (hs := []) rfl trivial ?_
    exact LWp.ret (res (fun _ _ h => h) (hbad (by rw [hE]; exact h0)) rfl rfl (by rw [hE]; rfl))
  rw [if_pos h0] at hE
  obtain ⟨V, hlE⟩ := hV h0
  have h15 := (letter_zero.1 hlE).1
  have hf4 := V.f4
  refine LWp.ite (b := false) (by show B _ = B _; exact congrArg B (by rw [h0]; rfl)) (fun h => by cases h) (fun _ => ?_)
  refine LWp.sx (gs := []) (hs := []) rfl trivial ?_
  by_cases hn : s.forms = []
  · rw [if_pos hn] at hE
    refine LWp.ite (b := true) (by show B _ = B _; rw [hn]; rfl) (fun _ => ?_) (fun h => by cases h)
    refine LWp.sx (gs := []) (hs := []) rfl trivial ?_
    exact LWp.ret (res (fun _ _ h => h) (hbad (by rw [hE]; decide)) rfl rfl (by rw [hE]; rfl))
  rw [if_neg hn] at hE
  have hpos := List.length_pos_iff.2 hn
  refine LWp.ite (b := false) (by show B _ = B _; exact congrArg B (by rw [hfl, beq_eq_false_iff_ne]; omega)) (fun h => by cases h) (fun _ => LWp.skip ?_)
  have hR : nearestR s l = ((((bestN (s.forms.map fun f => mendsF f.parts l)).1 : Nat) : Int), (((bestN (s.forms.map fun f => mendsF f.parts l)).2 : Nat) : Int), 0) := by unfold nearestR; rw [if_pos hE]
  have hvl : (s.forms.map fun f => mendsF f.parts l).length = s.forms.length := List.length_map _
  let of_ : Int → Int := fun i => match s.forms[i.toNat]? with | some f => (mendsF f.parts l : Nat) | none => 0
  have hbest := least_best (s.forms.map fun f => mendsF f.parts l) (by simpa using hn) of_ (by
    intro i v hv
    rw [List.getElem?_map, Option.map_eq_some_iff] at hv
    obtain ⟨f, hf, rfl⟩ := hv
    show (match s.forms[((i : Nat) : Int).toNat]? with | some f => (((mendsF f.parts l : Nat) : Int)) | none => 0) = _
    rw [Int.toNat_natCast, hf])
  rw [hvl] at hbest
  have hle := least_ev (X := Unit) (fun _ => []) ((List.range s.forms.length).map fun (i : Nat) => (i : Int)) 90 [.pi s.enc, .pi [strs l]] of_ (by
    intro _ i hi
    obtain ⟨k, hk, rfl⟩ := List.mem_map.1 hi
    obtain ⟨f, hf⟩ := ex_get (List.mem_range.1 hk)
    have e : of_ (k : Int) = (mendsF f.parts l : Nat) := by
      show (match s.forms[((k : Nat) : Int).toNat]? with | some f => (((mendsF f.parts l : Nat) : Int)) | none => 0) = _
      rw [Int.toNat_natCast, hf]
    rw [e]
    refine ((near1_ev s V l h15 k f hf).toR []).mono ?_
    rintro r Ho ⟨rfl, rfl⟩
    exact ⟨rfl, (), rfl⟩) ()
  rw [hbest] at hle
  refine LWp.seq (LWp.ops ?_)
  refine WOps.xn (gs := []) (hs := []) 3 rfl rfl trivial ?_
  refine WOps.cons (Op1.mslice s.forms.length rfl rfl (by show ((s.forms.map Form.enc).length : Int) = _; rw [hfl]) (by show ((s.forms.map Form.enc).length : Int) = _; rw [hfl]) (by omega) (by omega) rfl (fun g => ?_))
  refine WOps.xd (gs := []) (hs := []) rfl trivial ?_
  refine LWp.ent (Ent.el (l := [(2, .pi s.enc), (3, .pi [strs l]), (7, .so g s.forms.length s.forms.length)]) ⟨rfl, rfl, by show AV.so _ _ _ = _; rw [List.length_replicate], trivial⟩) ?_
  refine LWp.seq (LWp.seq ?_)
  refine LWp.x (gs := []) (hs := []) rfl trivial ?_
  refine LWp.blockT (fun _ : Unit => True) (fun _ => el [(2, .pi s.enc), (3, .pi [strs l]), (7, .so g s.forms.length s.forms.length)]) (fun _ => [(g, .arr 3 1 s.forms.length (((List.range s.forms.length).map fun (i : Nat) => (i : Int)).map fun x => [I x]))]) (fun _ => []) ?_ ?_
  · refine LWp.loopN (fun k : Nat => k ≤ s.forms.length) (fun k => el [(2, .pi s.enc), (3, .pi [strs l]), (7, .so g s.forms.length s.forms.length), (34, I s.forms.length), (35, I k)]) (fun k => [(g, .arr 3 1 s.forms.length ((((List.range k).map fun (i : Nat) => (i : Int)).map fun x => [I x]) ++ List.replicate (s.forms.length - k) [I 0]))]) (fun _ => []) (fun k => s.forms.length - k) 0 (by omega)
      (Ent.trans (Ent.ofH (by simp)) (Ent.el ⟨rfl, rfl, rfl, by show I _ = I _; rw [hfl], rfl, trivial⟩)) ?_
    intro k hk
    refine LWp.sx (gs := []) (hs := []) rfl trivial ?_
    refine LWp.seq (LWp.ite rfl (fun he => ?_) (fun he => ?_))
    · have he : k < s.forms.length := by simp only [decide_eq_true_eq, Int.ofNat_lt] at he; exact he
      refine LWp.skip (LWp.seq (LWp.block ?_))
      refine LWp.sx (gs := []) (hs := []) rfl trivial ?_
      have htl : (((List.range k).map fun (i : Nat) => (i : Int)).map fun x => [I x]).length = k := by simp
      have hel : ((((List.range k).map fun (i : Nat) => (i : Int)).map fun x => [I x]) ++ List.replicate (s.forms.length - k) [I 0])[k]? = some [I 0] := by
        rw [List.getElem?_append_right (by rw [htl]; omega), htl, Nat.sub_self]
        rw [List.getElem?_replicate]; rw [if_pos (by omega)]
      refine LWp.ops ?_
      refine WOps.xn (gs := []) (hs := []) 4 rfl rfl ⟨⟨by omega, by omega⟩, trivial⟩ ?_
      refine WOps.cons (Op1.storeE (i := 0) (m := k) (f := 0) rfl rfl (by show ((k : Int).toNat) * 1 = _; simp) hel rfl rfl rfl rfl (by show 1 ≤ 1; decide) ?_)
      refine WOps.nil ?_
      refine LWp.x (gs := []) (hs := []) rfl ⟨by omega, trivial⟩ ?_
      refine ⟨k + 1, by omega, by omega, Ent.trans (Ent.ofH ?_) (Ent.el ⟨rfl, rfl, rfl, rfl, rfl, trivial⟩)⟩
      have hrs : List.replicate (s.forms.length - k) [I 0] = [I 0] :: List.replicate (s.forms.length - (k + 1)) [I 0] := by
        rw [show s.forms.length - k = (s.forms.length - (k + 1)) + 1 by omega, List.replicate_succ]
      show [(g, HObj.arr 3 1 s.forms.length (((((List.range k).map fun (i : Nat) => (i : Int)).map fun x => [I x]) ++ List.replicate (s.forms.length - k) [I 0]).set k [I k]))] = _
      rw [hrs, List.set_append_right _ _ (by rw [htl]; omega), htl, Nat.sub_self, List.set_cons_zero, List.range_succ, List.map_append, List.map_append, List.append_assoc]
      rfl
    · have he : ¬ k < s.forms.length := by simp only [decide_eq_false_iff_not, Int.ofNat_lt] at he; exact he
      have : k = s.forms.length := by omega
      subst this
      exact LWp.exit ⟨(), trivial, Ent.trans (Ent.ofH (by simp)) (Ent.el ⟨rfl, rfl, rfl, trivial⟩)⟩
  intro _ _
  have hml : (((List.range s.forms.length).map fun (i : Nat) => (i : Int)).map fun x => [I x]).length = s.forms.length := by simp
  refine LWp.ent (Ent.unshare (i := 0) (t := 7) (es := ((List.range s.forms.length).map fun (i : Nat) => (i : Int)).map fun x => [I x]) (by rw [hml]; rfl) rfl) ?_
  refine LWp.ent (Ent.freezeLin (t := 7) rfl) ?_
  refine LWp.seq (LWp.ops ?_)
  refine WOps.xn (gs := []) (hs := []) 2 rfl rfl trivial ?_
  refine WOps.cons (Op1.callR (Hin := []) (H0 := []) hle rfl rfl (SubL.refl _) rfl ?_)
  rintro res0 Hout ⟨rfl, _, rfl⟩
  refine WOps.xd (gs := []) (hs := []) rfl trivial ?_
  refine LWp.sx (gs := []) (hs := []) rfl trivial ?_
  exact LWp.ret (res (fun _ _ h => h) hR rfl rfl rfl)
end Go.Px

namespace Go.Px
open Go.Proofs
theorem span_ev (lo hi : Int) : Ev Try.prog 56 [I lo, I hi] (.agg [I lo, I hi]) := by
  refine Ev.intro fn56 ?_
  refine LWp.seq (LWp.ops (WOps.cons (Op1.alloc rfl (fun b => ?_))))
  refine WOps.nil ?_
  refine LWp.seq (LWp.ops ?_)
  refine WOps.xn (gs := []) (hs := []) 3 rfl rfl trivial ?_
  refine WOps.cons (Op1.storeO (i := 0) rfl rfl rfl rfl rfl rfl (by show 2 ≤ 2; decide) ?_)
  refine WOps.nil ?_
  refine LWp.ret (retT (.inr rfl) (.one ?_))
  exact .cellO (i := 0) (n := some 2) rfl rfl (by kernel_rfl) rfl
theorem words_ev (s : List UInt8) (h : s.length ≤ 1000000) : Ev Try.prog 42 [Str s] (strs (splitF 32 s)) := by
  have e : Ev Try.prog 49 [Str s, U 32] (strs (splitF 32 s)) := rsplit_ev s 32 h
  generalize splitF 32 s = W at e
  refine Ev.intro fn42 ?_
  refine LWp.sx (gs := []) (hs := []) rfl trivial ?_
  refine LWp.sx (gs := []) (hs := [.ret (strs W)]) rfl ⟨e, trivial⟩ ?_
  refine LWp.ret (retT (.inr rfl) (.one (.tmp ?_ rfl)))
  rfl
theorem room_ev (lo hi : Int) : Ev Try.prog 92 [I lo, I hi] (.agg (Part.enc ⟨[], lo, hi⟩)) := by
  refine Ev.intro fn92 ?_
  refine LWp.seq (LWp.ops (WOps.cons (Op1.alloc rfl (fun b => ?_))))
  refine WOps.nil ?_
  refine LWp.seq (LWp.ops ?_)
  refine WOps.xn (gs := []) (hs := [.ret (.agg [I lo, I hi])]) 4 rfl rfl ⟨span_ev lo hi, trivial⟩ ?_
  refine WOps.cons (Op1.storeO (i := 0) rfl rfl rfl rfl rfl rfl (by show 3 ≤ 3; decide) ?_)
  refine WOps.nil ?_
  refine LWp.ent (Ent.cellsSub (j := 0) (Part.enc ⟨[], lo, hi⟩) rfl ⟨(fun S v h => by simp only [Rep] at h ⊢; exact .inl ⟨⟨_, h⟩, rfl⟩), SubA.refl _, SubA.refl _, trivial⟩) ?_
  refine LWp.ret (retT (.inr rfl) (.one ?_))
  exact .cellO (i := 0) (n := some 3) rfl rfl (by kernel_rfl) rfl
theorem given_ev (s : List UInt8) (h : s.length ≤ 1000000) : Ev Try.prog 91 [Str s] (.agg (Part.enc ⟨splitF 32 s, 0, 0⟩)) := by
  have e := words_ev s h
  generalize splitF 32 s = W at e
  refine Ev.intro fn91 ?_
  refine LWp.seq (LWp.ops (WOps.cons (Op1.alloc rfl (fun b => ?_))))
  refine WOps.nil ?_
  refine LWp.seq (LWp.ops ?_)
  refine WOps.xn (gs := []) (hs := [.ret (strs W)]) 3 rfl rfl ⟨e, trivial⟩ ?_
  refine WOps.cons (Op1.storeO (i := 0) rfl rfl rfl rfl rfl rfl (by show 3 ≤ 3; decide) ?_)
  refine WOps.nil ?_
  refine LWp.ret (retT (.inr rfl) (.one ?_))
  exact .cellO (i := 0) (n := some 3) rfl rfl (by kernel_rfl) rfl
def shelfB : Shelf :=
  { w := 12
    forms := [⟨[112, 108, 101, 97], [⟨[[116, 111], [116, 104, 101]], 0, 0⟩, ⟨[], 1, 2⟩, ⟨[[105], [97, 115, 107]], 0, 0⟩, ⟨[], 1, 3⟩]⟩,
      ⟨[110, 111, 116, 101], [⟨[], 1, 2⟩, ⟨[[105], [97, 115, 107]], 0, 0⟩, ⟨[], 0, 2⟩]⟩, ⟨[108, 105, 115, 116], [⟨[], 1, 2⟩, ⟨[], 1, 2⟩]⟩] }
theorem shelfB_wf : shelfB.wf := by
  have ws : ∀ l : List Wd, l.all (fun w => decide (w.length ≤ 100)) = true → WdsOK l := by
    intro l h w hw
    have := List.all_eq_true.1 h w hw
    simp only [decide_eq_true_eq] at this
    unfold WdOK
    omega
  refine ⟨by decide, by decide, ?_⟩
  intro f hf
  simp only [shelfB, List.mem_cons, List.not_mem_nil, or_false] at hf
  rcases hf with rfl | rfl | rfl
  all_goals refine ⟨by unfold WdOK; decide, fun p hp => ?_⟩
  all_goals simp only [List.mem_cons, List.not_mem_nil, or_false] at hp
  · rcases hp with rfl | rfl | rfl | rfl <;> exact ⟨ws _ rfl, by decide, by decide, by decide, by decide⟩
  · rcases hp with rfl | rfl | rfl <;> exact ⟨ws _ rfl, by decide, by decide, by decide, by decide⟩
  · rcases hp with rfl | rfl <;> exact ⟨ws _ rfl, by decide, by decide, by decide, by decide⟩
theorem shelf_ev : Ev Try.prog 41 [] (.agg shelfB.enc) := by
  have g1 : Ev Try.prog 91 [Str [116, 111, 32, 116, 104, 101]] (.agg (Part.enc ⟨[[116, 111], [116, 104, 101]], 0, 0⟩)) := given_ev [116, 111, 32, 116, 104, 101] (by decide)
  have g2 : Ev Try.prog 91 [Str [105, 32, 97, 115, 107]] (.agg (Part.enc ⟨[[105], [97, 115, 107]], 0, 0⟩)) := given_ev [105, 32, 97, 115, 107] (by decide)
  have r12 := room_ev 1 2
  have r13 := room_ev 1 3
  have r02 := room_ev 0 2
  refine Ev.intro fn41 ?_
  refine LWp.seq (LWp.ops (WOps.cons (Op1.alloc rfl (fun b => ?_))))
  refine WOps.nil ?_
  refine LWp.seq (LWp.ops ?_)
  refine WOps.xn (gs := []) (hs := [.ret (.agg (Part.enc ⟨[[116, 111], [116, 104, 101]], 0, 0⟩)), .ret (.agg (Part.enc ⟨[], 1, 2⟩)), .ret (.agg (Part.enc ⟨[[105], [97, 115, 107]], 0, 0⟩)), .ret (.agg (Part.enc ⟨[], 1, 3⟩)), .ice]) 6 rfl rfl ⟨g1, r12, g2, r13, rfl, trivial⟩ ?_
  refine WOps.ent (Ent.el (l := [(0, .po b 0), (6, .agg (Form.enc ⟨[112, 108, 101, 97], [⟨[[116, 111], [116, 104, 101]], 0, 0⟩, ⟨[], 1, 2⟩, ⟨[[105], [97, 115, 107]], 0, 0⟩, ⟨[], 1, 3⟩]⟩))]) ⟨rfl, rfl, trivial⟩) ?_
  refine WOps.xn (gs := []) (hs := [.ret (.agg (Part.enc ⟨[], 1, 2⟩)), .ret (.agg (Part.enc ⟨[[105], [97, 115, 107]], 0, 0⟩)), .ret (.agg (Part.enc ⟨[], 0, 2⟩)), .ice]) 5 rfl rfl ⟨r12, g2, r02, rfl, trivial⟩ ?_
  refine WOps.ent (Ent.el (l := [(0, .po b 0), (6, .agg (Form.enc ⟨[112, 108, 101, 97], [⟨[[116, 111], [116, 104, 101]], 0, 0⟩, ⟨[], 1, 2⟩, ⟨[[105], [97, 115, 107]], 0, 0⟩, ⟨[], 1, 3⟩]⟩)), (11, .agg (Form.enc ⟨[110, 111, 116, 101], [⟨[], 1, 2⟩, ⟨[[105], [97, 115, 107]], 0, 0⟩, ⟨[], 0, 2⟩]⟩))]) ⟨rfl, rfl, rfl, trivial⟩) ?_
  refine WOps.xn (gs := []) (hs := [.ret (.agg (Part.enc ⟨[], 1, 2⟩)), .ret (.agg (Part.enc ⟨[], 1, 2⟩)), .ice, .ice]) 6 rfl rfl ⟨r12, r12, rfl, rfl, trivial⟩ ?_
  refine WOps.cons (Op1.storeO (i := 0) rfl rfl rfl rfl rfl rfl (by show 2 ≤ 2; decide) ?_)
  refine WOps.nil ?_
  refine LWp.ret (retT (.inr rfl) (.one ?_))
  exact .cellO (i := 0) (n := some 2) rfl rfl (by kernel_rfl) rfl
def marksB : List Mark := [⟨0, []⟩, ⟨2, []⟩, ⟨0, []⟩, ⟨0, []⟩, ⟨0, []⟩, ⟨3, [102, 111, 114]⟩, ⟨0, []⟩]
theorem marks_ev : Ev Try.prog 69 [] (marksV marksB) := by
  refine Ev.intro fn69 ?_
  refine LWp.sx (gs := []) (hs := []) rfl trivial ?_
  refine LWp.sx (gs := []) (hs := [.ice]) rfl ⟨rfl, trivial⟩ ?_
  refine LWp.ret (retT (.inr rfl) (.one (.tmp ?_ rfl)))
  rfl
end Go.Px

namespace Go.Px
open Go.Proofs
abbrev wA : List Wd := [[116, 111], [116, 104, 101], [106, 117, 100, 103, 101], [105], [97, 115, 107], [109, 101, 114, 99, 121]]
abbrev wB : List Wd := [[116, 111], [106, 117, 100, 103, 101], [105], [97, 115, 107], [102, 111, 114], [109, 101, 114, 99, 121]]
abbrev wABC : List Wd := [[97], [98], [99]]
abbrev tA : List UInt8 := [116, 111, 32, 116, 104, 101, 32, 106, 117, 100, 103, 101, 10, 105, 32, 97, 115, 107, 32, 109, 101, 114, 99, 121, 10]
abbrev tB : List UInt8 := [116, 111, 32, 116, 104, 101, 10]
abbrev tW : List UInt8 := [116, 111, 32, 116, 104, 101, 32, 106, 117, 100, 103, 101, 32, 105, 10, 97, 115, 107, 32, 109, 101, 114, 99, 121, 10]
theorem awake_facts : makeR shelfB 0 [[[106, 117, 100, 103, 101]], [[109, 101, 114, 99, 121]]] = (wA, 0) ∧ ofR shelfB wABC = ([2], 0) ∧ fillsR shelfB 2 wABC = ([[[97]], [[98], [99]]], 2, 0) ∧ writeR shelfB wA = (tA, 0) ∧ readR shelfB tA = (wA, 0) ∧ fewestR wA wB = (marksB, 2, 0) ∧ applyR wA marksB = (wB, 0) ∧
    mendR shelfB 2 wA = (2, 0) ∧ nearestR shelfB wA = (0, 0, 0) ∧ readR shelfB tB = ([[116, 111], [116, 104, 101]], 0) ∧ readR shelfB tW = ([], 6) ∧ mendR shelfB 3 wA = (0, 4) := by
  refine ⟨?_, ?_, ?_, ?_, ?_, ?_, ?_, ?_, ?_, ?_, ?_, ?_⟩ <;> kernel_rfl
theorem same_refl (l : List Wd) : Ev Try.prog 20 [strs l, strs l] (B true) := by
  have := rsame_ev l l
  rw [beq_self_eq_true] at this; exact this
theorem sames_refl (l : List (List Wd)) : Ev Try.prog 27 [fillsV l, fillsV l] (B true) := by
  have := rsames_ev l l
  rw [beq_self_eq_true] at this; exact this
theorem equal_refl (l : List Mark) (hl : ∀ x ∈ l, x.wf) : Ev Try.prog 34 [marksV l, marksV l] (B true) := by
  have := requal_ev l l hl hl
  rw [beq_self_eq_true] at this; exact this
theorem intsEq_refl (a : List Int) : intsEq a a = true := intsEq_iff.2 rfl
theorem ints_refl (a : List Int) : Ev Try.prog 24 [ints a, ints a] (B true) := by
  have := ints_ev a a
  rw [intsEq_refl] at this; exact this
theorem marksB_wf : ∀ x ∈ marksB, x.wf := by
  intro x hx
  simp only [marksB, List.mem_cons, List.not_mem_nil, or_false] at hx
  rcases hx with rfl | rfl | rfl | rfl | rfl | rfl | rfl <;> exact ⟨by decide, by decide, by unfold WdOK; decide⟩
set_option maxRecDepth 20000 in
theorem awake_ev : Ev Try.prog 21 [] (B true) := by
  obtain ⟨f1, f2, f3, f4, f5, f6, f7, f8, f9, f10, f11, f12⟩ := awake_facts
  have e1 := make_ev shelfB shelfB_wf 0 [[[106, 117, 100, 103, 101]], [[109, 101, 114, 99, 121]]]
  have e2 := of_ev shelfB shelfB_wf wABC
  have e3 := fills_ev shelfB shelfB_wf 2 wABC
  have e4 := write_ev2 shelfB shelfB_wf wA
  have e5 := read_ev shelfB shelfB_wf tA
  have e6 := fewest_ev wA wB
  have e7 := apply_ev wA marksB
  have e8 := mend_ev shelfB shelfB_wf 2 wA
  have e9 := nearest_ev shelfB shelfB_wf wA
  have e10 := read_ev shelfB shelfB_wf tB
  have e11 := read_ev shelfB shelfB_wf tW
  have e12 := mend_ev shelfB shelfB_wf 3 wA
  rw [f1] at e1
  rw [f2] at e2
  rw [f3] at e3
  rw [f4] at e4
  rw [f5] at e5
  rw [f6] at e6
  rw [f7] at e7
  rw [f8] at e8
  rw [f9] at e9
  rw [f10] at e10
  rw [f11] at e11
  rw [f12] at e12
  have w1 : Ev Try.prog 42 [Str [116, 111, 32, 116, 104, 101, 32, 106, 117, 100, 103, 101, 32, 105, 32, 97, 115, 107, 32, 109, 101, 114, 99, 121]] (strs wA) := words_ev _ (by decide)
  have w2 : Ev Try.prog 42 [Str [116, 111, 32, 106, 117, 100, 103, 101, 32, 105, 32, 97, 115, 107, 32, 102, 111, 114, 32, 109, 101, 114, 99, 121]] (strs wB) := words_ev _ (by decide)
  have w3 : Ev Try.prog 42 [Str [106, 117, 100, 103, 101]] (strs [[106, 117, 100, 103, 101]]) := words_ev _ (by decide)
  have w4 : Ev Try.prog 42 [Str [109, 101, 114, 99, 121]] (strs [[109, 101, 114, 99, 121]]) := words_ev _ (by decide)
  have w5 : Ev Try.prog 42 [Str [97, 32, 98, 32, 99]] (strs wABC) := words_ev _ (by decide)
  have w6 : Ev Try.prog 42 [Str [97]] (strs [[97]]) := words_ev _ (by decide)
  have w7 : Ev Try.prog 42 [Str [98, 32, 99]] (strs [[98], [99]]) := words_ev _ (by decide)
  refine Ev.intro fn21 ?_
  refine LWp.sx (gs := []) (hs := []) rfl trivial ?_
  refine LWp.sx (gs := []) (hs := [.ret (.agg shelfB.enc), .lin]) rfl ⟨shelf_ev, rfl, ⟨rfl, rfl, rfl, by decide⟩, trivial⟩ ?_
  refine LWp.ent (Ent.freezeLbox (t := 1) rfl) ?_
  refine LWp.sx (gs := []) (hs := [.ret (strs wA), .ret (strs wB)]) rfl ⟨w1, w2, trivial⟩ ?_
  refine LWp.sd (gs := []) (hs := [.ret (strs [[106, 117, 100, 103, 101]]), .ret (strs [[109, 101, 114, 99, 121]]), .ice, .ret (.tup [strs wA, I 0])]) hmix rfl (by kernel_rfl) ⟨w3, w4, rfl, e1, trivial⟩ ?_
  refine LWp.sd (gs := []) (hs := [.ret (strs wABC), .ret (.tup [ints [2], I 0])]) hmix rfl (by kernel_rfl) ⟨w5, e2, trivial⟩ ?_
  refine LWp.sd (gs := []) (hs := [.ret (strs wABC), .ret (.tup [fillsV [[[97]], [[98], [99]]], I 2, I 0])]) hmix rfl (by kernel_rfl) ⟨w5, e3, trivial⟩ ?_
  refine LWp.sx (gs := []) (hs := [.ret (.tup [Str tA, I 0])]) rfl ⟨e4, trivial⟩ ?_
  refine LWp.sx (gs := []) (hs := [.ret (.tup [strs wA, I 0])]) rfl ⟨e5, trivial⟩ ?_
  refine LWp.sx (gs := []) (hs := [.ret (.tup [marksV marksB, I 2, I 0])]) rfl ⟨e6, trivial⟩ ?_
  refine LWp.sx (gs := []) (hs := [.ret (marksV marksB), .ret (.tup [strs wB, I 0])]) rfl ⟨marks_ev, e7, trivial⟩ ?_
  refine LWp.sx (gs := []) (hs := [.ret (.tup [I 2, I 0])]) rfl ⟨e8, trivial⟩ ?_
  refine LWp.sx (gs := []) (hs := [.ret (.tup [I 0, I 0, I 0])]) rfl ⟨e9, trivial⟩ ?_
  refine LWp.sx (gs := []) (hs := [.ret (.tup [strs [[116, 111], [116, 104, 101]], I 0])]) rfl ⟨e10, trivial⟩ ?_
  refine LWp.sx (gs := []) (hs := [.ret (.tup [strs [], I 6])]) rfl ⟨e11, trivial⟩ ?_
  refine LWp.sx (gs := []) (hs := [.ret (.tup [I 0, I 4])]) rfl ⟨e12, trivial⟩ ?_
  have i0 := same_refl wA
  have i1 := ints_refl [2]
  have i2 := sames_refl [[[97]], [[98], [99]]]
  have i3 := equal_refl marksB marksB_wf
  have i4 := same_refl wB
  refine LWp.seq (LWp.ops ?_)
  refine WOps.ent (Ent.el (l := [(5, I 0), (7, I 0), (10, I 0), (12, I 0), (14, I 0), (17, I 0), (19, I 0), (21, I 0), (24, I 0), (26, I 0), (28, I 6), (30, I 4), (4, strs wA), (2, strs wA), (6, ints [2]), (8, fillsV [[[97]], [[98], [99]]]), (9, I 2), (11, Str tA), (13, strs wA), (15, marksV marksB), (16, I 2), (18, strs wB), (3, strs wB), (20, I 2), (22, I 0), (23, I 0)]) ⟨rfl, rfl, rfl, rfl, rfl, rfl, rfl, rfl, rfl, rfl, rfl, rfl, rfl, rfl, rfl, rfl, rfl, rfl, rfl, rfl, rfl, rfl, rfl, rfl, rfl, rfl, trivial⟩) ?_
  refine WOps.xn (gs := [(110, true), (114, true), (118, true), (122, true), (126, true), (130, true), (134, true), (138, true), (142, true), (146, true), (150, true)]) (hs := []) 46 rfl rfl (by (repeat' (with_reducible apply And.intro)); (all_goals try first | (with_reducible exact trivial) | (with_reducible rfl) | (with_reducible assumption) | ((with_reducible apply isB); first | exact rfl | exact beq_self_eq_true _))) ?_
  refine WOps.ent (Ent.el (l := [(153, B true), (4, strs wA), (2, strs wA), (6, ints [2]), (8, fillsV [[[97]], [[98], [99]]]), (9, I 2), (11, Str tA), (13, strs wA), (15, marksV marksB), (16, I 2), (18, strs wB), (3, strs wB), (20, I 2), (22, I 0), (23, I 0)]) ⟨rfl, rfl, rfl, rfl, rfl, rfl, rfl, rfl, rfl, rfl, rfl, rfl, rfl, rfl, rfl, trivial⟩) ?_
  refine WOps.xn (gs := [(154, true), (159, true), (164, true)]) (hs := [.ret (B true), .ice, .ret (B true), .ret (strs [[97]]), .ret (strs [[98], [99]]), .ice, .ret (B true)]) 17 rfl rfl (by (repeat' (with_reducible apply And.intro)); (all_goals try first | (with_reducible exact trivial) | (with_reducible rfl) | (with_reducible assumption) | ((with_reducible apply isB); first | exact rfl | exact beq_self_eq_true _)); exact i0; exact i1; exact w6; exact w7; exact i2) ?_
  refine WOps.ent (Ent.el (l := [(170, B true), (9, I 2), (11, Str tA), (2, strs wA), (13, strs wA), (15, marksV marksB), (16, I 2), (18, strs wB), (3, strs wB), (20, I 2), (22, I 0), (23, I 0)]) ⟨rfl, rfl, rfl, rfl, rfl, rfl, rfl, rfl, rfl, rfl, rfl, rfl, trivial⟩) ?_
  refine WOps.xn (gs := [(171, true), (175, true), (179, true), (184, true)]) (hs := [.ret (B true), .ret (marksV marksB), .ret (B true)]) 18 rfl rfl (by (repeat' (with_reducible apply And.intro)); (all_goals try first | (with_reducible exact trivial) | (with_reducible rfl) | (with_reducible assumption) | ((with_reducible apply isB); first | exact rfl | exact beq_self_eq_true _)); exact i0; exact marks_ev; exact i3) ?_
  refine WOps.ent (Ent.el (l := [(188, B true), (16, I 2), (18, strs wB), (3, strs wB), (20, I 2), (22, I 0), (23, I 0)]) ⟨rfl, rfl, rfl, rfl, rfl, rfl, rfl, trivial⟩) ?_
  refine WOps.xd (gs := [(189, true), (193, true), (198, true), (202, true), (206, true)]) (hs := [.ret (B true)]) rfl (by (repeat' (with_reducible apply And.intro)); (all_goals try first | (with_reducible exact trivial) | (with_reducible rfl) | (with_reducible assumption) | ((with_reducible apply isB); first | exact rfl | exact beq_self_eq_true _)); exact i4) ?_
  refine LWp.ret (retT (.inr rfl) (.one (.tmp ?_ rfl)))
  rfl
end Go.Px

