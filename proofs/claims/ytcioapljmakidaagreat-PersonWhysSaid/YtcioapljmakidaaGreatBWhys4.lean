/- Part 4 of the proof of the statement PersonWhys (contracts of the functions that it alone wants). No conditions. -/
import Derived.Test.YtcioapljmakidaaGreatBWhys3
namespace Go.Px
open Go.Proofs Go.MapKept
theorem rcan_ev {t : Town} (h : t.OK) {p : List Nat} (hg : Grp t.ms.length p) (bl : List Int) : Ev Tryz.prog 86 [.agg t.enc, ints (natI p), ints bl] (B (canR t (butL bl) p)) := by
  have hm6 := h.ms6
  have hle := hg.le
  have hsm := small_of hm6 hg
  have hpl := hg.len
  have htl : ((t.ties.map Tie.enc).length : Int) = t.ties.length := by simp
  have ht4 := h.ties4
  have hcount := rcount3_ev hsm
  have hC : canR t (butL bl) p = ((List.range (cnt p)).all (fun who => namedR t (ofL p who)) && tiedF t (butL bl) p && (kinB t p && !emptyS (yearsW t p (cnt p)))) := rfl
  refine Ev.intro fn86 ?_
  refine LWp.sx (gs := []) (hs := [.ice]) rfl ⟨⟨rfl, rfl⟩, trivial⟩ ?_
  refine LWp.seq (LWp.seq ?_)
  refine LWp.x (gs := []) (hs := []) rfl trivial ?_
  refine LWp.blockT (fun _ : Unit => (List.range (cnt p)).all (fun who => namedR t (ofL p who)) = true) (fun _ => el [(1, ints (natI p)), (2, ints bl), (3, .pi t.enc)]) (fun _ => []) (fun _ => []) ?_ ?_
  · refine LWp.loopN (fun k : Nat => k ≤ cnt p ∧ ∀ who, who < k → namedR t (ofL p who) = true) (fun k => el [(1, ints (natI p)), (2, ints bl), (3, .pi t.enc), (7, I k)]) (fun _ => []) (fun _ => []) (fun k => cnt p - k) 0 ⟨by omega, by intro w hw; omega⟩ (Ent.el ⟨rfl, rfl, rfl, rfl, trivial⟩) ?_
    rintro k ⟨hk, hp⟩
    refine LWp.seq (LWp.seq ?_)
    refine LWp.x (gs := []) (hs := [.ret (I (cnt p : Nat))]) rfl ⟨hcount, trivial⟩ ?_
    refine LWp.ite rfl (fun hc => ?_) (fun hc => ?_)
    · simp only [decide_eq_true_eq, Int.ofNat_lt] at hc
      have hof := rof_ev (p := p) (by omega) k
      have hna := rnamed_ev h (l := ofL p k) (by
        have : ofL p k = ofK p k t.ms.length := by unfold ofL ofK; rw [hpl]
        rw [this]
        have := ofK_len p k t.ms.length
        omega) (fun i hi => by rw [← hpl]; exact (ofL_mem.1 hi).1)
      refine LWp.skip (LWp.seq (LWp.block ?_))
      refine LWp.sd (gs := []) (hs := [.ret (ints (natI (ofL p k))), .ret (B (namedR t (ofL p k)))]) hmix rfl (by kernel_rfl) ⟨hof, hna, trivial⟩ ?_
      cases hb : namedR t (ofL p k) with
      | false =>
        refine LWp.ite (b := true) rfl (fun _ => ?_) (fun h => by cases h)
        have hF : canR t (butL bl) p = false := by
          rw [hC]
          have : (List.range (cnt p)).all (fun who => namedR t (ofL p who)) = false := by
            rw [List.all_eq_false]
            exact ⟨k, List.mem_range.2 hc, by rw [hb]; decide⟩
          rw [this]; rfl
        rw [hF]
        refine LWp.sx (gs := []) (hs := []) rfl trivial ?_
        refine LWp.ret (retT (.inr rfl) (.one (.tmp ?_ rfl)))
        rfl
      | true =>
        refine LWp.ite (b := false) rfl (fun h => by cases h) (fun _ => LWp.skip ?_)
        refine LWp.x (gs := []) (hs := []) rfl ⟨by omega, trivial⟩ ?_
        refine ⟨k + 1, ⟨hc, fun w hw => ?_⟩, by omega, Ent.el ⟨rfl, rfl, rfl, rfl, trivial⟩⟩
        by_cases e : w = k
        · rw [e]; exact hb
        · exact hp w (by omega)
    · simp only [decide_eq_false_iff_not, Int.ofNat_lt] at hc
      refine LWp.exit ⟨(), ?_, Ent.el ⟨rfl, rfl, rfl, trivial⟩⟩
      rw [List.all_eq_true]
      intro w hw
      exact hp w (by have := List.mem_range.1 hw; omega)
  intro _ hN
  rw [hN, Bool.true_and] at hC
  refine LWp.seq (LWp.seq ?_)
  refine LWp.x (gs := []) (hs := []) rfl trivial ?_
  refine LWp.blockT (fun _ : Unit => tiedF t (butL bl) p = true) (fun _ => el [(1, ints (natI p)), (3, .pi t.enc)]) (fun _ => []) (fun _ => []) ?_ ?_
  · refine LWp.loopN (fun k : Nat => k ≤ t.ties.length ∧ ∀ j, j < k → tieAtB t (butL bl) p j = true) (fun k => el [(1, ints (natI p)), (2, ints bl), (3, .pi t.enc), (8, I k)]) (fun _ => []) (fun _ => []) (fun k => t.ties.length - k) 0 ⟨by omega, by intro w hw; omega⟩ (Ent.el ⟨rfl, rfl, rfl, rfl, trivial⟩) ?_
    rintro k ⟨hk, hp⟩
    refine LWp.seq (LWp.seq ?_)
    refine LWp.x (gs := []) (hs := []) rfl trivial ?_
    refine LWp.ite rfl (fun hc => ?_) (fun hc => ?_)
    · simp only [decide_eq_true_eq] at hc
      have hkl : k < t.ties.length := by omega
      obtain ⟨x, hx⟩ := ex_get hkl
      obtain ⟨a0, a1, b0, b1, _⟩ := h.tie x (List.mem_of_getElem? hx)
      have hti := rtied_ev (p := p) x a0 (by omega) b0 (by omega)
      have hhas := has_ev bl (k : Int)
      have hat := tieAt_some (but := butL bl) (p := p) hx
      have hbk : butL bl k = bl.any (· == (k : Int)) := rfl
      rw [← hbk] at hhas
      refine LWp.skip (LWp.seq (LWp.block ?_))
      refine LWp.cutX (fun _ : Unit => True) (fun _ => el [(1, ints (natI p)), (2, ints bl), (3, .pi t.enc), (8, I k), (41, B (!tieAtB t (butL bl) p k))]) (fun _ => []) (fun _ => []) ?_ ?_
      · rw [hat]
        cases hb : butL bl k with
        | true =>
          rw [hb] at hhas
          refine LWp.x (gs := [(32, false)]) (hs := [.ret (B true)]) rfl (by (repeat' (with_reducible apply And.intro)); (all_goals first | (with_reducible exact trivial) | (with_reducible rfl) | (with_reducible assumption) | ((with_reducible apply isB); first | exact rfl | exact beq_self_eq_true _) | omega | ((first | exact hhas | rfl)))) ?_
          exact ⟨(), trivial, Ent.el ⟨rfl, rfl, rfl, rfl, rfl, trivial⟩⟩
        | false =>
          rw [hb] at hhas
          have hx' : (t.ties.map Tie.enc)[((k : Nat) : Int).toNat]? = some x.enc := by simp [hx]
          refine LWp.x (gs := [(32, true)]) (hs := [.ret (B false), .cells x.enc, .ret (B (tieB p x))]) rfl ⟨hhas, rfl, rfl, rfl, ⟨rfl, by omega, hx'⟩, rfl, rfl, ⟨rfl, hti⟩, rfl, rfl, trivial⟩ ?_
          exact ⟨(), trivial, Ent.el ⟨rfl, rfl, rfl, rfl, rfl, trivial⟩⟩
      intro _ _
      cases hb : tieAtB t (butL bl) p k with
      | false =>
        refine LWp.ite (b := true) rfl (fun _ => ?_) (fun h => by cases h)
        have hF : canR t (butL bl) p = false := by
          rw [hC]
          have : tiedF t (butL bl) p = false := by
            rw [tiedF_all, List.all_eq_false]
            exact ⟨k, List.mem_range.2 hkl, by rw [hb]; decide⟩
          rw [this]; rfl
        rw [hF]
        refine LWp.sx (gs := []) (hs := []) rfl trivial ?_
        refine LWp.ret (retT (.inr rfl) (.one (.tmp ?_ rfl)))
        rfl
      | true =>
        refine LWp.ite (b := false) rfl (fun h => by cases h) (fun _ => LWp.skip ?_)
        refine LWp.x (gs := []) (hs := []) rfl ⟨by omega, trivial⟩ ?_
        refine ⟨k + 1, ⟨hkl, fun w hw => ?_⟩, by omega, Ent.el ⟨rfl, rfl, rfl, rfl, trivial⟩⟩
        by_cases e : w = k
        · rw [e]; exact hb
        · exact hp w (by omega)
    · simp only [decide_eq_false_iff_not] at hc
      refine LWp.exit ⟨(), ?_, Ent.el ⟨rfl, rfl, trivial⟩⟩
      rw [tiedF_all, List.all_eq_true]
      intro w hw
      exact hp w (by have := List.mem_range.1 hw; omega)
  intro _ hT
  rw [hT, Bool.true_and] at hC
  rw [hC]
  have hki := rkin_ev h hpl
  cases hb : kinB t p with
  | false =>
    rw [hb] at hki
    refine LWp.sx (gs := [(45, false)]) (hs := [.ret (B false)]) rfl (by (repeat' (with_reducible apply And.intro)); (all_goals first | (with_reducible exact trivial) | (with_reducible rfl) | (with_reducible assumption) | ((with_reducible apply isB); first | exact rfl | exact beq_self_eq_true _) | omega | ((first | exact hki | rfl)))) ?_
    refine LWp.ret (retT (.inr rfl) (.one (.tmp ?_ rfl)))
    rfl
  | true =>
    rw [hb] at hki
    have hk1 : Kin1 t p := fun i hi hpi => (kinB_iff.1 hb i hi hpi).1
    have hye := ryears_ev h hg hk1
    have hlen : (yearsW t p (cnt p)).length = cnt p := by
      have := (yearsW_sub h hg hk1 (Nat.le_refl (cnt p))).1
      rw [this, born0_len]
    have hem := rempty_ev (yearsW t p (cnt p)) (by omega)
    refine LWp.sx (gs := [(45, true)]) (hs := [.ret (B true), .ret (spans (yearsW t p (cnt p))), .ret (B (emptyS (yearsW t p (cnt p))))]) rfl ⟨hki, rfl, rfl, ⟨rfl, hye⟩, ⟨rfl, hem⟩, rfl, rfl, trivial⟩ ?_
    refine LWp.ret (retT (.inr rfl) (.one (.tmp ?_ rfl)))
    rfl
theorem rtruths_ev {t : Town} (h : t.OK) (bl : List Int) : Ev Tryz.prog 42 [.agg t.enc, ints bl] (lists (truthsL t (butL bl))) := by
  have hm6 := h.ms6
  have hml : ((t.ms.map Men.enc).length : Int) = t.ms.length := by simp
  have hgr := groups_ev t.ms.length hm6
  have hgl := groups_len hm6
  have hgm : ∀ p ∈ groupsN t.ms.length, Grp t.ms.length p := fun p hp => groups_grp hp
  have hT : truthsL t (butL bl) = (groupsN t.ms.length).filter (canR t (butL bl)) := rfl
  rw [hT]
  generalize groupsN t.ms.length = G at hgr hgl hgm
  refine Ev.freeze (T := 34) ?_
  refine Ev.intro fn42 ?_
  refine LWp.sx (gs := []) (hs := [.ice]) rfl ⟨⟨rfl, rfl⟩, trivial⟩ ?_
  refine LWp.sx (gs := []) (hs := [.ret (lists G)]) rfl ⟨by rw [hml]; exact hgr, trivial⟩ ?_
  refine LWp.sx (gs := []) (hs := []) rfl trivial ?_
  refine LWp.ent (Ent.nilLin (t := 6) 34 1 rfl) ?_
  have hGl : ((G.map fun c => [ints (natI c)]).length : Int) = G.length := by simp
  refine LWp.seq (LWp.seq ?_)
  refine LWp.x (gs := []) (hs := []) rfl trivial ?_
  refine LWp.blockT (fun _ : Unit => True) (fun _ => el [(6, .lin 34 1 ((G.filter (canR t (butL bl))).map fun c => [ints (natI c)]))]) (fun _ => []) (fun _ => []) ?_ ?_
  · refine LWp.loopN (fun k : Nat => k ≤ G.length) (fun k => el [(1, ints bl), (2, .pi t.enc), (5, lists G), (6, .lin 34 1 (((G.take k).filter (canR t (butL bl))).map fun c => [ints (natI c)])), (7, I k)]) (fun _ => []) (fun _ => []) (fun k => G.length - k) 0 (by omega) (Ent.el ⟨rfl, rfl, rfl, rfl, rfl, trivial⟩) ?_
    intro k hk
    refine LWp.seq (LWp.seq ?_)
    refine LWp.x (gs := []) (hs := []) rfl trivial ?_
    refine LWp.ite rfl (fun hc => ?_) (fun hc => ?_)
    · simp only [decide_eq_true_eq] at hc
      have hkl : k < G.length := by omega
      obtain ⟨p, hp⟩ := ex_get hkl
      have hcan := rcan_ev h (hgm p (List.mem_of_getElem? hp)) bl
      have htk : (G.take (k + 1)).filter (canR t (butL bl)) = (G.take k).filter (canR t (butL bl)) ++ (if canR t (butL bl) p = true then [p] else []) := by
        rw [List.take_add_one, hp, List.filter_append]
        congr 1
        show List.filter _ [p] = _
        simp only [List.filter_cons, List.filter_nil]
      have hle := List.length_filter_le (canR t (butL bl)) (G.take k)
      rw [List.length_take] at hle
      refine LWp.skip (LWp.seq (LWp.block ?_))
      refine LWp.sd (gs := []) (hs := [.cells [ints (natI p)], .ret (B (canR t (butL bl) p))]) hmix rfl (by kernel_rfl) ⟨⟨by omega, by simp [hp]⟩, hcan, trivial⟩ ?_
      refine LWp.ite (b := canR t (butL bl) p) rfl (fun hb => ?_) (fun hb => LWp.skip ?_)
      · rw [if_pos hb] at htk
        refine LWp.x (gs := []) (hs := [.cells [ints (natI p)], .ice]) rfl ⟨⟨by omega, by simp [hp]⟩, rfl, ⟨by simp only [List.length_map, chunk, List.length_cons, List.length_nil]; omega, by simp only [List.length_map, chunk, List.length_cons, List.length_nil]; omega⟩, trivial⟩ ?_
        refine LWp.x (gs := []) (hs := []) rfl ⟨by omega, trivial⟩ ?_
        refine ⟨k + 1, by omega, by omega, Ent.el ⟨rfl, rfl, rfl, ?_, rfl, trivial⟩⟩
        show AV.lin _ 1 _ = AV.lin _ 1 _
        rw [htk, List.map_append]; rfl
      · rw [if_neg (by rw [hb]; decide), List.append_nil] at htk
        refine LWp.x (gs := []) (hs := []) rfl ⟨by omega, trivial⟩ ?_
        exact ⟨k + 1, by omega, by omega, Ent.el ⟨rfl, rfl, rfl, by rw [htk]; rfl, rfl, trivial⟩⟩
    · simp only [decide_eq_false_iff_not] at hc
      refine LWp.exit ⟨(), trivial, Ent.el ⟨?_, trivial⟩⟩
      rw [List.take_of_length_le (by omega)]; rfl
  · intro _ _
    refine LWp.sx (gs := []) (hs := []) rfl trivial ?_
    exact LWp.ret (retT (.inr rfl) (.lin rfl rfl))
end Go.Px

namespace Go.Px
open Go.Proofs Go.MapKept
def someL (t : Town) (e : Int) : List (List Nat) := if someE t e = 0 then truthsL t noBut else []
theorem rsome_ev (t : Town) (e : Int) (h : e = 0 → t.OK) : Ev Tryz.prog 61 [.agg t.enc, I e] (.tup [lists (someL t e), I (someE t e)]) := by
  refine Ev.intro fn61 ?_
  refine LWp.sx (gs := []) (hs := [.ice]) rfl ⟨⟨rfl, rfl⟩, trivial⟩ ?_
  refine LWp.seq (LWp.seq ?_)
  refine LWp.x (gs := []) (hs := []) rfl trivial ?_
  by_cases he : e = 0
  case neg =>
    have hS : someE t e = e := by unfold someE; rw [if_pos he]
    have hL : someL t e = [] := by unfold someL; rw [if_neg (by rw [hS]; exact he)]
    rw [hS, hL]
    refine LWp.ite (b := true) (by show B _ = B _; exact congrArg B (by rw [bne_iff_ne]; exact he)) (fun _ => ?_) (fun h => by cases h)
    refine LWp.sx (gs := []) (hs := []) rfl trivial ?_
    refine LWp.ent (Ent.nilSl (t := 4) 1 rfl) ?_
    refine LWp.ret (retT (.inr rfl) (.many (by decide) ⟨.tmp ?_ rfl, .tmp ?_ rfl, trivial⟩))
    · rfl
    · rfl
  have hOK := h he
  have htr := rtruths_ev hOK []
  rw [butL_nil] at htr
  refine LWp.ite (b := false) (by show B _ = B _; exact congrArg B (by rw [bne_eq_false_iff_eq]; exact he)) (fun h => by cases h) (fun _ => LWp.skip ?_)
  refine LWp.sx (gs := []) (hs := [.retS [.agg t.enc, ints []] (lists (truthsL t noBut))]) rfl ⟨⟨htr, .cons (.nilSl (.refl _))⟩, trivial⟩ ?_
  refine LWp.seq (LWp.seq ?_)
  refine LWp.x (gs := []) (hs := []) rfl trivial ?_
  cases hE : truthsL t noBut with
  | nil =>
    have hS : someE t e = 8 := by unfold someE; rw [if_neg (by simp [he]), hE]; rfl
    have hL : someL t e = [] := by unfold someL; rw [if_neg (by rw [hS]; decide)]
    rw [hS, hL]
    refine LWp.ite (b := true) rfl (fun _ => ?_) (fun h => by cases h)
    refine LWp.sx (gs := []) (hs := []) rfl trivial ?_
    refine LWp.ent (Ent.nilSl (t := 4) 1 rfl) ?_
    refine LWp.ret (retT (.inr rfl) (.many (by decide) ⟨.tmp ?_ rfl, .tmp ?_ rfl, trivial⟩))
    · rfl
    · rfl
  | cons p l =>
    have hS : someE t e = 0 := someE_zero.2 ⟨he, by rw [hE]; simp⟩
    have hL : someL t e = p :: l := by unfold someL; rw [if_pos hS, hE]
    rw [hS, hL]
    refine LWp.ite (b := false) (by show B _ = B _; refine congrArg B ?_; rw [beq_eq_false_iff_ne]; simp only [List.map_cons, List.length_cons]; omega) (fun h => by cases h) (fun _ => LWp.skip ?_)
    refine LWp.sx (gs := []) (hs := []) rfl trivial ?_
    refine LWp.ret (retT (.inr rfl) (.many (by decide) ⟨.tmp ?_ rfl, .tmp ?_ rfl, trivial⟩))
    · rfl
    · rfl
theorem rchecked_ev (t : Town) (hw : t.wf) (q : Int) : Ev Tryz.prog 73 [.agg t.enc, I q] (I (entE t (oneE t q))) := by
  have hchk := rpcheck_ev t hw
  have hml : ((t.ms.map Men.enc).length : Int) = t.ms.length := by simp
  have hin := in_ev q 0 (((t.ms.map Men.enc).length : Int) - 1)
  rw [inB_of] at hin
  have hO : oneE t q = if beyondB 0 (((t.ms.map Men.enc).length : Int) - 1) [q] = true then 4 else 0 := by rw [hml]; rfl
  refine Ev.intro fn73 ?_
  refine LWp.sx (gs := []) (hs := [.ice]) rfl ⟨⟨rfl, rfl⟩, trivial⟩ ?_
  refine LWp.sx (gs := []) (hs := [.ret (.tup [I (checkT t).1, I (checkT t).2.1, I (checkT t).2.2])]) rfl ⟨hchk, trivial⟩ ?_
  generalize beyondB 0 (((t.ms.map Men.enc).length : Int) - 1) [q] = c at hin hO
  by_cases h0 : townE t = 0
  · have h5 := ((townE_zero hw).1 h0).2
    have hE : entE t (oneE t q) = oneE t q := by unfold entE; rw [if_neg (by simp [h0])]
    have hz : ((checkT t).2.2 == 0) = true := by rw [beq_iff_eq]; exact h0
    rw [hE, hO]
    refine LWp.seq (LWp.seq ?_)
    refine LWp.x (gs := [(16, true)]) (hs := [.ret (B (!c))]) rfl ⟨hz, hz, hz, hz, ⟨hz, by omega, by omega⟩, ⟨hz, hin⟩, hz, hz, trivial⟩ ?_
    cases c with
    | true =>
      refine LWp.ite (b := true) rfl (fun _ => ?_) (fun h => by cases h)
      refine LWp.x (gs := []) (hs := []) rfl trivial ?_
      refine LWp.sx (gs := []) (hs := []) rfl trivial ?_
      refine LWp.ret (retT (.inr rfl) (.one (.tmp ?_ rfl)))
      rfl
    | false =>
      refine LWp.ite (b := false) rfl (fun h => by cases h) (fun _ => LWp.skip ?_)
      refine LWp.sx (gs := []) (hs := []) rfl trivial ?_
      refine LWp.ret (retT (.inr rfl) (.one (.tmp ?_ rfl)))
      show I _ = I _
      exact congrArg I h0
  · have hE : entE t (oneE t q) = townE t := by unfold entE; rw [if_pos h0]
    have hz : ((checkT t).2.2 == 0) = false := by rw [beq_eq_false_iff_ne]; exact h0
    rw [hE]
    refine LWp.seq (LWp.seq ?_)
    refine LWp.x (gs := [(16, false)]) (hs := []) rfl (by (repeat' (with_reducible apply And.intro)); (all_goals first | (with_reducible exact trivial) | (with_reducible rfl) | (with_reducible assumption) | ((with_reducible apply isB); first | exact rfl | exact beq_self_eq_true _) | omega | ((first | exact hz | rfl)))) ?_
    refine LWp.ite (b := false) rfl (fun h => by cases h) (fun _ => LWp.skip ?_)
    refine LWp.sx (gs := []) (hs := []) rfl trivial ?_
    refine LWp.ret (retT (.inr rfl) (.one (.tmp ?_ rfl)))
    rfl
theorem twoE_one {t : Town} {a b : Int} : twoE t a b = if oneE t a ≠ 0 then oneE t a else if oneE t b ≠ 0 then oneE t b else if a = b then 2 else 0 := by
  unfold twoE oneE
  rw [beyond_two]
  cases beyondB 0 ((t.ms.length : Int) - 1) [a] <;> cases beyondB 0 ((t.ms.length : Int) - 1) [b] <;> simp
theorem rtwo_ev (t : Town) (hw : t.wf) (a b : Int) : Ev Tryz.prog 65 [.agg t.enc, I a, I b] (I (entE t (twoE t a b))) := by
  have ha := rchecked_ev t hw a
  have hb := rchecked_ev t hw b
  have hT : entE t (twoE t a b) = if entE t (oneE t a) ≠ 0 then entE t (oneE t a) else if entE t (oneE t b) ≠ 0 then entE t (oneE t b) else if a = b then 2 else 0 := by
    by_cases h0 : townE t = 0
    · have hE : ∀ e, entE t e = e := fun e => by unfold entE; rw [if_neg (by simp [h0])]
      rw [hE, hE, hE]
      exact twoE_one
    · have hE : ∀ e, entE t e = townE t := fun e => by unfold entE; rw [if_pos h0]
      rw [hE, hE, hE, if_pos h0]
  rw [hT]
  generalize entE t (oneE t a) = e1 at ha
  generalize entE t (oneE t b) = e2 at hb
  refine Ev.intro fn65 ?_
  refine LWp.sx (gs := []) (hs := [.ice]) rfl ⟨⟨rfl, rfl⟩, trivial⟩ ?_
  refine LWp.sx (gs := []) (hs := [.ret (I e1)]) rfl ⟨ha, trivial⟩ ?_
  refine LWp.cutX (fun _ : Unit => True) (fun _ => el [(1, I a), (2, I b), (7, I (if e1 ≠ 0 then e1 else e2))]) (fun _ => []) (fun _ => []) ?_ ?_
  · refine LWp.sx (gs := []) (hs := []) rfl trivial ?_
    by_cases h1 : e1 = 0
    · refine LWp.ite (b := true) (by show B _ = B _; exact congrArg B (by rw [beq_iff_eq]; exact h1)) (fun _ => ?_) (fun h => by cases h)
      refine LWp.x (gs := []) (hs := [.ret (I e2)]) rfl ⟨hb, trivial⟩ ?_
      exact ⟨(), trivial, Ent.el ⟨rfl, rfl, by rw [if_neg (by simp [h1])]; rfl, trivial⟩⟩
    · refine LWp.ite (b := false) (by show B _ = B _; exact congrArg B (by rw [beq_eq_false_iff_ne]; exact h1)) (fun h => by cases h) (fun _ => LWp.skip ?_)
      exact ⟨(), trivial, Ent.el ⟨rfl, rfl, by rw [if_pos h1]; rfl, trivial⟩⟩
  intro _ _
  have hT2 : (if e1 ≠ 0 then e1 else if e2 ≠ 0 then e2 else if a = b then 2 else 0) = if (if e1 ≠ 0 then e1 else e2) ≠ 0 then (if e1 ≠ 0 then e1 else e2) else if a = b then 2 else 0 := by
    by_cases h1 : e1 = 0
    · simp [h1]
    · simp [h1]
  rw [hT2]
  generalize (if e1 ≠ 0 then e1 else e2) = e
  refine LWp.seq (LWp.seq ?_)
  by_cases he : e = 0
  · subst he
    refine LWp.x (gs := [(18, true)]) (hs := []) rfl (by (repeat' (with_reducible apply And.intro)); (all_goals first | (with_reducible exact trivial) | (with_reducible rfl) | (with_reducible assumption) | ((with_reducible apply isB); first | exact rfl | exact beq_self_eq_true _) | omega | ((rfl)))) ?_
    by_cases hab : a = b
    · refine LWp.ite (b := true) (by show B _ = B _; exact congrArg B (by rw [beq_iff_eq]; exact hab)) (fun _ => ?_) (fun h => by cases h)
      refine LWp.x (gs := []) (hs := []) rfl trivial ?_
      refine LWp.sx (gs := []) (hs := []) rfl trivial ?_
      refine LWp.ret (retT (.inr rfl) (.one (.tmp ?_ rfl)))
      show I _ = I _
      simp [hab]
    · refine LWp.ite (b := false) (by show B _ = B _; exact congrArg B (by rw [beq_eq_false_iff_ne]; exact hab)) (fun h => by cases h) (fun _ => LWp.skip ?_)
      refine LWp.sx (gs := []) (hs := []) rfl trivial ?_
      refine LWp.ret (retT (.inr rfl) (.one (.tmp ?_ rfl)))
      show I _ = I _
      simp [hab]
  · have hz : (e == 0) = false := by rw [beq_eq_false_iff_ne]; exact he
    refine LWp.x (gs := [(18, false)]) (hs := []) rfl (by (repeat' (with_reducible apply And.intro)); (all_goals first | (with_reducible exact trivial) | (with_reducible rfl) | (with_reducible assumption) | ((with_reducible apply isB); first | exact rfl | exact beq_self_eq_true _) | omega | ((rfl)))) ?_
    refine LWp.ite (b := false) rfl (fun h => by cases h) (fun _ => LWp.skip ?_)
    refine LWp.sx (gs := []) (hs := []) rfl trivial ?_
    refine LWp.ret (retT (.inr rfl) (.one (.tmp ?_ rfl)))
    show I _ = I _
    rw [if_pos he]
end Go.Px

namespace Go.Px
open Go.Proofs Go.MapKept
theorem alike_shared {t : Town} (h : t.OK) {a b : Nat} (ha : a < t.ms.length) (hb : b < t.ms.length) : alikeS t.ear (2 ^ (t.m a).sp.toNat ||| 2 ^ (t.m b).sp.toNat) = sharedG t.ear [(t.m a).sp, (t.m b).sp] := by
  rw [Bool.eq_iff_iff, alike_pair h ha hb, sharedG_iff h.ear h.wf (by simp)]
  refine exists_congr fun g => ?_
  simp
theorem keeps_ev {t : Town} (h : t.OK) {a b : Nat} (ha : a < t.ms.length) (hb : b < t.ms.length) : Ev Tryz.prog 47 [.agg t.enc, I (a : Nat), I (b : Nat)] (I (whyF t a b)) := by
  obtain ⟨x, hx⟩ := ex_get ha
  obtain ⟨y, hy⟩ := ex_get hb
  have ox := h.men a x hx
  have oy := h.men b y hy
  have hlh := ox.lh
  have hlh2 := oy.lh
  have hss := h.ear.ss5
  have hW : whyF t a b = if sharedG t.ear [x.sp, y.sp] = false then 1 else if x.v ≠ y.v ∧ x.v ≠ -1 ∧ y.v ≠ -1 then 2 else if max x.lo y.lo > min x.hi y.hi then 3 else if x.par = b ∨ y.par = a then 4 else 0 := by
    unfold whyF
    rw [alike_shared h ha hb, Town.m_get hx, Town.m_get hy]
  have hsh := shared_ev h.ear [x.sp, y.sp] (by
    intro j hj
    simp only [List.mem_cons, List.not_mem_nil, or_false] at hj
    rcases hj with rfl | rfl
    · exact ⟨ox.sp0, ox.sp1⟩
    · exact ⟨oy.sp0, oy.sp1⟩)
  have hle := least_ev (markL (shP t.ear [x.sp, y.sp]))
  have hG : sharedG t.ear [x.sp, y.sp] = decide (0 ≤ idxF id (markL (shP t.ear [x.sp, y.sp])) 0) := rfl
  rw [hG] at hW
  generalize markL (shP t.ear [x.sp, y.sp]) = M at hsh hle hW
  refine Ev.intro fn47 ?_
  refine LWp.sx (gs := []) (hs := [.ice]) rfl ⟨⟨rfl, rfl⟩, trivial⟩ ?_
  refine LWp.sd (gs := []) (hs := [.cells x.enc, .cells y.enc, .lin, .lin]) hmix rfl (by kernel_rfl) ⟨⟨by omega, by simp [hx]⟩, ⟨by omega, by simp [hy]⟩, rfl, rfl, ⟨rfl, rfl, rfl, Nat.le_refl 5⟩, ⟨rfl, rfl, rfl, Nat.le_refl 5⟩, trivial⟩ ?_
  refine LWp.ent (Ent.trans (Ent.freezeLbox (t := 7) rfl) (Ent.freezeLbox (t := 8) rfl)) ?_
  refine LWp.ent (Ent.el (l := [(1, I (a : Nat)), (2, I (b : Nat)), (3, .pi t.enc), (7, .pi x.enc), (8, .pi y.enc)]) ⟨rfl, rfl, rfl, rfl, rfl, trivial⟩) ?_
  refine LWp.seqBlock ?_
  refine LWp.sx (gs := []) (hs := [.ice, .ret (bools M), .ret (I (idxF id M 0))]) rfl ⟨rfl, hsh, hle, trivial⟩ ?_
  by_cases c1 : idxF id M 0 < 0
  · rw [if_pos (by rw [decide_eq_false_iff_not]; omega)] at hW
    rw [hW]
    refine LWp.ite (b := true) (by show B _ = B _; exact congrArg B (decide_eq_true c1)) (fun _ => ?_) (fun h => by cases h)
    refine LWp.sx (gs := []) (hs := []) rfl trivial ?_
    refine LWp.ret (retT (.inr rfl) (.one (.tmp ?_ rfl)))
    rfl
  rw [if_neg (by rw [decide_eq_false_iff_not]; omega)] at hW
  refine LWp.ite (b := false) (by show B _ = B _; exact congrArg B (decide_eq_false c1)) (fun h => by cases h) (fun _ => ?_)
  refine LWp.cutX (fun _ : Unit => True) (fun _ => el [(1, I (a : Nat)), (2, I (b : Nat)), (7, .pi x.enc), (8, .pi y.enc), (30, B (decide (x.v ≠ y.v ∧ x.v ≠ -1 ∧ y.v ≠ -1)))]) (fun _ => []) (fun _ => []) ?_ ?_
  · by_cases g1 : x.v = -1
    · have z1 : (x.v != -1) = false := by rw [g1]; rfl
      refine LWp.x (gs := [(34, false), (39, false)]) (hs := []) rfl (by (repeat' (with_reducible apply And.intro)); (all_goals first | (with_reducible exact trivial) | (with_reducible rfl) | (with_reducible assumption) | ((with_reducible apply isB); first | exact rfl | exact beq_self_eq_true _) | omega | ((rfl)))) ?_
      exact ⟨(), trivial, Ent.el ⟨rfl, rfl, rfl, rfl, by show B false = B _; simp [g1], trivial⟩⟩
    · have z1 : (x.v != -1) = true := by rw [bne_iff_ne]; exact g1
      by_cases g2 : y.v = -1
      · have z2 : (y.v != -1) = false := by rw [g2]; rfl
        refine LWp.x (gs := [(34, true), (39, false)]) (hs := []) rfl (by (repeat' (with_reducible apply And.intro)); (all_goals first | (with_reducible exact trivial) | (with_reducible rfl) | (with_reducible assumption) | ((with_reducible apply isB); first | exact rfl | exact beq_self_eq_true _) | omega | ((rfl)))) ?_
        exact ⟨(), trivial, Ent.el ⟨rfl, rfl, rfl, rfl, by show B false = B _; simp [g2], trivial⟩⟩
      · have z2 : (y.v != -1) = true := by rw [bne_iff_ne]; exact g2
        refine LWp.x (gs := [(34, true), (39, true)]) (hs := []) rfl (by (repeat' (with_reducible apply And.intro)); (all_goals first | (with_reducible exact trivial) | (with_reducible rfl) | (with_reducible assumption) | ((with_reducible apply isB); first | exact rfl | exact beq_self_eq_true _) | omega | ((rfl)))) ?_
        refine ⟨(), trivial, Ent.el ⟨rfl, rfl, rfl, rfl, ?_, trivial⟩⟩
        show B (x.v != y.v) = B _
        refine congrArg B ?_
        rw [Bool.eq_iff_iff, bne_iff_ne, decide_eq_true_iff]
        exact ⟨fun h => ⟨h, g1, g2⟩, fun h => h.1⟩
  intro _ _
  refine LWp.ite rfl (fun hc => ?_) (fun hc => ?_)
  · rw [if_pos (of_decide_eq_true hc)] at hW
    rw [hW]
    refine LWp.sx (gs := []) (hs := []) rfl trivial ?_
    refine LWp.ret (retT (.inr rfl) (.one (.tmp ?_ rfl)))
    rfl
  rw [if_neg (of_decide_eq_false hc)] at hW
  refine LWp.cutX (fun _ : Unit => True) (fun _ => el [(1, I (a : Nat)), (2, I (b : Nat)), (7, .pi x.enc), (8, .pi y.enc), (46, B (decide (max x.lo y.lo > min x.hi y.hi)))]) (fun _ => []) (fun _ => []) ?_ ?_
  · by_cases g1 : x.lo > y.hi
    · have z1 : decide (x.lo > y.hi) = true := decide_eq_true g1
      refine LWp.x (gs := [(54, true)]) (hs := []) rfl (by (repeat' (with_reducible apply And.intro)); (all_goals first | (with_reducible exact trivial) | (with_reducible rfl) | (with_reducible assumption) | ((with_reducible apply isB); first | exact rfl | exact beq_self_eq_true _) | omega | ((rfl)))) ?_
      refine ⟨(), trivial, Ent.el ⟨rfl, rfl, rfl, rfl, ?_, trivial⟩⟩
      show B true = B _
      exact congrArg B (decide_eq_true (by omega)).symm
    · have z1 : decide (x.lo > y.hi) = false := decide_eq_false g1
      refine LWp.x (gs := [(54, false)]) (hs := []) rfl (by (repeat' (with_reducible apply And.intro)); (all_goals first | (with_reducible exact trivial) | (with_reducible rfl) | (with_reducible assumption) | ((with_reducible apply isB); first | exact rfl | exact beq_self_eq_true _) | omega | ((rfl)))) ?_
      refine ⟨(), trivial, Ent.el ⟨rfl, rfl, rfl, rfl, ?_, trivial⟩⟩
      show B (decide (y.lo > x.hi)) = B _
      refine congrArg B ?_
      rw [Bool.eq_iff_iff, decide_eq_true_iff, decide_eq_true_iff]
      omega
  intro _ _
  refine LWp.ite rfl (fun hc => ?_) (fun hc => ?_)
  · rw [if_pos (of_decide_eq_true hc)] at hW
    rw [hW]
    refine LWp.sx (gs := []) (hs := []) rfl trivial ?_
    refine LWp.ret (retT (.inr rfl) (.one (.tmp ?_ rfl)))
    rfl
  rw [if_neg (of_decide_eq_false hc)] at hW
  refine LWp.cutX (fun _ : Unit => True) (fun _ => el [(63, B (decide (x.par = b ∨ y.par = a)))]) (fun _ => []) (fun _ => []) ?_ ?_
  · by_cases g1 : x.par = b
    · have z1 : (x.par == (b : Int)) = true := by rw [beq_iff_eq]; exact g1
      refine LWp.x (gs := [(68, true)]) (hs := []) rfl (by (repeat' (with_reducible apply And.intro)); (all_goals first | (with_reducible exact trivial) | (with_reducible rfl) | (with_reducible assumption) | ((with_reducible apply isB); first | exact rfl | exact beq_self_eq_true _) | omega | ((rfl)))) ?_
      exact ⟨(), trivial, Ent.el ⟨by show B true = B _; simp [g1], trivial⟩⟩
    · have z1 : (x.par == (b : Int)) = false := by rw [beq_eq_false_iff_ne]; exact g1
      refine LWp.x (gs := [(68, false)]) (hs := []) rfl (by (repeat' (with_reducible apply And.intro)); (all_goals first | (with_reducible exact trivial) | (with_reducible rfl) | (with_reducible assumption) | ((with_reducible apply isB); first | exact rfl | exact beq_self_eq_true _) | omega | ((rfl)))) ?_
      refine ⟨(), trivial, Ent.el ⟨?_, trivial⟩⟩
      show B (y.par == (a : Int)) = B _
      refine congrArg B ?_
      rw [Bool.eq_iff_iff, beq_iff_eq, decide_eq_true_iff]
      exact ⟨fun h => .inr h, fun h => h.elim (fun h => absurd h g1) id⟩
  intro _ _
  refine LWp.ite rfl (fun hc => ?_) (fun hc => LWp.skip ?_)
  · rw [if_pos (of_decide_eq_true hc)] at hW
    rw [hW]
    refine LWp.sx (gs := []) (hs := []) rfl trivial ?_
    refine LWp.ret (retT (.inr rfl) (.one (.tmp ?_ rfl)))
    rfl
  · rw [if_neg (of_decide_eq_false hc)] at hW
    rw [hW]
    refine LWp.sx (gs := []) (hs := []) rfl trivial ?_
    refine LWp.ret (retT (.inr rfl) (.one (.tmp ?_ rfl)))
    rfl
theorem rwhy_ev (t : Town) (hw : t.wf) (a b : Int) : Ev Tryz.prog 28 [.agg t.enc, I a, I b] (.tup [I (whyT t a b).1, I (whyT t a b).2]) := by
  have htw := rtwo_ev t hw a b
  refine Ev.intro fn28 ?_
  refine LWp.sx (gs := []) (hs := [.ice]) rfl ⟨⟨rfl, rfl⟩, trivial⟩ ?_
  refine LWp.sx (gs := []) (hs := [.ret (I (entE t (twoE t a b)))]) rfl ⟨htw, trivial⟩ ?_
  refine LWp.seq (LWp.seq ?_)
  refine LWp.x (gs := []) (hs := []) rfl trivial ?_
  by_cases hE : entE t (twoE t a b) = 0
  case neg =>
    have hR : whyT t a b = (0, entE t (twoE t a b)) := by unfold whyT; rw [if_neg hE]
    rw [hR]
    refine LWp.ite (b := true) (by show B _ = B _; exact congrArg B (by rw [bne_iff_ne]; exact hE)) (fun _ => ?_) (fun h => by cases h)
    refine LWp.sx (gs := []) (hs := []) rfl trivial ?_
    refine LWp.ret (retT (.inr rfl) (.many (by decide) ⟨.tmp ?_ rfl, .tmp ?_ rfl, trivial⟩))
    · rfl
    · rfl
  have hR : whyT t a b = (whyF t a.toNat b.toNat, 0) := by unfold whyT; rw [if_pos hE]
  obtain ⟨ht0, h20⟩ := entE_zero.1 hE
  obtain ⟨⟨a0, a1⟩, ⟨b0, b1⟩, _⟩ := twoE_zero.1 h20
  have hOK := ((townE_zero hw).1 ht0).1
  obtain ⟨u, rfl⟩ : ∃ u : Nat, a = u := ⟨a.toNat, by omega⟩
  obtain ⟨v, rfl⟩ : ∃ v : Nat, b = v := ⟨b.toNat, by omega⟩
  have hke := keeps_ev hOK (a := u) (b := v) (by omega) (by omega)
  rw [hR]
  simp only [Int.toNat_natCast]
  refine LWp.ite (b := false) (by show B _ = B _; exact congrArg B (by rw [bne_eq_false_iff_eq]; exact hE)) (fun h => by cases h) (fun _ => LWp.skip ?_)
  refine LWp.sx (gs := []) (hs := [.ret (I (whyF t u v))]) rfl ⟨hke, trivial⟩ ?_
  refine LWp.ret (retT (.inr rfl) (.many (by decide) ⟨.tmp ?_ rfl, .tmp ?_ rfl, trivial⟩))
  · rfl
  · rfl
theorem with_ev (t : Town) (x : Men) (hl : t.ms.length ≤ 1000) : Ev Tryz.prog 39 [.agg t.enc, .agg x.enc] (.agg (withT t x).enc) := by
  have hwenc : (withT t x).enc = t.ear.enc ++ [I t.vil, .sl 5 (t.ms.map Men.enc ++ [x.enc]), tiesV t.ties] := by
    simp only [withT, Town.enc, mensV, List.map_append, List.map_cons, List.map_nil]
  have hml : (t.ms.map Men.enc).length = t.ms.length := List.length_map _
  refine Ev.intro fn39 ?_
  refine LWp.sx (gs := []) (hs := [.lin, .ice, .lin]) rfl ⟨⟨rfl, rfl⟩, ⟨rfl, rfl⟩, rfl, trivial⟩ ?_
  refine LWp.shareB (t := 2) rfl fun b2 => ?_
  refine LWp.ent (Ent.ofH (H' := [(b2, .cells 29 t.enc)]) rfl) ?_
  refine LWp.seq (LWp.d (gs := []) (hs := [.lin, .at 0, .ice]) hmix rfl (by kernel_rfl) ⟨rfl, rfl, ⟨by simp only [hml, chunk, List.length_nil]; omega, by simp only [hml, chunk, List.length_nil]; omega⟩, rfl, ⟨by simp only [List.length_append, hml, chunk, List.length_cons, List.length_nil]; omega, by simp only [List.length_append, hml, chunk, List.length_cons, List.length_nil]; omega⟩, trivial⟩ ?_)
  refine WOps.ent (Ent.freezeLin (t := 11) rfl) ?_
  refine WOps.hd (gs := []) (hs := [.stO 0]) rfl ⟨⟨rfl, rfl, rfl, rfl, (show 5 ≤ 6 by omega)⟩, trivial⟩ ?_
  refine LWp.ent (Ent.ofH (H' := [(b2, .cells 29 (withT t x).enc)]) (by rw [hwenc]; rfl)) ?_
  refine LWp.shx (gs := []) (hs := [.at 0]) rfl ⟨rfl, ⟨rfl, rfl, rfl, Nat.le_refl 6⟩, trivial⟩ ?_
  refine LWp.ent (Ent.freezeLbox (t := 4) rfl) (LWp.ret ⟨.inr rfl, _, rfl, .one (.cellI (n := some 6) (cs := (withT t x).enc) (upd_same _ _ _) (by kernel_rfl) rfl)⟩)
end Go.Px

namespace Go.Px
open Go.Proofs Go.MapKept
theorem whoI_bit (p : List Nat) (n s b : Nat) : ∀ k, (whoI p n s k).testBit b = true ↔ s.testBit b = true ∨ (b < k ∧ per p b = per p n)
  | 0 => by
    show s.testBit b = true ↔ _
    constructor
    · exact .inl
    · rintro (h | h)
      · exact h
      · omega
  | k + 1 => by
    rw [whoI_succ]
    have ih := whoI_bit p n s b k
    by_cases e : per p k = per p n
    · rw [if_pos e, Nat.testBit_or, Bool.or_eq_true, ih, Nat.testBit_two_pow, decide_eq_true_iff]
      constructor
      · rintro ((h | h) | h)
        · exact .inl h
        · exact .inr ⟨by omega, h.2⟩
        · exact .inr ⟨by omega, by rw [← h]; exact e⟩
      · rintro (h | ⟨h1, h2⟩)
        · exact .inl (.inl h)
        · by_cases hb : b = k
          · exact .inr hb.symm
          · exact .inl (.inr ⟨by omega, h2⟩)
    · rw [if_neg e, ih]
      constructor
      · rintro (h | h)
        · exact .inl h
        · exact .inr ⟨by omega, h.2⟩
      · rintro (h | ⟨h1, h2⟩)
        · exact .inl h
        · by_cases hb : b = k
          · rw [hb] at h2; exact absurd h2 e
          · exact .inr ⟨by omega, h2⟩
theorem whoSet_bit (n b : Nat) (L : List (List Nat)) : (whoSet n L).testBit b = true ↔ ∃ p ∈ L, b < n ∧ per p b = per p n := by
  have key : ∀ (L : List (List Nat)) (s : Nat), (L.foldl (fun s p => whoI p n s n) s).testBit b = true ↔ s.testBit b = true ∨ ∃ p ∈ L, b < n ∧ per p b = per p n := by
    intro L
    induction L with
    | nil => intro s; simp
    | cons p L ih =>
      intro s
      rw [List.foldl_cons, ih, whoI_bit]
      simp only [List.mem_cons, exists_eq_or_imp, or_assoc]
  unfold whoSet
  rw [key]
  simp
def whoL (n : Nat) (L : List (List Nat)) : List Nat := (List.range n).filter fun m => L.any fun p => per p m == per p n
theorem whoSet_L (n : Nat) (L : List (List Nat)) : numsF (whoSet n L : Nat) n = natI (whoL n L) := by
  refine numsF_eq (p := fun m => L.any fun p => per p m == per p n) fun k hk => ?_
  rw [Bool.eq_iff_iff, whoSet_bit, List.any_eq_true]
  refine exists_congr fun p => and_congr_right fun _ => ?_
  rw [beq_iff_eq]
  exact ⟨fun h => h.2, fun h => ⟨hk, h⟩⟩
theorem whoL_succ (n k : Nat) (L : List (List Nat)) : (List.range (k + 1)).filter (fun m => L.any fun p => per p m == per p n) = (List.range k).filter (fun m => L.any fun p => per p m == per p n) ++ (if (L.any fun p => per p k == per p n) = true then [k] else []) := by
  rw [List.range_succ, List.filter_append]
  congr 1
  simp only [List.filter_cons, List.filter_nil]
theorem rwho_ev (t : Town) (hw : t.wf) (x : Men) : Ev Tryz.prog 30 [.agg t.enc, .agg x.enc] (.tup [ints (whoT t x).1, I (whoT t x).2]) := by
  have hchk := rpcheck_ev t hw
  have hml : ((t.ms.map Men.enc).length : Int) = t.ms.length := by simp
  have hso := rsome_ev t (entE t (menE t x t.ms.length)) (fun h => ((townE_zero hw).1 (entE_zero.1 h).1).1)
  refine Ev.intro fn30 ?_
  refine LWp.sx (gs := []) (hs := [.ice, .ice]) rfl ⟨⟨rfl, rfl⟩, ⟨rfl, rfl⟩, trivial⟩ ?_
  refine LWp.sx (gs := []) (hs := [.ret (.tup [I (checkT t).1, I (checkT t).2.1, I (checkT t).2.2])]) rfl ⟨hchk, trivial⟩ ?_
  refine LWp.cutX (fun _ : Unit => True) (fun _ => el [(2, .pi t.enc), (3, .pi x.enc), (8, I (entE t (menE t x t.ms.length)))]) (fun _ => []) (fun _ => []) ?_ ?_
  · refine LWp.sx (gs := []) (hs := []) rfl trivial ?_
    by_cases h0 : townE t = 0
    · have hO := (townE_zero hw).1 h0
      have hss := hO.1.ear.ss5
      have hv0 := hO.1.vil0
      have hv1 := hO.1.vil1
      have hE : ∀ e, entE t e = e := fun e => by unfold entE; rw [if_neg (by simp [h0])]
      have hme := rmention_ev t x (((t.ms.map Men.enc).length : Nat) : Int) (by omega) (by omega) (by omega) (by omega)
      refine LWp.ite (b := true) (by show B _ = B _; exact congrArg B (by rw [beq_iff_eq]; exact h0)) (fun _ => ?_) (fun h => by cases h)
      refine LWp.x (gs := []) (hs := [.ret (I (menE t x (((t.ms.map Men.enc).length : Nat) : Int)))]) rfl ⟨hme, trivial⟩ ?_
      refine ⟨(), trivial, Ent.el ⟨rfl, rfl, ?_, trivial⟩⟩
      rw [hE, ← hml]; rfl
    · have hE : ∀ e, entE t e = townE t := fun e => by unfold entE; rw [if_pos h0]
      refine LWp.ite (b := false) (by show B _ = B _; exact congrArg B (by rw [beq_eq_false_iff_ne]; exact h0)) (fun h => by cases h) (fun _ => LWp.skip ?_)
      refine ⟨(), trivial, Ent.el ⟨rfl, rfl, ?_, trivial⟩⟩
      rw [hE]; rfl
  intro _ _
  refine LWp.sx (gs := []) (hs := [.ret (.tup [lists (someL t (entE t (menE t x t.ms.length))), I (someE t (entE t (menE t x t.ms.length)))])]) rfl ⟨hso, trivial⟩ ?_
  refine LWp.seq (LWp.seq ?_)
  refine LWp.x (gs := []) (hs := []) rfl trivial ?_
  by_cases hE : someE t (entE t (menE t x t.ms.length)) = 0
  case neg =>
    have hR : whoT t x = ([], someE t (entE t (menE t x t.ms.length))) := by unfold whoT; rw [if_neg hE]
    rw [hR]
    refine LWp.ite (b := true) (by show B _ = B _; exact congrArg B (by rw [bne_iff_ne]; exact hE)) (fun _ => ?_) (fun h => by cases h)
    refine LWp.sx (gs := []) (hs := []) rfl trivial ?_
    refine LWp.ent (Ent.nilSl (t := 4) 1 rfl) ?_
    refine LWp.ret (retT (.inr rfl) (.many (by decide) ⟨.tmp ?_ rfl, .tmp ?_ rfl, trivial⟩))
    · rfl
    · rfl
  obtain ⟨hE1, _⟩ := someE_zero.1 hE
  obtain ⟨ht0, h20⟩ := entE_zero.1 hE1
  obtain ⟨hOK, h5⟩ := (townE_zero hw).1 ht0
  have hOW := withT_OK hOK h5 h20
  have hwl : (withT t x).ms.length = t.ms.length + 1 := by simp [withT]
  have hR : whoT t x = (natI (whoL t.ms.length (truthsL (withT t x) noBut)), 0) := by unfold whoT; rw [if_pos hE, whoSet_L]
  have hwi := with_ev t x (by omega)
  have htr := rtruths_ev hOW []
  rw [butL_nil] at htr
  have hlen : (truthsL (withT t x) noBut).length ≤ 1000 := Nat.le_trans (List.length_filter_le _ _) (groups_len hOW.ms6)
  have hgrp : ∀ p ∈ truthsL (withT t x) noBut, p.length = t.ms.length + 1 := fun p hp => by rw [← hwl]; exact (groups_grp (List.mem_filter.1 hp).1).len
  rw [hR]
  have hD : ∀ L, whoL t.ms.length L = (List.range t.ms.length).filter (fun m => L.any fun p => per p m == per p t.ms.length) := fun L => rfl
  rw [hD]
  refine LWp.ite (b := false) (by show B _ = B _; exact congrArg B (by rw [bne_eq_false_iff_eq]; exact hE)) (fun h => by cases h) (fun _ => LWp.skip ?_)
  refine LWp.sx (gs := []) (hs := [.ret (.agg (withT t x).enc), .retS [.agg (withT t x).enc, ints []] (lists (truthsL (withT t x) noBut))]) rfl ⟨hwi, ⟨htr, .cons (.nilSl (.refl _))⟩, trivial⟩ ?_
  generalize truthsL (withT t x) noBut = G at hlen hgrp
  refine LWp.sx (gs := []) (hs := []) rfl trivial ?_
  refine LWp.ent (Ent.nilLin (t := 10) 3 1 rfl) ?_
  have hGl : ((G.map fun c => [ints (natI c)]).length : Int) = G.length := by simp
  refine LWp.ent (Ent.el (l := [(2, .pi t.enc), (9, lists G), (10, .lin 3 1 [])]) ⟨rfl, rfl, rfl, trivial⟩) ?_
  refine LWp.seq (LWp.seq ?_)
  refine LWp.x (gs := []) (hs := []) rfl trivial ?_
  refine LWp.blockT (fun _ : Unit => True) (fun _ => el [(10, .lin 3 1 ((natI ((List.range t.ms.length).filter (fun m => G.any fun p => per p m == per p t.ms.length))).map fun x => [I x]))]) (fun _ => []) (fun _ => []) ?_ ?_
  · refine LWp.loopN (fun k : Nat => k ≤ t.ms.length) (fun k => el [(2, .pi t.enc), (9, lists G), (10, .lin 3 1 ((natI ((List.range k).filter (fun m => G.any fun p => per p m == per p t.ms.length))).map fun x => [I x])), (11, I k)]) (fun _ => []) (fun _ => []) (fun k => t.ms.length - k) 0 (by omega) (Ent.el ⟨rfl, rfl, rfl, rfl, trivial⟩) ?_
    intro k hk
    refine LWp.seq (LWp.seq ?_)
    refine LWp.x (gs := []) (hs := []) rfl trivial ?_
    refine LWp.ite rfl (fun hc => ?_) (fun hc => ?_)
    · simp only [decide_eq_true_eq] at hc
      have hkl : k < t.ms.length := by omega
      have hsucc := whoL_succ t.ms.length k G
      have hfl : ((List.range k).filter (fun m => G.any fun p => per p m == per p t.ms.length)).length ≤ k := by
        have := List.length_filter_le (fun m => G.any fun p => per p m == per p t.ms.length) (List.range k)
        rwa [List.length_range] at this
      generalize (List.range k).filter (fun m => G.any fun p => per p m == per p t.ms.length) = out at hsucc hfl
      refine LWp.skip (LWp.seq (LWp.block ?_))
      refine LWp.sx (gs := []) (hs := []) rfl trivial ?_
      refine LWp.seq (LWp.seq ?_)
      refine LWp.x (gs := []) (hs := []) rfl trivial ?_
      refine LWp.blockT (fun _ : Unit => True) (fun _ => el [(2, .pi t.enc), (9, lists G), (10, .lin 3 1 ((natI out).map fun x => [I x])), (11, I k), (12, B (G.any fun p => per p k == per p t.ms.length))]) (fun _ => []) (fun _ => []) ?_ ?_
      · refine LWp.loopN (fun j : Nat => j ≤ G.length) (fun j => el [(2, .pi t.enc), (9, lists G), (10, .lin 3 1 ((natI out).map fun x => [I x])), (11, I k), (12, B ((G.take j).any fun p => per p k == per p t.ms.length)), (13, I j)]) (fun _ => []) (fun _ => []) (fun j => G.length - j) 0 (by omega) (Ent.el ⟨rfl, rfl, rfl, rfl, rfl, rfl, trivial⟩) ?_
        intro j hj
        refine LWp.seq (LWp.seq ?_)
        refine LWp.x (gs := []) (hs := []) rfl trivial ?_
        refine LWp.ite rfl (fun hd => ?_) (fun hd => ?_)
        · simp only [decide_eq_true_eq] at hd
          have hjl : j < G.length := by omega
          obtain ⟨p, hp⟩ := ex_get hjl
          have hpl := hgrp p (List.mem_of_getElem? hp)
          have htk : (G.take (j + 1)).any (fun p => per p k == per p t.ms.length) = ((G.take j).any (fun p => per p k == per p t.ms.length) || (per p k == per p t.ms.length)) := by
            rw [List.take_add_one, hp, List.any_append]; simp
          generalize (G.take j).any (fun p => per p k == per p t.ms.length) = met at htk
          have hg1 := ints_get p (k := k) (by omega)
          have hg2 := ints_get p (k := t.ms.length) (by omega)
          have hp' : (G.map fun c => [ints (natI c)])[((j : Nat) : Int).toNat]? = some [ints (natI p)] := by simp [hp]
          have hg2' : ((natI p).map fun x => [I x])[(((t.ms.map Men.enc).length : Nat) : Int).toNat]? = some [I ((per p t.ms.length : Nat) : Int)] := by rw [hml]; exact hg2
          refine LWp.skip (LWp.seq (LWp.block ?_))
          cases met with
          | true =>
            refine LWp.dd (gs := [(55, true)]) (hs := []) hmix rfl (by kernel_rfl) (by (repeat' (with_reducible apply And.intro)); (all_goals first | (with_reducible exact trivial) | (with_reducible rfl) | (with_reducible assumption) | ((with_reducible apply isB); first | exact rfl | exact beq_self_eq_true _) | omega | ((rfl)))) ?_
            refine LWp.x (gs := []) (hs := []) rfl ⟨by omega, trivial⟩ ?_
            exact ⟨j + 1, by omega, by omega, Ent.el ⟨rfl, rfl, rfl, rfl, by rw [htk]; rfl, rfl, trivial⟩⟩
          | false =>
            refine LWp.dd (gs := [(55, false)]) (hs := [.cells [ints (natI p)], .cells [I (per p k : Nat)], .cells [ints (natI p)], .cells [I (per p t.ms.length : Nat)]]) hmix rfl (by kernel_rfl) (by (repeat' (with_reducible apply And.intro)); (all_goals first | (with_reducible exact trivial) | (with_reducible rfl) | (with_reducible assumption) | ((with_reducible apply isB); first | exact rfl | exact beq_self_eq_true _) | omega | ((first | exact hp' | exact hg1 | exact hg2')))) ?_
            refine LWp.x (gs := []) (hs := []) rfl ⟨by omega, trivial⟩ ?_
            refine ⟨j + 1, by omega, by omega, Ent.el ⟨rfl, rfl, rfl, rfl, ?_, rfl, trivial⟩⟩
            show B (((per p k : Nat) : Int) == ((per p t.ms.length : Nat) : Int)) = B _
            refine congrArg B ?_
            rw [htk, Bool.false_or, Bool.eq_iff_iff, beq_iff_eq, beq_iff_eq]
            omega
        · simp only [decide_eq_false_iff_not] at hd
          refine LWp.exit ⟨(), trivial, Ent.el ⟨rfl, rfl, rfl, rfl, ?_, trivial⟩⟩
          rw [List.take_of_length_le (by omega)]; rfl
      · intro _ _
        refine LWp.sx (gs := []) (hs := []) rfl trivial ?_
        refine LWp.ite (b := G.any fun p => per p k == per p t.ms.length) rfl (fun hb => ?_) (fun hb => LWp.skip ?_)
        · rw [if_pos hb] at hsucc
          refine LWp.x (gs := []) (hs := [.ice]) rfl ⟨rfl, ⟨by simp only [List.length_map, natI, chunk, List.length_cons, List.length_nil]; omega, by simp only [List.length_map, natI, chunk, List.length_cons, List.length_nil]; omega⟩, trivial⟩ ?_
          refine LWp.x (gs := []) (hs := []) rfl ⟨by omega, trivial⟩ ?_
          refine ⟨k + 1, by omega, by omega, Ent.el ⟨rfl, rfl, ?_, rfl, trivial⟩⟩
          show AV.lin 3 1 _ = AV.lin 3 1 _
          rw [hsucc, natI_append, List.map_append]; rfl
        · rw [if_neg (by rw [hb]; decide), List.append_nil] at hsucc
          refine LWp.x (gs := []) (hs := []) rfl ⟨by omega, trivial⟩ ?_
          exact ⟨k + 1, by omega, by omega, Ent.el ⟨rfl, rfl, by rw [hsucc]; rfl, rfl, trivial⟩⟩
    · simp only [decide_eq_false_iff_not] at hc
      have e : k = t.ms.length := by omega
      subst e
      exact LWp.exit ⟨(), trivial, Ent.el ⟨rfl, trivial⟩⟩
  · intro _ _
    refine LWp.ent (Ent.freezeLin (t := 10) rfl) ?_
    refine LWp.sx (gs := []) (hs := []) rfl trivial ?_
    refine LWp.ret (retT (.inr rfl) (.many (by decide) ⟨.tmp ?_ rfl, .tmp ?_ rfl, trivial⟩))
    · rfl
    · rfl
end Go.Px

namespace Go.Px
open Go.Proofs
open Go.ChangeShapes Go.WideShapes Go.ChangeAt Go.RowKit
theorem fits_men1 (a : AV) (h : FitA menSh a) : ∃ x : Men, x.wf ∧ a = .agg x.enc := by
  simp only [menSh, FitA] at h
  obtain ⟨l, rfl, h1⟩ := h
  obtain ⟨x, hx, e⟩ := fits_men l (by simp only [menSh, Fits.eq_6]; exact h1)
  exact ⟨x, hx, by rw [e]⟩
theorem fits_two (a : AV) (h : FitA (.arr 2 (.int .i64)) a) : ∃ i j : Int, a = .agg [I i, I j] := by
  simp only [FitA, FitN, Fits] at h
  obtain ⟨_, rfl, _, _, rfl, ⟨i, rfl, hi⟩, _, _, rfl, ⟨j, rfl, hj⟩, rfl⟩ := h
  exact ⟨i, j, rfl⟩
end Go.Px

namespace Go.Px
open Go.Proofs Go.MapKept
theorem intsEq_refl3 (a : List Int) : intsEq a a = true := intsEq_iff.2 rfl
theorem ints_refl3 (a : List Int) : Ev Tryz.prog 19 [ints a, ints a] (B true) := by
  have := ints_ev a a
  rw [intsEq_refl3] at this; exact this
theorem personWhys_ev (t : Town) (hw : t.wf) (i j : Int) (x : Men) : Ev Tryz.prog 5 [.agg t.enc, .agg [I i, I j], .agg x.enc] (B true) := by
  have e1 := pwhy_ev t hw i j
  have f1 := rwhy_ev t hw i j
  generalize (whyT t i j).1 = p at e1 f1
  generalize (whyT t i j).2 = q at e1 f1
  have e2 := pwho_ev t hw x
  have f2 := rwho_ev t hw x
  generalize (whoT t x).1 = p2 at e2 f2
  generalize (whoT t x).2 = q2 at e2 f2
  have hi := ints_refl3 p2
  refine Ev.intro fn5 ?_
  refine LWp.sx (gs := []) (hs := [.ice, .ice, .ice]) rfl ⟨⟨rfl, rfl⟩, ⟨rfl, rfl⟩, ⟨rfl, rfl⟩, trivial⟩ ?_
  refine LWp.sx (gs := []) (hs := [.ret (.tup [I p, I q])]) rfl ⟨⟨by omega, by decide⟩, ⟨by omega, by decide⟩, e1, trivial⟩ ?_
  refine LWp.sx (gs := []) (hs := [.ret (.tup [I p, I q])]) rfl ⟨⟨by omega, by decide⟩, ⟨by omega, by decide⟩, f1, trivial⟩ ?_
  refine LWp.seq (LWp.seq ?_)
  refine LWp.x (gs := [(34, false)]) (hs := []) rfl (by simp) ?_
  refine LWp.ite rfl (fun h => ?_) (fun _ => LWp.skip ?_)
  · simp at h
  refine LWp.sx (gs := []) (hs := [.ret (.tup [ints p2, I q2])]) rfl ⟨e2, trivial⟩ ?_
  refine LWp.sx (gs := []) (hs := [.ret (.tup [ints p2, I q2])]) rfl ⟨f2, trivial⟩ ?_
  refine LWp.sx (gs := [(54, true), (59, true)]) (hs := [.ret (B true), .ret (B true)]) rfl (by (repeat' (with_reducible apply And.intro)); (all_goals try first | (with_reducible exact trivial) | (with_reducible rfl) | (with_reducible assumption) | ((with_reducible apply isB); first | exact rfl | exact beq_self_eq_true _)); exact hi; exact awake3_ev) ?_
  refine LWp.ret (retT (.inr rfl) (.one (.tmp ?_ rfl)))
  rfl
end Go.Px

namespace Go.Px
open Go.Proofs Go.MapKept
structure Yrs (t : Town) (p : List Nat) (F : Nat → Sp) : Prop where
  ne : ∀ w, w < cnt p → (F w).1 ≤ (F w).2
  sub : ∀ i, i < t.ms.length → (t.m i).lo ≤ (F (per p i)).1 ∧ (F (per p i)).2 ≤ (t.m i).hi
  fix : ∀ i, i < t.ms.length → (t.m i).par ≠ -1 → (F (per p i)).1 - 60 ≤ (F (per p (t.m i).par.toNat)).1 ∧ (F (per p (t.m i).par.toNat)).2 ≤ (F (per p i)).2 - 15 ∧ (F (per p (t.m i).par.toNat)).1 + 15 ≤ (F (per p i)).1 ∧ (F (per p i)).2 ≤ (F (per p (t.m i).par.toNat)).2 + 60
structure Fine (t : Town) (but : Nat → Bool) (p : List Nat) : Prop where
  kin : ∀ i, i < t.ms.length → (t.m i).par ≠ -1 → per p (t.m i).par.toNat ≠ per p i ∧ ∀ k, k < t.ms.length → (t.m k).par ≠ -1 → per p k = per p i → per p (t.m i).par.toNat = per p (t.m k).par.toNat
  snd : ∀ w, w < cnt p → Sounds t p w
  vil : ∀ i, i < t.ms.length → ∀ j, j < t.ms.length → per p i = per p j → Vil (t.m i).v (t.m j).v
  tie : ∀ i x, t.ties[i]? = some x → but i = false → tieB p x = true
  yrs : ∃ F, Yrs t p F
end Go.Px

