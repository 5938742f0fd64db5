/- Part 4 of the proof of the statement PersonFirsts (contracts of the functions that it alone wants). No conditions. -/
import Derived.Test.YtcioapljmakidaaGreatBFirsts3
namespace Go.Px
open Go.Proofs Go.MapKept
theorem rcan_ev {t : Town} (h : t.OK) {p : List Nat} (hg : Grp t.ms.length p) (bl : List Int) : Ev Tryz.prog 86 [.agg t.enc, ints (natI p), ints bl] (B (canR t (butL bl) p)) := by
  have hm6 := h.ms6
  have hle := hg.le
  have hsm := small_of hm6 hg
  have hpl := hg.len
  have htl : ((t.ties.map Tie.enc).length : Int) = t.ties.length := by simp
  have ht4 := h.ties4
  have hcount := rcount3_ev hsm
  have hC : canR t (butL bl) p = ((List.range (cnt p)).all (fun who => namedR t (ofL p who)) && tiedF t (butL bl) p && (kinB t p && !emptyS (yearsW t p (cnt p)))) := rfl
  refine Ev.intro fn86 ?_
  refine LWp.sx (gs := []) (hs := [.ice]) rfl ⟨⟨rfl, rfl⟩, trivial⟩ ?_
  refine LWp.seq (LWp.seq ?_)
  refine LWp.x (gs := []) (hs := []) rfl trivial ?_
  refine LWp.blockT (fun _ : Unit => (List.range (cnt p)).all (fun who => namedR t (ofL p who)) = true) (fun _ => el [(1, ints (natI p)), (2, ints bl), (3, .pi t.enc)]) (fun _ => []) (fun _ => []) ?_ ?_
  · refine LWp.loopN (fun k : Nat => k ≤ cnt p ∧ ∀ who, who < k → namedR t (ofL p who) = true) (fun k => el [(1, ints (natI p)), (2, ints bl), (3, .pi t.enc), (7, I k)]) (fun _ => []) (fun _ => []) (fun k => cnt p - k) 0 ⟨by omega, by intro w hw; omega⟩ (Ent.el ⟨rfl, rfl, rfl, rfl, trivial⟩) ?_
    rintro k ⟨hk, hp⟩
    refine LWp.seq (LWp.seq ?_)
    refine LWp.x (gs := []) (hs := [.ret (I (cnt p : Nat))]) rfl ⟨hcount, trivial⟩ ?_
    refine LWp.ite rfl (fun hc => ?_) (fun hc => ?_)
    · simp only [decide_eq_true_eq, Int.ofNat_lt] at hc
      have hof := rof_ev (p := p) (by omega) k
      have hna := rnamed_ev h (l := ofL p k) (by
        have : ofL p k = ofK p k t.ms.length := by unfold ofL ofK; rw [hpl]
        rw [this]
        have := ofK_len p k t.ms.length
        omega) (fun i hi => by rw [← hpl]; exact (ofL_mem.1 hi).1)
      refine LWp.skip (LWp.seq (LWp.block ?_))
      refine LWp.sd (gs := []) (hs := [.ret (ints (natI (ofL p k))), .ret (B (namedR t (ofL p k)))]) hmix rfl (by kernel_rfl) ⟨hof, hna, trivial⟩ ?_
      cases hb : namedR t (ofL p k) with
      | false =>
        refine LWp.ite (b := true) rfl (fun _ => ?_) (fun h => by cases h)
        have hF : canR t (butL bl) p = false := by
          rw [hC]
          have : (List.range (cnt p)).all (fun who => namedR t (ofL p who)) = false := by
            rw [List.all_eq_false]
            exact ⟨k, List.mem_range.2 hc, by rw [hb]; decide⟩
          rw [this]; rfl
        rw [hF]
        refine LWp.sx (gs := []) (hs := []) rfl trivial ?_
        refine LWp.ret (retT (.inr rfl) (.one (.tmp ?_ rfl)))
        rfl
      | true =>
        refine LWp.ite (b := false) rfl (fun h => by cases h) (fun _ => LWp.skip ?_)
        refine LWp.x (gs := []) (hs := []) rfl ⟨by omega, trivial⟩ ?_
        refine ⟨k + 1, ⟨hc, fun w hw => ?_⟩, by omega, Ent.el ⟨rfl, rfl, rfl, rfl, trivial⟩⟩
        by_cases e : w = k
        · rw [e]; exact hb
        · exact hp w (by omega)
    · simp only [decide_eq_false_iff_not, Int.ofNat_lt] at hc
      refine LWp.exit ⟨(), ?_, Ent.el ⟨rfl, rfl, rfl, trivial⟩⟩
      rw [List.all_eq_true]
      intro w hw
      exact hp w (by have := List.mem_range.1 hw; omega)
  intro _ hN
  rw [hN, Bool.true_and] at hC
  refine LWp.seq (LWp.seq ?_)
  refine LWp.x (gs := []) (hs := []) rfl trivial ?_
  refine LWp.blockT (fun _ : Unit => tiedF t (butL bl) p = true) (fun _ => el [(1, ints (natI p)), (3, .pi t.enc)]) (fun _ => []) (fun _ => []) ?_ ?_
  · refine LWp.loopN (fun k : Nat => k ≤ t.ties.length ∧ ∀ j, j < k → tieAtB t (butL bl) p j = true) (fun k => el [(1, ints (natI p)), (2, ints bl), (3, .pi t.enc), (8, I k)]) (fun _ => []) (fun _ => []) (fun k => t.ties.length - k) 0 ⟨by omega, by intro w hw; omega⟩ (Ent.el ⟨rfl, rfl, rfl, rfl, trivial⟩) ?_
    rintro k ⟨hk, hp⟩
    refine LWp.seq (LWp.seq ?_)
    refine LWp.x (gs := []) (hs := []) rfl trivial ?_
    refine LWp.ite rfl (fun hc => ?_) (fun hc => ?_)
    · simp only [decide_eq_true_eq] at hc
      have hkl : k < t.ties.length := by omega
      obtain ⟨x, hx⟩ := ex_get hkl
      obtain ⟨a0, a1, b0, b1, _⟩ := h.tie x (List.mem_of_getElem? hx)
      have hti := rtied_ev (p := p) x a0 (by omega) b0 (by omega)
      have hhas := has_ev bl (k : Int)
      have hat := tieAt_some (but := butL bl) (p := p) hx
      have hbk : butL bl k = bl.any (· == (k : Int)) := rfl
      rw [← hbk] at hhas
      refine LWp.skip (LWp.seq (LWp.block ?_))
      refine LWp.cutX (fun _ : Unit => True) (fun _ => el [(1, ints (natI p)), (2, ints bl), (3, .pi t.enc), (8, I k), (41, B (!tieAtB t (butL bl) p k))]) (fun _ => []) (fun _ => []) ?_ ?_
      · rw [hat]
        cases hb : butL bl k with
        | true =>
          rw [hb] at hhas
          refine LWp.x (gs := [(32, false)]) (hs := [.ret (B true)]) rfl (by (repeat' (with_reducible apply And.intro)); (all_goals first | (with_reducible exact trivial) | (with_reducible rfl) | (with_reducible assumption) | ((with_reducible apply isB); first | exact rfl | exact beq_self_eq_true _) | omega | ((first | exact hhas | rfl)))) ?_
          exact ⟨(), trivial, Ent.el ⟨rfl, rfl, rfl, rfl, rfl, trivial⟩⟩
        | false =>
          rw [hb] at hhas
          have hx' : (t.ties.map Tie.enc)[((k : Nat) : Int).toNat]? = some x.enc := by simp [hx]
          refine LWp.x (gs := [(32, true)]) (hs := [.ret (B false), .cells x.enc, .ret (B (tieB p x))]) rfl ⟨hhas, rfl, rfl, rfl, ⟨rfl, by omega, hx'⟩, rfl, rfl, ⟨rfl, hti⟩, rfl, rfl, trivial⟩ ?_
          exact ⟨(), trivial, Ent.el ⟨rfl, rfl, rfl, rfl, rfl, trivial⟩⟩
      intro _ _
      cases hb : tieAtB t (butL bl) p k with
      | false =>
        refine LWp.ite (b := true) rfl (fun _ => ?_) (fun h => by cases h)
        have hF : canR t (butL bl) p = false := by
          rw [hC]
          have : tiedF t (butL bl) p = false := by
            rw [tiedF_all, List.all_eq_false]
            exact ⟨k, List.mem_range.2 hkl, by rw [hb]; decide⟩
          rw [this]; rfl
        rw [hF]
        refine LWp.sx (gs := []) (hs := []) rfl trivial ?_
        refine LWp.ret (retT (.inr rfl) (.one (.tmp ?_ rfl)))
        rfl
      | true =>
        refine LWp.ite (b := false) rfl (fun h => by cases h) (fun _ => LWp.skip ?_)
        refine LWp.x (gs := []) (hs := []) rfl ⟨by omega, trivial⟩ ?_
        refine ⟨k + 1, ⟨hkl, fun w hw => ?_⟩, by omega, Ent.el ⟨rfl, rfl, rfl, rfl, trivial⟩⟩
        by_cases e : w = k
        · rw [e]; exact hb
        · exact hp w (by omega)
    · simp only [decide_eq_false_iff_not] at hc
      refine LWp.exit ⟨(), ?_, Ent.el ⟨rfl, rfl, trivial⟩⟩
      rw [tiedF_all, List.all_eq_true]
      intro w hw
      exact hp w (by have := List.mem_range.1 hw; omega)
  intro _ hT
  rw [hT, Bool.true_and] at hC
  rw [hC]
  have hki := rkin_ev h hpl
  cases hb : kinB t p with
  | false =>
    rw [hb] at hki
    refine LWp.sx (gs := [(45, false)]) (hs := [.ret (B false)]) rfl (by (repeat' (with_reducible apply And.intro)); (all_goals first | (with_reducible exact trivial) | (with_reducible rfl) | (with_reducible assumption) | ((with_reducible apply isB); first | exact rfl | exact beq_self_eq_true _) | omega | ((first | exact hki | rfl)))) ?_
    refine LWp.ret (retT (.inr rfl) (.one (.tmp ?_ rfl)))
    rfl
  | true =>
    rw [hb] at hki
    have hk1 : Kin1 t p := fun i hi hpi => (kinB_iff.1 hb i hi hpi).1
    have hye := ryears_ev h hg hk1
    have hlen : (yearsW t p (cnt p)).length = cnt p := by
      have := (yearsW_sub h hg hk1 (Nat.le_refl (cnt p))).1
      rw [this, born0_len]
    have hem := rempty_ev (yearsW t p (cnt p)) (by omega)
    refine LWp.sx (gs := [(45, true)]) (hs := [.ret (B true), .ret (spans (yearsW t p (cnt p))), .ret (B (emptyS (yearsW t p (cnt p))))]) rfl ⟨hki, rfl, rfl, ⟨rfl, hye⟩, ⟨rfl, hem⟩, rfl, rfl, trivial⟩ ?_
    refine LWp.ret (retT (.inr rfl) (.one (.tmp ?_ rfl)))
    rfl
theorem rtruths_ev {t : Town} (h : t.OK) (bl : List Int) : Ev Tryz.prog 42 [.agg t.enc, ints bl] (lists (truthsL t (butL bl))) := by
  have hm6 := h.ms6
  have hml : ((t.ms.map Men.enc).length : Int) = t.ms.length := by simp
  have hgr := groups_ev t.ms.length hm6
  have hgl := groups_len hm6
  have hgm : ∀ p ∈ groupsN t.ms.length, Grp t.ms.length p := fun p hp => groups_grp hp
  have hT : truthsL t (butL bl) = (groupsN t.ms.length).filter (canR t (butL bl)) := rfl
  rw [hT]
  generalize groupsN t.ms.length = G at hgr hgl hgm
  refine Ev.freeze (T := 34) ?_
  refine Ev.intro fn42 ?_
  refine LWp.sx (gs := []) (hs := [.ice]) rfl ⟨⟨rfl, rfl⟩, trivial⟩ ?_
  refine LWp.sx (gs := []) (hs := [.ret (lists G)]) rfl ⟨by rw [hml]; exact hgr, trivial⟩ ?_
  refine LWp.sx (gs := []) (hs := []) rfl trivial ?_
  refine LWp.ent (Ent.nilLin (t := 6) 34 1 rfl) ?_
  have hGl : ((G.map fun c => [ints (natI c)]).length : Int) = G.length := by simp
  refine LWp.seq (LWp.seq ?_)
  refine LWp.x (gs := []) (hs := []) rfl trivial ?_
  refine LWp.blockT (fun _ : Unit => True) (fun _ => el [(6, .lin 34 1 ((G.filter (canR t (butL bl))).map fun c => [ints (natI c)]))]) (fun _ => []) (fun _ => []) ?_ ?_
  · refine LWp.loopN (fun k : Nat => k ≤ G.length) (fun k => el [(1, ints bl), (2, .pi t.enc), (5, lists G), (6, .lin 34 1 (((G.take k).filter (canR t (butL bl))).map fun c => [ints (natI c)])), (7, I k)]) (fun _ => []) (fun _ => []) (fun k => G.length - k) 0 (by omega) (Ent.el ⟨rfl, rfl, rfl, rfl, rfl, trivial⟩) ?_
    intro k hk
    refine LWp.seq (LWp.seq ?_)
    refine LWp.x (gs := []) (hs := []) rfl trivial ?_
    refine LWp.ite rfl (fun hc => ?_) (fun hc => ?_)
    · simp only [decide_eq_true_eq] at hc
      have hkl : k < G.length := by omega
      obtain ⟨p, hp⟩ := ex_get hkl
      have hcan := rcan_ev h (hgm p (List.mem_of_getElem? hp)) bl
      have htk : (G.take (k + 1)).filter (canR t (butL bl)) = (G.take k).filter (canR t (butL bl)) ++ (if canR t (butL bl) p = true then [p] else []) := by
        rw [List.take_add_one, hp, List.filter_append]
        congr 1
        show List.filter _ [p] = _
        simp only [List.filter_cons, List.filter_nil]
      have hle := List.length_filter_le (canR t (butL bl)) (G.take k)
      rw [List.length_take] at hle
      refine LWp.skip (LWp.seq (LWp.block ?_))
      refine LWp.sd (gs := []) (hs := [.cells [ints (natI p)], .ret (B (canR t (butL bl) p))]) hmix rfl (by kernel_rfl) ⟨⟨by omega, by simp [hp]⟩, hcan, trivial⟩ ?_
      refine LWp.ite (b := canR t (butL bl) p) rfl (fun hb => ?_) (fun hb => LWp.skip ?_)
      · rw [if_pos hb] at htk
        refine LWp.x (gs := []) (hs := [.cells [ints (natI p)], .ice]) rfl ⟨⟨by omega, by simp [hp]⟩, rfl, ⟨by simp only [List.length_map, chunk, List.length_cons, List.length_nil]; omega, by simp only [List.length_map, chunk, List.length_cons, List.length_nil]; omega⟩, trivial⟩ ?_
        refine LWp.x (gs := []) (hs := []) rfl ⟨by omega, trivial⟩ ?_
        refine ⟨k + 1, by omega, by omega, Ent.el ⟨rfl, rfl, rfl, ?_, rfl, trivial⟩⟩
        show AV.lin _ 1 _ = AV.lin _ 1 _
        rw [htk, List.map_append]; rfl
      · rw [if_neg (by rw [hb]; decide), List.append_nil] at htk
        refine LWp.x (gs := []) (hs := []) rfl ⟨by omega, trivial⟩ ?_
        exact ⟨k + 1, by omega, by omega, Ent.el ⟨rfl, rfl, rfl, by rw [htk]; rfl, rfl, trivial⟩⟩
    · simp only [decide_eq_false_iff_not] at hc
      refine LWp.exit ⟨(), trivial, Ent.el ⟨?_, trivial⟩⟩
      rw [List.take_of_length_le (by omega)]; rfl
  · intro _ _
    refine LWp.sx (gs := []) (hs := []) rfl trivial ?_
    exact LWp.ret (retT (.inr rfl) (.lin rfl rfl))
end Go.Px

namespace Go.Px
open Go.Proofs Go.MapKept
def someL (t : Town) (e : Int) : List (List Nat) := if someE t e = 0 then truthsL t noBut else []
theorem rsome_ev (t : Town) (e : Int) (h : e = 0 → t.OK) : Ev Tryz.prog 61 [.agg t.enc, I e] (.tup [lists (someL t e), I (someE t e)]) := by
  refine Ev.intro fn61 ?_
  refine LWp.sx (gs := []) (hs := [.ice]) rfl ⟨⟨rfl, rfl⟩, trivial⟩ ?_
  refine LWp.seq (LWp.seq ?_)
  refine LWp.x (gs := []) (hs := []) rfl trivial ?_
  by_cases he : e = 0
  case neg =>
    have hS : someE t e = e := by unfold someE; rw [if_pos he]
    have hL : someL t e = [] := by unfold someL; rw [if_neg (by rw [hS]; exact he)]
    rw [hS, hL]
    refine LWp.ite (b := true) (by show B _ = B _; exact congrArg B (by rw [bne_iff_ne]; exact he)) (fun _ => ?_) (fun h => by cases h)
    refine LWp.sx (gs := []) (hs := []) rfl trivial ?_
    refine LWp.ent (Ent.nilSl (t := 4) 1 rfl) ?_
    refine LWp.ret (retT (.inr rfl) (.many (by decide) ⟨.tmp ?_ rfl, .tmp ?_ rfl, trivial⟩))
    · rfl
    · rfl
  have hOK := h he
  have htr := rtruths_ev hOK []
  rw [butL_nil] at htr
  refine LWp.ite (b := false) (by show B _ = B _; exact congrArg B (by rw [bne_eq_false_iff_eq]; exact he)) (fun h => by cases h) (fun _ => LWp.skip ?_)
  refine LWp.sx (gs := []) (hs := [.retS [.agg t.enc, ints []] (lists (truthsL t noBut))]) rfl ⟨⟨htr, .cons (.nilSl (.refl _))⟩, trivial⟩ ?_
  refine LWp.seq (LWp.seq ?_)
  refine LWp.x (gs := []) (hs := []) rfl trivial ?_
  cases hE : truthsL t noBut with
  | nil =>
    have hS : someE t e = 8 := by unfold someE; rw [if_neg (by simp [he]), hE]; rfl
    have hL : someL t e = [] := by unfold someL; rw [if_neg (by rw [hS]; decide)]
    rw [hS, hL]
    refine LWp.ite (b := true) rfl (fun _ => ?_) (fun h => by cases h)
    refine LWp.sx (gs := []) (hs := []) rfl trivial ?_
    refine LWp.ent (Ent.nilSl (t := 4) 1 rfl) ?_
    refine LWp.ret (retT (.inr rfl) (.many (by decide) ⟨.tmp ?_ rfl, .tmp ?_ rfl, trivial⟩))
    · rfl
    · rfl
  | cons p l =>
    have hS : someE t e = 0 := someE_zero.2 ⟨he, by rw [hE]; simp⟩
    have hL : someL t e = p :: l := by unfold someL; rw [if_pos hS, hE]
    rw [hS, hL]
    refine LWp.ite (b := false) (by show B _ = B _; refine congrArg B ?_; rw [beq_eq_false_iff_ne]; simp only [List.map_cons, List.length_cons]; omega) (fun h => by cases h) (fun _ => LWp.skip ?_)
    refine LWp.sx (gs := []) (hs := []) rfl trivial ?_
    refine LWp.ret (retT (.inr rfl) (.many (by decide) ⟨.tmp ?_ rfl, .tmp ?_ rfl, trivial⟩))
    · rfl
    · rfl
theorem rfirst3_ev (t : Town) (hw : t.wf) : Ev Tryz.prog 18 [.agg t.enc] (.tup [ints (firstT t).1, I (firstT t).2.1, I (firstT t).2.2]) := by
  have hchk := rpcheck_ev t hw
  have hso := rsome_ev t (townE t) (fun h => ((townE_zero hw).1 h).1)
  refine Ev.intro fn18 ?_
  refine LWp.sx (gs := []) (hs := [.ice]) rfl ⟨⟨rfl, rfl⟩, trivial⟩ ?_
  refine LWp.sx (gs := []) (hs := [.ret (.tup [I (checkT t).1, I (checkT t).2.1, I (checkT t).2.2])]) rfl ⟨hchk, trivial⟩ ?_
  refine LWp.sx (gs := []) (hs := [.ret (.tup [lists (someL t (townE t)), I (someE t (townE t))])]) rfl ⟨hso, trivial⟩ ?_
  refine LWp.seq (LWp.seq ?_)
  refine LWp.x (gs := []) (hs := []) rfl trivial ?_
  by_cases hE : someE t (townE t) = 0
  case neg =>
    have hR : firstT t = ([], 0, someE t (townE t)) := by unfold firstT; rw [if_neg hE]
    rw [hR]
    refine LWp.ite (b := true) (by show B _ = B _; exact congrArg B (by rw [bne_iff_ne]; exact hE)) (fun _ => ?_) (fun h => by cases h)
    refine LWp.sx (gs := []) (hs := []) rfl trivial ?_
    refine LWp.ent (Ent.nilSl (t := 2) 1 rfl) ?_
    exact LWp.ret (retT (.inr rfl) (.many (by decide) ⟨.tmp rfl rfl, .tmp rfl rfl, .tmp rfl rfl, trivial⟩))
  have hR : firstT t = (natI ((truthsL t noBut).headD []), (((truthsL t noBut).length : Nat) : Int), 0) := by unfold firstT; rw [if_pos hE]
  have hL : someL t (townE t) = truthsL t noBut := by unfold someL; rw [if_pos hE]
  have hne := (someE_zero.1 hE).2
  rw [hR, hL]
  refine LWp.ite (b := false) (by show B _ = B _; exact congrArg B (by rw [bne_eq_false_iff_eq]; exact hE)) (fun h => by cases h) (fun _ => LWp.skip ?_)
  cases hT : truthsL t noBut with
  | nil => exact absurd hT hne
  | cons p l =>
    refine LWp.sx (gs := []) (hs := [.cells [ints (natI p)]]) rfl ⟨⟨by omega, rfl⟩, trivial⟩ ?_
    refine LWp.ret (retT (.inr rfl) (.many (by decide) ⟨.tmp rfl rfl, .tmp ?_ rfl, .tmp rfl rfl, trivial⟩))
    show I _ = I _
    refine congrArg I ?_
    simp
theorem rchecked_ev (t : Town) (hw : t.wf) (q : Int) : Ev Tryz.prog 73 [.agg t.enc, I q] (I (entE t (oneE t q))) := by
  have hchk := rpcheck_ev t hw
  have hml : ((t.ms.map Men.enc).length : Int) = t.ms.length := by simp
  have hin := in_ev q 0 (((t.ms.map Men.enc).length : Int) - 1)
  rw [inB_of] at hin
  have hO : oneE t q = if beyondB 0 (((t.ms.map Men.enc).length : Int) - 1) [q] = true then 4 else 0 := by rw [hml]; rfl
  refine Ev.intro fn73 ?_
  refine LWp.sx (gs := []) (hs := [.ice]) rfl ⟨⟨rfl, rfl⟩, trivial⟩ ?_
  refine LWp.sx (gs := []) (hs := [.ret (.tup [I (checkT t).1, I (checkT t).2.1, I (checkT t).2.2])]) rfl ⟨hchk, trivial⟩ ?_
  generalize beyondB 0 (((t.ms.map Men.enc).length : Int) - 1) [q] = c at hin hO
  by_cases h0 : townE t = 0
  · have h5 := ((townE_zero hw).1 h0).2
    have hE : entE t (oneE t q) = oneE t q := by unfold entE; rw [if_neg (by simp [h0])]
    have hz : ((checkT t).2.2 == 0) = true := by rw [beq_iff_eq]; exact h0
    rw [hE, hO]
    refine LWp.seq (LWp.seq ?_)
    refine LWp.x (gs := [(16, true)]) (hs := [.ret (B (!c))]) rfl ⟨hz, hz, hz, hz, ⟨hz, by omega, by omega⟩, ⟨hz, hin⟩, hz, hz, trivial⟩ ?_
    cases c with
    | true =>
      refine LWp.ite (b := true) rfl (fun _ => ?_) (fun h => by cases h)
      refine LWp.x (gs := []) (hs := []) rfl trivial ?_
      refine LWp.sx (gs := []) (hs := []) rfl trivial ?_
      refine LWp.ret (retT (.inr rfl) (.one (.tmp ?_ rfl)))
      rfl
    | false =>
      refine LWp.ite (b := false) rfl (fun h => by cases h) (fun _ => LWp.skip ?_)
      refine LWp.sx (gs := []) (hs := []) rfl trivial ?_
      refine LWp.ret (retT (.inr rfl) (.one (.tmp ?_ rfl)))
      show I _ = I _
      exact congrArg I h0
  · have hE : entE t (oneE t q) = townE t := by unfold entE; rw [if_pos h0]
    have hz : ((checkT t).2.2 == 0) = false := by rw [beq_eq_false_iff_ne]; exact h0
    rw [hE]
    refine LWp.seq (LWp.seq ?_)
    refine LWp.x (gs := [(16, false)]) (hs := []) rfl (by (repeat' (with_reducible apply And.intro)); (all_goals first | (with_reducible exact trivial) | (with_reducible rfl) | (with_reducible assumption) | ((with_reducible apply isB); first | exact rfl | exact beq_self_eq_true _) | omega | ((first | exact hz | rfl)))) ?_
    refine LWp.ite (b := false) rfl (fun h => by cases h) (fun _ => LWp.skip ?_)
    refine LWp.sx (gs := []) (hs := []) rfl trivial ?_
    refine LWp.ret (retT (.inr rfl) (.one (.tmp ?_ rfl)))
    rfl
theorem twoE_one {t : Town} {a b : Int} : twoE t a b = if oneE t a ≠ 0 then oneE t a else if oneE t b ≠ 0 then oneE t b else if a = b then 2 else 0 := by
  unfold twoE oneE
  rw [beyond_two]
  cases beyondB 0 ((t.ms.length : Int) - 1) [a] <;> cases beyondB 0 ((t.ms.length : Int) - 1) [b] <;> simp
theorem rtwo_ev (t : Town) (hw : t.wf) (a b : Int) : Ev Tryz.prog 65 [.agg t.enc, I a, I b] (I (entE t (twoE t a b))) := by
  have ha := rchecked_ev t hw a
  have hb := rchecked_ev t hw b
  have hT : entE t (twoE t a b) = if entE t (oneE t a) ≠ 0 then entE t (oneE t a) else if entE t (oneE t b) ≠ 0 then entE t (oneE t b) else if a = b then 2 else 0 := by
    by_cases h0 : townE t = 0
    · have hE : ∀ e, entE t e = e := fun e => by unfold entE; rw [if_neg (by simp [h0])]
      rw [hE, hE, hE]
      exact twoE_one
    · have hE : ∀ e, entE t e = townE t := fun e => by unfold entE; rw [if_pos h0]
      rw [hE, hE, hE, if_pos h0]
  rw [hT]
  generalize entE t (oneE t a) = e1 at ha
  generalize entE t (oneE t b) = e2 at hb
  refine Ev.intro fn65 ?_
  refine LWp.sx (gs := []) (hs := [.ice]) rfl ⟨⟨rfl, rfl⟩, trivial⟩ ?_
  refine LWp.sx (gs := []) (hs := [.ret (I e1)]) rfl ⟨ha, trivial⟩ ?_
  refine LWp.cutX (fun _ : Unit => True) (fun _ => el [(1, I a), (2, I b), (7, I (if e1 ≠ 0 then e1 else e2))]) (fun _ => []) (fun _ => []) ?_ ?_
  · refine LWp.sx (gs := []) (hs := []) rfl trivial ?_
    by_cases h1 : e1 = 0
    · refine LWp.ite (b := true) (by show B _ = B _; exact congrArg B (by rw [beq_iff_eq]; exact h1)) (fun _ => ?_) (fun h => by cases h)
      refine LWp.x (gs := []) (hs := [.ret (I e2)]) rfl ⟨hb, trivial⟩ ?_
      exact ⟨(), trivial, Ent.el ⟨rfl, rfl, by rw [if_neg (by simp [h1])]; rfl, trivial⟩⟩
    · refine LWp.ite (b := false) (by show B _ = B _; exact congrArg B (by rw [beq_eq_false_iff_ne]; exact h1)) (fun h => by cases h) (fun _ => LWp.skip ?_)
      exact ⟨(), trivial, Ent.el ⟨rfl, rfl, by rw [if_pos h1]; rfl, trivial⟩⟩
  intro _ _
  have hT2 : (if e1 ≠ 0 then e1 else if e2 ≠ 0 then e2 else if a = b then 2 else 0) = if (if e1 ≠ 0 then e1 else e2) ≠ 0 then (if e1 ≠ 0 then e1 else e2) else if a = b then 2 else 0 := by
    by_cases h1 : e1 = 0
    · simp [h1]
    · simp [h1]
  rw [hT2]
  generalize (if e1 ≠ 0 then e1 else e2) = e
  refine LWp.seq (LWp.seq ?_)
  by_cases he : e = 0
  · subst he
    refine LWp.x (gs := [(18, true)]) (hs := []) rfl (by (repeat' (with_reducible apply And.intro)); (all_goals first | (with_reducible exact trivial) | (with_reducible rfl) | (with_reducible assumption) | ((with_reducible apply isB); first | exact rfl | exact beq_self_eq_true _) | omega | ((rfl)))) ?_
    by_cases hab : a = b
    · refine LWp.ite (b := true) (by show B _ = B _; exact congrArg B (by rw [beq_iff_eq]; exact hab)) (fun _ => ?_) (fun h => by cases h)
      refine LWp.x (gs := []) (hs := []) rfl trivial ?_
      refine LWp.sx (gs := []) (hs := []) rfl trivial ?_
      refine LWp.ret (retT (.inr rfl) (.one (.tmp ?_ rfl)))
      show I _ = I _
      simp [hab]
    · refine LWp.ite (b := false) (by show B _ = B _; exact congrArg B (by rw [beq_eq_false_iff_ne]; exact hab)) (fun h => by cases h) (fun _ => LWp.skip ?_)
      refine LWp.sx (gs := []) (hs := []) rfl trivial ?_
      refine LWp.ret (retT (.inr rfl) (.one (.tmp ?_ rfl)))
      show I _ = I _
      simp [hab]
  · have hz : (e == 0) = false := by rw [beq_eq_false_iff_ne]; exact he
    refine LWp.x (gs := [(18, false)]) (hs := []) rfl (by (repeat' (with_reducible apply And.intro)); (all_goals first | (with_reducible exact trivial) | (with_reducible rfl) | (with_reducible assumption) | ((with_reducible apply isB); first | exact rfl | exact beq_self_eq_true _) | omega | ((rfl)))) ?_
    refine LWp.ite (b := false) rfl (fun h => by cases h) (fun _ => LWp.skip ?_)
    refine LWp.sx (gs := []) (hs := []) rfl trivial ?_
    refine LWp.ret (retT (.inr rfl) (.one (.tmp ?_ rfl)))
    show I _ = I _
    rw [if_pos he]
theorem rsame_ev (t : Town) (hw : t.wf) (a b : Int) : Ev Tryz.prog 21 [.agg t.enc, I a, I b] (.tup [I (sameT t a b).1, I (sameT t a b).2]) := by
  have htw := rtwo_ev t hw a b
  have hso := rsome_ev t (entE t (twoE t a b)) (fun h => ((townE_zero hw).1 (entE_zero.1 h).1).1)
  refine Ev.intro fn21 ?_
  refine LWp.sx (gs := []) (hs := [.ice]) rfl ⟨⟨rfl, rfl⟩, trivial⟩ ?_
  refine LWp.sd (gs := []) (hs := [.ret (I (entE t (twoE t a b))), .ret (.tup [lists (someL t (entE t (twoE t a b))), I (someE t (entE t (twoE t a b)))])]) hmix rfl (by kernel_rfl) ⟨htw, hso, trivial⟩ ?_
  refine LWp.seq (LWp.seq ?_)
  refine LWp.x (gs := []) (hs := []) rfl trivial ?_
  by_cases hE : someE t (entE t (twoE t a b)) = 0
  case neg =>
    have hR : sameT t a b = (0, someE t (entE t (twoE t a b))) := by unfold sameT; rw [if_neg hE]
    rw [hR]
    refine LWp.ite (b := true) (by show B _ = B _; exact congrArg B (by rw [bne_iff_ne]; exact hE)) (fun _ => ?_) (fun h => by cases h)
    refine LWp.sx (gs := []) (hs := []) rfl trivial ?_
    refine LWp.ret (retT (.inr rfl) (.many (by decide) ⟨.tmp ?_ rfl, .tmp ?_ rfl, trivial⟩))
    · rfl
    · rfl
  have hR : sameT t a b = (settleI ((truthsL t noBut).countP (oneP a b) : Nat) ((truthsL t noBut).length : Nat), 0) := by unfold sameT; rw [if_pos hE]
  have hL : someL t (entE t (twoE t a b)) = truthsL t noBut := by unfold someL; rw [if_pos hE]
  obtain ⟨hE1, _⟩ := someE_zero.1 hE
  obtain ⟨ht0, h20⟩ := entE_zero.1 hE1
  obtain ⟨⟨a0, a1⟩, ⟨b0, b1⟩, _⟩ := twoE_zero.1 h20
  have hOK := ((townE_zero hw).1 ht0).1
  have h6 := hOK.ms6
  have hlen : (truthsL t noBut).length ≤ 1000 := Nat.le_trans (List.length_filter_le _ _) (groups_len h6)
  have hgrp : ∀ p ∈ truthsL t noBut, Grp t.ms.length p := fun p hp => groups_grp (List.mem_filter.1 hp).1
  rw [hR, hL]
  generalize truthsL t noBut = G at hlen hgrp
  refine LWp.ite (b := false) (by show B _ = B _; exact congrArg B (by rw [bne_eq_false_iff_eq]; exact hE)) (fun h => by cases h) (fun _ => LWp.skip ?_)
  refine LWp.sx (gs := []) (hs := []) rfl trivial ?_
  have hGl : ((G.map fun c => [ints (natI c)]).length : Int) = G.length := by simp
  refine LWp.seq (LWp.seq ?_)
  refine LWp.x (gs := []) (hs := []) rfl trivial ?_
  refine LWp.blockT (fun _ : Unit => True) (fun _ => el [(8, lists G), (10, I (G.countP (oneP a b) : Nat))]) (fun _ => []) (fun _ => []) ?_ ?_
  · refine LWp.loopN (fun k : Nat => k ≤ G.length) (fun k => el [(1, I a), (2, I b), (8, lists G), (10, I ((G.take k).countP (oneP a b) : Nat)), (11, I k)]) (fun _ => []) (fun _ => []) (fun k => G.length - k) 0 (by omega) (Ent.el ⟨rfl, rfl, rfl, rfl, rfl, trivial⟩) ?_
    intro k hk
    refine LWp.seq (LWp.seq ?_)
    refine LWp.x (gs := []) (hs := []) rfl trivial ?_
    refine LWp.ite rfl (fun hc => ?_) (fun hc => ?_)
    · simp only [decide_eq_true_eq] at hc
      have hkl : k < G.length := by omega
      obtain ⟨p, hp⟩ := ex_get hkl
      have hg := hgrp p (List.mem_of_getElem? hp)
      have hga := ints_get' p (k := a) a0 (by rw [hg.len]; omega)
      have hgb := ints_get' p (k := b) b0 (by rw [hg.len]; omega)
      have htk : (G.take (k + 1)).countP (oneP a b) = (G.take k).countP (oneP a b) + (if oneP a b p = true then 1 else 0) := by
        rw [List.take_add_one, hp, List.countP_append]
        congr 1
        show List.countP _ [p] = _
        simp [List.countP_cons]
      have hcl := List.countP_le_length (p := oneP a b) (l := G.take k)
      rw [List.length_take] at hcl
      refine LWp.skip (LWp.seq (LWp.block ?_))
      have hp' : (G.map fun c => [ints (natI c)])[((k : Nat) : Int).toNat]? = some [ints (natI p)] := by simp [hp]
      refine LWp.sd (gs := []) (hs := [.cells [ints (natI p)], .cells [I (per p a.toNat : Nat)], .cells [ints (natI p)], .cells [I (per p b.toNat : Nat)]]) hmix rfl (by kernel_rfl) ⟨⟨by omega, hp'⟩, ⟨a0, hga⟩, ⟨by omega, hp'⟩, ⟨b0, hgb⟩, trivial⟩ ?_
      refine LWp.ite (b := oneP a b p) ?_ (fun hb => ?_) (fun hb => LWp.skip ?_)
      · show B _ = B _
        refine congrArg B ?_
        unfold oneP
        rw [Bool.eq_iff_iff, beq_iff_eq, beq_iff_eq]
        omega
      · rw [if_pos hb] at htk
        refine LWp.x (gs := []) (hs := []) rfl ⟨by omega, trivial⟩ ?_
        refine LWp.x (gs := []) (hs := []) rfl ⟨by omega, trivial⟩ ?_
        refine ⟨k + 1, by omega, by omega, Ent.el ⟨rfl, rfl, rfl, ?_, rfl, trivial⟩⟩
        rw [htk]; rfl
      · rw [if_neg (by rw [hb]; decide)] at htk
        refine LWp.x (gs := []) (hs := []) rfl ⟨by omega, trivial⟩ ?_
        refine ⟨k + 1, by omega, by omega, Ent.el ⟨rfl, rfl, rfl, ?_, rfl, trivial⟩⟩
        rw [htk]; rfl
    · simp only [decide_eq_false_iff_not] at hc
      refine LWp.exit ⟨(), trivial, Ent.el ⟨rfl, ?_, trivial⟩⟩
      rw [List.take_of_length_le (by omega)]; rfl
  · intro _ _
    refine LWp.sx (gs := []) (hs := [.ret (I (settleI (G.countP (oneP a b) : Nat) (G.length : Nat)))]) rfl ⟨by rw [hGl]; exact settled_ev _ _, trivial⟩ ?_
    refine LWp.ret (retT (.inr rfl) (.many (by decide) ⟨.tmp ?_ rfl, .tmp ?_ rfl, trivial⟩))
    · rfl
    · rfl
end Go.Px

namespace Go.Px
open Go.Proofs
open Go.ChangeShapes Go.WideShapes Go.ChangeAt Go.RowKit
theorem fits_two (a : AV) (h : FitA (.arr 2 (.int .i64)) a) : ∃ i j : Int, a = .agg [I i, I j] := by
  simp only [FitA, FitN, Fits] at h
  obtain ⟨_, rfl, _, _, rfl, ⟨i, rfl, hi⟩, _, _, rfl, ⟨j, rfl, hj⟩, rfl⟩ := h
  exact ⟨i, j, rfl⟩
end Go.Px

namespace Go.Px
open Go.Proofs Go.MapKept
theorem intsEq_refl3 (a : List Int) : intsEq a a = true := intsEq_iff.2 rfl
theorem ints_refl3 (a : List Int) : Ev Tryz.prog 19 [ints a, ints a] (B true) := by
  have := ints_ev a a
  rw [intsEq_refl3] at this; exact this
theorem personFirsts_ev (t : Town) (hw : t.wf) (i j : Int) : Ev Tryz.prog 3 [.agg t.enc, .agg [I i, I j]] (B true) := by
  have e1 := pcheck_ev t hw
  have f1 := rpcheck_ev t hw
  generalize (checkT t).1 = p at e1 f1
  generalize (checkT t).2.1 = q at e1 f1
  generalize (checkT t).2.2 = r at e1 f1
  have e2 := pfirst_ev t hw
  have f2 := rfirst3_ev t hw
  generalize (firstT t).1 = p2 at e2 f2
  generalize (firstT t).2.1 = q2 at e2 f2
  generalize (firstT t).2.2 = r2 at e2 f2
  have e3 := psame_ev t hw i j
  have f3 := rsame_ev t hw i j
  generalize (sameT t i j).1 = p3 at e3 f3
  generalize (sameT t i j).2 = q3 at e3 f3
  have hi := ints_refl3 p2
  refine Ev.intro fn3 ?_
  refine LWp.sx (gs := []) (hs := [.ice, .ice]) rfl ⟨⟨rfl, rfl⟩, ⟨rfl, rfl⟩, trivial⟩ ?_
  refine LWp.sx (gs := []) (hs := [.ret (.tup [I p, I q, I r])]) rfl ⟨e1, trivial⟩ ?_
  refine LWp.sx (gs := []) (hs := [.ret (.tup [I p, I q, I r])]) rfl ⟨f1, trivial⟩ ?_
  refine LWp.seq (LWp.seq ?_)
  refine LWp.x (gs := [(28, false), (33, false)]) (hs := []) rfl (by simp) ?_
  refine LWp.ite rfl (fun h => ?_) (fun _ => LWp.skip ?_)
  · simp at h
  refine LWp.sx (gs := []) (hs := [.ret (.tup [ints p2, I q2, I r2])]) rfl ⟨e2, trivial⟩ ?_
  refine LWp.sx (gs := []) (hs := [.ret (.tup [ints p2, I q2, I r2])]) rfl ⟨f2, trivial⟩ ?_
  refine LWp.seq (LWp.seq ?_)
  refine LWp.x (gs := [(54, false), (59, false)]) (hs := [.ret (B true)]) rfl (by (repeat' (with_reducible apply And.intro)); (all_goals first | (with_reducible exact trivial) | (with_reducible rfl) | (with_reducible assumption) | ((with_reducible apply isB); first | exact rfl | exact beq_self_eq_true _) | omega | ((first | exact hi | (with_reducible apply isB; simp))))) ?_
  refine LWp.ite rfl (fun h => ?_) (fun _ => LWp.skip ?_)
  · simp at h
  refine LWp.sx (gs := []) (hs := [.ret (.tup [I p3, I q3])]) rfl ⟨⟨by omega, by decide⟩, ⟨by omega, by decide⟩, e3, trivial⟩ ?_
  refine LWp.sx (gs := []) (hs := [.ret (.tup [I p3, I q3])]) rfl ⟨⟨by omega, by decide⟩, ⟨by omega, by decide⟩, f3, trivial⟩ ?_
  refine LWp.sx (gs := [(85, true), (90, true)]) (hs := [.ret (B true)]) rfl (by (repeat' (with_reducible apply And.intro)); (all_goals first | (with_reducible exact trivial) | (with_reducible rfl) | (with_reducible assumption) | ((with_reducible apply isB); first | exact rfl | exact beq_self_eq_true _) | omega | ((first | exact awake3_ev | rfl)))) ?_
  refine LWp.ret (retT (.inr rfl) (.one (.tmp ?_ rfl)))
  rfl
end Go.Px

namespace Go.Px
open Go.Proofs Go.MapKept
structure Yrs (t : Town) (p : List Nat) (F : Nat → Sp) : Prop where
  ne : ∀ w, w < cnt p → (F w).1 ≤ (F w).2
  sub : ∀ i, i < t.ms.length → (t.m i).lo ≤ (F (per p i)).1 ∧ (F (per p i)).2 ≤ (t.m i).hi
  fix : ∀ i, i < t.ms.length → (t.m i).par ≠ -1 → (F (per p i)).1 - 60 ≤ (F (per p (t.m i).par.toNat)).1 ∧ (F (per p (t.m i).par.toNat)).2 ≤ (F (per p i)).2 - 15 ∧ (F (per p (t.m i).par.toNat)).1 + 15 ≤ (F (per p i)).1 ∧ (F (per p i)).2 ≤ (F (per p (t.m i).par.toNat)).2 + 60
structure Fine (t : Town) (but : Nat → Bool) (p : List Nat) : Prop where
  kin : ∀ i, i < t.ms.length → (t.m i).par ≠ -1 → per p (t.m i).par.toNat ≠ per p i ∧ ∀ k, k < t.ms.length → (t.m k).par ≠ -1 → per p k = per p i → per p (t.m i).par.toNat = per p (t.m k).par.toNat
  snd : ∀ w, w < cnt p → Sounds t p w
  vil : ∀ i, i < t.ms.length → ∀ j, j < t.ms.length → per p i = per p j → Vil (t.m i).v (t.m j).v
  tie : ∀ i x, t.ties[i]? = some x → but i = false → tieB p x = true
  yrs : ∃ F, Yrs t p F
end Go.Px

