/- Part 4 of the proof of the statement PersonBorns (contracts of the functions that it alone wants). No conditions. -/
import Derived.Test.YtcioapljmakidaaGreatBBorns3
namespace Go.Px
open Go.Proofs Go.MapKept
theorem rcan_ev {t : Town} (h : t.OK) {p : List Nat} (hg : Grp t.ms.length p) (bl : List Int) : Ev Tryz.prog 86 [.agg t.enc, ints (natI p), ints bl] (B (canR t (butL bl) p)) := by
  have hm6 := h.ms6
  have hle := hg.le
  have hsm := small_of hm6 hg
  have hpl := hg.len
  have htl : ((t.ties.map Tie.enc).length : Int) = t.ties.length := by simp
  have ht4 := h.ties4
  have hcount := rcount3_ev hsm
  have hC : canR t (butL bl) p = ((List.range (cnt p)).all (fun who => namedR t (ofL p who)) && tiedF t (butL bl) p && (kinB t p && !emptyS (yearsW t p (cnt p)))) := rfl
  refine Ev.intro fn86 ?_
  refine LWp.sx (gs := []) (hs := [.ice]) rfl ⟨⟨rfl, rfl⟩, trivial⟩ ?_
  refine LWp.seq (LWp.seq ?_)
  refine LWp.x (gs := []) (hs := []) rfl trivial ?_
  refine LWp.blockT (fun _ : Unit => (List.range (cnt p)).all (fun who => namedR t (ofL p who)) = true) (fun _ => el [(1, ints (natI p)), (2, ints bl), (3, .pi t.enc)]) (fun _ => []) (fun _ => []) ?_ ?_
  · refine LWp.loopN (fun k : Nat => k ≤ cnt p ∧ ∀ who, who < k → namedR t (ofL p who) = true) (fun k => el [(1, ints (natI p)), (2, ints bl), (3, .pi t.enc), (7, I k)]) (fun _ => []) (fun _ => []) (fun k => cnt p - k) 0 ⟨by omega, by intro w hw; omega⟩ (Ent.el ⟨rfl, rfl, rfl, rfl, trivial⟩) ?_
    rintro k ⟨hk, hp⟩
    refine LWp.seq (LWp.seq ?_)
    refine LWp.x (gs := []) (hs := [.ret (I (cnt p : Nat))]) rfl ⟨hcount, trivial⟩ ?_
    refine LWp.ite rfl (fun hc => ?_) (fun hc => ?_)
    · simp only [decide_eq_true_eq, Int.ofNat_lt] at hc
      have hof := rof_ev (p := p) (by omega) k
      have hna := rnamed_ev h (l := ofL p k) (by
        have : ofL p k = ofK p k t.ms.length := by unfold ofL ofK; rw [hpl]
        rw [this]
        have := ofK_len p k t.ms.length
        omega) (fun i hi => by rw [← hpl]; exact (ofL_mem.1 hi).1)
      refine LWp.skip (LWp.seq (LWp.block ?_))
      refine LWp.sd (gs := []) (hs := [.ret (ints (natI (ofL p k))), .ret (B (namedR t (ofL p k)))]) hmix rfl (by kernel_rfl) ⟨hof, hna, trivial⟩ ?_
      cases hb : namedR t (ofL p k) with
      | false =>
        refine LWp.ite (b := true) rfl (fun _ => ?_) (fun h => by cases h)
        have hF : canR t (butL bl) p = false := by
          rw [hC]
          have : (List.range (cnt p)).all (fun who => namedR t (ofL p who)) = false := by
            rw [List.all_eq_false]
            exact ⟨k, List.mem_range.2 hc, by rw [hb]; decide⟩
          rw [this]; rfl
        rw [hF]
        refine LWp.sx (gs := []) (hs := []) rfl trivial ?_
        refine LWp.ret (retT (.inr rfl) (.one (.tmp ?_ rfl)))
        rfl
      | true =>
        refine LWp.ite (b := false) rfl (fun h => by cases h) (fun _ => LWp.skip ?_)
        refine LWp.x (gs := []) (hs := []) rfl ⟨by omega, trivial⟩ ?_
        refine ⟨k + 1, ⟨hc, fun w hw => ?_⟩, by omega, Ent.el ⟨rfl, rfl, rfl, rfl, trivial⟩⟩
        by_cases e : w = k
        · rw [e]; exact hb
        · exact hp w (by omega)
    · simp only [decide_eq_false_iff_not, Int.ofNat_lt] at hc
      refine LWp.exit ⟨(), ?_, Ent.el ⟨rfl, rfl, rfl, trivial⟩⟩
      rw [List.all_eq_true]
      intro w hw
      exact hp w (by have := List.mem_range.1 hw; omega)
  intro _ hN
  rw [hN, Bool.true_and] at hC
  refine LWp.seq (LWp.seq ?_)
  refine LWp.x (gs := []) (hs := []) rfl trivial ?_
  refine LWp.blockT (fun _ : Unit => tiedF t (butL bl) p = true) (fun _ => el [(1, ints (natI p)), (3, .pi t.enc)]) (fun _ => []) (fun _ => []) ?_ ?_
  · refine LWp.loopN (fun k : Nat => k ≤ t.ties.length ∧ ∀ j, j < k → tieAtB t (butL bl) p j = true) (fun k => el [(1, ints (natI p)), (2, ints bl), (3, .pi t.enc), (8, I k)]) (fun _ => []) (fun _ => []) (fun k => t.ties.length - k) 0 ⟨by omega, by intro w hw; omega⟩ (Ent.el ⟨rfl, rfl, rfl, rfl, trivial⟩) ?_
    rintro k ⟨hk, hp⟩
    refine LWp.seq (LWp.seq ?_)
    refine LWp.x (gs := []) (hs := []) rfl trivial ?_
    refine LWp.ite rfl (fun hc => ?_) (fun hc => ?_)
    · simp only [decide_eq_true_eq] at hc
      have hkl : k < t.ties.length := by omega
      obtain ⟨x, hx⟩ := ex_get hkl
      obtain ⟨a0, a1, b0, b1, _⟩ := h.tie x (List.mem_of_getElem? hx)
      have hti := rtied_ev (p := p) x a0 (by omega) b0 (by omega)
      have hhas := has_ev bl (k : Int)
      have hat := tieAt_some (but := butL bl) (p := p) hx
      have hbk : butL bl k = bl.any (· == (k : Int)) := rfl
      rw [← hbk] at hhas
      refine LWp.skip (LWp.seq (LWp.block ?_))
      refine LWp.cutX (fun _ : Unit => True) (fun _ => el [(1, ints (natI p)), (2, ints bl), (3, .pi t.enc), (8, I k), (41, B (!tieAtB t (butL bl) p k))]) (fun _ => []) (fun _ => []) ?_ ?_
      · rw [hat]
        cases hb : butL bl k with
        | true =>
          rw [hb] at hhas
          refine LWp.x (gs := [(32, false)]) (hs := [.ret (B true)]) rfl (by (repeat' (with_reducible apply And.intro)); (all_goals first | (with_reducible exact trivial) | (with_reducible rfl) | (with_reducible assumption) | ((with_reducible apply isB); first | exact rfl | exact beq_self_eq_true _) | omega | ((first | exact hhas | rfl)))) ?_
          exact ⟨(), trivial, Ent.el ⟨rfl, rfl, rfl, rfl, rfl, trivial⟩⟩
        | false =>
          rw [hb] at hhas
          have hx' : (t.ties.map Tie.enc)[((k : Nat) : Int).toNat]? = some x.enc := by simp [hx]
          refine LWp.x (gs := [(32, true)]) (hs := [.ret (B false), .cells x.enc, .ret (B (tieB p x))]) rfl ⟨hhas, rfl, rfl, rfl, ⟨rfl, by omega, hx'⟩, rfl, rfl, ⟨rfl, hti⟩, rfl, rfl, trivial⟩ ?_
          exact ⟨(), trivial, Ent.el ⟨rfl, rfl, rfl, rfl, rfl, trivial⟩⟩
      intro _ _
      cases hb : tieAtB t (butL bl) p k with
      | false =>
        refine LWp.ite (b := true) rfl (fun _ => ?_) (fun h => by cases h)
        have hF : canR t (butL bl) p = false := by
          rw [hC]
          have : tiedF t (butL bl) p = false := by
            rw [tiedF_all, List.all_eq_false]
            exact ⟨k, List.mem_range.2 hkl, by rw [hb]; decide⟩
          rw [this]; rfl
        rw [hF]
        refine LWp.sx (gs := []) (hs := []) rfl trivial ?_
        refine LWp.ret (retT (.inr rfl) (.one (.tmp ?_ rfl)))
        rfl
      | true =>
        refine LWp.ite (b := false) rfl (fun h => by cases h) (fun _ => LWp.skip ?_)
        refine LWp.x (gs := []) (hs := []) rfl ⟨by omega, trivial⟩ ?_
        refine ⟨k + 1, ⟨hkl, fun w hw => ?_⟩, by omega, Ent.el ⟨rfl, rfl, rfl, rfl, trivial⟩⟩
        by_cases e : w = k
        · rw [e]; exact hb
        · exact hp w (by omega)
    · simp only [decide_eq_false_iff_not] at hc
      refine LWp.exit ⟨(), ?_, Ent.el ⟨rfl, rfl, trivial⟩⟩
      rw [tiedF_all, List.all_eq_true]
      intro w hw
      exact hp w (by have := List.mem_range.1 hw; omega)
  intro _ hT
  rw [hT, Bool.true_and] at hC
  rw [hC]
  have hki := rkin_ev h hpl
  cases hb : kinB t p with
  | false =>
    rw [hb] at hki
    refine LWp.sx (gs := [(45, false)]) (hs := [.ret (B false)]) rfl (by (repeat' (with_reducible apply And.intro)); (all_goals first | (with_reducible exact trivial) | (with_reducible rfl) | (with_reducible assumption) | ((with_reducible apply isB); first | exact rfl | exact beq_self_eq_true _) | omega | ((first | exact hki | rfl)))) ?_
    refine LWp.ret (retT (.inr rfl) (.one (.tmp ?_ rfl)))
    rfl
  | true =>
    rw [hb] at hki
    have hk1 : Kin1 t p := fun i hi hpi => (kinB_iff.1 hb i hi hpi).1
    have hye := ryears_ev h hg hk1
    have hlen : (yearsW t p (cnt p)).length = cnt p := by
      have := (yearsW_sub h hg hk1 (Nat.le_refl (cnt p))).1
      rw [this, born0_len]
    have hem := rempty_ev (yearsW t p (cnt p)) (by omega)
    refine LWp.sx (gs := [(45, true)]) (hs := [.ret (B true), .ret (spans (yearsW t p (cnt p))), .ret (B (emptyS (yearsW t p (cnt p))))]) rfl ⟨hki, rfl, rfl, ⟨rfl, hye⟩, ⟨rfl, hem⟩, rfl, rfl, trivial⟩ ?_
    refine LWp.ret (retT (.inr rfl) (.one (.tmp ?_ rfl)))
    rfl
theorem rtruths_ev {t : Town} (h : t.OK) (bl : List Int) : Ev Tryz.prog 42 [.agg t.enc, ints bl] (lists (truthsL t (butL bl))) := by
  have hm6 := h.ms6
  have hml : ((t.ms.map Men.enc).length : Int) = t.ms.length := by simp
  have hgr := groups_ev t.ms.length hm6
  have hgl := groups_len hm6
  have hgm : ∀ p ∈ groupsN t.ms.length, Grp t.ms.length p := fun p hp => groups_grp hp
  have hT : truthsL t (butL bl) = (groupsN t.ms.length).filter (canR t (butL bl)) := rfl
  rw [hT]
  generalize groupsN t.ms.length = G at hgr hgl hgm
  refine Ev.freeze (T := 34) ?_
  refine Ev.intro fn42 ?_
  refine LWp.sx (gs := []) (hs := [.ice]) rfl ⟨⟨rfl, rfl⟩, trivial⟩ ?_
  refine LWp.sx (gs := []) (hs := [.ret (lists G)]) rfl ⟨by rw [hml]; exact hgr, trivial⟩ ?_
  refine LWp.sx (gs := []) (hs := []) rfl trivial ?_
  refine LWp.ent (Ent.nilLin (t := 6) 34 1 rfl) ?_
  have hGl : ((G.map fun c => [ints (natI c)]).length : Int) = G.length := by simp
  refine LWp.seq (LWp.seq ?_)
  refine LWp.x (gs := []) (hs := []) rfl trivial ?_
  refine LWp.blockT (fun _ : Unit => True) (fun _ => el [(6, .lin 34 1 ((G.filter (canR t (butL bl))).map fun c => [ints (natI c)]))]) (fun _ => []) (fun _ => []) ?_ ?_
  · refine LWp.loopN (fun k : Nat => k ≤ G.length) (fun k => el [(1, ints bl), (2, .pi t.enc), (5, lists G), (6, .lin 34 1 (((G.take k).filter (canR t (butL bl))).map fun c => [ints (natI c)])), (7, I k)]) (fun _ => []) (fun _ => []) (fun k => G.length - k) 0 (by omega) (Ent.el ⟨rfl, rfl, rfl, rfl, rfl, trivial⟩) ?_
    intro k hk
    refine LWp.seq (LWp.seq ?_)
    refine LWp.x (gs := []) (hs := []) rfl trivial ?_
    refine LWp.ite rfl (fun hc => ?_) (fun hc => ?_)
    · simp only [decide_eq_true_eq] at hc
      have hkl : k < G.length := by omega
      obtain ⟨p, hp⟩ := ex_get hkl
      have hcan := rcan_ev h (hgm p (List.mem_of_getElem? hp)) bl
      have htk : (G.take (k + 1)).filter (canR t (butL bl)) = (G.take k).filter (canR t (butL bl)) ++ (if canR t (butL bl) p = true then [p] else []) := by
        rw [List.take_add_one, hp, List.filter_append]
        congr 1
        show List.filter _ [p] = _
        simp only [List.filter_cons, List.filter_nil]
      have hle := List.length_filter_le (canR t (butL bl)) (G.take k)
      rw [List.length_take] at hle
      refine LWp.skip (LWp.seq (LWp.block ?_))
      refine LWp.sd (gs := []) (hs := [.cells [ints (natI p)], .ret (B (canR t (butL bl) p))]) hmix rfl (by kernel_rfl) ⟨⟨by omega, by simp [hp]⟩, hcan, trivial⟩ ?_
      refine LWp.ite (b := canR t (butL bl) p) rfl (fun hb => ?_) (fun hb => LWp.skip ?_)
      · rw [if_pos hb] at htk
        refine LWp.x (gs := []) (hs := [.cells [ints (natI p)], .ice]) rfl ⟨⟨by omega, by simp [hp]⟩, rfl, ⟨by simp only [List.length_map, chunk, List.length_cons, List.length_nil]; omega, by simp only [List.length_map, chunk, List.length_cons, List.length_nil]; omega⟩, trivial⟩ ?_
        refine LWp.x (gs := []) (hs := []) rfl ⟨by omega, trivial⟩ ?_
        refine ⟨k + 1, by omega, by omega, Ent.el ⟨rfl, rfl, rfl, ?_, rfl, trivial⟩⟩
        show AV.lin _ 1 _ = AV.lin _ 1 _
        rw [htk, List.map_append]; rfl
      · rw [if_neg (by rw [hb]; decide), List.append_nil] at htk
        refine LWp.x (gs := []) (hs := []) rfl ⟨by omega, trivial⟩ ?_
        exact ⟨k + 1, by omega, by omega, Ent.el ⟨rfl, rfl, rfl, by rw [htk]; rfl, rfl, trivial⟩⟩
    · simp only [decide_eq_false_iff_not] at hc
      refine LWp.exit ⟨(), trivial, Ent.el ⟨?_, trivial⟩⟩
      rw [List.take_of_length_le (by omega)]; rfl
  · intro _ _
    refine LWp.sx (gs := []) (hs := []) rfl trivial ?_
    exact LWp.ret (retT (.inr rfl) (.lin rfl rfl))
end Go.Px

namespace Go.Px
open Go.Proofs Go.MapKept
def someL (t : Town) (e : Int) : List (List Nat) := if someE t e = 0 then truthsL t noBut else []
theorem rsome_ev (t : Town) (e : Int) (h : e = 0 → t.OK) : Ev Tryz.prog 61 [.agg t.enc, I e] (.tup [lists (someL t e), I (someE t e)]) := by
  refine Ev.intro fn61 ?_
  refine LWp.sx (gs := []) (hs := [.ice]) rfl ⟨⟨rfl, rfl⟩, trivial⟩ ?_
  refine LWp.seq (LWp.seq ?_)
  refine LWp.x (gs := []) (hs := []) rfl trivial ?_
  by_cases he : e = 0
  case neg =>
    have hS : someE t e = e := by unfold someE; rw [if_pos he]
    have hL : someL t e = [] := by unfold someL; rw [if_neg (by rw [hS]; exact he)]
    rw [hS, hL]
    refine LWp.ite (b := true) (by show B _ = B _; exact congrArg B (by rw [bne_iff_ne]; exact he)) (fun _ => ?_) (fun h => by cases h)
    refine LWp.sx (gs := []) (hs := []) rfl trivial ?_
    refine LWp.ent (Ent.nilSl (t := 4) 1 rfl) ?_
    refine LWp.ret (retT (.inr rfl) (.many (by decide) ⟨.tmp ?_ rfl, .tmp ?_ rfl, trivial⟩))
    · rfl
    · rfl
  have hOK := h he
  have htr := rtruths_ev hOK []
  rw [butL_nil] at htr
  refine LWp.ite (b := false) (by show B _ = B _; exact congrArg B (by rw [bne_eq_false_iff_eq]; exact he)) (fun h => by cases h) (fun _ => LWp.skip ?_)
  refine LWp.sx (gs := []) (hs := [.retS [.agg t.enc, ints []] (lists (truthsL t noBut))]) rfl ⟨⟨htr, .cons (.nilSl (.refl _))⟩, trivial⟩ ?_
  refine LWp.seq (LWp.seq ?_)
  refine LWp.x (gs := []) (hs := []) rfl trivial ?_
  cases hE : truthsL t noBut with
  | nil =>
    have hS : someE t e = 8 := by unfold someE; rw [if_neg (by simp [he]), hE]; rfl
    have hL : someL t e = [] := by unfold someL; rw [if_neg (by rw [hS]; decide)]
    rw [hS, hL]
    refine LWp.ite (b := true) rfl (fun _ => ?_) (fun h => by cases h)
    refine LWp.sx (gs := []) (hs := []) rfl trivial ?_
    refine LWp.ent (Ent.nilSl (t := 4) 1 rfl) ?_
    refine LWp.ret (retT (.inr rfl) (.many (by decide) ⟨.tmp ?_ rfl, .tmp ?_ rfl, trivial⟩))
    · rfl
    · rfl
  | cons p l =>
    have hS : someE t e = 0 := someE_zero.2 ⟨he, by rw [hE]; simp⟩
    have hL : someL t e = p :: l := by unfold someL; rw [if_pos hS, hE]
    rw [hS, hL]
    refine LWp.ite (b := false) (by show B _ = B _; refine congrArg B ?_; rw [beq_eq_false_iff_ne]; simp only [List.map_cons, List.length_cons]; omega) (fun h => by cases h) (fun _ => LWp.skip ?_)
    refine LWp.sx (gs := []) (hs := []) rfl trivial ?_
    refine LWp.ret (retT (.inr rfl) (.many (by decide) ⟨.tmp ?_ rfl, .tmp ?_ rfl, trivial⟩))
    · rfl
    · rfl
theorem rchecked_ev (t : Town) (hw : t.wf) (q : Int) : Ev Tryz.prog 73 [.agg t.enc, I q] (I (entE t (oneE t q))) := by
  have hchk := rpcheck_ev t hw
  have hml : ((t.ms.map Men.enc).length : Int) = t.ms.length := by simp
  have hin := in_ev q 0 (((t.ms.map Men.enc).length : Int) - 1)
  rw [inB_of] at hin
  have hO : oneE t q = if beyondB 0 (((t.ms.map Men.enc).length : Int) - 1) [q] = true then 4 else 0 := by rw [hml]; rfl
  refine Ev.intro fn73 ?_
  refine LWp.sx (gs := []) (hs := [.ice]) rfl ⟨⟨rfl, rfl⟩, trivial⟩ ?_
  refine LWp.sx (gs := []) (hs := [.ret (.tup [I (checkT t).1, I (checkT t).2.1, I (checkT t).2.2])]) rfl ⟨hchk, trivial⟩ ?_
  generalize beyondB 0 (((t.ms.map Men.enc).length : Int) - 1) [q] = c at hin hO
  by_cases h0 : townE t = 0
  · have h5 := ((townE_zero hw).1 h0).2
    have hE : entE t (oneE t q) = oneE t q := by unfold entE; rw [if_neg (by simp [h0])]
    have hz : ((checkT t).2.2 == 0) = true := by rw [beq_iff_eq]; exact h0
    rw [hE, hO]
    refine LWp.seq (LWp.seq ?_)
    refine LWp.x (gs := [(16, true)]) (hs := [.ret (B (!c))]) rfl ⟨hz, hz, hz, hz, ⟨hz, by omega, by omega⟩, ⟨hz, hin⟩, hz, hz, trivial⟩ ?_
    cases c with
    | true =>
      refine LWp.ite (b := true) rfl (fun _ => ?_) (fun h => by cases h)
      refine LWp.x (gs := []) (hs := []) rfl trivial ?_
      refine LWp.sx (gs := []) (hs := []) rfl trivial ?_
      refine LWp.ret (retT (.inr rfl) (.one (.tmp ?_ rfl)))
      rfl
    | false =>
      refine LWp.ite (b := false) rfl (fun h => by cases h) (fun _ => LWp.skip ?_)
      refine LWp.sx (gs := []) (hs := []) rfl trivial ?_
      refine LWp.ret (retT (.inr rfl) (.one (.tmp ?_ rfl)))
      show I _ = I _
      exact congrArg I h0
  · have hE : entE t (oneE t q) = townE t := by unfold entE; rw [if_pos h0]
    have hz : ((checkT t).2.2 == 0) = false := by rw [beq_eq_false_iff_ne]; exact h0
    rw [hE]
    refine LWp.seq (LWp.seq ?_)
    refine LWp.x (gs := [(16, false)]) (hs := []) rfl (by (repeat' (with_reducible apply And.intro)); (all_goals first | (with_reducible exact trivial) | (with_reducible rfl) | (with_reducible assumption) | ((with_reducible apply isB); first | exact rfl | exact beq_self_eq_true _) | omega | ((first | exact hz | rfl)))) ?_
    refine LWp.ite (b := false) rfl (fun h => by cases h) (fun _ => LWp.skip ?_)
    refine LWp.sx (gs := []) (hs := []) rfl trivial ?_
    refine LWp.ret (retT (.inr rfl) (.one (.tmp ?_ rfl)))
    rfl
end Go.Px

namespace Go.Px
open Go.Proofs Go.MapKept
theorem hull_ev (s x : Sp) (first : Bool) : Ev Tryz.prog 70 [B first, .agg (sp2 s), .agg (sp2 x)] (.agg (sp2 (widerF s x first))) := by
  refine Ev.intro fn70 ?_
  refine LWp.sx (gs := []) (hs := [.ice, .ice, .lin]) rfl ⟨⟨rfl, rfl⟩, ⟨rfl, rfl⟩, rfl, trivial⟩ ?_
  refine LWp.seq (LWp.seq ?_)
  refine LWp.x (gs := []) (hs := []) rfl trivial ?_
  cases first with
  | true =>
    refine LWp.ite (b := true) rfl (fun _ => ?_) (fun h => by cases h)
    refine LWp.sx (gs := []) (hs := []) rfl ⟨⟨rfl, rfl, rfl, Nat.le_refl 2⟩, trivial⟩ ?_
    refine LWp.ent (Ent.freezeLbox (t := 6) rfl) (LWp.ret ⟨.inr rfl, [], rfl, .one (.cellI (n := some 2) (cs := sp2 x) (upd_same _ _ _) (by kernel_rfl) rfl)⟩)
  | false =>
    refine LWp.ite (b := false) rfl (fun h => by cases h) (fun _ => LWp.skip ?_)
    refine LWp.sx (gs := []) (hs := []) rfl ⟨⟨rfl, rfl, rfl, Nat.le_refl 2⟩, trivial⟩ ?_
    refine LWp.ent (Ent.freezeLbox (t := 6) rfl) (LWp.ret ⟨.inr rfl, [], rfl, .one (.cellI (n := some 2) (cs := sp2 (widerF s x false)) (upd_same _ _ _) (by kernel_rfl) rfl)⟩)
theorem hullF_take (g : List Nat → Sp) {L : List (List Nat)} {k : Nat} {p : List Nat} (hp : L[k]? = some p) : hullF g (L.take (k + 1)) = widerF (hullF g (L.take k)) (g p) (k == 0) := by
  have key : ∀ L : List (List Nat), (L.foldl (fun (x : Sp × Bool) p => (widerF x.1 (g p) x.2, false)) ((0, 0), true)).2 = L.isEmpty := by
    intro L
    cases L with
    | nil => rfl
    | cons p L =>
      have : ∀ (L : List (List Nat)) (s : Sp), (L.foldl (fun (x : Sp × Bool) p => (widerF x.1 (g p) x.2, false)) (s, false)).2 = false := by
        intro L
        induction L with
        | nil => intro s; rfl
        | cons p L ih => intro s; exact ih _
      exact this L _
  unfold hullF
  rw [List.take_add_one, hp, List.foldl_append]
  show widerF _ (g p) _ = _
  rw [key]
  congr 1
  have hlt := (List.getElem?_eq_some_iff.1 hp).1
  rw [Bool.eq_iff_iff, List.isEmpty_iff, beq_iff_eq, List.take_eq_nil_iff]
  constructor
  · rintro (h | h)
    · exact h
    · rw [h] at hlt; simp at hlt
  · intro h; exact .inl h
theorem years_at {t : Town} (h : t.OK) {p : List Nat} (hg : Grp t.ms.length p) (hk : Kin1 t p) {w : Nat} (hw : w < cnt p) : spAt (yearsW t p 6) w = spAt (yearsW t p (cnt p)) w := by
  have hle := hg.le
  have h6 := h.ms6
  rw [yearsW_pad h hg hk (by omega)]
  refine spAt_app _ ?_
  have := (yearsW_sub h hg hk (Nat.le_refl (cnt p))).1
  rw [this, born0_len]
  exact hw
theorem can_kin {t : Town} {but : Nat → Bool} {p : List Nat} (h : canR t but p = true) : Kin1 t p := by
  unfold canR at h
  simp only [Bool.and_eq_true] at h
  exact fun i hi hpi => (kinB_iff.1 h.2.1 i hi hpi).1
theorem rpersons_ev (t : Town) (hw : t.wf) : Ev Tryz.prog 24 [.agg t.enc] (.tup [.agg (sp2 (personsT t).1), I (personsT t).2]) := by
  have hchk := rpcheck_ev t hw
  have hso := rsome_ev t (townE t) (fun h => ((townE_zero hw).1 h).1)
  refine Ev.intro fn24 ?_
  refine LWp.sx (gs := []) (hs := [.ice, .lin]) rfl ⟨⟨rfl, rfl⟩, rfl, trivial⟩ ?_
  refine LWp.sx (gs := []) (hs := [.ret (.tup [I (checkT t).1, I (checkT t).2.1, I (checkT t).2.2])]) rfl ⟨hchk, trivial⟩ ?_
  refine LWp.sx (gs := []) (hs := [.ret (.tup [lists (someL t (townE t)), I (someE t (townE t))])]) rfl ⟨hso, trivial⟩ ?_
  refine LWp.seq (LWp.seq ?_)
  refine LWp.x (gs := []) (hs := []) rfl trivial ?_
  by_cases hE : someE t (townE t) = 0
  case neg =>
    have hR : personsT t = ((0, 0), someE t (townE t)) := by unfold personsT; rw [if_neg hE]
    rw [hR]
    refine LWp.ite (b := true) (by show B _ = B _; exact congrArg B (by rw [bne_iff_ne]; exact hE)) (fun _ => ?_) (fun h => by cases h)
    refine LWp.sx (gs := []) (hs := []) rfl ⟨⟨rfl, rfl, rfl, Nat.le_refl 2⟩, trivial⟩ ?_
    refine LWp.ent (Ent.freezeLbox (t := 2) rfl) (LWp.ret ⟨.inr rfl, [], rfl, .many (by decide) (show All2 (ResAV Tryz.prog _ _) [.cell 2 43, .tmp 3] [.agg (sp2 (0, 0)), I (someE t (townE t))] from ⟨.cellI (n := some 2) (cs := sp2 (0, 0)) (upd_same _ _ _) (by kernel_rfl) rfl, .tmp rfl rfl, trivial⟩)⟩)
  have hR : personsT t = (hullF (fun p => (((cnt p : Nat) : Int), ((cnt p : Nat) : Int))) (truthsL t noBut), 0) := by unfold personsT; rw [if_pos hE]
  have hL : someL t (townE t) = truthsL t noBut := by unfold someL; rw [if_pos hE]
  have hOK := ((townE_zero hw).1 (someE_zero.1 hE).1).1
  have h6 := hOK.ms6
  have hlen : (truthsL t noBut).length ≤ 1000 := Nat.le_trans (List.length_filter_le _ _) (groups_len h6)
  have hgrp : ∀ p ∈ truthsL t noBut, Grp t.ms.length p := fun p hp => groups_grp (List.mem_filter.1 hp).1
  rw [hR, hL]
  generalize truthsL t noBut = G at hlen hgrp
  refine LWp.ite (b := false) (by show B _ = B _; exact congrArg B (by rw [bne_eq_false_iff_eq]; exact hE)) (fun h => by cases h) (fun _ => LWp.skip ?_)
  refine LWp.sx (gs := []) (hs := [.lin]) rfl ⟨rfl, trivial⟩ ?_
  have hGl : ((G.map fun c => [ints (natI c)]).length : Int) = G.length := by simp
  refine LWp.seq (LWp.seq ?_)
  refine LWp.x (gs := []) (hs := []) rfl trivial ?_
  refine LWp.blockT (fun _ : Unit => True) (fun _ => el [(2, .lbox 43 (sp2 (0, 0))), (8, .lbox 43 (sp2 (hullF (fun p => (((cnt p : Nat) : Int), ((cnt p : Nat) : Int))) G)))]) (fun _ => []) (fun _ => []) ?_ ?_
  · refine LWp.loopN (fun k : Nat => k ≤ G.length) (fun k => el [(2, .lbox 43 (sp2 (0, 0))), (7, lists G), (8, .lbox 43 (sp2 (hullF (fun p => (((cnt p : Nat) : Int), ((cnt p : Nat) : Int))) (G.take k)))), (9, I k)]) (fun _ => []) (fun _ => []) (fun k => G.length - k) 0 (by omega) (Ent.el ⟨rfl, rfl, rfl, rfl, trivial⟩) ?_
    intro k hk
    refine LWp.seq (LWp.seq ?_)
    refine LWp.x (gs := []) (hs := []) rfl trivial ?_
    refine LWp.ite rfl (fun hc => ?_) (fun hc => ?_)
    · simp only [decide_eq_true_eq] at hc
      have hkl : k < G.length := by omega
      obtain ⟨p, hp⟩ := ex_get hkl
      have hg := hgrp p (List.mem_of_getElem? hp)
      have hsm := small_of h6 hg
      have hcount := rcount3_ev hsm
      have htk := hullF_take (fun p => (((cnt p : Nat) : Int), ((cnt p : Nat) : Int))) hp
      have hp' : (G.map fun c => [ints (natI c)])[((k : Nat) : Int).toNat]? = some [ints (natI p)] := by simp [hp]
      generalize hullF (fun p => (((cnt p : Nat) : Int), ((cnt p : Nat) : Int))) (G.take k) = s at htk
      have hhu := hull_ev s (((cnt p : Nat) : Int), ((cnt p : Nat) : Int)) (((k : Nat) : Int) == 0)
      have hk0 : (((k : Nat) : Int) == 0) = (k == 0) := by rw [Bool.eq_iff_iff, beq_iff_eq, beq_iff_eq]; omega
      refine LWp.skip (LWp.seq (LWp.block ?_))
      refine LWp.sx (gs := []) (hs := [.cells [ints (natI p)], .ret (I (cnt p : Nat))]) rfl ⟨⟨by omega, hp'⟩, hcount, trivial⟩ ?_
      refine LWp.x (gs := []) (hs := [.ret (.agg (sp2 (widerF s (((cnt p : Nat) : Int), ((cnt p : Nat) : Int)) (((k : Nat) : Int) == 0))))]) rfl ⟨hhu, ⟨rfl, rfl, rfl, Nat.le_refl 2⟩, trivial⟩ ?_
      refine LWp.x (gs := []) (hs := []) rfl ⟨by omega, trivial⟩ ?_
      refine ⟨k + 1, by omega, by omega, Ent.el ⟨rfl, rfl, ?_, rfl, trivial⟩⟩
      rw [htk, ← hk0]; rfl
    · simp only [decide_eq_false_iff_not] at hc
      refine LWp.exit ⟨(), trivial, Ent.el ⟨rfl, ?_, trivial⟩⟩
      rw [List.take_of_length_le (by omega)]; rfl
  · intro _ _
    generalize hullF (fun p => (((cnt p : Nat) : Int), ((cnt p : Nat) : Int))) G = hv
    refine LWp.sx (gs := []) (hs := []) rfl ⟨⟨rfl, rfl, rfl, Nat.le_refl 2⟩, trivial⟩ ?_
    refine LWp.ent (Ent.freezeLbox (t := 2) rfl) (LWp.ret ⟨.inr rfl, [], rfl, .many (by decide) (show All2 (ResAV Tryz.prog _ _) [.cell 2 43, .tmp 3] [.agg (sp2 hv), I 0] from ⟨.cellI (n := some 2) (cs := sp2 hv) (upd_same _ _ _) (by kernel_rfl) rfl, .tmp rfl rfl, trivial⟩)⟩)
theorem rborn_ev (t : Town) (hw : t.wf) (q : Int) : Ev Tryz.prog 26 [.agg t.enc, I q] (.tup [.agg (sp2 (bornT t q).1), I (bornT t q).2]) := by
  have hchk := rchecked_ev t hw q
  have hso := rsome_ev t (entE t (oneE t q)) (fun h => ((townE_zero hw).1 (entE_zero.1 h).1).1)
  refine Ev.intro fn26 ?_
  refine LWp.sx (gs := []) (hs := [.ice, .lin]) rfl ⟨⟨rfl, rfl⟩, rfl, trivial⟩ ?_
  refine LWp.sd (gs := []) (hs := [.ret (I (entE t (oneE t q))), .ret (.tup [lists (someL t (entE t (oneE t q))), I (someE t (entE t (oneE t q)))])]) hmix rfl (by kernel_rfl) ⟨hchk, hso, trivial⟩ ?_
  refine LWp.seq (LWp.seq ?_)
  refine LWp.x (gs := []) (hs := []) rfl trivial ?_
  by_cases hE : someE t (entE t (oneE t q)) = 0
  case neg =>
    have hR : bornT t q = ((0, 0), someE t (entE t (oneE t q))) := by unfold bornT; rw [if_neg hE]
    rw [hR]
    refine LWp.ite (b := true) (by show B _ = B _; exact congrArg B (by rw [bne_iff_ne]; exact hE)) (fun _ => ?_) (fun h => by cases h)
    refine LWp.sx (gs := []) (hs := []) rfl ⟨⟨rfl, rfl, rfl, Nat.le_refl 2⟩, trivial⟩ ?_
    refine LWp.ent (Ent.freezeLbox (t := 4) rfl) (LWp.ret ⟨.inr rfl, [], rfl, .many (by decide) (show All2 (ResAV Tryz.prog _ _) [.cell 4 43, .tmp 5] [.agg (sp2 (0, 0)), I (someE t (entE t (oneE t q)))] from ⟨.cellI (n := some 2) (cs := sp2 (0, 0)) (upd_same _ _ _) (by kernel_rfl) rfl, .tmp rfl rfl, trivial⟩)⟩)
  have hR : bornT t q = (hullF (fun p => spAt (yearsW t p 6) (per p q.toNat)) (truthsL t noBut), 0) := by unfold bornT; rw [if_pos hE]
  have hL : someL t (entE t (oneE t q)) = truthsL t noBut := by unfold someL; rw [if_pos hE]
  obtain ⟨hE1, _⟩ := someE_zero.1 hE
  obtain ⟨ht0, h20⟩ := entE_zero.1 hE1
  obtain ⟨q0, q1⟩ := oneE_zero.1 h20
  have hOK := ((townE_zero hw).1 ht0).1
  have h6 := hOK.ms6
  have hlen : (truthsL t noBut).length ≤ 1000 := Nat.le_trans (List.length_filter_le _ _) (groups_len h6)
  have hgrp : ∀ p ∈ truthsL t noBut, Grp t.ms.length p ∧ Kin1 t p := fun p hp => ⟨groups_grp (List.mem_filter.1 hp).1, can_kin (List.mem_filter.1 hp).2⟩
  rw [hR, hL]
  generalize truthsL t noBut = G at hlen hgrp
  refine LWp.ite (b := false) (by show B _ = B _; exact congrArg B (by rw [bne_eq_false_iff_eq]; exact hE)) (fun h => by cases h) (fun _ => LWp.skip ?_)
  refine LWp.sx (gs := []) (hs := [.lin]) rfl ⟨rfl, trivial⟩ ?_
  have hGl : ((G.map fun c => [ints (natI c)]).length : Int) = G.length := by simp
  refine LWp.seq (LWp.seq ?_)
  refine LWp.x (gs := []) (hs := []) rfl trivial ?_
  refine LWp.blockT (fun _ : Unit => True) (fun _ => el [(4, .lbox 43 (sp2 (0, 0))), (8, .lbox 43 (sp2 (hullF (fun p => spAt (yearsW t p 6) (per p q.toNat)) G)))]) (fun _ => []) (fun _ => []) ?_ ?_
  · refine LWp.loopN (fun k : Nat => k ≤ G.length) (fun k => el [(1, I q), (2, .pi t.enc), (4, .lbox 43 (sp2 (0, 0))), (6, lists G), (8, .lbox 43 (sp2 (hullF (fun p => spAt (yearsW t p 6) (per p q.toNat)) (G.take k)))), (9, I k)]) (fun _ => []) (fun _ => []) (fun k => G.length - k) 0 (by omega) (Ent.el ⟨rfl, rfl, rfl, rfl, rfl, rfl, trivial⟩) ?_
    intro k hk
    refine LWp.seq (LWp.seq ?_)
    refine LWp.x (gs := []) (hs := []) rfl trivial ?_
    refine LWp.ite rfl (fun hc => ?_) (fun hc => ?_)
    · simp only [decide_eq_true_eq] at hc
      have hkl : k < G.length := by omega
      obtain ⟨p, hp⟩ := ex_get hkl
      obtain ⟨hg, hk1⟩ := hgrp p (List.mem_of_getElem? hp)
      have hye := ryears_ev hOK hg hk1
      have hyl : (yearsW t p (cnt p)).length = cnt p := by
        have := (yearsW_sub hOK hg hk1 (Nat.le_refl (cnt p))).1
        rw [this, born0_len]
      have hwq := hg.lt q.toNat (by omega)
      have hya := years_at hOK hg hk1 hwq
      have htk := hullF_take (fun p => spAt (yearsW t p 6) (per p q.toNat)) hp
      rw [hya] at htk
      have hp' : (G.map fun c => [ints (natI c)])[((k : Nat) : Int).toNat]? = some [ints (natI p)] := by simp [hp]
      have hgq := ints_get' p (k := q) q0 (by rw [hg.len]; omega)
      have hsg := spans_get (b := yearsW t p (cnt p)) (k := per p q.toNat) (by omega)
      generalize hullF (fun p => spAt (yearsW t p 6) (per p q.toNat)) (G.take k) = s at htk
      have hhu := hull_ev s (spAt (yearsW t p (cnt p)) (per p q.toNat)) (((k : Nat) : Int) == 0)
      have hk0 : (((k : Nat) : Int) == 0) = (k == 0) := by rw [Bool.eq_iff_iff, beq_iff_eq, beq_iff_eq]; omega
      generalize hw6 : per p q.toNat = w at *
      refine LWp.skip (LWp.seq (LWp.block ?_))
      refine LWp.dd (gs := []) (hs := [.cells [ints (natI p)], .ret (spans (yearsW t p (cnt p))), .cells [ints (natI p)], .cells [I (w : Nat)], .cells (sp2 (spAt (yearsW t p (cnt p)) w)), .ret (.agg (sp2 (widerF s (spAt (yearsW t p (cnt p)) w) (((k : Nat) : Int) == 0))))]) hmix rfl (by kernel_rfl) ⟨⟨by omega, hp'⟩, hye, ⟨by omega, hp'⟩, ⟨q0, hgq⟩, ⟨by omega, hsg⟩, hhu, ⟨rfl, rfl, rfl, Nat.le_refl 2⟩, trivial⟩ ?_
      refine LWp.x (gs := []) (hs := []) rfl ⟨by omega, trivial⟩ ?_
      refine ⟨k + 1, by omega, by omega, Ent.el ⟨rfl, rfl, rfl, rfl, ?_, rfl, trivial⟩⟩
      rw [htk, ← hk0]; rfl
    · simp only [decide_eq_false_iff_not] at hc
      refine LWp.exit ⟨(), trivial, Ent.el ⟨rfl, ?_, trivial⟩⟩
      rw [List.take_of_length_le (by omega)]; rfl
  · intro _ _
    generalize hullF (fun p => spAt (yearsW t p 6) (per p q.toNat)) G = hv
    refine LWp.sx (gs := []) (hs := []) rfl ⟨⟨rfl, rfl, rfl, Nat.le_refl 2⟩, trivial⟩ ?_
    refine LWp.ent (Ent.freezeLbox (t := 4) rfl) (LWp.ret ⟨.inr rfl, [], rfl, .many (by decide) (show All2 (ResAV Tryz.prog _ _) [.cell 4 43, .tmp 5] [.agg (sp2 hv), I 0] from ⟨.cellI (n := some 2) (cs := sp2 hv) (upd_same _ _ _) (by kernel_rfl) rfl, .tmp rfl rfl, trivial⟩)⟩)
end Go.Px

namespace Go.Px
open Go.Proofs Go.MapKept
theorem tru_iff {t : Town} {but : Nat → Bool} {p : List Nat} : p ∈ truthsL t but ↔ p ∈ groupsN t.ms.length ∧ Tru t but p := by
  unfold truthsL
  rw [List.mem_filter]
  refine and_congr_right fun hp => ?_
  unfold canR
  simp only [Bool.and_eq_true, List.all_eq_true, List.mem_range, Bool.not_eq_true']
  exact ⟨fun h => ⟨groups_grp hp, h.2.1, h.2.2, h.1.2, h.1.1⟩, fun h => ⟨⟨h.named, h.tied⟩, h.kin, h.yrs⟩⟩
theorem Tru.kin1 {t : Town} {but : Nat → Bool} {p : List Nat} (h : Tru t but p) : Kin1 t p := fun i hi hpi => (kinB_iff.1 h.kin i hi hpi).1
theorem Tru.year {t : Town} (hO : t.OK) {but : Nat → Bool} {p : List Nat} (h : Tru t but p) {w : Nat} (hw : w < cnt p) :
    (bornAt t p t.ms.length w).1 ≤ (spAt (yearsW t p (cnt p)) w).1 ∧ (spAt (yearsW t p (cnt p)) w).1 ≤ (spAt (yearsW t p (cnt p)) w).2 ∧ (spAt (yearsW t p (cnt p)) w).2 ≤ (bornAt t p t.ms.length w).2 := by
  have hs := yearsW_sub hO h.grp h.kin1 (Nat.le_refl (cnt p))
  have hl : (yearsW t p (cnt p)).length = cnt p := by rw [hs.1, born0_len]
  have hn := not_empty_at h.yrs (k := w) (by omega)
  have h2 := hs.2 w
  rw [born0_get t p hw] at h2
  exact ⟨h2.1, hn, h2.2⟩
theorem Tru.year200 {t : Town} (hO : t.OK) {but : Nat → Bool} {p : List Nat} (h : Tru t but p) {w : Nat} (hw : w < cnt p) :
    0 ≤ (spAt (yearsW t p (cnt p)) w).1 ∧ (spAt (yearsW t p (cnt p)) w).1 ≤ (spAt (yearsW t p (cnt p)) w).2 ∧ (spAt (yearsW t p (cnt p)) w).2 ≤ 199 := by
  obtain ⟨h1, h2, h3⟩ := h.year hO hw
  obtain ⟨b1, b2, b3, b4⟩ := bornAt_in hO p w t.ms.length (Nat.le_refl _)
  omega
theorem hull_go (g : List Nat → Sp) : ∀ (l : List (List Nat)) (s : Sp), (l.foldl (fun (x : Sp × Bool) p => (widerF x.1 (g p) x.2, false)) (s, false)).1.1 ≤ s.1 ∧ s.2 ≤ (l.foldl (fun (x : Sp × Bool) p => (widerF x.1 (g p) x.2, false)) (s, false)).1.2 ∧
    (∀ p ∈ l, (l.foldl (fun (x : Sp × Bool) p => (widerF x.1 (g p) x.2, false)) (s, false)).1.1 ≤ (g p).1 ∧ (g p).2 ≤ (l.foldl (fun (x : Sp × Bool) p => (widerF x.1 (g p) x.2, false)) (s, false)).1.2) ∧
    ((l.foldl (fun (x : Sp × Bool) p => (widerF x.1 (g p) x.2, false)) (s, false)).1.1 = s.1 ∨ ∃ p ∈ l, (l.foldl (fun (x : Sp × Bool) p => (widerF x.1 (g p) x.2, false)) (s, false)).1.1 = (g p).1) ∧
    ((l.foldl (fun (x : Sp × Bool) p => (widerF x.1 (g p) x.2, false)) (s, false)).1.2 = s.2 ∨ ∃ p ∈ l, (l.foldl (fun (x : Sp × Bool) p => (widerF x.1 (g p) x.2, false)) (s, false)).1.2 = (g p).2)
  | [], s => ⟨Int.le_refl _, Int.le_refl _, by simp, .inl rfl, .inl rfl⟩
  | q :: l, s => by
    rw [List.foldl_cons]
    have e : widerF s (g q) false = (min s.1 (g q).1, max s.2 (g q).2) := rfl
    rw [e]
    obtain ⟨h1, h2, h3, h4, h5⟩ := hull_go g l (min s.1 (g q).1, max s.2 (g q).2)
    generalize (l.foldl (fun (x : Sp × Bool) p => (widerF x.1 (g p) x.2, false)) ((min s.1 (g q).1, max s.2 (g q).2), false)).1 = r at *
    simp only at h1 h2 h4 h5
    refine ⟨Int.le_trans h1 (Int.min_le_left _ _), Int.le_trans (Int.le_max_left _ _) h2, ?_, ?_, ?_⟩
    · intro p hp
      rcases List.mem_cons.1 hp with rfl | hp
      · exact ⟨Int.le_trans h1 (Int.min_le_right _ _), Int.le_trans (Int.le_max_right _ _) h2⟩
      · exact h3 p hp
    · rcases h4 with h4 | ⟨p, hp, h4⟩
      · by_cases c : s.1 ≤ (g q).1
        · left; rw [h4, Int.min_eq_left c]
        · right; exact ⟨q, by simp, by rw [h4, Int.min_eq_right (by clear h5; omega)]⟩
      · right; exact ⟨p, by simp [hp], h4⟩
    · rcases h5 with h5 | ⟨p, hp, h5⟩
      · by_cases c : (g q).2 ≤ s.2
        · left; rw [h5, Int.max_eq_left c]
        · right; exact ⟨q, by simp, by rw [h5, Int.max_eq_right (by clear h4; omega)]⟩
      · right; exact ⟨p, by simp [hp], h5⟩
theorem hull_spec (g : List Nat → Sp) {l : List (List Nat)} (hl : l ≠ []) : (∀ p ∈ l, (hullF g l).1 ≤ (g p).1 ∧ (g p).2 ≤ (hullF g l).2) ∧ (∃ p ∈ l, (hullF g l).1 = (g p).1) ∧ ∃ p ∈ l, (hullF g l).2 = (g p).2 := by
  cases l with
  | nil => exact absurd rfl hl
  | cons q l =>
    have e : hullF g (q :: l) = (l.foldl (fun (x : Sp × Bool) p => (widerF x.1 (g p) x.2, false)) (g q, false)).1 := rfl
    rw [e]
    obtain ⟨h1, h2, h3, h4, h5⟩ := hull_go g l (g q)
    refine ⟨?_, ?_, ?_⟩
    · intro p hp
      rcases List.mem_cons.1 hp with rfl | hp
      · exact ⟨h1, h2⟩
      · exact h3 p hp
    · rcases h4 with h4 | ⟨p, hp, h4⟩
      · exact ⟨q, by simp, h4⟩
      · exact ⟨p, by simp [hp], h4⟩
    · rcases h5 with h5 | ⟨p, hp, h5⟩
      · exact ⟨q, by simp, h5⟩
      · exact ⟨p, by simp [hp], h5⟩
theorem persons_bd {t : Town} (hw : t.wf) : spB 1000000 (personsT t).1 := by
  unfold personsT
  split
  · rename_i h
    obtain ⟨h0, hne⟩ := someE_zero.1 h
    have hO := ((townE_zero hw).1 h0).1
    have h6 := hO.ms6
    obtain ⟨_, ⟨p, hp, e1⟩, ⟨q, hq, e2⟩⟩ := hull_spec (fun p => (((cnt p : Nat) : Int), ((cnt p : Nat) : Int))) hne
    have hp' := (tru_iff.1 hp).2.grp.le
    have hq' := (tru_iff.1 hq).2.grp.le
    simp only at e1 e2 ⊢
    unfold spB
    rw [e1, e2]
    omega
  · exact (show spB 1000000 (0, 0) from ⟨by decide, by decide, by decide, by decide⟩)
theorem born_bd {t : Town} (hw : t.wf) (q : Int) : spB 1000000 (bornT t q).1 := by
  unfold bornT
  split
  · rename_i h
    obtain ⟨h0, hne⟩ := someE_zero.1 h
    obtain ⟨h1, h2⟩ := entE_zero.1 h0
    have hO := ((townE_zero hw).1 h1).1
    have hq : 0 ≤ q ∧ q < t.ms.length := by
      unfold oneE at h2
      split at h2
      · cases h2
      · rename_i hb
        have := beyond_iff.1 (by simpa using hb : beyondB 0 ((t.ms.length : Int) - 1) [q] = false) q (by simp)
        omega
    have key : ∀ p ∈ truthsL t noBut, 0 ≤ (spAt (yearsW t p 6) (per p q.toNat)).1 ∧ (spAt (yearsW t p 6) (per p q.toNat)).1 ≤ (spAt (yearsW t p 6) (per p q.toNat)).2 ∧ (spAt (yearsW t p 6) (per p q.toNat)).2 ≤ 199 := by
      intro p hp
      have hT := (tru_iff.1 hp).2
      have hc := hT.grp.lt q.toNat (by omega)
      rw [years_at hO hT.grp hT.kin1 hc]
      exact hT.year200 hO hc
    obtain ⟨_, ⟨p, hp, e1⟩, ⟨r, hr, e2⟩⟩ := hull_spec (fun p => spAt (yearsW t p 6) (per p q.toNat)) hne
    have k1 := key p hp
    have k2 := key r hr
    simp only at e1 e2 ⊢
    unfold spB
    rw [e1, e2]
    omega
  · exact (show spB 1000000 (0, 0) from ⟨by decide, by decide, by decide, by decide⟩)
end Go.Px

namespace Go.Px
open Go.Proofs
open Go.ChangeShapes Go.WideShapes Go.ChangeAt Go.RowKit
theorem fits_int (a : AV) (h : FitA (.int .i64) a) : ∃ i : Int, a = I i := by
  simp only [FitA, Fits] at h
  obtain ⟨n, h, hn⟩ := h
  simp only [List.cons.injEq, and_true] at h
  exact ⟨n, h⟩
end Go.Px

namespace Go.Px
open Go.Proofs Go.MapKept
theorem personBorns_ev (t : Town) (hw : t.wf) (m : Int) : Ev Tryz.prog 4 [.agg t.enc, I m] (B true) := by
  have e1 := ppersons_ev t hw
  have f1 := rpersons_ev t hw
  have b1 := persons_bd hw
  generalize (personsT t).1 = s1 at e1 f1 b1
  generalize (personsT t).2 = q1 at e1 f1
  have e2 := pborn_ev t hw m
  have f2 := rborn_ev t hw m
  have b2 := born_bd hw m
  generalize (bornT t m).1 = s2 at e2 f2 b2
  generalize (bornT t m).2 = q2 at e2 f2
  refine Ev.intro fn4 ?_
  refine LWp.sx (gs := []) (hs := [.ice]) rfl ⟨⟨rfl, rfl⟩, trivial⟩ ?_
  refine LWp.sx (gs := []) (hs := [.ret (.tup [.agg (sp2 s1), I q1]), .lin]) rfl ⟨e1, rfl, ⟨rfl, rfl, rfl, Nat.le_refl 2⟩, trivial⟩ ?_
  refine LWp.sx (gs := []) (hs := [.ret (.tup [.agg (sp2 s1), I q1]), .lin]) rfl ⟨f1, rfl, ⟨rfl, rfl, rfl, Nat.le_refl 2⟩, trivial⟩ ?_
  have w1 := fun (env : Env) (H : Heap) (ha : evO env (tm 19) = .agg (sp2 s1)) (hb : evO env (tm 20) = .agg (sp2 s1)) => op_neSpan (d := 21) (H := H) ha hb b1 b1
  have d1 : decide (s1 = s1) = true := decide_eq_true rfl
  rw [d1] at w1
  refine LWp.seq (LWp.seq ?_)
  refine LWp.x (gs := [(22, false)]) (hs := [.op (B (!true))]) rfl (by (repeat' (with_reducible apply And.intro)); (all_goals first | (with_reducible exact trivial) | (with_reducible rfl) | (with_reducible assumption) | ((with_reducible apply isB); first | exact rfl | exact beq_self_eq_true _) | omega | ((first | exact w1 _ _ rfl rfl | rfl)))) ?_
  refine LWp.ite rfl (fun h => ?_) (fun _ => LWp.skip ?_)
  · simp at h
  refine LWp.sx (gs := []) (hs := [.ret (.tup [.agg (sp2 s2), I q2])]) rfl ⟨e2, ⟨rfl, rfl, rfl, Nat.le_refl 2⟩, trivial⟩ ?_
  refine LWp.sx (gs := []) (hs := [.ret (.tup [.agg (sp2 s2), I q2])]) rfl ⟨f2, ⟨rfl, rfl, rfl, Nat.le_refl 2⟩, trivial⟩ ?_
  have w2 := fun (env : Env) (H : Heap) (ha : evO env (tm 39) = .agg (sp2 s2)) (hb : evO env (tm 40) = .agg (sp2 s2)) => op_eqSpan (d := 41) (H := H) ha hb b2 b2
  have d2 : decide (s2 = s2) = true := decide_eq_true rfl
  rw [d2] at w2
  refine LWp.sx (gs := [(42, true), (47, true)]) (hs := [.op (B true), .ret (B true)]) rfl (by (repeat' (with_reducible apply And.intro)); (all_goals first | (with_reducible exact trivial) | (with_reducible rfl) | (with_reducible assumption) | ((with_reducible apply isB); first | exact rfl | exact beq_self_eq_true _) | omega | ((first | exact w2 _ _ rfl rfl | exact awake3_ev | rfl)))) ?_
  refine LWp.ret (retT (.inr rfl) (.one (.tmp ?_ rfl)))
  rfl
end Go.Px

namespace Go.Px
open Go.Proofs Go.MapKept
structure Yrs (t : Town) (p : List Nat) (F : Nat → Sp) : Prop where
  ne : ∀ w, w < cnt p → (F w).1 ≤ (F w).2
  sub : ∀ i, i < t.ms.length → (t.m i).lo ≤ (F (per p i)).1 ∧ (F (per p i)).2 ≤ (t.m i).hi
  fix : ∀ i, i < t.ms.length → (t.m i).par ≠ -1 → (F (per p i)).1 - 60 ≤ (F (per p (t.m i).par.toNat)).1 ∧ (F (per p (t.m i).par.toNat)).2 ≤ (F (per p i)).2 - 15 ∧ (F (per p (t.m i).par.toNat)).1 + 15 ≤ (F (per p i)).1 ∧ (F (per p i)).2 ≤ (F (per p (t.m i).par.toNat)).2 + 60
structure Fine (t : Town) (but : Nat → Bool) (p : List Nat) : Prop where
  kin : ∀ i, i < t.ms.length → (t.m i).par ≠ -1 → per p (t.m i).par.toNat ≠ per p i ∧ ∀ k, k < t.ms.length → (t.m k).par ≠ -1 → per p k = per p i → per p (t.m i).par.toNat = per p (t.m k).par.toNat
  snd : ∀ w, w < cnt p → Sounds t p w
  vil : ∀ i, i < t.ms.length → ∀ j, j < t.ms.length → per p i = per p j → Vil (t.m i).v (t.m j).v
  tie : ∀ i x, t.ties[i]? = some x → but i = false → tieB p x = true
  yrs : ∃ F, Yrs t p F
end Go.Px

