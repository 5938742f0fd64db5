/- Part 4 of the proof of the statement PersonWho (contracts of the functions that it alone wants). No conditions. -/
import Derived.Test.YtcioapljmakidaaGreatBWho3
namespace Go.Px
open Go.Proofs Go.MapKept
theorem rcan_ev {t : Town} (h : t.OK) {p : List Nat} (hg : Grp t.ms.length p) (bl : List Int) : Ev Tryz.prog 86 [.agg t.enc, ints (natI p), ints bl] (B (canR t (butL bl) p)) := by
  have hm6 := h.ms6
  have hle := hg.le
  have hsm := small_of hm6 hg
  have hpl := hg.len
  have htl : ((t.ties.map Tie.enc).length : Int) = t.ties.length := by simp
  have ht4 := h.ties4
  have hcount := rcount3_ev hsm
  have hC : canR t (butL bl) p = ((List.range (cnt p)).all (fun who => namedR t (ofL p who)) && tiedF t (butL bl) p && (kinB t p && !emptyS (yearsW t p (cnt p)))) := rfl
  refine Ev.intro fn86 ?_
  refine LWp.sx (gs := []) (hs := [.ice]) rfl ⟨⟨rfl, rfl⟩, trivial⟩ ?_
  refine LWp.seq (LWp.seq ?_)
  refine LWp.x (gs := []) (hs := []) rfl trivial ?_
  refine LWp.blockT (fun _ : Unit => (List.range (cnt p)).all (fun who => namedR t (ofL p who)) = true) (fun _ => el [(1, ints (natI p)), (2, ints bl), (3, .pi t.enc)]) (fun _ => []) (fun _ => []) ?_ ?_
  · refine LWp.loopN (fun k : Nat => k ≤ cnt p ∧ ∀ who, who < k → namedR t (ofL p who) = true) (fun k => el [(1, ints (natI p)), (2, ints bl), (3, .pi t.enc), (7, I k)]) (fun _ => []) (fun _ => []) (fun k => cnt p - k) 0 ⟨by omega, by intro w hw; omega⟩ (Ent.el ⟨rfl, rfl, rfl, rfl, trivial⟩) ?_
    rintro k ⟨hk, hp⟩
    refine LWp.seq (LWp.seq ?_)
    refine LWp.x (gs := []) (hs := [.ret (I (cnt p : Nat))]) rfl ⟨hcount, trivial⟩ ?_
    refine LWp.ite rfl (fun hc => ?_) (fun hc => ?_)
    · simp only [decide_eq_true_eq, Int.ofNat_lt] at hc
      have hof := rof_ev (p := p) (by omega) k
      have hna := rnamed_ev h (l := ofL p k) (by
        have : ofL p k = ofK p k t.ms.length := by unfold ofL ofK; rw [hpl]
        rw [this]
        have := ofK_len p k t.ms.length
        omega) (fun i hi => by rw [← hpl]; exact (ofL_mem.1 hi).1)
      refine LWp.skip (LWp.seq (LWp.block ?_))
      refine LWp.sd (gs := []) (hs := [.ret (ints (natI (ofL p k))), .ret (B (namedR t (ofL p k)))]) hmix rfl (by kernel_rfl) ⟨hof, hna, trivial⟩ ?_
      cases hb : namedR t (ofL p k) with
      | false =>
        refine LWp.ite (b := true) rfl (fun _ => ?_) (fun h => by cases h)
        have hF : canR t (butL bl) p = false := by
          rw [hC]
          have : (List.range (cnt p)).all (fun who => namedR t (ofL p who)) = false := by
            rw [List.all_eq_false]
            exact ⟨k, List.mem_range.2 hc, by rw [hb]; decide⟩
          rw [this]; rfl
        rw [hF]
        refine LWp.sx (gs := []) (hs := []) rfl trivial ?_
        refine LWp.ret (retT (.inr rfl) (.one (.tmp ?_ rfl)))
        rfl
      | true =>
        refine LWp.ite (b := false) rfl (fun h => by cases h) (fun _ => LWp.skip ?_)
        refine LWp.x (gs := []) (hs := []) rfl ⟨by omega, trivial⟩ ?_
        refine ⟨k + 1, ⟨hc, fun w hw => ?_⟩, by omega, Ent.el ⟨rfl, rfl, rfl, rfl, trivial⟩⟩
        by_cases e : w = k
        · rw [e]; exact hb
        · exact hp w (by omega)
    · simp only [decide_eq_false_iff_not, Int.ofNat_lt] at hc
      refine LWp.exit ⟨(), ?_, Ent.el ⟨rfl, rfl, rfl, trivial⟩⟩
      rw [List.all_eq_true]
      intro w hw
      exact hp w (by have := List.mem_range.1 hw; omega)
  intro _ hN
  rw [hN, Bool.true_and] at hC
  refine LWp.seq (LWp.seq ?_)
  refine LWp.x (gs := []) (hs := []) rfl trivial ?_
  refine LWp.blockT (fun _ : Unit => tiedF t (butL bl) p = true) (fun _ => el [(1, ints (natI p)), (3, .pi t.enc)]) (fun _ => []) (fun _ => []) ?_ ?_
  · refine LWp.loopN (fun k : Nat => k ≤ t.ties.length ∧ ∀ j, j < k → tieAtB t (butL bl) p j = true) (fun k => el [(1, ints (natI p)), (2, ints bl), (3, .pi t.enc), (8, I k)]) (fun _ => []) (fun _ => []) (fun k => t.ties.length - k) 0 ⟨by omega, by intro w hw; omega⟩ (Ent.el ⟨rfl, rfl, rfl, rfl, trivial⟩) ?_
    rintro k ⟨hk, hp⟩
    refine LWp.seq (LWp.seq ?_)
    refine LWp.x (gs := []) (hs := []) rfl trivial ?_
    refine LWp.ite rfl (fun hc => ?_) (fun hc => ?_)
    · simp only [decide_eq_true_eq] at hc
      have hkl : k < t.ties.length := by omega
      obtain ⟨x, hx⟩ := ex_get hkl
      obtain ⟨a0, a1, b0, b1, _⟩ := h.tie x (List.mem_of_getElem? hx)
      have hti := rtied_ev (p := p) x a0 (by omega) b0 (by omega)
      have hhas := has_ev bl (k : Int)
      have hat := tieAt_some (but := butL bl) (p := p) hx
      have hbk : butL bl k = bl.any (· == (k : Int)) := rfl
      rw [← hbk] at hhas
      refine LWp.skip (LWp.seq (LWp.block ?_))
      refine LWp.cutX (fun _ : Unit => True) (fun _ => el [(1, ints (natI p)), (2, ints bl), (3, .pi t.enc), (8, I k), (41, B (!tieAtB t (butL bl) p k))]) (fun _ => []) (fun _ => []) ?_ ?_
      · rw [hat]
        cases hb : butL bl k with
        | true =>
          rw [hb] at hhas
          refine LWp.x (gs := [(32, false)]) (hs := [.ret (B true)]) rfl (by (repeat' (with_reducible apply And.intro)); (all_goals first | (with_reducible exact trivial) | (with_reducible rfl) | (with_reducible assumption) | ((with_reducible apply isB); first | exact rfl | exact beq_self_eq_true _) | omega | ((first | exact hhas | rfl)))) ?_
          exact ⟨(), trivial, Ent.el ⟨rfl, rfl, rfl, rfl, rfl, trivial⟩⟩
        | false =>
          rw [hb] at hhas
          have hx' : (t.ties.map Tie.enc)[((k : Nat) : Int).toNat]? = some x.enc := by simp [hx]
          refine LWp.x (gs := [(32, true)]) (hs := [.ret (B false), .cells x.enc, .ret (B (tieB p x))]) rfl ⟨hhas, rfl, rfl, rfl, ⟨rfl, by omega, hx'⟩, rfl, rfl, ⟨rfl, hti⟩, rfl, rfl, trivial⟩ ?_
          exact ⟨(), trivial, Ent.el ⟨rfl, rfl, rfl, rfl, rfl, trivial⟩⟩
      intro _ _
      cases hb : tieAtB t (butL bl) p k with
      | false =>
        refine LWp.ite (b := true) rfl (fun _ => ?_) (fun h => by cases h)
        have hF : canR t (butL bl) p = false := by
          rw [hC]
          have : tiedF t (butL bl) p = false := by
            rw [tiedF_all, List.all_eq_false]
            exact ⟨k, List.mem_range.2 hkl, by rw [hb]; decide⟩
          rw [this]; rfl
        rw [hF]
        refine LWp.sx (gs := []) (hs := []) rfl trivial ?_
        refine LWp.ret (retT (.inr rfl) (.one (.tmp ?_ rfl)))
        rfl
      | true =>
        refine LWp.ite (b := false) rfl (fun h => by cases h) (fun _ => LWp.skip ?_)
        refine LWp.x (gs := []) (hs := []) rfl ⟨by omega, trivial⟩ ?_
        refine ⟨k + 1, ⟨hkl, fun w hw => ?_⟩, by omega, Ent.el ⟨rfl, rfl, rfl, rfl, trivial⟩⟩
        by_cases e : w = k
        · rw [e]; exact hb
        · exact hp w (by omega)
    · simp only [decide_eq_false_iff_not] at hc
      refine LWp.exit ⟨(), ?_, Ent.el ⟨rfl, rfl, trivial⟩⟩
      rw [tiedF_all, List.all_eq_true]
      intro w hw
      exact hp w (by have := List.mem_range.1 hw; omega)
  intro _ hT
  rw [hT, Bool.true_and] at hC
  rw [hC]
  have hki := rkin_ev h hpl
  cases hb : kinB t p with
  | false =>
    rw [hb] at hki
    refine LWp.sx (gs := [(45, false)]) (hs := [.ret (B false)]) rfl (by (repeat' (with_reducible apply And.intro)); (all_goals first | (with_reducible exact trivial) | (with_reducible rfl) | (with_reducible assumption) | ((with_reducible apply isB); first | exact rfl | exact beq_self_eq_true _) | omega | ((first | exact hki | rfl)))) ?_
    refine LWp.ret (retT (.inr rfl) (.one (.tmp ?_ rfl)))
    rfl
  | true =>
    rw [hb] at hki
    have hk1 : Kin1 t p := fun i hi hpi => (kinB_iff.1 hb i hi hpi).1
    have hye := ryears_ev h hg hk1
    have hlen : (yearsW t p (cnt p)).length = cnt p := by
      have := (yearsW_sub h hg hk1 (Nat.le_refl (cnt p))).1
      rw [this, born0_len]
    have hem := rempty_ev (yearsW t p (cnt p)) (by omega)
    refine LWp.sx (gs := [(45, true)]) (hs := [.ret (B true), .ret (spans (yearsW t p (cnt p))), .ret (B (emptyS (yearsW t p (cnt p))))]) rfl ⟨hki, rfl, rfl, ⟨rfl, hye⟩, ⟨rfl, hem⟩, rfl, rfl, trivial⟩ ?_
    refine LWp.ret (retT (.inr rfl) (.one (.tmp ?_ rfl)))
    rfl
theorem rtruths_ev {t : Town} (h : t.OK) (bl : List Int) : Ev Tryz.prog 42 [.agg t.enc, ints bl] (lists (truthsL t (butL bl))) := by
  have hm6 := h.ms6
  have hml : ((t.ms.map Men.enc).length : Int) = t.ms.length := by simp
  have hgr := groups_ev t.ms.length hm6
  have hgl := groups_len hm6
  have hgm : ∀ p ∈ groupsN t.ms.length, Grp t.ms.length p := fun p hp => groups_grp hp
  have hT : truthsL t (butL bl) = (groupsN t.ms.length).filter (canR t (butL bl)) := rfl
  rw [hT]
  generalize groupsN t.ms.length = G at hgr hgl hgm
  refine Ev.freeze (T := 34) ?_
  refine Ev.intro fn42 ?_
  refine LWp.sx (gs := []) (hs := [.ice]) rfl ⟨⟨rfl, rfl⟩, trivial⟩ ?_
  refine LWp.sx (gs := []) (hs := [.ret (lists G)]) rfl ⟨by rw [hml]; exact hgr, trivial⟩ ?_
  refine LWp.sx (gs := []) (hs := []) rfl trivial ?_
  refine LWp.ent (Ent.nilLin (t := 6) 34 1 rfl) ?_
  have hGl : ((G.map fun c => [ints (natI c)]).length : Int) = G.length := by simp
  refine LWp.seq (LWp.seq ?_)
  refine LWp.x (gs := []) (hs := []) rfl trivial ?_
  refine LWp.blockT (fun _ : Unit => True) (fun _ => el [(6, .lin 34 1 ((G.filter (canR t (butL bl))).map fun c => [ints (natI c)]))]) (fun _ => []) (fun _ => []) ?_ ?_
  · refine LWp.loopN (fun k : Nat => k ≤ G.length) (fun k => el [(1, ints bl), (2, .pi t.enc), (5, lists G), (6, .lin 34 1 (((G.take k).filter (canR t (butL bl))).map fun c => [ints (natI c)])), (7, I k)]) (fun _ => []) (fun _ => []) (fun k => G.length - k) 0 (by omega) (Ent.el ⟨rfl, rfl, rfl, rfl, rfl, trivial⟩) ?_
    intro k hk
    refine LWp.seq (LWp.seq ?_)
    refine LWp.x (gs := []) (hs := []) rfl trivial ?_
    refine LWp.ite rfl (fun hc => ?_) (fun hc => ?_)
    · simp only [decide_eq_true_eq] at hc
      have hkl : k < G.length := by omega
      obtain ⟨p, hp⟩ := ex_get hkl
      have hcan := rcan_ev h (hgm p (List.mem_of_getElem? hp)) bl
      have htk : (G.take (k + 1)).filter (canR t (butL bl)) = (G.take k).filter (canR t (butL bl)) ++ (if canR t (butL bl) p = true then [p] else []) := by
        rw [List.take_add_one, hp, List.filter_append]
        congr 1
        show List.filter _ [p] = _
        simp only [List.filter_cons, List.filter_nil]
      have hle := List.length_filter_le (canR t (butL bl)) (G.take k)
      rw [List.length_take] at hle
      refine LWp.skip (LWp.seq (LWp.block ?_))
      refine LWp.sd (gs := []) (hs := [.cells [ints (natI p)], .ret (B (canR t (butL bl) p))]) hmix rfl (by kernel_rfl) ⟨⟨by omega, by simp [hp]⟩, hcan, trivial⟩ ?_
      refine LWp.ite (b := canR t (butL bl) p) rfl (fun hb => ?_) (fun hb => LWp.skip ?_)
      · rw [if_pos hb] at htk
        refine LWp.x (gs := []) (hs := [.cells [ints (natI p)], .ice]) rfl ⟨⟨by omega, by simp [hp]⟩, rfl, ⟨by simp only [List.length_map, chunk, List.length_cons, List.length_nil]; omega, by simp only [List.length_map, chunk, List.length_cons, List.length_nil]; omega⟩, trivial⟩ ?_
        refine LWp.x (gs := []) (hs := []) rfl ⟨by omega, trivial⟩ ?_
        refine ⟨k + 1, by omega, by omega, Ent.el ⟨rfl, rfl, rfl, ?_, rfl, trivial⟩⟩
        show AV.lin _ 1 _ = AV.lin _ 1 _
        rw [htk, List.map_append]; rfl
      · rw [if_neg (by rw [hb]; decide), List.append_nil] at htk
        refine LWp.x (gs := []) (hs := []) rfl ⟨by omega, trivial⟩ ?_
        exact ⟨k + 1, by omega, by omega, Ent.el ⟨rfl, rfl, rfl, by rw [htk]; rfl, rfl, trivial⟩⟩
    · simp only [decide_eq_false_iff_not] at hc
      refine LWp.exit ⟨(), trivial, Ent.el ⟨?_, trivial⟩⟩
      rw [List.take_of_length_le (by omega)]; rfl
  · intro _ _
    refine LWp.sx (gs := []) (hs := []) rfl trivial ?_
    exact LWp.ret (retT (.inr rfl) (.lin rfl rfl))
end Go.Px

namespace Go.Px
open Go.Proofs Go.MapKept
theorem alike_shared {t : Town} (h : t.OK) {a b : Nat} (ha : a < t.ms.length) (hb : b < t.ms.length) : alikeS t.ear (2 ^ (t.m a).sp.toNat ||| 2 ^ (t.m b).sp.toNat) = sharedG t.ear [(t.m a).sp, (t.m b).sp] := by
  rw [Bool.eq_iff_iff, alike_pair h ha hb, sharedG_iff h.ear h.wf (by simp)]
  refine exists_congr fun g => ?_
  simp
theorem keeps_ev {t : Town} (h : t.OK) {a b : Nat} (ha : a < t.ms.length) (hb : b < t.ms.length) : Ev Tryz.prog 47 [.agg t.enc, I (a : Nat), I (b : Nat)] (I (whyF t a b)) := by
  obtain ⟨x, hx⟩ := ex_get ha
  obtain ⟨y, hy⟩ := ex_get hb
  have ox := h.men a x hx
  have oy := h.men b y hy
  have hlh := ox.lh
  have hlh2 := oy.lh
  have hss := h.ear.ss5
  have hW : whyF t a b = if sharedG t.ear [x.sp, y.sp] = false then 1 else if x.v ≠ y.v ∧ x.v ≠ -1 ∧ y.v ≠ -1 then 2 else if max x.lo y.lo > min x.hi y.hi then 3 else if x.par = b ∨ y.par = a then 4 else 0 := by
    unfold whyF
    rw [alike_shared h ha hb, Town.m_get hx, Town.m_get hy]
  have hsh := shared_ev h.ear [x.sp, y.sp] (by
    intro j hj
    simp only [List.mem_cons, List.not_mem_nil, or_false] at hj
    rcases hj with rfl | rfl
    · exact ⟨ox.sp0, ox.sp1⟩
    · exact ⟨oy.sp0, oy.sp1⟩)
  have hle := least_ev (markL (shP t.ear [x.sp, y.sp]))
  have hG : sharedG t.ear [x.sp, y.sp] = decide (0 ≤ idxF id (markL (shP t.ear [x.sp, y.sp])) 0) := rfl
  rw [hG] at hW
  generalize markL (shP t.ear [x.sp, y.sp]) = M at hsh hle hW
  refine Ev.intro fn47 ?_
  refine LWp.sx (gs := []) (hs := [.ice]) rfl ⟨⟨rfl, rfl⟩, trivial⟩ ?_
  refine LWp.sd (gs := []) (hs := [.cells x.enc, .cells y.enc, .lin, .lin]) hmix rfl (by kernel_rfl) ⟨⟨by omega, by simp [hx]⟩, ⟨by omega, by simp [hy]⟩, rfl, rfl, ⟨rfl, rfl, rfl, Nat.le_refl 5⟩, ⟨rfl, rfl, rfl, Nat.le_refl 5⟩, trivial⟩ ?_
  refine LWp.ent (Ent.trans (Ent.freezeLbox (t := 7) rfl) (Ent.freezeLbox (t := 8) rfl)) ?_
  refine LWp.ent (Ent.el (l := [(1, I (a : Nat)), (2, I (b : Nat)), (3, .pi t.enc), (7, .pi x.enc), (8, .pi y.enc)]) ⟨rfl, rfl, rfl, rfl, rfl, trivial⟩) ?_
  refine LWp.seqBlock ?_
  refine LWp.sx (gs := []) (hs := [.ice, .ret (bools M), .ret (I (idxF id M 0))]) rfl ⟨rfl, hsh, hle, trivial⟩ ?_
  by_cases c1 : idxF id M 0 < 0
  · rw [if_pos (by rw [decide_eq_false_iff_not]; omega)] at hW
    rw [hW]
    refine LWp.ite (b := true) (by show B _ = B _; exact congrArg B (decide_eq_true c1)) (fun _ => ?_) (fun h => by cases h)
    refine LWp.sx (gs := []) (hs := []) rfl trivial ?_
    refine LWp.ret (retT (.inr rfl) (.one (.tmp ?_ rfl)))
    rfl
  rw [if_neg (by rw [decide_eq_false_iff_not]; omega)] at hW
  refine LWp.ite (b := false) (by show B _ = B _; exact congrArg B (decide_eq_false c1)) (fun h => by cases h) (fun _ => ?_)
  refine LWp.cutX (fun _ : Unit => True) (fun _ => el [(1, I (a : Nat)), (2, I (b : Nat)), (7, .pi x.enc), (8, .pi y.enc), (30, B (decide (x.v ≠ y.v ∧ x.v ≠ -1 ∧ y.v ≠ -1)))]) (fun _ => []) (fun _ => []) ?_ ?_
  · by_cases g1 : x.v = -1
    · have z1 : (x.v != -1) = false := by rw [g1]; rfl
      refine LWp.x (gs := [(34, false), (39, false)]) (hs := []) rfl (by (repeat' (with_reducible apply And.intro)); (all_goals first | (with_reducible exact trivial) | (with_reducible rfl) | (with_reducible assumption) | ((with_reducible apply isB); first | exact rfl | exact beq_self_eq_true _) | omega | ((rfl)))) ?_
      exact ⟨(), trivial, Ent.el ⟨rfl, rfl, rfl, rfl, by show B false = B _; simp [g1], trivial⟩⟩
    · have z1 : (x.v != -1) = true := by rw [bne_iff_ne]; exact g1
      by_cases g2 : y.v = -1
      · have z2 : (y.v != -1) = false := by rw [g2]; rfl
        refine LWp.x (gs := [(34, true), (39, false)]) (hs := []) rfl (by (repeat' (with_reducible apply And.intro)); (all_goals first | (with_reducible exact trivial) | (with_reducible rfl) | (with_reducible assumption) | ((with_reducible apply isB); first | exact rfl | exact beq_self_eq_true _) | omega | ((rfl)))) ?_
        exact ⟨(), trivial, Ent.el ⟨rfl, rfl, rfl, rfl, by show B false = B _; simp [g2], trivial⟩⟩
      · have z2 : (y.v != -1) = true := by rw [bne_iff_ne]; exact g2
        refine LWp.x (gs := [(34, true), (39, true)]) (hs := []) rfl (by (repeat' (with_reducible apply And.intro)); (all_goals first | (with_reducible exact trivial) | (with_reducible rfl) | (with_reducible assumption) | ((with_reducible apply isB); first | exact rfl | exact beq_self_eq_true _) | omega | ((rfl)))) ?_
        refine ⟨(), trivial, Ent.el ⟨rfl, rfl, rfl, rfl, ?_, trivial⟩⟩
        show B (x.v != y.v) = B _
        refine congrArg B ?_
        rw [Bool.eq_iff_iff, bne_iff_ne, decide_eq_true_iff]
        exact ⟨fun h => ⟨h, g1, g2⟩, fun h => h.1⟩
  intro _ _
  refine LWp.ite rfl (fun hc => ?_) (fun hc => ?_)
  · rw [if_pos (of_decide_eq_true hc)] at hW
    rw [hW]
    refine LWp.sx (gs := []) (hs := []) rfl trivial ?_
    refine LWp.ret (retT (.inr rfl) (.one (.tmp ?_ rfl)))
    rfl
  rw [if_neg (of_decide_eq_false hc)] at hW
  refine LWp.cutX (fun _ : Unit => True) (fun _ => el [(1, I (a : Nat)), (2, I (b : Nat)), (7, .pi x.enc), (8, .pi y.enc), (46, B (decide (max x.lo y.lo > min x.hi y.hi)))]) (fun _ => []) (fun _ => []) ?_ ?_
  · by_cases g1 : x.lo > y.hi
    · have z1 : decide (x.lo > y.hi) = true := decide_eq_true g1
      refine LWp.x (gs := [(54, true)]) (hs := []) rfl (by (repeat' (with_reducible apply And.intro)); (all_goals first | (with_reducible exact trivial) | (with_reducible rfl) | (with_reducible assumption) | ((with_reducible apply isB); first | exact rfl | exact beq_self_eq_true _) | omega | ((rfl)))) ?_
      refine ⟨(), trivial, Ent.el ⟨rfl, rfl, rfl, rfl, ?_, trivial⟩⟩
      show B true = B _
      exact congrArg B (decide_eq_true (by omega)).symm
    · have z1 : decide (x.lo > y.hi) = false := decide_eq_false g1
      refine LWp.x (gs := [(54, false)]) (hs := []) rfl (by (repeat' (with_reducible apply And.intro)); (all_goals first | (with_reducible exact trivial) | (with_reducible rfl) | (with_reducible assumption) | ((with_reducible apply isB); first | exact rfl | exact beq_self_eq_true _) | omega | ((rfl)))) ?_
      refine ⟨(), trivial, Ent.el ⟨rfl, rfl, rfl, rfl, ?_, trivial⟩⟩
      show B (decide (y.lo > x.hi)) = B _
      refine congrArg B ?_
      rw [Bool.eq_iff_iff, decide_eq_true_iff, decide_eq_true_iff]
      omega
  intro _ _
  refine LWp.ite rfl (fun hc => ?_) (fun hc => ?_)
  · rw [if_pos (of_decide_eq_true hc)] at hW
    rw [hW]
    refine LWp.sx (gs := []) (hs := []) rfl trivial ?_
    refine LWp.ret (retT (.inr rfl) (.one (.tmp ?_ rfl)))
    rfl
  rw [if_neg (of_decide_eq_false hc)] at hW
  refine LWp.cutX (fun _ : Unit => True) (fun _ => el [(63, B (decide (x.par = b ∨ y.par = a)))]) (fun _ => []) (fun _ => []) ?_ ?_
  · by_cases g1 : x.par = b
    · have z1 : (x.par == (b : Int)) = true := by rw [beq_iff_eq]; exact g1
      refine LWp.x (gs := [(68, true)]) (hs := []) rfl (by (repeat' (with_reducible apply And.intro)); (all_goals first | (with_reducible exact trivial) | (with_reducible rfl) | (with_reducible assumption) | ((with_reducible apply isB); first | exact rfl | exact beq_self_eq_true _) | omega | ((rfl)))) ?_
      exact ⟨(), trivial, Ent.el ⟨by show B true = B _; simp [g1], trivial⟩⟩
    · have z1 : (x.par == (b : Int)) = false := by rw [beq_eq_false_iff_ne]; exact g1
      refine LWp.x (gs := [(68, false)]) (hs := []) rfl (by (repeat' (with_reducible apply And.intro)); (all_goals first | (with_reducible exact trivial) | (with_reducible rfl) | (with_reducible assumption) | ((with_reducible apply isB); first | exact rfl | exact beq_self_eq_true _) | omega | ((rfl)))) ?_
      refine ⟨(), trivial, Ent.el ⟨?_, trivial⟩⟩
      show B (y.par == (a : Int)) = B _
      refine congrArg B ?_
      rw [Bool.eq_iff_iff, beq_iff_eq, decide_eq_true_iff]
      exact ⟨fun h => .inr h, fun h => h.elim (fun h => absurd h g1) id⟩
  intro _ _
  refine LWp.ite rfl (fun hc => ?_) (fun hc => LWp.skip ?_)
  · rw [if_pos (of_decide_eq_true hc)] at hW
    rw [hW]
    refine LWp.sx (gs := []) (hs := []) rfl trivial ?_
    refine LWp.ret (retT (.inr rfl) (.one (.tmp ?_ rfl)))
    rfl
  · rw [if_neg (of_decide_eq_false hc)] at hW
    rw [hW]
    refine LWp.sx (gs := []) (hs := []) rfl trivial ?_
    refine LWp.ret (retT (.inr rfl) (.one (.tmp ?_ rfl)))
    rfl
theorem with_ev (t : Town) (x : Men) (hl : t.ms.length ≤ 1000) : Ev Tryz.prog 39 [.agg t.enc, .agg x.enc] (.agg (withT t x).enc) := by
  have hwenc : (withT t x).enc = t.ear.enc ++ [I t.vil, .sl 5 (t.ms.map Men.enc ++ [x.enc]), tiesV t.ties] := by
    simp only [withT, Town.enc, mensV, List.map_append, List.map_cons, List.map_nil]
  have hml : (t.ms.map Men.enc).length = t.ms.length := List.length_map _
  refine Ev.intro fn39 ?_
  refine LWp.sx (gs := []) (hs := [.lin, .ice, .lin]) rfl ⟨⟨rfl, rfl⟩, ⟨rfl, rfl⟩, rfl, trivial⟩ ?_
  refine LWp.shareB (t := 2) rfl fun b2 => ?_
  refine LWp.ent (Ent.ofH (H' := [(b2, .cells 29 t.enc)]) rfl) ?_
  refine LWp.seq (LWp.d (gs := []) (hs := [.lin, .at 0, .ice]) hmix rfl (by kernel_rfl) ⟨rfl, rfl, ⟨by simp only [hml, chunk, List.length_nil]; omega, by simp only [hml, chunk, List.length_nil]; omega⟩, rfl, ⟨by simp only [List.length_append, hml, chunk, List.length_cons, List.length_nil]; omega, by simp only [List.length_append, hml, chunk, List.length_cons, List.length_nil]; omega⟩, trivial⟩ ?_)
  refine WOps.ent (Ent.freezeLin (t := 11) rfl) ?_
  refine WOps.hd (gs := []) (hs := [.stO 0]) rfl ⟨⟨rfl, rfl, rfl, rfl, (show 5 ≤ 6 by omega)⟩, trivial⟩ ?_
  refine LWp.ent (Ent.ofH (H' := [(b2, .cells 29 (withT t x).enc)]) (by rw [hwenc]; rfl)) ?_
  refine LWp.shx (gs := []) (hs := [.at 0]) rfl ⟨rfl, ⟨rfl, rfl, rfl, Nat.le_refl 6⟩, trivial⟩ ?_
  refine LWp.ent (Ent.freezeLbox (t := 4) rfl) (LWp.ret ⟨.inr rfl, _, rfl, .one (.cellI (n := some 6) (cs := (withT t x).enc) (upd_same _ _ _) (by kernel_rfl) rfl)⟩)
end Go.Px

namespace Go.Px
open Go.Proofs Go.MapKept
theorem whoI_bit (p : List Nat) (n s b : Nat) : ∀ k, (whoI p n s k).testBit b = true ↔ s.testBit b = true ∨ (b < k ∧ per p b = per p n)
  | 0 => by
    show s.testBit b = true ↔ _
    constructor
    · exact .inl
    · rintro (h | h)
      · exact h
      · omega
  | k + 1 => by
    rw [whoI_succ]
    have ih := whoI_bit p n s b k
    by_cases e : per p k = per p n
    · rw [if_pos e, Nat.testBit_or, Bool.or_eq_true, ih, Nat.testBit_two_pow, decide_eq_true_iff]
      constructor
      · rintro ((h | h) | h)
        · exact .inl h
        · exact .inr ⟨by omega, h.2⟩
        · exact .inr ⟨by omega, by rw [← h]; exact e⟩
      · rintro (h | ⟨h1, h2⟩)
        · exact .inl (.inl h)
        · by_cases hb : b = k
          · exact .inr hb.symm
          · exact .inl (.inr ⟨by omega, h2⟩)
    · rw [if_neg e, ih]
      constructor
      · rintro (h | h)
        · exact .inl h
        · exact .inr ⟨by omega, h.2⟩
      · rintro (h | ⟨h1, h2⟩)
        · exact .inl h
        · by_cases hb : b = k
          · rw [hb] at h2; exact absurd h2 e
          · exact .inr ⟨by omega, h2⟩
theorem whoSet_bit (n b : Nat) (L : List (List Nat)) : (whoSet n L).testBit b = true ↔ ∃ p ∈ L, b < n ∧ per p b = per p n := by
  have key : ∀ (L : List (List Nat)) (s : Nat), (L.foldl (fun s p => whoI p n s n) s).testBit b = true ↔ s.testBit b = true ∨ ∃ p ∈ L, b < n ∧ per p b = per p n := by
    intro L
    induction L with
    | nil => intro s; simp
    | cons p L ih =>
      intro s
      rw [List.foldl_cons, ih, whoI_bit]
      simp only [List.mem_cons, exists_eq_or_imp, or_assoc]
  unfold whoSet
  rw [key]
  simp
def whoL (n : Nat) (L : List (List Nat)) : List Nat := (List.range n).filter fun m => L.any fun p => per p m == per p n
theorem whoSet_L (n : Nat) (L : List (List Nat)) : numsF (whoSet n L : Nat) n = natI (whoL n L) := by
  refine numsF_eq (p := fun m => L.any fun p => per p m == per p n) fun k hk => ?_
  rw [Bool.eq_iff_iff, whoSet_bit, List.any_eq_true]
  refine exists_congr fun p => and_congr_right fun _ => ?_
  rw [beq_iff_eq]
  exact ⟨fun h => h.2, fun h => ⟨hk, h⟩⟩
end Go.Px

namespace Go.Px
open Go.Proofs Go.MapKept
theorem tru_iff {t : Town} {but : Nat → Bool} {p : List Nat} : p ∈ truthsL t but ↔ p ∈ groupsN t.ms.length ∧ Tru t but p := by
  unfold truthsL
  rw [List.mem_filter]
  refine and_congr_right fun hp => ?_
  unfold canR
  simp only [Bool.and_eq_true, List.all_eq_true, List.mem_range, Bool.not_eq_true']
  exact ⟨fun h => ⟨groups_grp hp, h.2.1, h.2.2, h.1.2, h.1.1⟩, fun h => ⟨⟨h.named, h.tied⟩, h.kin, h.yrs⟩⟩
theorem Tru.kin1 {t : Town} {but : Nat → Bool} {p : List Nat} (h : Tru t but p) : Kin1 t p := fun i hi hpi => (kinB_iff.1 h.kin i hi hpi).1
theorem Tru.year {t : Town} (hO : t.OK) {but : Nat → Bool} {p : List Nat} (h : Tru t but p) {w : Nat} (hw : w < cnt p) :
    (bornAt t p t.ms.length w).1 ≤ (spAt (yearsW t p (cnt p)) w).1 ∧ (spAt (yearsW t p (cnt p)) w).1 ≤ (spAt (yearsW t p (cnt p)) w).2 ∧ (spAt (yearsW t p (cnt p)) w).2 ≤ (bornAt t p t.ms.length w).2 := by
  have hs := yearsW_sub hO h.grp h.kin1 (Nat.le_refl (cnt p))
  have hl : (yearsW t p (cnt p)).length = cnt p := by rw [hs.1, born0_len]
  have hn := not_empty_at h.yrs (k := w) (by omega)
  have h2 := hs.2 w
  rw [born0_get t p hw] at h2
  exact ⟨h2.1, hn, h2.2⟩
end Go.Px

namespace Go.Px
open Go.Proofs
open Go.ChangeShapes Go.WideShapes Go.ChangeAt Go.RowKit
theorem fits_men1 (a : AV) (h : FitA menSh a) : ∃ x : Men, x.wf ∧ a = .agg x.enc := by
  simp only [menSh, FitA] at h
  obtain ⟨l, rfl, h1⟩ := h
  obtain ⟨x, hx, e⟩ := fits_men l (by simp only [menSh, Fits.eq_6]; exact h1)
  exact ⟨x, hx, by rw [e]⟩
theorem fits_u8 (a : AV) (h : FitA (.int .u8) a) : ∃ i : Int, 0 ≤ i ∧ i ≤ 255 ∧ a = U i := by
  simp only [FitA, Fits] at h
  obtain ⟨n, h, hn⟩ := h
  simp only [List.cons.injEq, and_true] at h
  have := bounds_u8 hn
  exact ⟨n, by omega, by omega, h⟩
end Go.Px

namespace Go.Px
open Go.Proofs Go.MapKept
theorem yrRound_none : ∀ (ks : List (Nat × Nat)) (b : List Sp) (m : Bool), (∀ k ∈ ks, k.1 < b.length ∧ k.2 < b.length) → (yrRound ks (b, m)).2 = false → m = false ∧ ∀ k ∈ ks, yrMore b k.1 k.2 = false
  | [], b, m, _, h => ⟨h, fun k hk => by cases hk⟩
  | (a, c) :: ks, b, m, h, e => by
    obtain ⟨ha, hc⟩ := h (a, c) (by simp)
    simp only [yrRound] at e
    obtain ⟨i1, i2⟩ := yrRound_none ks (yrStep b a c) (m || yrMore b a c) (fun k hk => by rw [yrStep_len]; exact h k (by simp [hk])) e
    rw [Bool.or_eq_false_iff] at i1
    rw [(yrStep_sub ha hc).2 i1.2] at i2
    refine ⟨i1.1, fun k hk => ?_⟩
    rcases List.mem_cons.1 hk with rfl | hk
    · exact i1.2
    · exact i2 k hk
theorem yearsB_fix {ks : List (Nat × Nat)} : ∀ (n : Nat) (b : List Sp), width b < n → (∀ k ∈ ks, k.1 < b.length ∧ k.2 < b.length ∧ k.1 ≠ k.2) → emptyS (yearsB ks b) = false → ∀ k ∈ ks, yrMore (yearsB ks b) k.1 k.2 = false
  | 0, _, h, _, _ => by omega
  | n + 1, b, hn, hk, he => by
    have hk2 : ∀ k ∈ ks, k.1 < b.length ∧ k.2 < b.length := fun k h => ⟨(hk k h).1, (hk k h).2.1⟩
    cases hb : emptyS b with
    | true => rw [yearsB_empty hb, hb] at he; cases he
    | false =>
      cases hm : (yrRound ks (b, false)).2 with
      | false =>
        rw [yearsB_done hb hm, ((yrRound_sub ks b false hk2).2 hm).1]
        exact (yrRound_none ks b false hk2 hm).2
      | true =>
        rw [yearsB_more hk hb hm] at he ⊢
        cases hr : emptyS (yrRound ks (b, false)).1 with
        | true => rw [yearsB_empty hr, hr] at he; cases he
        | false =>
          have := width_round hk hm hr
          exact yearsB_fix n _ (by omega) (fun k h => by rw [yrRound_len]; exact hk k h) he
theorem yrMore_iff {b : List Sp} {a c : Nat} : yrMore b a c = false ↔ older (spAt b a) (spAt b c) = spAt b a ∧ younger (spAt b a) (spAt b c) = spAt b c := by
  unfold yrMore
  rw [Bool.or_eq_false_iff, decide_eq_false_iff_not, decide_eq_false_iff_not, Classical.not_not, Classical.not_not]
theorem yrMore_bd {b : List Sp} {a c : Nat} : yrMore b a c = false ↔ (spAt b c).1 - 60 ≤ (spAt b a).1 ∧ (spAt b a).2 ≤ (spAt b c).2 - 15 ∧ (spAt b a).1 + 15 ≤ (spAt b c).1 ∧ (spAt b c).2 ≤ (spAt b a).2 + 60 := by
  rw [yrMore_iff, Prod.ext_iff, Prod.ext_iff]
  simp only [older, younger]
  omega
theorem yrStep_keep {F b : List Sp} (h : SubB F b) {a c : Nat} (ha : a < b.length) (hc : c < b.length) (hm : yrMore F a c = false) : SubB F (yrStep b a c) := by
  rw [yrMore_bd] at hm
  refine ⟨by rw [yrStep_len]; exact h.1, fun k => ?_⟩
  unfold yrStep
  rw [spAt_set _ _ _ _ (by simpa using hc), spAt_set _ _ _ _ ha]
  have h1 := h.2 a
  have h2 := h.2 c
  have h3 := h.2 k
  simp only [SubS1] at h1 h2 h3 ⊢
  by_cases e1 : c = k
  · rw [if_pos e1]
    subst e1
    simp only [younger]
    omega
  · rw [if_neg e1]
    by_cases e2 : a = k
    · rw [if_pos e2]
      subst e2
      simp only [older]
      omega
    · rw [if_neg e2]; exact h3
theorem yrRound_keep {F : List Sp} : ∀ (ks : List (Nat × Nat)) (b : List Sp) (m : Bool), SubB F b → (∀ k ∈ ks, k.1 < b.length ∧ k.2 < b.length ∧ yrMore F k.1 k.2 = false) → SubB F (yrRound ks (b, m)).1
  | [], b, m, h, _ => h
  | (a, c) :: ks, b, m, h, g => by
    obtain ⟨ha, hc, hm⟩ := g (a, c) (by simp)
    simp only [yrRound]
    exact yrRound_keep ks _ _ (yrStep_keep h ha hc hm) (fun k hk => by rw [yrStep_len]; exact g k (by simp [hk]))
theorem yrLoop_keep {F : List Sp} {ks : List (Nat × Nat)} : ∀ (f : Nat) (b : List Sp), SubB F b → (∀ k ∈ ks, k.1 < b.length ∧ k.2 < b.length ∧ yrMore F k.1 k.2 = false) → SubB F (yrLoop ks f b)
  | 0, b, h, _ => h
  | f + 1, b, h, g => by
    simp only [yrLoop]
    have h2 := yrRound_keep ks b false h g
    split
    · exact h
    · split
      · exact yrLoop_keep f _ h2 (fun k hk => by rw [yrRound_len]; exact g k hk)
      · exact h2
structure Yrs (t : Town) (p : List Nat) (F : Nat → Sp) : Prop where
  ne : ∀ w, w < cnt p → (F w).1 ≤ (F w).2
  sub : ∀ i, i < t.ms.length → (t.m i).lo ≤ (F (per p i)).1 ∧ (F (per p i)).2 ≤ (t.m i).hi
  fix : ∀ i, i < t.ms.length → (t.m i).par ≠ -1 → (F (per p i)).1 - 60 ≤ (F (per p (t.m i).par.toNat)).1 ∧ (F (per p (t.m i).par.toNat)).2 ≤ (F (per p i)).2 - 15 ∧ (F (per p (t.m i).par.toNat)).1 + 15 ≤ (F (per p i)).1 ∧ (F (per p i)).2 ≤ (F (per p (t.m i).par.toNat)).2 + 60
structure Fine (t : Town) (but : Nat → Bool) (p : List Nat) : Prop where
  kin : ∀ i, i < t.ms.length → (t.m i).par ≠ -1 → per p (t.m i).par.toNat ≠ per p i ∧ ∀ k, k < t.ms.length → (t.m k).par ≠ -1 → per p k = per p i → per p (t.m i).par.toNat = per p (t.m k).par.toNat
  snd : ∀ w, w < cnt p → Sounds t p w
  vil : ∀ i, i < t.ms.length → ∀ j, j < t.ms.length → per p i = per p j → Vil (t.m i).v (t.m j).v
  tie : ∀ i x, t.ties[i]? = some x → but i = false → tieB p x = true
  yrs : ∃ F, Yrs t p F
theorem tied_iff {t : Town} {but : Nat → Bool} {p : List Nat} : tiedF t but p = true ↔ ∀ i x, t.ties[i]? = some x → but i = false → tieB p x = true := by
  unfold tiedF
  rw [List.all_eq_true]
  constructor
  · intro h i x hx hb
    have := h i (List.mem_range.2 (List.getElem?_eq_some_iff.1 hx).1)
    rw [hx, hb] at this
    simpa using this
  · intro h i hi
    obtain ⟨x, hx⟩ := ex_get (List.mem_range.1 hi)
    rw [hx]
    cases hb : but i with
    | true => rfl
    | false => simpa using h i x hx hb
theorem m_some {t : Town} {i : Nat} (hi : i < t.ms.length) : t.ms[i]? = some (t.m i) := by
  obtain ⟨x, hx⟩ := ex_get hi
  rw [Town.m_get hx, hx]
theorem kid_mem {t : Town} {p : List Nat} {i : Nat} (hi : i < t.ms.length) (hp : (t.m i).par ≠ -1) : (per p (t.m i).par.toNat, per p i) ∈ kids t.ms p := kids_mem.2 ⟨i, t.m i, m_some hi, hp, rfl, rfl⟩
theorem tru_fix {t : Town} (hO : t.OK) {but : Nat → Bool} {p : List Nat} (h : Tru t but p) {i : Nat} (hi : i < t.ms.length) (hp : (t.m i).par ≠ -1) : yrMore (yearsW t p (cnt p)) (per p (t.m i).par.toNat) (per p i) = false := by
  have hk := kids_ok hO h.grp h.kin1 (Nat.le_refl (cnt p))
  have hy := h.yrs
  have hm := kid_mem (p := p) hi hp
  generalize per p (t.m i).par.toNat = a at hm ⊢
  generalize per p i = c at hm ⊢
  have e : yearsW t p (cnt p) = yearsB (kids t.ms p) (born0 t p (cnt p)) := rfl
  rw [e] at hy ⊢
  exact yearsB_fix _ _ (Nat.lt_succ_self _) hk hy (a, c) hm
theorem tru_yrs {t : Town} (hO : t.OK) {but : Nat → Bool} {p : List Nat} (h : Tru t but p) : Yrs t p (fun w => spAt (yearsW t p (cnt p)) w) := by
  have h1 := fun w (hw : w < cnt p) => h.year hO hw
  have h2 := fun i hi hp => tru_fix hO h (i := i) hi hp
  generalize yearsW t p (cnt p) = y at h1 h2
  refine ⟨fun w hw => (h1 w hw).2.1, fun i hi => ?_, fun i hi hp => yrMore_bd.1 (h2 i hi hp)⟩
  have h3 := bornAt_le t p (per p i) t.ms.length i hi rfl
  have h4 := h1 _ (h.grp.lt i hi)
  exact ⟨Int.le_trans h3.1 h4.1, Int.le_trans h4.2.2 h3.2⟩
theorem tru_fine {t : Town} (hO : t.OK) {but : Nat → Bool} {p : List Nat} (h : Tru t but p) : Fine t but p where
  kin := by
    intro i hi hp
    obtain ⟨h1, h2⟩ := kinB_iff.1 h.kin i hi hp
    refine ⟨h1, fun k hk hpk e => ?_⟩
    by_cases c : k < i
    · exact h2 k c hpk e
    · by_cases c2 : k = i
      · rw [c2]
      · exact ((kinB_iff.1 h.kin k hk hpk).2 i (by omega) hp e.symm).symm
  snd := fun w hw => ((namedR_iff hO h.grp.len (h.grp.on w hw)).1 (h.named w hw)).1
  vil := fun i hi j hj e => ((namedR_iff hO h.grp.len ⟨i, hi, rfl⟩).1 (h.named (per p i) (h.grp.lt i hi))).2 i hi rfl j hj e.symm
  tie := tied_iff.1 h.tied
  yrs := ⟨_, tru_yrs hO h⟩
def spL (n : Nat) (F : Nat → Sp) : List Sp := (List.range n).map F
theorem spL_at (n : Nat) (F : Nat → Sp) {k : Nat} (h : k < n) : spAt (spL n F) k = F k := by
  unfold spAt spL
  rw [List.getElem?_map, List.getElem?_range h]; rfl
theorem spL_len (n : Nat) (F : Nat → Sp) : (spL n F).length = n := by simp [spL]
theorem yrs_in_born {t : Town} {p : List Nat} {F : Nat → Sp} {w : Nat} (h0 : 0 ≤ (F w).1) (h1 : (F w).2 ≤ 199) : ∀ k, k ≤ t.ms.length → (∀ i, i < k → per p i = w → (t.m i).lo ≤ (F w).1 ∧ (F w).2 ≤ (t.m i).hi) → SubS1 (F w) (bornAt t p k w)
  | 0, _, _ => ⟨h0, h1⟩
  | k + 1, hk, h => by
    rw [bornAt_succ]
    obtain ⟨i1, i2⟩ := yrs_in_born h0 h1 k (by omega) (fun i hi => h i (by omega))
    split
    · rename_i e
      have := h k (by omega) e
      simp only [SubS1]
      omega
    · exact ⟨i1, i2⟩
theorem yrs_keep {t : Town} (hO : t.OK) {p : List Nat} (hg : Grp t.ms.length p) {F : Nat → Sp} (h : Yrs t p F) (hk1 : Kin1 t p) : SubB (spL (cnt p) F) (yearsW t p (cnt p)) := by
  refine yrLoop_keep _ _ ⟨by rw [spL_len, born0_len], fun k => ?_⟩ ?_
  · by_cases hk : k < cnt p
    · rw [spL_at _ _ hk, born0_get t p hk]
      obtain ⟨i, hi, he⟩ := hg.on k hk
      have s := h.sub i hi
      rw [he] at s
      have hm := hO.at hi
      have m1 := hm.lo0
      have m2 := hm.hi1
      refine yrs_in_born (by omega) (by omega) _ (Nat.le_refl _) (fun j hj e => ?_)
      have := h.sub j hj
      rw [e] at this; exact this
    · unfold spAt
      rw [List.getElem?_eq_none (by rw [spL_len]; omega), List.getElem?_eq_none (by rw [born0_len]; omega)]
      exact ⟨Int.le_refl _, Int.le_refl _⟩
  · rintro ⟨a, c⟩ hm
    obtain ⟨h1, h2, _⟩ := kids_ok hO hg hk1 (Nat.le_refl _) _ hm
    obtain ⟨i, x, hx, hp, rfl, rfl⟩ := kids_mem.1 hm
    have hi := (List.getElem?_eq_some_iff.1 hx).1
    have em := Town.m_get hx
    rw [born0_len] at h1 h2
    refine ⟨by rw [born0_len]; exact h1, by rw [born0_len]; exact h2, yrMore_bd.2 ?_⟩
    have f := h.fix i hi (by rw [em]; exact hp)
    rw [em] at f
    rw [spL_at _ _ h1, spL_at _ _ h2]
    exact f
theorem spL_ne {n : Nat} {F : Nat → Sp} (h : ∀ w, w < n → (F w).1 ≤ (F w).2) : emptyS (spL n F) = false := by
  unfold emptyS spL
  rw [List.any_eq_false]
  intro x hx
  obtain ⟨w, hw, rfl⟩ := List.mem_map.1 hx
  have := h w (List.mem_range.1 hw)
  rw [decide_eq_true_eq]
  omega
theorem fine_tru {t : Town} (hO : t.OK) {but : Nat → Bool} {p : List Nat} (hg : Grp t.ms.length p) (h : Fine t but p) : Tru t but p where
  grp := hg
  kin := kinB_iff.2 fun i hi hp => ⟨(h.kin i hi hp).1, fun k hk hpk e => (h.kin i hi hp).2 k (by omega) hpk e⟩
  yrs := by
    obtain ⟨F, hF⟩ := h.yrs
    have := yrs_keep hO hg hF (fun i hi hp => (h.kin i hi hp).1)
    cases he : emptyS (yearsW t p (cnt p)) with
    | false => rfl
    | true =>
      have := emptyS_sub this he
      rw [spL_ne hF.ne] at this
      cases this
  tied := tied_iff.2 h.tie
  named := fun w hw => (namedR_iff hO hg.len (hg.on w hw)).2 ⟨h.snd w hw, fun i hi he j hj hf => h.vil i hi j hj (by rw [he, hf])⟩
theorem truth_iff {t : Town} (hO : t.OK) {but : Nat → Bool} {p : List Nat} : p ∈ truthsL t but ↔ p ∈ groupsN t.ms.length ∧ Fine t but p := by
  rw [tru_iff]
  exact ⟨fun ⟨h1, h2⟩ => ⟨h1, tru_fine hO h2⟩, fun ⟨h1, h2⟩ => ⟨h1, fine_tru hO (groups_grp h1) h2⟩⟩
theorem fine_why {t : Town} (hO : t.OK) {but : Nat → Bool} {p : List Nat} (hg : Grp t.ms.length p) (h : Fine t but p) {a b : Nat} (ha : a < t.ms.length) (hb : b < t.ms.length) (e : per p a = per p b) : whyF t a b = 0 := by
  obtain ⟨F, hF⟩ := h.yrs
  obtain ⟨g, hs⟩ := h.snd (per p a) (hg.lt a ha)
  refine whyF_zero.2 ⟨(alike_pair hO ha hb).2 ⟨g, hs a ha rfl, hs b hb e.symm⟩, h.vil a ha b hb e, ?_, ?_, ?_⟩
  · have s1 := hF.sub a ha
    have s2 := hF.sub b hb
    have s3 := hF.ne (per p a) (hg.lt a ha)
    rw [← e] at s2
    omega
  · intro he
    have := (h.kin a ha (by omega)).1
    rw [he, Int.toNat_natCast] at this
    exact this e.symm
  · intro he
    have := (h.kin b hb (by omega)).1
    rw [he, Int.toNat_natCast] at this
    exact this e
end Go.Px

namespace Go.Px
open Go.Proofs Go.MapKept
theorem with_m {t : Town} (x : Men) (i : Nat) : (withT t x).m i = if i < t.ms.length then t.m i else if i = t.ms.length then x else ⟨0, 0, 0, 0, 0⟩ := by
  unfold Town.m withT
  by_cases h : i < t.ms.length
  · rw [if_pos h]
    simp only
    rw [List.getElem?_append_left h]
  · rw [if_neg h]
    simp only
    rw [List.getElem?_append_right (by omega)]
    by_cases e : i = t.ms.length
    · rw [if_pos e, e, Nat.sub_self]; rfl
    · rw [if_neg e]
      obtain ⟨d, hd⟩ : ∃ d, i - t.ms.length = d + 1 := ⟨i - t.ms.length - 1, by omega⟩
      rw [hd]; rfl
theorem with_len (t : Town) (x : Men) : (withT t x).ms.length = t.ms.length + 1 := by simp [withT]
theorem per_lt {q : List Nat} {k i : Nat} (h : i < q.length) : per (q ++ [k]) i = per q i := by rw [per_snoc, if_pos h]
theorem tieB_snoc {t : Town} (hO : t.OK) {q : List Nat} (hq : q.length = t.ms.length) (k : Nat) {x : Tie} (hx : x ∈ t.ties) : tieB (q ++ [k]) x = tieB q x := by
  obtain ⟨h1, h2, h3, h4, _⟩ := hO.tie x hx
  unfold tieB
  rw [per_lt (by omega), per_lt (by omega)]
theorem fine_again {t : Town} (hO : t.OK) {m : Nat} (hmn : m < t.ms.length) {but : Nat → Bool} {q : List Nat} (hq : Grp t.ms.length q) (h : Fine t but q) : Fine (withT t (t.m m)) but (q ++ [per q m]) := by
  have hl := hq.len
  obtain ⟨s, hs⟩ : ∃ s : Nat → Nat, s = fun i => if i < t.ms.length then i else m := ⟨_, rfl⟩
  have sl : ∀ i, s i < t.ms.length := by
    intro i
    rw [hs]
    simp only
    split
    · assumption
    · exact hmn
  have hm : ∀ i, i < t.ms.length + 1 → (withT t (t.m m)).m i = t.m (s i) := by
    intro i hi
    rw [with_m, hs]
    simp only
    by_cases e : i < t.ms.length
    · rw [if_pos e, if_pos e]
    · rw [if_neg e, if_neg e, if_pos (by omega)]
  have hp : ∀ i, i < t.ms.length + 1 → per (q ++ [per q m]) i = per q (s i) := by
    intro i hi
    rw [per_snoc, hl, hs]
    simp only
    by_cases e : i < t.ms.length
    · rw [if_pos e, if_pos e]
    · rw [if_neg e, if_neg e, if_pos (by omega)]
  have hpp : ∀ i, i < t.ms.length → (t.m i).par ≠ -1 → per (q ++ [per q m]) (t.m i).par.toNat = per q (t.m i).par.toNat := by
    intro i hi hne
    have := (hO.at hi).par0
    have := (hO.at hi).par1
    exact per_lt (by omega)
  have hc : cnt (q ++ [per q m]) = cnt q := by
    rw [cnt_snoc]
    have := hq.lt m hmn
    omega
  have hln := with_len t (t.m m)
  refine ⟨?_, ?_, ?_, ?_, ?_⟩
  · intro i hi hpi
    rw [hln] at hi
    rw [hm i hi] at hpi ⊢
    rw [hp i hi, hpp _ (sl i) hpi]
    obtain ⟨h1, h2⟩ := h.kin (s i) (sl i) hpi
    refine ⟨h1, fun j hj hpj e => ?_⟩
    rw [hln] at hj
    rw [hm j hj] at hpj ⊢
    rw [hp j hj] at e
    rw [hpp _ (sl j) hpj]
    exact h2 (s j) (sl j) hpj e
  · intro w hw
    rw [hc] at hw
    obtain ⟨g, hg⟩ := h.snd w hw
    refine ⟨g, fun i hi e => ?_⟩
    rw [hln] at hi
    rw [hp i hi] at e
    rw [hm i hi]
    exact hg (s i) (sl i) e
  · intro i hi j hj e
    rw [hln] at hi hj
    rw [hp i hi, hp j hj] at e
    rw [hm i hi, hm j hj]
    exact h.vil _ (sl i) _ (sl j) e
  · intro i y hy hb
    rw [tieB_snoc hO hl _ (List.mem_of_getElem? hy)]
    exact h.tie i y hy hb
  · obtain ⟨F, hF⟩ := h.yrs
    refine ⟨F, fun w hw => hF.ne w (by omega), fun i hi => ?_, fun i hi hpi => ?_⟩
    · rw [hln] at hi
      rw [hm i hi, hp i hi]
      exact hF.sub _ (sl i)
    · rw [hln] at hi
      rw [hm i hi] at hpi ⊢
      rw [hp i hi, hpp _ (sl i) hpi]
      exact hF.fix _ (sl i) hpi
theorem truth_again {t : Town} (hO : t.OK) {m : Nat} (hmn : m < t.ms.length) (hOx : (withT t (t.m m)).OK) {but : Nat → Bool} {q : List Nat} (hq : q ∈ truthsL t but) : (q ++ [per q m]) ∈ truthsL (withT t (t.m m)) but := by
  obtain ⟨h1, h2⟩ := (truth_iff hO).1 hq
  have hg := groups_grp h1
  refine (truth_iff hOx).2 ⟨?_, fine_again hO hmn hg h2⟩
  rw [with_len]
  exact groups_snoc.2 ⟨q, per q m, h1, Nat.le_of_lt (hg.lt m hmn), rfl⟩
end Go.Px

namespace Go.Px
open Go.Proofs Go.MapKept
theorem lvalid3_ev (t : Town) (hw : t.wf) : Ev Tryz.prog 33 [.agg t.enc] (B (townE t == 0)) := by
  have e := rpcheck_ev t hw
  refine Ev.intro fn33 ?_
  refine LWp.sx (gs := []) (hs := [.ice]) rfl ⟨⟨rfl, rfl⟩, trivial⟩ ?_
  refine LWp.sx (gs := []) (hs := [.ret (.tup [I (checkT t).1, I (checkT t).2.1, I (checkT t).2.2])]) rfl ⟨e, trivial⟩ ?_
  refine LWp.sx (gs := []) (hs := []) rfl trivial ?_
  refine LWp.ret (retT (.inr rfl) (.one (.tmp ?_ rfl)))
  rfl
theorem some_split (t : Town) : (someE t (townE t) == 0) = ((townE t == 0) && !(truthsL t noBut).isEmpty) := by
  rw [Bool.eq_iff_iff, beq_iff_eq, someE_zero, Bool.and_eq_true, beq_iff_eq, Bool.not_eq_true', ← Bool.not_eq_true, List.isEmpty_iff]
theorem lsome3_ev (t : Town) (hw : t.wf) : Ev Tryz.prog 45 [.agg t.enc] (B (someE t (townE t) == 0)) := by
  have ev := lvalid3_ev t hw
  rw [some_split]
  refine Ev.intro fn45 ?_
  refine LWp.sx (gs := []) (hs := [.ice]) rfl ⟨⟨rfl, rfl⟩, trivial⟩ ?_
  by_cases h : townE t = 0
  · have htr := rtruths_ev ((townE_zero hw).1 h).1 []
    rw [butL_nil] at htr
    rw [show (townE t == 0) = true by rw [beq_iff_eq]; exact h] at ev ⊢
    refine LWp.sx (gs := [(5, true)]) (hs := [.ret (B true), .retS [.agg t.enc, ints []] (lists (truthsL t noBut))]) rfl (by (repeat' (with_reducible apply And.intro)); (all_goals first | (with_reducible exact trivial) | (with_reducible rfl) | (with_reducible assumption) | ((with_reducible apply isB); first | exact rfl | exact beq_self_eq_true _) | omega | ((first | exact ev | exact htr | exact .cons (.nilSl (.refl _)))))) ?_
    refine LWp.ret (retT (.inr rfl) (.one (.tmp ?_ rfl)))
    show B _ = B _
    refine congrArg B ?_
    rw [Bool.eq_iff_iff]
    cases truthsL t noBut with
    | nil => simp
    | cons a l => simp
  · rw [show (townE t == 0) = false by rw [beq_eq_false_iff_ne]; exact h] at ev ⊢
    refine LWp.sx (gs := [(5, false)]) (hs := [.ret (B false)]) rfl (by (repeat' (with_reducible apply And.intro)); (all_goals first | (with_reducible exact trivial) | (with_reducible rfl) | (with_reducible assumption) | ((with_reducible apply isB); first | exact rfl | exact beq_self_eq_true _) | omega | ((exact ev)))) ?_
    refine LWp.ret (retT (.inr rfl) (.one (.tmp ?_ rfl)))
    rfl
theorem w_mod {w : Int} (_h0 : 0 ≤ w) {n : Nat} (hn : 0 < n) : ∃ i : Nat, i < n ∧ w % (n : Int) = i := by
  refine ⟨(w % (n : Int)).toNat, ?_, ?_⟩
  · have := Int.emod_lt_of_pos w (b := (n : Int)) (by omega)
    have := Int.emod_nonneg w (b := (n : Int)) (by omega)
    omega
  · have := Int.emod_nonneg w (b := (n : Int)) (by omega)
    omega
theorem ent_some {t : Town} (h : someE t (townE t) = 0) {e : Int} (he : e = 0) : someE t (entE t e) = 0 := someE_zero.2 ⟨entE_zero.2 ⟨(someE_zero.1 h).1, he⟩, (someE_zero.1 h).2⟩
end Go.Px

namespace Go.Px
open Go.Proofs Go.MapKept
theorem natI_inc : ∀ {c : List Nat} {k : Int}, Inc c → (∀ v ∈ c, k < (v : Int)) → ascB (natI c) k = true
  | [], _, _, _ => rfl
  | x :: c, k, hi, hk => by
    have h1 := hk x (by simp)
    obtain ⟨h2, h3⟩ := List.pairwise_cons.1 hi
    simp only [natI, List.map_cons, ascB, Bool.and_eq_true, decide_eq_true_eq]
    exact ⟨h1, natI_inc h3 (fun v hv => by have := h2 v hv; omega)⟩
end Go.Px

namespace Go.Px
open Go.Proofs Go.MapKept
theorem who_out {t : Town} (h : someE t (townE t) ≠ 0) (x : Men) : (whoT t x).1 = [] ∧ (whoT t x).2 ≠ 0 := by
  have : someE t (entE t (menE t x t.ms.length)) ≠ 0 := fun h2 => h (someE_zero.2 ⟨(entE_zero.1 (someE_zero.1 h2).1).1, (someE_zero.1 h2).2⟩)
  unfold whoT
  rw [if_neg this]
  exact ⟨rfl, this⟩
theorem who_in {t : Town} (hw : t.wf) (_h : someE t (townE t) = 0) (x : Men) (he : (whoT t x).2 = 0) : menE t x t.ms.length = 0 ∧ (withT t x).OK ∧ (whoT t x).1 = natI (whoL t.ms.length (truthsL (withT t x) noBut)) := by
  unfold whoT at he ⊢
  by_cases c : someE t (entE t (menE t x t.ms.length)) = 0
  · rw [if_pos c]
    obtain ⟨h1, h2⟩ := entE_zero.1 (someE_zero.1 c).1
    obtain ⟨hO, h5⟩ := (townE_zero hw).1 h1
    exact ⟨h2, withT_OK hO h5 h2, whoSet_L _ _⟩
  · rw [if_neg c] at he
    exact absurd he c
theorem who_ok {t : Town} (h : someE t (townE t) = 0) {x : Men} (hm : menE t x t.ms.length = 0) : (whoT t x).2 = 0 := by
  unfold whoT
  rw [if_pos (ent_some h hm)]
theorem whoL_mem {n k : Nat} {L : List (List Nat)} : k ∈ whoL n L ↔ k < n ∧ ∃ p ∈ L, per p k = per p n := by
  unfold whoL
  rw [List.mem_filter, List.mem_range, List.any_eq_true]
  simp only [beq_iff_eq]
theorem whoL_rising (n : Nat) (L : List (List Nat)) : risingF (n : Nat) (natI (whoL n L)) (-1) = true := by
  rw [rising_asc (fun j hj => by obtain ⟨k, hk, rfl⟩ := List.mem_map.1 hj; have := (whoL_mem.1 hk).1; omega)]
  exact natI_inc (List.Pairwise.filter _ List.pairwise_lt_range) (fun v _ => by omega)
theorem natI_any {c : List Nat} {k : Nat} : (natI c).any (· == (k : Int)) = true ↔ k ∈ c := by
  rw [List.any_eq_true]
  constructor
  · rintro ⟨x, hx, he⟩
    obtain ⟨j, hj, rfl⟩ := List.mem_map.1 hx
    have : j = k := Int.ofNat_inj.1 (beq_iff_eq.1 he)
    rw [← this]; exact hj
  · intro h
    exact ⟨(k : Int), List.mem_map.2 ⟨k, h, rfl⟩, by simp⟩
theorem who_keeps {t : Town} {x : Men} (hO : (withT t x).OK) {k : Nat} (hk : k ∈ whoL t.ms.length (truthsL (withT t x) noBut)) : whyF (withT t x) t.ms.length k = 0 := by
  obtain ⟨h1, p, hp, he⟩ := whoL_mem.1 hk
  obtain ⟨g1, g2⟩ := (truth_iff hO).1 hp
  have hl := with_len t x
  exact fine_why hO (groups_grp g1) g2 (by omega) (by omega) he.symm
theorem men_again {t : Town} (hO : t.OK) {m : Nat} (hm : m < t.ms.length) : menE t (t.m m) t.ms.length = 0 := by
  have o := hO.at hm
  have := o.par1
  exact menE_zero.2 ⟨⟨o.sp0, o.sp1⟩, ⟨o.v0, o.v1⟩, ⟨o.par0, o.par1⟩, o.lo0, o.lh, o.hi1, by omega⟩
theorem who_again {t : Town} (hO : t.OK) (h : someE t (townE t) = 0) {m : Nat} (hm : m < t.ms.length) (hOx : (withT t (t.m m)).OK) : m ∈ whoL t.ms.length (truthsL (withT t (t.m m)) noBut) := by
  obtain ⟨q, hq⟩ := List.exists_mem_of_ne_nil _ (someE_zero.1 h).2
  have hl := ((truth_iff hO).1 hq).1
  have hlen := (groups_grp hl).len
  refine whoL_mem.2 ⟨hm, _, truth_again hO hm hOx hq, ?_⟩
  rw [per_snoc, per_snoc, if_pos (by omega), if_neg (by omega), if_pos (by omega)]
set_option maxRecDepth 10000 in
set_option maxHeartbeats 1000000 in
theorem personWho_ev (t : Town) (hw : t.wf) (x : Men) (w : Int) (h0 : 0 ≤ w) (h0' : w ≤ 255) : Ev Tryz.prog 11 [.agg t.enc, .agg x.enc, U w] (B true) := by
  have es := lsome3_ev t hw
  have ep := pwho_ev t hw x
  have hln : ((t.ms.map Men.enc).length : Int) = t.ms.length := by simp
  have hlnN : (t.ms.map Men.enc).length = t.ms.length := by simp
  refine Ev.intro fn11 ?_
  refine LWp.sx (gs := []) (hs := [.ice, .ice]) rfl ⟨⟨rfl, rfl⟩, ⟨rfl, rfl⟩, trivial⟩ ?_
  by_cases hS : someE t (townE t) = 0
  case neg =>
    rw [show (someE t (townE t) == 0) = false by rw [beq_eq_false_iff_ne]; exact hS] at es
    obtain ⟨k1, k2⟩ := who_out hS x
    rw [k1] at ep
    generalize (whoT t x).2 = e at ep k2
    have he : (e != 0) = true := by rw [bne_iff_ne]; exact k2
    refine LWp.sx (gs := []) (hs := [.ret (.tup [ints [], I e])]) rfl ⟨ep, trivial⟩ ?_
    refine LWp.seq (LWp.seq ?_)
    refine LWp.x (gs := []) (hs := [.ret (B false)]) rfl ⟨es, trivial⟩ ?_
    refine LWp.ite (b := true) rfl (fun _ => ?_) (fun h => by cases h)
    refine LWp.sx (gs := [(25, true), (30, true)]) (hs := [.ret (B true)]) rfl (by (repeat' (with_reducible apply And.intro)); (all_goals first | (with_reducible exact trivial) | (with_reducible rfl) | (with_reducible assumption) | ((with_reducible apply isB); first | exact rfl | exact beq_self_eq_true _) | omega | ((first | exact awake3_ev | ((with_reducible apply isB); exact he))))) ?_
    refine LWp.ret (retT (.inr rfl) (.one (.tmp ?_ rfl)))
    rfl
  rw [show (someE t (townE t) == 0) = true by rw [beq_iff_eq]; exact hS] at es
  obtain ⟨hO, h5⟩ := (townE_zero hw).1 (someE_zero.1 hS).1
  have hin := who_in hw hS x
  generalize (whoT t x).1 = l at ep hin
  generalize (whoT t x).2 = e at ep hin
  refine LWp.sx (gs := []) (hs := [.ret (.tup [ints l, I e])]) rfl ⟨ep, trivial⟩ ?_
  refine LWp.seq (LWp.seq ?_)
  refine LWp.x (gs := []) (hs := [.ret (B true)]) rfl ⟨es, trivial⟩ ?_
  refine LWp.ite (b := false) rfl (fun h => by cases h) (fun _ => LWp.skip ?_)
  refine LWp.cutX (fun _ : Unit => True) (fun _ => el [(2, U w), (3, .pi t.enc)]) (fun _ => []) (fun _ => []) ?_ ?_
  · refine LWp.seq ?_
    refine LWp.x (gs := []) (hs := []) rfl trivial ?_
    refine LWp.ite rfl (fun h => ?_) (fun h => LWp.skip ⟨(), trivial, Ent.el ⟨rfl, rfl, trivial⟩⟩)
    rw [beq_iff_eq] at h
    obtain ⟨_, hOx, rfl⟩ := hin h
    have hwi := with_ev t x (by omega)
    have er := rising_ev (natI (whoL t.ms.length (truthsL (withT t x) noBut))) ((t.ms.map Men.enc).length : Nat)
    rw [hln, whoL_rising] at er
    rw [← hln] at er
    have hkp := fun k hk => who_keeps hOx (k := k) hk
    have hke : ∀ k : Nat, k < t.ms.length → Ev Tryz.prog 47 [.agg (withT t x).enc, I ((t.ms.map Men.enc).length : Nat), I (k : Nat)] (I (whyF (withT t x) t.ms.length k)) := by
      intro k hk
      rw [hlnN]
      have hl := with_len t x
      exact keeps_ev hOx (by omega) (by omega)
    generalize whoL t.ms.length (truthsL (withT t x) noBut) = wl at er hkp
    refine LWp.sx (gs := []) (hs := [.ret (.agg (withT t x).enc), .lin]) rfl ⟨hwi, rfl, ⟨rfl, rfl, rfl, Nat.le_refl 6⟩, trivial⟩ ?_
    refine LWp.ent (Ent.freezeLbox (t := 9) rfl) ?_
    generalize hu : withT t x = u at *
    refine LWp.seq (LWp.seq ?_)
    refine LWp.x (gs := []) (hs := []) rfl trivial ?_
    refine LWp.blockT (fun _ : Unit => True) (fun _ => el [(2, U w), (3, .pi t.enc), (7, ints (natI wl))]) (fun _ => []) (fun _ => []) ?_ ?_
    · refine LWp.loopN (fun i : Nat => i ≤ t.ms.length) (fun i => el [(2, U w), (3, .pi t.enc), (7, ints (natI wl)), (9, .pi u.enc), (10, I i)]) (fun _ => []) (fun _ => []) (fun i => t.ms.length - i) 0 (by omega) (Ent.el ⟨rfl, rfl, rfl, rfl, rfl, trivial⟩) ?_
      intro i hi
      refine LWp.seq (LWp.seq ?_)
      refine LWp.x (gs := []) (hs := []) rfl trivial ?_
      refine LWp.ite rfl (fun hc => LWp.skip ?_) (fun hc => LWp.exit ⟨(), trivial, Ent.el ⟨rfl, rfl, rfl, trivial⟩⟩)
      rw [hln, decide_eq_true_eq] at hc
      have hii : i < t.ms.length := by omega
      refine LWp.blockX (fun _ : Unit => True) (fun _ => el [(2, U w), (3, .pi t.enc), (7, ints (natI wl)), (9, .pi u.enc), (10, I i)]) (fun _ => []) (fun _ => []) ?_ ?_
      · refine LWp.seq ?_
        have hh := has_ev (natI wl) (i : Nat)
        cases hany : (natI wl).any (· == (i : Int)) with
        | true =>
          rw [hany] at hh
          have hz := hkp i (natI_any.1 hany)
          have hk2 := hke i hii
          rw [hz] at hk2
          refine LWp.x (gs := [(48, true)]) (hs := [.ret (B true), .ret (I 0)]) rfl (by (repeat' (with_reducible apply And.intro)); (all_goals first | (with_reducible exact trivial) | (with_reducible rfl) | (with_reducible assumption) | ((with_reducible apply isB); first | exact rfl | exact beq_self_eq_true _) | omega | ((first | exact hh | exact hk2)))) ?_
          exact LWp.ite (b := false) rfl (fun h => by cases h) (fun _ => LWp.skip ⟨(), trivial, Ent.el ⟨rfl, rfl, rfl, rfl, rfl, trivial⟩⟩)
        | false =>
          rw [hany] at hh
          refine LWp.x (gs := [(48, false)]) (hs := [.ret (B false)]) rfl (by (repeat' (with_reducible apply And.intro)); (all_goals first | (with_reducible exact trivial) | (with_reducible rfl) | (with_reducible assumption) | ((with_reducible apply isB); first | exact rfl | exact beq_self_eq_true _) | omega | ((first | exact hh)))) ?_
          exact LWp.ite (b := false) rfl (fun h => by cases h) (fun _ => LWp.skip ⟨(), trivial, Ent.el ⟨rfl, rfl, rfl, rfl, rfl, trivial⟩⟩)
      · intro _ _
        refine LWp.x (gs := []) (hs := []) rfl ⟨by omega, trivial⟩ ?_
        exact ⟨i + 1, by omega, by omega, Ent.el ⟨rfl, rfl, rfl, rfl, rfl, trivial⟩⟩
    intro _ _
    refine LWp.seq ?_
    refine LWp.x (gs := []) (hs := [.ret (B true)]) rfl ⟨er, trivial⟩ ?_
    exact LWp.ite (b := false) rfl (fun h => by cases h) (fun _ => LWp.skip ⟨(), trivial, Ent.el ⟨rfl, rfl, trivial⟩⟩)
  intro _ _
  refine LWp.seq (LWp.seq ?_)
  refine LWp.x (gs := []) (hs := []) rfl trivial ?_
  refine LWp.ite rfl (fun h => ?_) (fun h => LWp.skip ?_)
  · refine LWp.sx (gs := []) (hs := [.ret (B true)]) rfl ⟨awake3_ev, trivial⟩ ?_
    refine LWp.ret (retT (.inr rfl) (.one (.tmp ?_ rfl)))
    rfl
  rw [beq_eq_false_iff_ne, hln] at h
  have hn : 0 < t.ms.length := by omega
  obtain ⟨m, hm, em⟩ := w_mod h0 hn
  obtain ⟨y, hy⟩ := ex_get hm
  have hym := Town.m_get hy
  have hme := men_again hO hm
  have hok := who_ok hS hme
  have ea := pwho_ev t hw (t.m m)
  obtain ⟨_, hOy, hl⟩ := who_in hw hS (t.m m) hok
  have hag := natI_any.2 (who_again hO hS hm hOy)
  rw [hl, hok, hym] at ea
  rw [hym] at hag
  generalize whoL t.ms.length (truthsL (withT t y) noBut) = wl at ea hag
  have hh := has_ev (natI wl) (m : Nat)
  rw [hag] at hh
  refine LWp.sx (gs := []) (hs := []) rfl ⟨i64_wrap (n := w) (by omega) (by omega), ⟨by omega, by rw [hlnN]; omega⟩, trivial⟩ ?_
  refine LWp.ent (Ent.el (l := [(3, .pi t.enc), (11, I m)]) ⟨rfl, by show I _ = I _; rw [← em, hlnN], trivial⟩) ?_
  refine LWp.sd (gs := []) (hs := [.cells y.enc, .ret (.tup [ints (natI wl), I 0])]) hmix rfl (by kernel_rfl) ⟨⟨by omega, by simp [hy]⟩, ea, trivial⟩ ?_
  refine LWp.sx (gs := [(86, true), (91, true)]) (hs := [.ret (B true), .ret (B true)]) rfl (by (repeat' (with_reducible apply And.intro)); (all_goals first | (with_reducible exact trivial) | (with_reducible rfl) | (with_reducible assumption) | ((with_reducible apply isB); first | exact rfl | exact beq_self_eq_true _) | omega | ((first | exact hh | exact awake3_ev)))) ?_
  refine LWp.ret (retT (.inr rfl) (.one (.tmp ?_ rfl)))
  rfl
end Go.Px

