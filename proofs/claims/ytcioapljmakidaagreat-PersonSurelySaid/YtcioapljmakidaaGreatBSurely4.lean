/- Part 4 of the proof of the statement PersonSurely (contracts of the functions that it alone wants). No conditions. -/
import Derived.Test.YtcioapljmakidaaGreatBSurely3
namespace Go.Px
open Go.Proofs Go.MapKept
theorem rcan_ev {t : Town} (h : t.OK) {p : List Nat} (hg : Grp t.ms.length p) (bl : List Int) : Ev Tryz.prog 86 [.agg t.enc, ints (natI p), ints bl] (B (canR t (butL bl) p)) := by
  have hm6 := h.ms6
  have hle := hg.le
  have hsm := small_of hm6 hg
  have hpl := hg.len
  have htl : ((t.ties.map Tie.enc).length : Int) = t.ties.length := by simp
  have ht4 := h.ties4
  have hcount := rcount3_ev hsm
  have hC : canR t (butL bl) p = ((List.range (cnt p)).all (fun who => namedR t (ofL p who)) && tiedF t (butL bl) p && (kinB t p && !emptyS (yearsW t p (cnt p)))) := rfl
  refine Ev.intro fn86 ?_
  refine LWp.sx (gs := []) (hs := [.ice]) rfl ⟨⟨rfl, rfl⟩, trivial⟩ ?_
  refine LWp.seq (LWp.seq ?_)
  refine LWp.x (gs := []) (hs := []) rfl trivial ?_
  refine LWp.blockT (fun _ : Unit => (List.range (cnt p)).all (fun who => namedR t (ofL p who)) = true) (fun _ => el [(1, ints (natI p)), (2, ints bl), (3, .pi t.enc)]) (fun _ => []) (fun _ => []) ?_ ?_
  · refine LWp.loopN (fun k : Nat => k ≤ cnt p ∧ ∀ who, who < k → namedR t (ofL p who) = true) (fun k => el [(1, ints (natI p)), (2, ints bl), (3, .pi t.enc), (7, I k)]) (fun _ => []) (fun _ => []) (fun k => cnt p - k) 0 ⟨by omega, by intro w hw; omega⟩ (Ent.el ⟨rfl, rfl, rfl, rfl, trivial⟩) ?_
    rintro k ⟨hk, hp⟩
    refine LWp.seq (LWp.seq ?_)
    refine LWp.x (gs := []) (hs := [.ret (I (cnt p : Nat))]) rfl ⟨hcount, trivial⟩ ?_
    refine LWp.ite rfl (fun hc => ?_) (fun hc => ?_)
    · simp only [decide_eq_true_eq, Int.ofNat_lt] at hc
      have hof := rof_ev (p := p) (by omega) k
      have hna := rnamed_ev h (l := ofL p k) (by
        have : ofL p k = ofK p k t.ms.length := by unfold ofL ofK; rw [hpl]
        rw [this]
        have := ofK_len p k t.ms.length
        omega) (fun i hi => by rw [← hpl]; exact (ofL_mem.1 hi).1)
      refine LWp.skip (LWp.seq (LWp.block ?_))
      refine LWp.sd (gs := []) (hs := [.ret (ints (natI (ofL p k))), .ret (B (namedR t (ofL p k)))]) hmix rfl (by kernel_rfl) ⟨hof, hna, trivial⟩ ?_
      cases hb : namedR t (ofL p k) with
      | false =>
        refine LWp.ite (b := true) rfl (fun _ => ?_) (fun h => by cases h)
        have hF : canR t (butL bl) p = false := by
          rw [hC]
          have : (List.range (cnt p)).all (fun who => namedR t (ofL p who)) = false := by
            rw [List.all_eq_false]
            exact ⟨k, List.mem_range.2 hc, by rw [hb]; decide⟩
          rw [this]; rfl
        rw [hF]
        refine LWp.sx (gs := []) (hs := []) rfl trivial ?_
        refine LWp.ret (retT (.inr rfl) (.one (.tmp ?_ rfl)))
        rfl
      | true =>
        refine LWp.ite (b := false) rfl (fun h => by cases h) (fun _ => LWp.skip ?_)
        refine LWp.x (gs := []) (hs := []) rfl ⟨by omega, trivial⟩ ?_
        refine ⟨k + 1, ⟨hc, fun w hw => ?_⟩, by omega, Ent.el ⟨rfl, rfl, rfl, rfl, trivial⟩⟩
        by_cases e : w = k
        · rw [e]; exact hb
        · exact hp w (by omega)
    · simp only [decide_eq_false_iff_not, Int.ofNat_lt] at hc
      refine LWp.exit ⟨(), ?_, Ent.el ⟨rfl, rfl, rfl, trivial⟩⟩
      rw [List.all_eq_true]
      intro w hw
      exact hp w (by have := List.mem_range.1 hw; omega)
  intro _ hN
  rw [hN, Bool.true_and] at hC
  refine LWp.seq (LWp.seq ?_)
  refine LWp.x (gs := []) (hs := []) rfl trivial ?_
  refine LWp.blockT (fun _ : Unit => tiedF t (butL bl) p = true) (fun _ => el [(1, ints (natI p)), (3, .pi t.enc)]) (fun _ => []) (fun _ => []) ?_ ?_
  · refine LWp.loopN (fun k : Nat => k ≤ t.ties.length ∧ ∀ j, j < k → tieAtB t (butL bl) p j = true) (fun k => el [(1, ints (natI p)), (2, ints bl), (3, .pi t.enc), (8, I k)]) (fun _ => []) (fun _ => []) (fun k => t.ties.length - k) 0 ⟨by omega, by intro w hw; omega⟩ (Ent.el ⟨rfl, rfl, rfl, rfl, trivial⟩) ?_
    rintro k ⟨hk, hp⟩
    refine LWp.seq (LWp.seq ?_)
    refine LWp.x (gs := []) (hs := []) rfl trivial ?_
    refine LWp.ite rfl (fun hc => ?_) (fun hc => ?_)
    · simp only [decide_eq_true_eq] at hc
      have hkl : k < t.ties.length := by omega
      obtain ⟨x, hx⟩ := ex_get hkl
      obtain ⟨a0, a1, b0, b1, _⟩ := h.tie x (List.mem_of_getElem? hx)
      have hti := rtied_ev (p := p) x a0 (by omega) b0 (by omega)
      have hhas := has_ev bl (k : Int)
      have hat := tieAt_some (but := butL bl) (p := p) hx
      have hbk : butL bl k = bl.any (· == (k : Int)) := rfl
      rw [← hbk] at hhas
      refine LWp.skip (LWp.seq (LWp.block ?_))
      refine LWp.cutX (fun _ : Unit => True) (fun _ => el [(1, ints (natI p)), (2, ints bl), (3, .pi t.enc), (8, I k), (41, B (!tieAtB t (butL bl) p k))]) (fun _ => []) (fun _ => []) ?_ ?_
      · rw [hat]
        cases hb : butL bl k with
        | true =>
          rw [hb] at hhas
          refine LWp.x (gs := [(32, false)]) (hs := [.ret (B true)]) rfl (by (repeat' (with_reducible apply And.intro)); (all_goals first | (with_reducible exact trivial) | (with_reducible rfl) | (with_reducible assumption) | ((with_reducible apply isB); first | exact rfl | exact beq_self_eq_true _) | omega | ((first | exact hhas | rfl)))) ?_
          exact ⟨(), trivial, Ent.el ⟨rfl, rfl, rfl, rfl, rfl, trivial⟩⟩
        | false =>
          rw [hb] at hhas
          have hx' : (t.ties.map Tie.enc)[((k : Nat) : Int).toNat]? = some x.enc := by simp [hx]
          refine LWp.x (gs := [(32, true)]) (hs := [.ret (B false), .cells x.enc, .ret (B (tieB p x))]) rfl ⟨hhas, rfl, rfl, rfl, ⟨rfl, by omega, hx'⟩, rfl, rfl, ⟨rfl, hti⟩, rfl, rfl, trivial⟩ ?_
          exact ⟨(), trivial, Ent.el ⟨rfl, rfl, rfl, rfl, rfl, trivial⟩⟩
      intro _ _
      cases hb : tieAtB t (butL bl) p k with
      | false =>
        refine LWp.ite (b := true) rfl (fun _ => ?_) (fun h => by cases h)
        have hF : canR t (butL bl) p = false := by
          rw [hC]
          have : tiedF t (butL bl) p = false := by
            rw [tiedF_all, List.all_eq_false]
            exact ⟨k, List.mem_range.2 hkl, by rw [hb]; decide⟩
          rw [this]; rfl
        rw [hF]
        refine LWp.sx (gs := []) (hs := []) rfl trivial ?_
        refine LWp.ret (retT (.inr rfl) (.one (.tmp ?_ rfl)))
        rfl
      | true =>
        refine LWp.ite (b := false) rfl (fun h => by cases h) (fun _ => LWp.skip ?_)
        refine LWp.x (gs := []) (hs := []) rfl ⟨by omega, trivial⟩ ?_
        refine ⟨k + 1, ⟨hkl, fun w hw => ?_⟩, by omega, Ent.el ⟨rfl, rfl, rfl, rfl, trivial⟩⟩
        by_cases e : w = k
        · rw [e]; exact hb
        · exact hp w (by omega)
    · simp only [decide_eq_false_iff_not] at hc
      refine LWp.exit ⟨(), ?_, Ent.el ⟨rfl, rfl, trivial⟩⟩
      rw [tiedF_all, List.all_eq_true]
      intro w hw
      exact hp w (by have := List.mem_range.1 hw; omega)
  intro _ hT
  rw [hT, Bool.true_and] at hC
  rw [hC]
  have hki := rkin_ev h hpl
  cases hb : kinB t p with
  | false =>
    rw [hb] at hki
    refine LWp.sx (gs := [(45, false)]) (hs := [.ret (B false)]) rfl (by (repeat' (with_reducible apply And.intro)); (all_goals first | (with_reducible exact trivial) | (with_reducible rfl) | (with_reducible assumption) | ((with_reducible apply isB); first | exact rfl | exact beq_self_eq_true _) | omega | ((first | exact hki | rfl)))) ?_
    refine LWp.ret (retT (.inr rfl) (.one (.tmp ?_ rfl)))
    rfl
  | true =>
    rw [hb] at hki
    have hk1 : Kin1 t p := fun i hi hpi => (kinB_iff.1 hb i hi hpi).1
    have hye := ryears_ev h hg hk1
    have hlen : (yearsW t p (cnt p)).length = cnt p := by
      have := (yearsW_sub h hg hk1 (Nat.le_refl (cnt p))).1
      rw [this, born0_len]
    have hem := rempty_ev (yearsW t p (cnt p)) (by omega)
    refine LWp.sx (gs := [(45, true)]) (hs := [.ret (B true), .ret (spans (yearsW t p (cnt p))), .ret (B (emptyS (yearsW t p (cnt p))))]) rfl ⟨hki, rfl, rfl, ⟨rfl, hye⟩, ⟨rfl, hem⟩, rfl, rfl, trivial⟩ ?_
    refine LWp.ret (retT (.inr rfl) (.one (.tmp ?_ rfl)))
    rfl
theorem rtruths_ev {t : Town} (h : t.OK) (bl : List Int) : Ev Tryz.prog 42 [.agg t.enc, ints bl] (lists (truthsL t (butL bl))) := by
  have hm6 := h.ms6
  have hml : ((t.ms.map Men.enc).length : Int) = t.ms.length := by simp
  have hgr := groups_ev t.ms.length hm6
  have hgl := groups_len hm6
  have hgm : ∀ p ∈ groupsN t.ms.length, Grp t.ms.length p := fun p hp => groups_grp hp
  have hT : truthsL t (butL bl) = (groupsN t.ms.length).filter (canR t (butL bl)) := rfl
  rw [hT]
  generalize groupsN t.ms.length = G at hgr hgl hgm
  refine Ev.freeze (T := 34) ?_
  refine Ev.intro fn42 ?_
  refine LWp.sx (gs := []) (hs := [.ice]) rfl ⟨⟨rfl, rfl⟩, trivial⟩ ?_
  refine LWp.sx (gs := []) (hs := [.ret (lists G)]) rfl ⟨by rw [hml]; exact hgr, trivial⟩ ?_
  refine LWp.sx (gs := []) (hs := []) rfl trivial ?_
  refine LWp.ent (Ent.nilLin (t := 6) 34 1 rfl) ?_
  have hGl : ((G.map fun c => [ints (natI c)]).length : Int) = G.length := by simp
  refine LWp.seq (LWp.seq ?_)
  refine LWp.x (gs := []) (hs := []) rfl trivial ?_
  refine LWp.blockT (fun _ : Unit => True) (fun _ => el [(6, .lin 34 1 ((G.filter (canR t (butL bl))).map fun c => [ints (natI c)]))]) (fun _ => []) (fun _ => []) ?_ ?_
  · refine LWp.loopN (fun k : Nat => k ≤ G.length) (fun k => el [(1, ints bl), (2, .pi t.enc), (5, lists G), (6, .lin 34 1 (((G.take k).filter (canR t (butL bl))).map fun c => [ints (natI c)])), (7, I k)]) (fun _ => []) (fun _ => []) (fun k => G.length - k) 0 (by omega) (Ent.el ⟨rfl, rfl, rfl, rfl, rfl, trivial⟩) ?_
    intro k hk
    refine LWp.seq (LWp.seq ?_)
    refine LWp.x (gs := []) (hs := []) rfl trivial ?_
    refine LWp.ite rfl (fun hc => ?_) (fun hc => ?_)
    · simp only [decide_eq_true_eq] at hc
      have hkl : k < G.length := by omega
      obtain ⟨p, hp⟩ := ex_get hkl
      have hcan := rcan_ev h (hgm p (List.mem_of_getElem? hp)) bl
      have htk : (G.take (k + 1)).filter (canR t (butL bl)) = (G.take k).filter (canR t (butL bl)) ++ (if canR t (butL bl) p = true then [p] else []) := by
        rw [List.take_add_one, hp, List.filter_append]
        congr 1
        show List.filter _ [p] = _
        simp only [List.filter_cons, List.filter_nil]
      have hle := List.length_filter_le (canR t (butL bl)) (G.take k)
      rw [List.length_take] at hle
      refine LWp.skip (LWp.seq (LWp.block ?_))
      refine LWp.sd (gs := []) (hs := [.cells [ints (natI p)], .ret (B (canR t (butL bl) p))]) hmix rfl (by kernel_rfl) ⟨⟨by omega, by simp [hp]⟩, hcan, trivial⟩ ?_
      refine LWp.ite (b := canR t (butL bl) p) rfl (fun hb => ?_) (fun hb => LWp.skip ?_)
      · rw [if_pos hb] at htk
        refine LWp.x (gs := []) (hs := [.cells [ints (natI p)], .ice]) rfl ⟨⟨by omega, by simp [hp]⟩, rfl, ⟨by simp only [List.length_map, chunk, List.length_cons, List.length_nil]; omega, by simp only [List.length_map, chunk, List.length_cons, List.length_nil]; omega⟩, trivial⟩ ?_
        refine LWp.x (gs := []) (hs := []) rfl ⟨by omega, trivial⟩ ?_
        refine ⟨k + 1, by omega, by omega, Ent.el ⟨rfl, rfl, rfl, ?_, rfl, trivial⟩⟩
        show AV.lin _ 1 _ = AV.lin _ 1 _
        rw [htk, List.map_append]; rfl
      · rw [if_neg (by rw [hb]; decide), List.append_nil] at htk
        refine LWp.x (gs := []) (hs := []) rfl ⟨by omega, trivial⟩ ?_
        exact ⟨k + 1, by omega, by omega, Ent.el ⟨rfl, rfl, rfl, by rw [htk]; rfl, rfl, trivial⟩⟩
    · simp only [decide_eq_false_iff_not] at hc
      refine LWp.exit ⟨(), trivial, Ent.el ⟨?_, trivial⟩⟩
      rw [List.take_of_length_le (by omega)]; rfl
  · intro _ _
    refine LWp.sx (gs := []) (hs := []) rfl trivial ?_
    exact LWp.ret (retT (.inr rfl) (.lin rfl rfl))
end Go.Px

namespace Go.Px
open Go.Proofs Go.MapKept
theorem tru_iff {t : Town} {but : Nat → Bool} {p : List Nat} : p ∈ truthsL t but ↔ p ∈ groupsN t.ms.length ∧ Tru t but p := by
  unfold truthsL
  rw [List.mem_filter]
  refine and_congr_right fun hp => ?_
  unfold canR
  simp only [Bool.and_eq_true, List.all_eq_true, List.mem_range, Bool.not_eq_true']
  exact ⟨fun h => ⟨groups_grp hp, h.2.1, h.2.2, h.1.2, h.1.1⟩, fun h => ⟨⟨h.named, h.tied⟩, h.kin, h.yrs⟩⟩
theorem hull_go (g : List Nat → Sp) : ∀ (l : List (List Nat)) (s : Sp), (l.foldl (fun (x : Sp × Bool) p => (widerF x.1 (g p) x.2, false)) (s, false)).1.1 ≤ s.1 ∧ s.2 ≤ (l.foldl (fun (x : Sp × Bool) p => (widerF x.1 (g p) x.2, false)) (s, false)).1.2 ∧
    (∀ p ∈ l, (l.foldl (fun (x : Sp × Bool) p => (widerF x.1 (g p) x.2, false)) (s, false)).1.1 ≤ (g p).1 ∧ (g p).2 ≤ (l.foldl (fun (x : Sp × Bool) p => (widerF x.1 (g p) x.2, false)) (s, false)).1.2) ∧
    ((l.foldl (fun (x : Sp × Bool) p => (widerF x.1 (g p) x.2, false)) (s, false)).1.1 = s.1 ∨ ∃ p ∈ l, (l.foldl (fun (x : Sp × Bool) p => (widerF x.1 (g p) x.2, false)) (s, false)).1.1 = (g p).1) ∧
    ((l.foldl (fun (x : Sp × Bool) p => (widerF x.1 (g p) x.2, false)) (s, false)).1.2 = s.2 ∨ ∃ p ∈ l, (l.foldl (fun (x : Sp × Bool) p => (widerF x.1 (g p) x.2, false)) (s, false)).1.2 = (g p).2)
  | [], s => ⟨Int.le_refl _, Int.le_refl _, by simp, .inl rfl, .inl rfl⟩
  | q :: l, s => by
    rw [List.foldl_cons]
    have e : widerF s (g q) false = (min s.1 (g q).1, max s.2 (g q).2) := rfl
    rw [e]
    obtain ⟨h1, h2, h3, h4, h5⟩ := hull_go g l (min s.1 (g q).1, max s.2 (g q).2)
    generalize (l.foldl (fun (x : Sp × Bool) p => (widerF x.1 (g p) x.2, false)) ((min s.1 (g q).1, max s.2 (g q).2), false)).1 = r at *
    simp only at h1 h2 h4 h5
    refine ⟨Int.le_trans h1 (Int.min_le_left _ _), Int.le_trans (Int.le_max_left _ _) h2, ?_, ?_, ?_⟩
    · intro p hp
      rcases List.mem_cons.1 hp with rfl | hp
      · exact ⟨Int.le_trans h1 (Int.min_le_right _ _), Int.le_trans (Int.le_max_right _ _) h2⟩
      · exact h3 p hp
    · rcases h4 with h4 | ⟨p, hp, h4⟩
      · by_cases c : s.1 ≤ (g q).1
        · left; rw [h4, Int.min_eq_left c]
        · right; exact ⟨q, by simp, by rw [h4, Int.min_eq_right (by clear h5; omega)]⟩
      · right; exact ⟨p, by simp [hp], h4⟩
    · rcases h5 with h5 | ⟨p, hp, h5⟩
      · by_cases c : (g q).2 ≤ s.2
        · left; rw [h5, Int.max_eq_left c]
        · right; exact ⟨q, by simp, by rw [h5, Int.max_eq_right (by clear h4; omega)]⟩
      · right; exact ⟨p, by simp [hp], h5⟩
theorem hull_spec (g : List Nat → Sp) {l : List (List Nat)} (hl : l ≠ []) : (∀ p ∈ l, (hullF g l).1 ≤ (g p).1 ∧ (g p).2 ≤ (hullF g l).2) ∧ (∃ p ∈ l, (hullF g l).1 = (g p).1) ∧ ∃ p ∈ l, (hullF g l).2 = (g p).2 := by
  cases l with
  | nil => exact absurd rfl hl
  | cons q l =>
    have e : hullF g (q :: l) = (l.foldl (fun (x : Sp × Bool) p => (widerF x.1 (g p) x.2, false)) (g q, false)).1 := rfl
    rw [e]
    obtain ⟨h1, h2, h3, h4, h5⟩ := hull_go g l (g q)
    refine ⟨?_, ?_, ?_⟩
    · intro p hp
      rcases List.mem_cons.1 hp with rfl | hp
      · exact ⟨h1, h2⟩
      · exact h3 p hp
    · rcases h4 with h4 | ⟨p, hp, h4⟩
      · exact ⟨q, by simp, h4⟩
      · exact ⟨p, by simp [hp], h4⟩
    · rcases h5 with h5 | ⟨p, hp, h5⟩
      · exact ⟨q, by simp, h5⟩
      · exact ⟨p, by simp [hp], h5⟩
end Go.Px

namespace Go.Px
open Go.Proofs
open Go.ChangeShapes Go.WideShapes Go.ChangeAt Go.RowKit
theorem fits_u3 (a : AV) (h : FitA (.arr 3 (.int .u8)) a) : ∃ i j k : Int, 0 ≤ i ∧ i ≤ 255 ∧ 0 ≤ j ∧ j ≤ 255 ∧ 0 ≤ k ∧ k ≤ 255 ∧ a = .agg [U i, U j, U k] := by
  simp only [FitA, FitN, Fits] at h
  obtain ⟨_, rfl, _, _, rfl, ⟨i, rfl, hi⟩, _, _, rfl, ⟨j, rfl, hj⟩, _, _, rfl, ⟨k, rfl, hk⟩, rfl⟩ := h
  have := bounds_u8 hi
  have := bounds_u8 hj
  have := bounds_u8 hk
  exact ⟨i, j, k, by omega, by omega, by omega, by omega, by omega, by omega, rfl⟩
end Go.Px

namespace Go.Px
open Go.Proofs Go.MapKept
structure Yrs (t : Town) (p : List Nat) (F : Nat → Sp) : Prop where
  ne : ∀ w, w < cnt p → (F w).1 ≤ (F w).2
  sub : ∀ i, i < t.ms.length → (t.m i).lo ≤ (F (per p i)).1 ∧ (F (per p i)).2 ≤ (t.m i).hi
  fix : ∀ i, i < t.ms.length → (t.m i).par ≠ -1 → (F (per p i)).1 - 60 ≤ (F (per p (t.m i).par.toNat)).1 ∧ (F (per p (t.m i).par.toNat)).2 ≤ (F (per p i)).2 - 15 ∧ (F (per p (t.m i).par.toNat)).1 + 15 ≤ (F (per p i)).1 ∧ (F (per p i)).2 ≤ (F (per p (t.m i).par.toNat)).2 + 60
structure Fine (t : Town) (but : Nat → Bool) (p : List Nat) : Prop where
  kin : ∀ i, i < t.ms.length → (t.m i).par ≠ -1 → per p (t.m i).par.toNat ≠ per p i ∧ ∀ k, k < t.ms.length → (t.m k).par ≠ -1 → per p k = per p i → per p (t.m i).par.toNat = per p (t.m k).par.toNat
  snd : ∀ w, w < cnt p → Sounds t p w
  vil : ∀ i, i < t.ms.length → ∀ j, j < t.ms.length → per p i = per p j → Vil (t.m i).v (t.m j).v
  tie : ∀ i x, t.ties[i]? = some x → but i = false → tieB p x = true
  yrs : ∃ F, Yrs t p F
end Go.Px

namespace Go.Px
open Go.Proofs Go.MapKept
theorem lvalid3_ev (t : Town) (hw : t.wf) : Ev Tryz.prog 33 [.agg t.enc] (B (townE t == 0)) := by
  have e := rpcheck_ev t hw
  refine Ev.intro fn33 ?_
  refine LWp.sx (gs := []) (hs := [.ice]) rfl ⟨⟨rfl, rfl⟩, trivial⟩ ?_
  refine LWp.sx (gs := []) (hs := [.ret (.tup [I (checkT t).1, I (checkT t).2.1, I (checkT t).2.2])]) rfl ⟨e, trivial⟩ ?_
  refine LWp.sx (gs := []) (hs := []) rfl trivial ?_
  refine LWp.ret (retT (.inr rfl) (.one (.tmp ?_ rfl)))
  rfl
theorem some_split (t : Town) : (someE t (townE t) == 0) = ((townE t == 0) && !(truthsL t noBut).isEmpty) := by
  rw [Bool.eq_iff_iff, beq_iff_eq, someE_zero, Bool.and_eq_true, beq_iff_eq, Bool.not_eq_true', ← Bool.not_eq_true, List.isEmpty_iff]
theorem lsome3_ev (t : Town) (hw : t.wf) : Ev Tryz.prog 45 [.agg t.enc] (B (someE t (townE t) == 0)) := by
  have ev := lvalid3_ev t hw
  rw [some_split]
  refine Ev.intro fn45 ?_
  refine LWp.sx (gs := []) (hs := [.ice]) rfl ⟨⟨rfl, rfl⟩, trivial⟩ ?_
  by_cases h : townE t = 0
  · have htr := rtruths_ev ((townE_zero hw).1 h).1 []
    rw [butL_nil] at htr
    rw [show (townE t == 0) = true by rw [beq_iff_eq]; exact h] at ev ⊢
    refine LWp.sx (gs := [(5, true)]) (hs := [.ret (B true), .retS [.agg t.enc, ints []] (lists (truthsL t noBut))]) rfl (by (repeat' (with_reducible apply And.intro)); (all_goals first | (with_reducible exact trivial) | (with_reducible rfl) | (with_reducible assumption) | ((with_reducible apply isB); first | exact rfl | exact beq_self_eq_true _) | omega | ((first | exact ev | exact htr | exact .cons (.nilSl (.refl _)))))) ?_
    refine LWp.ret (retT (.inr rfl) (.one (.tmp ?_ rfl)))
    show B _ = B _
    refine congrArg B ?_
    rw [Bool.eq_iff_iff]
    cases truthsL t noBut with
    | nil => simp
    | cons a l => simp
  · rw [show (townE t == 0) = false by rw [beq_eq_false_iff_ne]; exact h] at ev ⊢
    refine LWp.sx (gs := [(5, false)]) (hs := [.ret (B false)]) rfl (by (repeat' (with_reducible apply And.intro)); (all_goals first | (with_reducible exact trivial) | (with_reducible rfl) | (with_reducible assumption) | ((with_reducible apply isB); first | exact rfl | exact beq_self_eq_true _) | omega | ((exact ev)))) ?_
    refine LWp.ret (retT (.inr rfl) (.one (.tmp ?_ rfl)))
    rfl
theorem w_mod {w : Int} (_h0 : 0 ≤ w) {n : Nat} (hn : 0 < n) : ∃ i : Nat, i < n ∧ w % (n : Int) = i := by
  refine ⟨(w % (n : Int)).toNat, ?_, ?_⟩
  · have := Int.emod_lt_of_pos w (b := (n : Int)) (by omega)
    have := Int.emod_nonneg w (b := (n : Int)) (by omega)
    omega
  · have := Int.emod_nonneg w (b := (n : Int)) (by omega)
    omega
theorem twoE_ok {t : Town} {a b : Nat} (ha : a < t.ms.length) (hb : b < t.ms.length) (h : a ≠ b) : twoE t (a : Nat) (b : Nat) = 0 := twoE_zero.2 ⟨⟨by omega, by omega⟩, ⟨by omega, by omega⟩, by omega⟩
theorem ent_some {t : Town} (h : someE t (townE t) = 0) {e : Int} (he : e = 0) : someE t (entE t e) = 0 := someE_zero.2 ⟨entE_zero.2 ⟨(someE_zero.1 h).1, he⟩, (someE_zero.1 h).2⟩
abbrev cntP (t : Town) (a b : Nat) : Nat := (truthsL t noBut).countP (oneP a b)
theorem same_ok {t : Town} (h : someE t (townE t) = 0) {a b : Nat} (ha : a < t.ms.length) (hb : b < t.ms.length) (hab : a ≠ b) : sameT t (a : Nat) (b : Nat) = (settleI (cntP t a b : Nat) ((truthsL t noBut).length : Nat), 0) := by
  unfold sameT
  rw [if_pos (ent_some h (twoE_ok ha hb hab))]
theorem oneP_iff {a b : Nat} {p : List Nat} : oneP (a : Nat) (b : Nat) p = true ↔ per p a = per p b := by
  unfold oneP
  rw [beq_iff_eq, Int.toNat_natCast, Int.toNat_natCast]
theorem oneP_comm (a b : Nat) : oneP (a : Nat) (b : Nat) = oneP (b : Nat) (a : Nat) := by
  funext p
  rw [Bool.eq_iff_iff, oneP_iff, oneP_iff]
  exact eq_comm
theorem settle_must {c n : Nat} : settleI (c : Nat) (n : Nat) = 1 ↔ c = n := by
  unfold settleI
  split
  · exact ⟨fun _ => by omega, fun _ => rfl⟩
  · split
    · exact ⟨fun h => by omega, fun h => by omega⟩
    · exact ⟨fun h => by omega, fun h => by omega⟩
theorem same_must {t : Town} (h : someE t (townE t) = 0) {a b : Nat} (ha : a < t.ms.length) (hb : b < t.ms.length) (hab : a ≠ b) : (sameT t (a : Nat) (b : Nat)).1 = 1 ↔ ∀ p ∈ truthsL t noBut, per p a = per p b := by
  rw [same_ok h ha hb hab]
  show settleI _ _ = 1 ↔ _
  rw [settle_must]
  show List.countP _ _ = _ ↔ _
  rw [List.countP_eq_length]
  exact forall_congr' fun p => imp_congr_right fun _ => oneP_iff
theorem same_comm {t : Town} (h : someE t (townE t) = 0) {a b : Nat} (ha : a < t.ms.length) (hb : b < t.ms.length) (hab : a ≠ b) : sameT t (a : Nat) (b : Nat) = sameT t (b : Nat) (a : Nat) := by
  rw [same_ok h ha hb hab, same_ok h hb ha (Ne.symm hab)]
  unfold cntP
  rw [oneP_comm]
theorem same_third {t : Town} (h : someE t (townE t) = 0) {i j k : Nat} (hi : i < t.ms.length) (hj : j < t.ms.length) (hk : k < t.ms.length) (hij : i ≠ j) (hik : i ≠ k) (hjk : j ≠ k) (hm : (sameT t (i : Nat) (j : Nat)).1 = 1) : sameT t (j : Nat) (k : Nat) = sameT t (i : Nat) (k : Nat) := by
  rw [same_ok h hj hk hjk, same_ok h hi hk hik]
  have hall := (same_must h hi hj hij).1 hm
  unfold cntP
  rw [List.countP_congr (p := oneP (j : Nat) (k : Nat)) (q := oneP (i : Nat) (k : Nat)) (fun p hp => by rw [oneP_iff, oneP_iff, hall p hp])]
theorem persons_in {t : Town} (_hw : t.wf) (h : someE t (townE t) = 0) : (personsT t).2 = 0 ∧ (personsT t).1.1 ≤ (personsT t).1.2 ∧ (personsT t).1.2 ≤ t.ms.length ∧ 0 ≤ (personsT t).1.1 ∧ (1 ≤ t.ms.length → 1 ≤ (personsT t).1.1) ∧
    ∀ p ∈ truthsL t noBut, (personsT t).1.1 ≤ cnt p ∧ (cnt p : Int) ≤ (personsT t).1.2 := by
  obtain ⟨h0, hne⟩ := someE_zero.1 h
  unfold personsT
  rw [if_pos h]
  obtain ⟨h1, ⟨p, hp, e1⟩, ⟨q, hq, e2⟩⟩ := hull_spec (fun p => (((cnt p : Nat) : Int), ((cnt p : Nat) : Int))) hne
  have gp := (tru_iff.1 hp).2.grp
  have gq := (tru_iff.1 hq).2.grp
  have l1 := gp.le
  have l2 := gq.le
  have h1p := h1 p hp
  simp only at e1 e2 h1p ⊢
  refine ⟨trivial, by omega, by omega, by omega, fun hn => ?_, fun r hr => h1 r hr⟩
  have := gp.lt 0 (by omega)
  omega
theorem persons_out {t : Town} (h : someE t (townE t) ≠ 0) : personsT t = ((0, 0), someE t (townE t)) := by
  unfold personsT
  rw [if_neg h]
end Go.Px

namespace Go.Px
open Go.Proofs Go.MapKept
set_option maxRecDepth 10000 in
theorem personSurely_ev (t : Town) (hw : t.wf) (x0 x1 x2 : Int) (h0 : 0 ≤ x0) (h0' : x0 ≤ 255) (h1 : 0 ≤ x1) (h1' : x1 ≤ 255) (h2 : 0 ≤ x2) (h2' : x2 ≤ 255) : Ev Tryz.prog 12 [.agg t.enc, .agg [U x0, U x1, U x2]] (B true) := by
  have es := lsome3_ev t hw
  have ep := ppersons_ev t hw
  have hln : ((t.ms.map Men.enc).length : Int) = t.ms.length := by simp
  have hU : Tryz.prog.underlying 4 = some .bool := by kernel_rfl
  have sp00 := lspan_ev 0 0
  have wide0 : spB 1000000 (0, 0) := ⟨by decide, by decide, by decide, by decide⟩
  refine Ev.intro fn12 ?_
  refine LWp.sx (gs := []) (hs := [.ice, .ice]) rfl ⟨⟨rfl, rfl⟩, ⟨rfl, rfl⟩, trivial⟩ ?_
  by_cases hS : someE t (townE t) = 0
  case neg =>
    rw [show (someE t (townE t) == 0) = false by rw [beq_eq_false_iff_ne]; exact hS] at es
    rw [persons_out hS] at ep
    generalize someE t (townE t) = e at ep hS
    have ep : Ev Tryz.prog 23 [.agg t.enc] (.tup [.agg [I 0, I 0], I e]) := ep
    have he : (e == 0) = false := by rw [beq_eq_false_iff_ne]; exact hS
    refine LWp.sx (gs := []) (hs := [.ret (.tup [.agg [I 0, I 0], I e]), .lin]) rfl ⟨ep, rfl, ⟨rfl, rfl, rfl, Nat.le_refl 2⟩, trivial⟩ ?_
    refine LWp.ent (Ent.freezeLbox (t := 5) rfl) ?_
    refine LWp.seq (LWp.seq ?_)
    refine LWp.x (gs := [(26, true)]) (hs := [.ret (B false)]) rfl (by (repeat' (with_reducible apply And.intro)); (all_goals first | (with_reducible exact trivial) | (with_reducible rfl) | (with_reducible assumption) | ((with_reducible apply isB); first | exact rfl | exact beq_self_eq_true _) | omega | ((exact es)))) ?_
    refine LWp.ite (b := true) rfl (fun _ => ?_) (fun h => by cases h)
    refine LWp.sd (gs := [(37, true), (42, true)]) (hs := [.ret (B false), .ret (.agg [I 0, I 0]), .op (B true), .ret (B true)]) hmix rfl (by kernel_rfl) (by (repeat' (with_reducible apply And.intro)); (all_goals first | (with_reducible exact trivial) | (with_reducible rfl) | (with_reducible assumption) | ((with_reducible apply isB); first | exact rfl | exact beq_self_eq_true _) | omega | ((first | exact es | exact hU | exact sp00 | exact awake3_ev | exact op_eqSpan (x := (0, 0)) (y := (0, 0)) rfl rfl wide0 wide0 | (rw [he]; rfl))))) ?_
    refine LWp.ret (retT (.inr rfl) (.one (.tmp ?_ rfl)))
    rfl
  obtain ⟨q0, q1, q2, q3, q4, q5⟩ := persons_in hw hS
  have hO := ((townE_zero hw).1 (someE_zero.1 hS).1).1
  rw [show (someE t (townE t) == 0) = true by rw [beq_iff_eq]; exact hS] at es
  rw [q0] at ep
  generalize (personsT t).1 = s at ep q1 q2 q3 q4 q5
  refine LWp.sx (gs := []) (hs := [.ret (.tup [.agg (sp2 s), I 0]), .lin]) rfl ⟨ep, rfl, ⟨rfl, rfl, rfl, Nat.le_refl 2⟩, trivial⟩ ?_
  refine LWp.ent (Ent.freezeLbox (t := 5) rfl) ?_
  refine LWp.seq (LWp.seq ?_)
  by_cases hn : t.ms.length = 0
  · have e1 : s = (0, 0) := Prod.ext (by simp only; omega) (by simp only; omega)
    subst e1
    have hn2 : (((t.ms.map Men.enc).length : Int) == 0) = true := by rw [hln, hn]; rfl
    refine LWp.x (gs := [(26, false)]) (hs := [.ret (B true)]) rfl (by (repeat' (with_reducible apply And.intro)); (all_goals first | (with_reducible exact trivial) | (with_reducible rfl) | (with_reducible assumption) | ((with_reducible apply isB); first | exact rfl | exact beq_self_eq_true _) | omega | ((exact es)))) ?_
    refine LWp.ite (b := true) (congrArg B hn2) (fun _ => ?_) (fun h => by cases h)
    refine LWp.sd (gs := [(37, true), (42, true)]) (hs := [.ret (B true), .ret (.agg [I 0, I 0]), .op (B true), .ret (B true)]) hmix rfl (by kernel_rfl) (by (repeat' (with_reducible apply And.intro)); (all_goals first | (with_reducible exact trivial) | (with_reducible rfl) | (with_reducible assumption) | ((with_reducible apply isB); first | exact rfl | exact beq_self_eq_true _) | omega | ((first | exact es | exact hU | exact sp00 | exact awake3_ev | exact op_eqSpan (x := (0, 0)) (y := (0, 0)) rfl rfl wide0 wide0)))) ?_
    refine LWp.ret (retT (.inr rfl) (.one (.tmp ?_ rfl)))
    rfl
  have hn2 : (((t.ms.map Men.enc).length : Int) == 0) = false := by rw [hln, beq_eq_false_iff_ne]; omega
  refine LWp.x (gs := [(26, false)]) (hs := [.ret (B true)]) rfl (by (repeat' (with_reducible apply And.intro)); (all_goals first | (with_reducible exact trivial) | (with_reducible rfl) | (with_reducible assumption) | ((with_reducible apply isB); first | exact rfl | exact beq_self_eq_true _) | omega | ((exact es)))) ?_
  refine LWp.ite (b := false) (congrArg B hn2) (fun h => by cases h) (fun _ => LWp.skip ?_)
  refine LWp.seq (LWp.seq ?_)
  refine LWp.x (gs := [(47, false), (52, false), (59, false)]) (hs := []) rfl (by (repeat' (with_reducible apply And.intro)); (all_goals first | (with_reducible exact trivial) | (with_reducible rfl) | (with_reducible assumption) | ((with_reducible apply isB); first | exact rfl | exact beq_self_eq_true _) | omega | ((first | ((with_reducible apply isB); rw [decide_eq_false_iff_not]; first | omega | (rw [hln]; omega)))))) ?_
  refine LWp.ite rfl (fun h => ?_) (fun _ => LWp.skip ?_)
  · rw [hln, decide_eq_true_eq] at h; omega
  obtain ⟨i, hi, ei⟩ := w_mod h0 (n := t.ms.length) (by omega)
  obtain ⟨j, hj, ej⟩ := w_mod h1 (n := t.ms.length) (by omega)
  obtain ⟨k, hk, ek⟩ := w_mod h2 (n := t.ms.length) (by omega)
  refine LWp.sd (gs := []) (hs := []) hmix rfl (by kernel_rfl) ⟨⟨by omega, by decide⟩, i64_wrap (n := x0) (by omega) (by omega), ⟨by omega, by rw [hln]; omega⟩, ⟨by omega, by decide⟩, i64_wrap (n := x1) (by omega) (by omega), ⟨by omega, by rw [hln]; omega⟩, ⟨by omega, by decide⟩, i64_wrap (n := x2) (by omega) (by omega), ⟨by omega, by rw [hln]; omega⟩, trivial⟩ ?_
  refine LWp.ent (Ent.el (l := [(2, .pi t.enc), (7, I i), (8, I j), (9, I k)]) ⟨rfl, by show I _ = I _; rw [← ei, hln], by show I _ = I _; rw [← ej, hln], by show I _ = I _; rw [← ek, hln], trivial⟩) ?_
  refine LWp.seq (LWp.seq ?_)
  by_cases hij : i = j
  · have g : ((i : Int) == (j : Int)) = true := by rw [beq_iff_eq]; omega
    refine LWp.x (gs := [(91, true), (96, true)]) (hs := []) rfl (by (repeat' (with_reducible apply And.intro)); (all_goals first | (with_reducible exact trivial) | (with_reducible rfl) | (with_reducible assumption) | ((with_reducible apply isB); first | exact rfl | exact beq_self_eq_true _) | omega | (((with_reducible apply isB); exact g)))) ?_
    refine LWp.ite (b := true) rfl (fun _ => ?_) (fun h => by cases h)
    refine LWp.sx (gs := []) (hs := [.ret (B true)]) rfl ⟨awake3_ev, trivial⟩ ?_
    refine LWp.ret (retT (.inr rfl) (.one (.tmp ?_ rfl)))
    rfl
  have g1 : ((i : Int) == (j : Int)) = false := by rw [beq_eq_false_iff_ne]; omega
  by_cases hik : i = k
  · have g : ((i : Int) == (k : Int)) = true := by rw [beq_iff_eq]; omega
    refine LWp.x (gs := [(91, false), (96, true)]) (hs := []) rfl (by (repeat' (with_reducible apply And.intro)); (all_goals first | (with_reducible exact trivial) | (with_reducible rfl) | (with_reducible assumption) | ((with_reducible apply isB); first | exact rfl | exact beq_self_eq_true _) | omega | (((with_reducible apply isB); first | exact g | exact g1)))) ?_
    refine LWp.ite (b := true) rfl (fun _ => ?_) (fun h => by cases h)
    refine LWp.sx (gs := []) (hs := [.ret (B true)]) rfl ⟨awake3_ev, trivial⟩ ?_
    refine LWp.ret (retT (.inr rfl) (.one (.tmp ?_ rfl)))
    rfl
  have g2 : ((i : Int) == (k : Int)) = false := by rw [beq_eq_false_iff_ne]; omega
  refine LWp.x (gs := [(91, false), (96, false)]) (hs := []) rfl (by (repeat' (with_reducible apply And.intro)); (all_goals first | (with_reducible exact trivial) | (with_reducible rfl) | (with_reducible assumption) | ((with_reducible apply isB); first | exact rfl | exact beq_self_eq_true _) | omega | (((with_reducible apply isB); first | exact g2 | exact g1)))) ?_
  refine LWp.ite rfl (fun _ => ?_) (fun h => LWp.skip ?_)
  · refine LWp.sx (gs := []) (hs := [.ret (B true)]) rfl ⟨awake3_ev, trivial⟩ ?_
    refine LWp.ret (retT (.inr rfl) (.one (.tmp ?_ rfl)))
    rfl
  have hjk : j ≠ k := by
    intro e
    rw [e] at h
    simp at h
  have e1 := psame_ev t hw (i : Nat) (j : Nat)
  have e2 := psame_ev t hw (j : Nat) (i : Nat)
  have e3 := psame_ev t hw (j : Nat) (k : Nat)
  have e4 := psame_ev t hw (i : Nat) (k : Nat)
  rw [← same_comm hS hi hj hij] at e2
  have hthird := same_third hS hi hj hk hij hik hjk
  have z1 : (sameT t (i : Nat) (j : Nat)).2 = 0 := by rw [same_ok hS hi hj hij]
  have z3 : (sameT t (j : Nat) (k : Nat)).2 = 0 := by rw [same_ok hS hj hk hjk]
  have z4 : (sameT t (i : Nat) (k : Nat)).2 = 0 := by rw [same_ok hS hi hk hik]
  rw [z1] at e1 e2
  rw [z3] at e3
  rw [z4] at e4
  have hthird2 : (sameT t (i : Nat) (j : Nat)).1 = 1 → (sameT t (j : Nat) (k : Nat)).1 = (sameT t (i : Nat) (k : Nat)).1 := fun h => by rw [hthird h]
  generalize (sameT t (i : Nat) (j : Nat)).1 = a at e1 e2 hthird2
  generalize (sameT t (j : Nat) (k : Nat)).1 = c at e3 hthird2
  generalize (sameT t (i : Nat) (k : Nat)).1 = d at e4 hthird2
  refine LWp.sx (gs := []) (hs := [.ret (.tup [I a, I 0])]) rfl ⟨e1, trivial⟩ ?_
  refine LWp.sx (gs := []) (hs := [.ret (.tup [I a, I 0])]) rfl ⟨e2, trivial⟩ ?_
  refine LWp.sx (gs := []) (hs := [.ret (.tup [I c, I 0])]) rfl ⟨e3, trivial⟩ ?_
  refine LWp.sx (gs := []) (hs := [.ret (.tup [I d, I 0])]) rfl ⟨e4, trivial⟩ ?_
  by_cases ha : a = 1
  · have g3 : (a != 1) = false := by rw [bne_eq_false_iff_eq]; exact ha
    have g4 : (c == d) = true := by rw [beq_iff_eq]; exact hthird2 ha
    refine LWp.sx (gs := [(132, true), (136, true), (140, true), (144, true), (149, true), (152, false), (158, true)]) (hs := [.ret (B true)]) rfl (by (repeat' (with_reducible apply And.intro)); (all_goals first | (with_reducible exact trivial) | (with_reducible rfl) | (with_reducible assumption) | ((with_reducible apply isB); first | exact rfl | exact beq_self_eq_true _) | omega | ((first | exact awake3_ev | ((with_reducible apply isB); first | exact g3 | exact g4))))) ?_
    refine LWp.ret (retT (.inr rfl) (.one (.tmp ?_ rfl)))
    rfl
  · have g3 : (a != 1) = true := by rw [bne_iff_ne]; exact ha
    refine LWp.sx (gs := [(132, true), (136, true), (140, true), (144, true), (149, true), (152, true), (158, true)]) (hs := [.ret (B true)]) rfl (by (repeat' (with_reducible apply And.intro)); (all_goals first | (with_reducible exact trivial) | (with_reducible rfl) | (with_reducible assumption) | ((with_reducible apply isB); first | exact rfl | exact beq_self_eq_true _) | omega | ((first | exact awake3_ev | ((with_reducible apply isB); first | exact g3))))) ?_
    refine LWp.ret (retT (.inr rfl) (.one (.tmp ?_ rfl)))
    rfl
end Go.Px

