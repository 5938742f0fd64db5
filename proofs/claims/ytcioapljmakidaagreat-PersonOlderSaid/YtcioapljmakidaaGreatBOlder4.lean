/- Part 4 of the proof of the statement PersonOlder (contracts of the functions that it alone wants). No conditions. -/
import Derived.Test.YtcioapljmakidaaGreatBOlder3
namespace Go.Px
open Go.Proofs Go.MapKept
theorem rcan_ev {t : Town} (h : t.OK) {p : List Nat} (hg : Grp t.ms.length p) (bl : List Int) : Ev Tryz.prog 86 [.agg t.enc, ints (natI p), ints bl] (B (canR t (butL bl) p)) := by
  have hm6 := h.ms6
  have hle := hg.le
  have hsm := small_of hm6 hg
  have hpl := hg.len
  have htl : ((t.ties.map Tie.enc).length : Int) = t.ties.length := by simp
  have ht4 := h.ties4
  have hcount := rcount3_ev hsm
  have hC : canR t (butL bl) p = ((List.range (cnt p)).all (fun who => namedR t (ofL p who)) && tiedF t (butL bl) p && (kinB t p && !emptyS (yearsW t p (cnt p)))) := rfl
  refine Ev.intro fn86 ?_
  refine LWp.sx (gs := []) (hs := [.ice]) rfl ⟨⟨rfl, rfl⟩, trivial⟩ ?_
  refine LWp.seq (LWp.seq ?_)
  refine LWp.x (gs := []) (hs := []) rfl trivial ?_
  refine LWp.blockT (fun _ : Unit => (List.range (cnt p)).all (fun who => namedR t (ofL p who)) = true) (fun _ => el [(1, ints (natI p)), (2, ints bl), (3, .pi t.enc)]) (fun _ => []) (fun _ => []) ?_ ?_
  · refine LWp.loopN (fun k : Nat => k ≤ cnt p ∧ ∀ who, who < k → namedR t (ofL p who) = true) (fun k => el [(1, ints (natI p)), (2, ints bl), (3, .pi t.enc), (7, I k)]) (fun _ => []) (fun _ => []) (fun k => cnt p - k) 0 ⟨by omega, by intro w hw; omega⟩ (Ent.el ⟨rfl, rfl, rfl, rfl, trivial⟩) ?_
    rintro k ⟨hk, hp⟩
    refine LWp.seq (LWp.seq ?_)
    refine LWp.x (gs := []) (hs := [.ret (I (cnt p : Nat))]) rfl ⟨hcount, trivial⟩ ?_
    refine LWp.ite rfl (fun hc => ?_) (fun hc => ?_)
    · simp only [decide_eq_true_eq, Int.ofNat_lt] at hc
      have hof := rof_ev (p := p) (by omega) k
      have hna := rnamed_ev h (l := ofL p k) (by
        have : ofL p k = ofK p k t.ms.length := by unfold ofL ofK; rw [hpl]
        rw [this]
        have := ofK_len p k t.ms.length
        omega) (fun i hi => by rw [← hpl]; exact (ofL_mem.1 hi).1)
      refine LWp.skip (LWp.seq (LWp.block ?_))
      refine LWp.sd (gs := []) (hs := [.ret (ints (natI (ofL p k))), .ret (B (namedR t (ofL p k)))]) hmix rfl (by kernel_rfl) ⟨hof, hna, trivial⟩ ?_
      cases hb : namedR t (ofL p k) with
      | false =>
        refine LWp.ite (b := true) rfl (fun _ => ?_) (fun h => by cases h)
        have hF : canR t (butL bl) p = false := by
          rw [hC]
          have : (List.range (cnt p)).all (fun who => namedR t (ofL p who)) = false := by
            rw [List.all_eq_false]
            exact ⟨k, List.mem_range.2 hc, by rw [hb]; decide⟩
          rw [this]; rfl
        rw [hF]
        refine LWp.sx (gs := []) (hs := []) rfl trivial ?_
        refine LWp.ret (retT (.inr rfl) (.one (.tmp ?_ rfl)))
        rfl
      | true =>
        refine LWp.ite (b := false) rfl (fun h => by cases h) (fun _ => LWp.skip ?_)
        refine LWp.x (gs := []) (hs := []) rfl ⟨by omega, trivial⟩ ?_
        refine ⟨k + 1, ⟨hc, fun w hw => ?_⟩, by omega, Ent.el ⟨rfl, rfl, rfl, rfl, trivial⟩⟩
        by_cases e : w = k
        · rw [e]; exact hb
        · exact hp w (by omega)
    · simp only [decide_eq_false_iff_not, Int.ofNat_lt] at hc
      refine LWp.exit ⟨(), ?_, Ent.el ⟨rfl, rfl, rfl, trivial⟩⟩
      rw [List.all_eq_true]
      intro w hw
      exact hp w (by have := List.mem_range.1 hw; omega)
  intro _ hN
  rw [hN, Bool.true_and] at hC
  refine LWp.seq (LWp.seq ?_)
  refine LWp.x (gs := []) (hs := []) rfl trivial ?_
  refine LWp.blockT (fun _ : Unit => tiedF t (butL bl) p = true) (fun _ => el [(1, ints (natI p)), (3, .pi t.enc)]) (fun _ => []) (fun _ => []) ?_ ?_
  · refine LWp.loopN (fun k : Nat => k ≤ t.ties.length ∧ ∀ j, j < k → tieAtB t (butL bl) p j = true) (fun k => el [(1, ints (natI p)), (2, ints bl), (3, .pi t.enc), (8, I k)]) (fun _ => []) (fun _ => []) (fun k => t.ties.length - k) 0 ⟨by omega, by intro w hw; omega⟩ (Ent.el ⟨rfl, rfl, rfl, rfl, trivial⟩) ?_
    rintro k ⟨hk, hp⟩
    refine LWp.seq (LWp.seq ?_)
    refine LWp.x (gs := []) (hs := []) rfl trivial ?_
    refine LWp.ite rfl (fun hc => ?_) (fun hc => ?_)
    · simp only [decide_eq_true_eq] at hc
      have hkl : k < t.ties.length := by omega
      obtain ⟨x, hx⟩ := ex_get hkl
      obtain ⟨a0, a1, b0, b1, _⟩ := h.tie x (List.mem_of_getElem? hx)
      have hti := rtied_ev (p := p) x a0 (by omega) b0 (by omega)
      have hhas := has_ev bl (k : Int)
      have hat := tieAt_some (but := butL bl) (p := p) hx
      have hbk : butL bl k = bl.any (· == (k : Int)) := rfl
      rw [← hbk] at hhas
      refine LWp.skip (LWp.seq (LWp.block ?_))
      refine LWp.cutX (fun _ : Unit => True) (fun _ => el [(1, ints (natI p)), (2, ints bl), (3, .pi t.enc), (8, I k), (41, B (!tieAtB t (butL bl) p k))]) (fun _ => []) (fun _ => []) ?_ ?_
      · rw [hat]
        cases hb : butL bl k with
        | true =>
          rw [hb] at hhas
          refine LWp.x (gs := [(32, false)]) (hs := [.ret (B true)]) rfl (by (repeat' (with_reducible apply And.intro)); (all_goals first | (with_reducible exact trivial) | (with_reducible rfl) | (with_reducible assumption) | ((with_reducible apply isB); first | exact rfl | exact beq_self_eq_true _) | omega | ((first | exact hhas | rfl)))) ?_
          exact ⟨(), trivial, Ent.el ⟨rfl, rfl, rfl, rfl, rfl, trivial⟩⟩
        | false =>
          rw [hb] at hhas
          have hx' : (t.ties.map Tie.enc)[((k : Nat) : Int).toNat]? = some x.enc := by simp [hx]
          refine LWp.x (gs := [(32, true)]) (hs := [.ret (B false), .cells x.enc, .ret (B (tieB p x))]) rfl ⟨hhas, rfl, rfl, rfl, ⟨rfl, by omega, hx'⟩, rfl, rfl, ⟨rfl, hti⟩, rfl, rfl, trivial⟩ ?_
          exact ⟨(), trivial, Ent.el ⟨rfl, rfl, rfl, rfl, rfl, trivial⟩⟩
      intro _ _
      cases hb : tieAtB t (butL bl) p k with
      | false =>
        refine LWp.ite (b := true) rfl (fun _ => ?_) (fun h => by cases h)
        have hF : canR t (butL bl) p = false := by
          rw [hC]
          have : tiedF t (butL bl) p = false := by
            rw [tiedF_all, List.all_eq_false]
            exact ⟨k, List.mem_range.2 hkl, by rw [hb]; decide⟩
          rw [this]; rfl
        rw [hF]
        refine LWp.sx (gs := []) (hs := []) rfl trivial ?_
        refine LWp.ret (retT (.inr rfl) (.one (.tmp ?_ rfl)))
        rfl
      | true =>
        refine LWp.ite (b := false) rfl (fun h => by cases h) (fun _ => LWp.skip ?_)
        refine LWp.x (gs := []) (hs := []) rfl ⟨by omega, trivial⟩ ?_
        refine ⟨k + 1, ⟨hkl, fun w hw => ?_⟩, by omega, Ent.el ⟨rfl, rfl, rfl, rfl, trivial⟩⟩
        by_cases e : w = k
        · rw [e]; exact hb
        · exact hp w (by omega)
    · simp only [decide_eq_false_iff_not] at hc
      refine LWp.exit ⟨(), ?_, Ent.el ⟨rfl, rfl, trivial⟩⟩
      rw [tiedF_all, List.all_eq_true]
      intro w hw
      exact hp w (by have := List.mem_range.1 hw; omega)
  intro _ hT
  rw [hT, Bool.true_and] at hC
  rw [hC]
  have hki := rkin_ev h hpl
  cases hb : kinB t p with
  | false =>
    rw [hb] at hki
    refine LWp.sx (gs := [(45, false)]) (hs := [.ret (B false)]) rfl (by (repeat' (with_reducible apply And.intro)); (all_goals first | (with_reducible exact trivial) | (with_reducible rfl) | (with_reducible assumption) | ((with_reducible apply isB); first | exact rfl | exact beq_self_eq_true _) | omega | ((first | exact hki | rfl)))) ?_
    refine LWp.ret (retT (.inr rfl) (.one (.tmp ?_ rfl)))
    rfl
  | true =>
    rw [hb] at hki
    have hk1 : Kin1 t p := fun i hi hpi => (kinB_iff.1 hb i hi hpi).1
    have hye := ryears_ev h hg hk1
    have hlen : (yearsW t p (cnt p)).length = cnt p := by
      have := (yearsW_sub h hg hk1 (Nat.le_refl (cnt p))).1
      rw [this, born0_len]
    have hem := rempty_ev (yearsW t p (cnt p)) (by omega)
    refine LWp.sx (gs := [(45, true)]) (hs := [.ret (B true), .ret (spans (yearsW t p (cnt p))), .ret (B (emptyS (yearsW t p (cnt p))))]) rfl ⟨hki, rfl, rfl, ⟨rfl, hye⟩, ⟨rfl, hem⟩, rfl, rfl, trivial⟩ ?_
    refine LWp.ret (retT (.inr rfl) (.one (.tmp ?_ rfl)))
    rfl
theorem rtruths_ev {t : Town} (h : t.OK) (bl : List Int) : Ev Tryz.prog 42 [.agg t.enc, ints bl] (lists (truthsL t (butL bl))) := by
  have hm6 := h.ms6
  have hml : ((t.ms.map Men.enc).length : Int) = t.ms.length := by simp
  have hgr := groups_ev t.ms.length hm6
  have hgl := groups_len hm6
  have hgm : ∀ p ∈ groupsN t.ms.length, Grp t.ms.length p := fun p hp => groups_grp hp
  have hT : truthsL t (butL bl) = (groupsN t.ms.length).filter (canR t (butL bl)) := rfl
  rw [hT]
  generalize groupsN t.ms.length = G at hgr hgl hgm
  refine Ev.freeze (T := 34) ?_
  refine Ev.intro fn42 ?_
  refine LWp.sx (gs := []) (hs := [.ice]) rfl ⟨⟨rfl, rfl⟩, trivial⟩ ?_
  refine LWp.sx (gs := []) (hs := [.ret (lists G)]) rfl ⟨by rw [hml]; exact hgr, trivial⟩ ?_
  refine LWp.sx (gs := []) (hs := []) rfl trivial ?_
  refine LWp.ent (Ent.nilLin (t := 6) 34 1 rfl) ?_
  have hGl : ((G.map fun c => [ints (natI c)]).length : Int) = G.length := by simp
  refine LWp.seq (LWp.seq ?_)
  refine LWp.x (gs := []) (hs := []) rfl trivial ?_
  refine LWp.blockT (fun _ : Unit => True) (fun _ => el [(6, .lin 34 1 ((G.filter (canR t (butL bl))).map fun c => [ints (natI c)]))]) (fun _ => []) (fun _ => []) ?_ ?_
  · refine LWp.loopN (fun k : Nat => k ≤ G.length) (fun k => el [(1, ints bl), (2, .pi t.enc), (5, lists G), (6, .lin 34 1 (((G.take k).filter (canR t (butL bl))).map fun c => [ints (natI c)])), (7, I k)]) (fun _ => []) (fun _ => []) (fun k => G.length - k) 0 (by omega) (Ent.el ⟨rfl, rfl, rfl, rfl, rfl, trivial⟩) ?_
    intro k hk
    refine LWp.seq (LWp.seq ?_)
    refine LWp.x (gs := []) (hs := []) rfl trivial ?_
    refine LWp.ite rfl (fun hc => ?_) (fun hc => ?_)
    · simp only [decide_eq_true_eq] at hc
      have hkl : k < G.length := by omega
      obtain ⟨p, hp⟩ := ex_get hkl
      have hcan := rcan_ev h (hgm p (List.mem_of_getElem? hp)) bl
      have htk : (G.take (k + 1)).filter (canR t (butL bl)) = (G.take k).filter (canR t (butL bl)) ++ (if canR t (butL bl) p = true then [p] else []) := by
        rw [List.take_add_one, hp, List.filter_append]
        congr 1
        show List.filter _ [p] = _
        simp only [List.filter_cons, List.filter_nil]
      have hle := List.length_filter_le (canR t (butL bl)) (G.take k)
      rw [List.length_take] at hle
      refine LWp.skip (LWp.seq (LWp.block ?_))
      refine LWp.sd (gs := []) (hs := [.cells [ints (natI p)], .ret (B (canR t (butL bl) p))]) hmix rfl (by kernel_rfl) ⟨⟨by omega, by simp [hp]⟩, hcan, trivial⟩ ?_
      refine LWp.ite (b := canR t (butL bl) p) rfl (fun hb => ?_) (fun hb => LWp.skip ?_)
      · rw [if_pos hb] at htk
        refine LWp.x (gs := []) (hs := [.cells [ints (natI p)], .ice]) rfl ⟨⟨by omega, by simp [hp]⟩, rfl, ⟨by simp only [List.length_map, chunk, List.length_cons, List.length_nil]; omega, by simp only [List.length_map, chunk, List.length_cons, List.length_nil]; omega⟩, trivial⟩ ?_
        refine LWp.x (gs := []) (hs := []) rfl ⟨by omega, trivial⟩ ?_
        refine ⟨k + 1, by omega, by omega, Ent.el ⟨rfl, rfl, rfl, ?_, rfl, trivial⟩⟩
        show AV.lin _ 1 _ = AV.lin _ 1 _
        rw [htk, List.map_append]; rfl
      · rw [if_neg (by rw [hb]; decide), List.append_nil] at htk
        refine LWp.x (gs := []) (hs := []) rfl ⟨by omega, trivial⟩ ?_
        exact ⟨k + 1, by omega, by omega, Ent.el ⟨rfl, rfl, rfl, by rw [htk]; rfl, rfl, trivial⟩⟩
    · simp only [decide_eq_false_iff_not] at hc
      refine LWp.exit ⟨(), trivial, Ent.el ⟨?_, trivial⟩⟩
      rw [List.take_of_length_le (by omega)]; rfl
  · intro _ _
    refine LWp.sx (gs := []) (hs := []) rfl trivial ?_
    exact LWp.ret (retT (.inr rfl) (.lin rfl rfl))
end Go.Px

namespace Go.Px
open Go.Proofs Go.MapKept
theorem years_at {t : Town} (h : t.OK) {p : List Nat} (hg : Grp t.ms.length p) (hk : Kin1 t p) {w : Nat} (hw : w < cnt p) : spAt (yearsW t p 6) w = spAt (yearsW t p (cnt p)) w := by
  have hle := hg.le
  have h6 := h.ms6
  rw [yearsW_pad h hg hk (by omega)]
  refine spAt_app _ ?_
  have := (yearsW_sub h hg hk (Nat.le_refl (cnt p))).1
  rw [this, born0_len]
  exact hw
end Go.Px

namespace Go.Px
open Go.Proofs Go.MapKept
theorem tru_iff {t : Town} {but : Nat → Bool} {p : List Nat} : p ∈ truthsL t but ↔ p ∈ groupsN t.ms.length ∧ Tru t but p := by
  unfold truthsL
  rw [List.mem_filter]
  refine and_congr_right fun hp => ?_
  unfold canR
  simp only [Bool.and_eq_true, List.all_eq_true, List.mem_range, Bool.not_eq_true']
  exact ⟨fun h => ⟨groups_grp hp, h.2.1, h.2.2, h.1.2, h.1.1⟩, fun h => ⟨⟨h.named, h.tied⟩, h.kin, h.yrs⟩⟩
theorem Tru.kin1 {t : Town} {but : Nat → Bool} {p : List Nat} (h : Tru t but p) : Kin1 t p := fun i hi hpi => (kinB_iff.1 h.kin i hi hpi).1
theorem Tru.year {t : Town} (hO : t.OK) {but : Nat → Bool} {p : List Nat} (h : Tru t but p) {w : Nat} (hw : w < cnt p) :
    (bornAt t p t.ms.length w).1 ≤ (spAt (yearsW t p (cnt p)) w).1 ∧ (spAt (yearsW t p (cnt p)) w).1 ≤ (spAt (yearsW t p (cnt p)) w).2 ∧ (spAt (yearsW t p (cnt p)) w).2 ≤ (bornAt t p t.ms.length w).2 := by
  have hs := yearsW_sub hO h.grp h.kin1 (Nat.le_refl (cnt p))
  have hl : (yearsW t p (cnt p)).length = cnt p := by rw [hs.1, born0_len]
  have hn := not_empty_at h.yrs (k := w) (by omega)
  have h2 := hs.2 w
  rw [born0_get t p hw] at h2
  exact ⟨h2.1, hn, h2.2⟩
theorem hull_go (g : List Nat → Sp) : ∀ (l : List (List Nat)) (s : Sp), (l.foldl (fun (x : Sp × Bool) p => (widerF x.1 (g p) x.2, false)) (s, false)).1.1 ≤ s.1 ∧ s.2 ≤ (l.foldl (fun (x : Sp × Bool) p => (widerF x.1 (g p) x.2, false)) (s, false)).1.2 ∧
    (∀ p ∈ l, (l.foldl (fun (x : Sp × Bool) p => (widerF x.1 (g p) x.2, false)) (s, false)).1.1 ≤ (g p).1 ∧ (g p).2 ≤ (l.foldl (fun (x : Sp × Bool) p => (widerF x.1 (g p) x.2, false)) (s, false)).1.2) ∧
    ((l.foldl (fun (x : Sp × Bool) p => (widerF x.1 (g p) x.2, false)) (s, false)).1.1 = s.1 ∨ ∃ p ∈ l, (l.foldl (fun (x : Sp × Bool) p => (widerF x.1 (g p) x.2, false)) (s, false)).1.1 = (g p).1) ∧
    ((l.foldl (fun (x : Sp × Bool) p => (widerF x.1 (g p) x.2, false)) (s, false)).1.2 = s.2 ∨ ∃ p ∈ l, (l.foldl (fun (x : Sp × Bool) p => (widerF x.1 (g p) x.2, false)) (s, false)).1.2 = (g p).2)
  | [], s => ⟨Int.le_refl _, Int.le_refl _, by simp, .inl rfl, .inl rfl⟩
  | q :: l, s => by
    rw [List.foldl_cons]
    have e : widerF s (g q) false = (min s.1 (g q).1, max s.2 (g q).2) := rfl
    rw [e]
    obtain ⟨h1, h2, h3, h4, h5⟩ := hull_go g l (min s.1 (g q).1, max s.2 (g q).2)
    generalize (l.foldl (fun (x : Sp × Bool) p => (widerF x.1 (g p) x.2, false)) ((min s.1 (g q).1, max s.2 (g q).2), false)).1 = r at *
    simp only at h1 h2 h4 h5
    refine ⟨Int.le_trans h1 (Int.min_le_left _ _), Int.le_trans (Int.le_max_left _ _) h2, ?_, ?_, ?_⟩
    · intro p hp
      rcases List.mem_cons.1 hp with rfl | hp
      · exact ⟨Int.le_trans h1 (Int.min_le_right _ _), Int.le_trans (Int.le_max_right _ _) h2⟩
      · exact h3 p hp
    · rcases h4 with h4 | ⟨p, hp, h4⟩
      · by_cases c : s.1 ≤ (g q).1
        · left; rw [h4, Int.min_eq_left c]
        · right; exact ⟨q, by simp, by rw [h4, Int.min_eq_right (by clear h5; omega)]⟩
      · right; exact ⟨p, by simp [hp], h4⟩
    · rcases h5 with h5 | ⟨p, hp, h5⟩
      · by_cases c : (g q).2 ≤ s.2
        · left; rw [h5, Int.max_eq_left c]
        · right; exact ⟨q, by simp, by rw [h5, Int.max_eq_right (by clear h4; omega)]⟩
      · right; exact ⟨p, by simp [hp], h5⟩
theorem hull_spec (g : List Nat → Sp) {l : List (List Nat)} (hl : l ≠ []) : (∀ p ∈ l, (hullF g l).1 ≤ (g p).1 ∧ (g p).2 ≤ (hullF g l).2) ∧ (∃ p ∈ l, (hullF g l).1 = (g p).1) ∧ ∃ p ∈ l, (hullF g l).2 = (g p).2 := by
  cases l with
  | nil => exact absurd rfl hl
  | cons q l =>
    have e : hullF g (q :: l) = (l.foldl (fun (x : Sp × Bool) p => (widerF x.1 (g p) x.2, false)) (g q, false)).1 := rfl
    rw [e]
    obtain ⟨h1, h2, h3, h4, h5⟩ := hull_go g l (g q)
    refine ⟨?_, ?_, ?_⟩
    · intro p hp
      rcases List.mem_cons.1 hp with rfl | hp
      · exact ⟨h1, h2⟩
      · exact h3 p hp
    · rcases h4 with h4 | ⟨p, hp, h4⟩
      · exact ⟨q, by simp, h4⟩
      · exact ⟨p, by simp [hp], h4⟩
    · rcases h5 with h5 | ⟨p, hp, h5⟩
      · exact ⟨q, by simp, h5⟩
      · exact ⟨p, by simp [hp], h5⟩
end Go.Px

namespace Go.Px
open Go.Proofs Go.MapKept
theorem yrRound_none : ∀ (ks : List (Nat × Nat)) (b : List Sp) (m : Bool), (∀ k ∈ ks, k.1 < b.length ∧ k.2 < b.length) → (yrRound ks (b, m)).2 = false → m = false ∧ ∀ k ∈ ks, yrMore b k.1 k.2 = false
  | [], b, m, _, h => ⟨h, fun k hk => by cases hk⟩
  | (a, c) :: ks, b, m, h, e => by
    obtain ⟨ha, hc⟩ := h (a, c) (by simp)
    simp only [yrRound] at e
    obtain ⟨i1, i2⟩ := yrRound_none ks (yrStep b a c) (m || yrMore b a c) (fun k hk => by rw [yrStep_len]; exact h k (by simp [hk])) e
    rw [Bool.or_eq_false_iff] at i1
    rw [(yrStep_sub ha hc).2 i1.2] at i2
    refine ⟨i1.1, fun k hk => ?_⟩
    rcases List.mem_cons.1 hk with rfl | hk
    · exact i1.2
    · exact i2 k hk
theorem yearsB_fix {ks : List (Nat × Nat)} : ∀ (n : Nat) (b : List Sp), width b < n → (∀ k ∈ ks, k.1 < b.length ∧ k.2 < b.length ∧ k.1 ≠ k.2) → emptyS (yearsB ks b) = false → ∀ k ∈ ks, yrMore (yearsB ks b) k.1 k.2 = false
  | 0, _, h, _, _ => by omega
  | n + 1, b, hn, hk, he => by
    have hk2 : ∀ k ∈ ks, k.1 < b.length ∧ k.2 < b.length := fun k h => ⟨(hk k h).1, (hk k h).2.1⟩
    cases hb : emptyS b with
    | true => rw [yearsB_empty hb, hb] at he; cases he
    | false =>
      cases hm : (yrRound ks (b, false)).2 with
      | false =>
        rw [yearsB_done hb hm, ((yrRound_sub ks b false hk2).2 hm).1]
        exact (yrRound_none ks b false hk2 hm).2
      | true =>
        rw [yearsB_more hk hb hm] at he ⊢
        cases hr : emptyS (yrRound ks (b, false)).1 with
        | true => rw [yearsB_empty hr, hr] at he; cases he
        | false =>
          have := width_round hk hm hr
          exact yearsB_fix n _ (by omega) (fun k h => by rw [yrRound_len]; exact hk k h) he
theorem yrMore_iff {b : List Sp} {a c : Nat} : yrMore b a c = false ↔ older (spAt b a) (spAt b c) = spAt b a ∧ younger (spAt b a) (spAt b c) = spAt b c := by
  unfold yrMore
  rw [Bool.or_eq_false_iff, decide_eq_false_iff_not, decide_eq_false_iff_not, Classical.not_not, Classical.not_not]
theorem yrMore_bd {b : List Sp} {a c : Nat} : yrMore b a c = false ↔ (spAt b c).1 - 60 ≤ (spAt b a).1 ∧ (spAt b a).2 ≤ (spAt b c).2 - 15 ∧ (spAt b a).1 + 15 ≤ (spAt b c).1 ∧ (spAt b c).2 ≤ (spAt b a).2 + 60 := by
  rw [yrMore_iff, Prod.ext_iff, Prod.ext_iff]
  simp only [older, younger]
  omega
structure Yrs (t : Town) (p : List Nat) (F : Nat → Sp) : Prop where
  ne : ∀ w, w < cnt p → (F w).1 ≤ (F w).2
  sub : ∀ i, i < t.ms.length → (t.m i).lo ≤ (F (per p i)).1 ∧ (F (per p i)).2 ≤ (t.m i).hi
  fix : ∀ i, i < t.ms.length → (t.m i).par ≠ -1 → (F (per p i)).1 - 60 ≤ (F (per p (t.m i).par.toNat)).1 ∧ (F (per p (t.m i).par.toNat)).2 ≤ (F (per p i)).2 - 15 ∧ (F (per p (t.m i).par.toNat)).1 + 15 ≤ (F (per p i)).1 ∧ (F (per p i)).2 ≤ (F (per p (t.m i).par.toNat)).2 + 60
structure Fine (t : Town) (but : Nat → Bool) (p : List Nat) : Prop where
  kin : ∀ i, i < t.ms.length → (t.m i).par ≠ -1 → per p (t.m i).par.toNat ≠ per p i ∧ ∀ k, k < t.ms.length → (t.m k).par ≠ -1 → per p k = per p i → per p (t.m i).par.toNat = per p (t.m k).par.toNat
  snd : ∀ w, w < cnt p → Sounds t p w
  vil : ∀ i, i < t.ms.length → ∀ j, j < t.ms.length → per p i = per p j → Vil (t.m i).v (t.m j).v
  tie : ∀ i x, t.ties[i]? = some x → but i = false → tieB p x = true
  yrs : ∃ F, Yrs t p F
theorem m_some {t : Town} {i : Nat} (hi : i < t.ms.length) : t.ms[i]? = some (t.m i) := by
  obtain ⟨x, hx⟩ := ex_get hi
  rw [Town.m_get hx, hx]
theorem kid_mem {t : Town} {p : List Nat} {i : Nat} (hi : i < t.ms.length) (hp : (t.m i).par ≠ -1) : (per p (t.m i).par.toNat, per p i) ∈ kids t.ms p := kids_mem.2 ⟨i, t.m i, m_some hi, hp, rfl, rfl⟩
theorem tru_fix {t : Town} (hO : t.OK) {but : Nat → Bool} {p : List Nat} (h : Tru t but p) {i : Nat} (hi : i < t.ms.length) (hp : (t.m i).par ≠ -1) : yrMore (yearsW t p (cnt p)) (per p (t.m i).par.toNat) (per p i) = false := by
  have hk := kids_ok hO h.grp h.kin1 (Nat.le_refl (cnt p))
  have hy := h.yrs
  have hm := kid_mem (p := p) hi hp
  generalize per p (t.m i).par.toNat = a at hm ⊢
  generalize per p i = c at hm ⊢
  have e : yearsW t p (cnt p) = yearsB (kids t.ms p) (born0 t p (cnt p)) := rfl
  rw [e] at hy ⊢
  exact yearsB_fix _ _ (Nat.lt_succ_self _) hk hy (a, c) hm
theorem tru_yrs {t : Town} (hO : t.OK) {but : Nat → Bool} {p : List Nat} (h : Tru t but p) : Yrs t p (fun w => spAt (yearsW t p (cnt p)) w) := by
  have h1 := fun w (hw : w < cnt p) => h.year hO hw
  have h2 := fun i hi hp => tru_fix hO h (i := i) hi hp
  generalize yearsW t p (cnt p) = y at h1 h2
  refine ⟨fun w hw => (h1 w hw).2.1, fun i hi => ?_, fun i hi hp => yrMore_bd.1 (h2 i hi hp)⟩
  have h3 := bornAt_le t p (per p i) t.ms.length i hi rfl
  have h4 := h1 _ (h.grp.lt i hi)
  exact ⟨Int.le_trans h3.1 h4.1, Int.le_trans h4.2.2 h3.2⟩
end Go.Px

namespace Go.Px
open Go.Proofs Go.MapKept
theorem lvalid3_ev (t : Town) (hw : t.wf) : Ev Tryz.prog 33 [.agg t.enc] (B (townE t == 0)) := by
  have e := rpcheck_ev t hw
  refine Ev.intro fn33 ?_
  refine LWp.sx (gs := []) (hs := [.ice]) rfl ⟨⟨rfl, rfl⟩, trivial⟩ ?_
  refine LWp.sx (gs := []) (hs := [.ret (.tup [I (checkT t).1, I (checkT t).2.1, I (checkT t).2.2])]) rfl ⟨e, trivial⟩ ?_
  refine LWp.sx (gs := []) (hs := []) rfl trivial ?_
  refine LWp.ret (retT (.inr rfl) (.one (.tmp ?_ rfl)))
  rfl
theorem some_split (t : Town) : (someE t (townE t) == 0) = ((townE t == 0) && !(truthsL t noBut).isEmpty) := by
  rw [Bool.eq_iff_iff, beq_iff_eq, someE_zero, Bool.and_eq_true, beq_iff_eq, Bool.not_eq_true', ← Bool.not_eq_true, List.isEmpty_iff]
theorem lsome3_ev (t : Town) (hw : t.wf) : Ev Tryz.prog 45 [.agg t.enc] (B (someE t (townE t) == 0)) := by
  have ev := lvalid3_ev t hw
  rw [some_split]
  refine Ev.intro fn45 ?_
  refine LWp.sx (gs := []) (hs := [.ice]) rfl ⟨⟨rfl, rfl⟩, trivial⟩ ?_
  by_cases h : townE t = 0
  · have htr := rtruths_ev ((townE_zero hw).1 h).1 []
    rw [butL_nil] at htr
    rw [show (townE t == 0) = true by rw [beq_iff_eq]; exact h] at ev ⊢
    refine LWp.sx (gs := [(5, true)]) (hs := [.ret (B true), .retS [.agg t.enc, ints []] (lists (truthsL t noBut))]) rfl (by (repeat' (with_reducible apply And.intro)); (all_goals first | (with_reducible exact trivial) | (with_reducible rfl) | (with_reducible assumption) | ((with_reducible apply isB); first | exact rfl | exact beq_self_eq_true _) | omega | ((first | exact ev | exact htr | exact .cons (.nilSl (.refl _)))))) ?_
    refine LWp.ret (retT (.inr rfl) (.one (.tmp ?_ rfl)))
    show B _ = B _
    refine congrArg B ?_
    rw [Bool.eq_iff_iff]
    cases truthsL t noBut with
    | nil => simp
    | cons a l => simp
  · rw [show (townE t == 0) = false by rw [beq_eq_false_iff_ne]; exact h] at ev ⊢
    refine LWp.sx (gs := [(5, false)]) (hs := [.ret (B false)]) rfl (by (repeat' (with_reducible apply And.intro)); (all_goals first | (with_reducible exact trivial) | (with_reducible rfl) | (with_reducible assumption) | ((with_reducible apply isB); first | exact rfl | exact beq_self_eq_true _) | omega | ((exact ev)))) ?_
    refine LWp.ret (retT (.inr rfl) (.one (.tmp ?_ rfl)))
    rfl
theorem ent_some {t : Town} (h : someE t (townE t) = 0) {e : Int} (he : e = 0) : someE t (entE t e) = 0 := someE_zero.2 ⟨entE_zero.2 ⟨(someE_zero.1 h).1, he⟩, (someE_zero.1 h).2⟩
theorem born_ok {t : Town} (hO : t.OK) (h : someE t (townE t) = 0) {i : Nat} (hi : i < t.ms.length) : (bornT t (i : Nat)).2 = 0 ∧
    (∀ p ∈ truthsL t noBut, (bornT t (i : Nat)).1.1 ≤ (spAt (yearsW t p (cnt p)) (per p i)).1 ∧ (spAt (yearsW t p (cnt p)) (per p i)).2 ≤ (bornT t (i : Nat)).1.2) ∧
    (∃ p ∈ truthsL t noBut, (bornT t (i : Nat)).1.1 = (spAt (yearsW t p (cnt p)) (per p i)).1) ∧ ∃ p ∈ truthsL t noBut, (bornT t (i : Nat)).1.2 = (spAt (yearsW t p (cnt p)) (per p i)).2 := by
  unfold bornT
  rw [if_pos (ent_some h (oneE_zero.2 ⟨by omega, by omega⟩)), Int.toNat_natCast]
  have key : ∀ p ∈ truthsL t noBut, spAt (yearsW t p 6) (per p i) = spAt (yearsW t p (cnt p)) (per p i) := by
    intro p hp
    have hT := (tru_iff.1 hp).2
    exact years_at hO hT.grp hT.kin1 (hT.grp.lt i hi)
  obtain ⟨h1, ⟨p, hp, e1⟩, ⟨q, hq, e2⟩⟩ := hull_spec (fun p => spAt (yearsW t p 6) (per p i)) (someE_zero.1 h).2
  refine ⟨rfl, fun r hr => ?_, ⟨p, hp, ?_⟩, ⟨q, hq, ?_⟩⟩
  · have := h1 r hr
    simp only [key r hr] at this
    exact this
  · rw [← key p hp]; exact e1
  · rw [← key q hq]; exact e2
theorem born_out {t : Town} (h : someE t (townE t) ≠ 0) (q : Int) : (bornT t q).1 = (0, 0) ∧ (bornT t q).2 ≠ 0 := by
  have : someE t (entE t (oneE t q)) ≠ 0 := fun h2 => h (someE_zero.2 ⟨(entE_zero.1 (someE_zero.1 h2).1).1, (someE_zero.1 h2).2⟩)
  unfold bornT
  rw [if_neg this]
  exact ⟨rfl, this⟩
theorem born_within {t : Town} (hO : t.OK) (h : someE t (townE t) = 0) {i : Nat} (hi : i < t.ms.length) : (bornT t (i : Nat)).1.1 ≤ (bornT t (i : Nat)).1.2 ∧ (t.m i).lo ≤ (bornT t (i : Nat)).1.1 ∧ (bornT t (i : Nat)).1.2 ≤ (t.m i).hi := by
  obtain ⟨_, h1, ⟨p, hp, e1⟩, ⟨q, hq, e2⟩⟩ := born_ok hO h hi
  have yp := tru_yrs hO (tru_iff.1 hp).2
  have yq := tru_yrs hO (tru_iff.1 hq).2
  have a1 := yp.sub i hi
  have a2 := yq.sub i hi
  have a3 := yp.ne (per p i) ((tru_iff.1 hp).2.grp.lt i hi)
  have a4 := h1 p hp
  omega
theorem born_older {t : Town} (hO : t.OK) (h : someE t (townE t) = 0) {i : Nat} (hi : i < t.ms.length) (hp : (t.m i).par ≠ -1) :
    (bornT t (t.m i).par).1.1 ≤ (bornT t (i : Nat)).1.1 - 15 ∧ (bornT t (t.m i).par).1.2 ≤ (bornT t (i : Nat)).1.2 - 15 ∧ (bornT t (i : Nat)).1.1 - 60 ≤ (bornT t (t.m i).par).1.1 ∧ (bornT t (i : Nat)).1.2 - 60 ≤ (bornT t (t.m i).par).1.2 ∧ (bornT t (t.m i).par).2 = 0 := by
  have p0 := (hO.at hi).par0
  have p1 := (hO.at hi).par1
  have e : (t.m i).par = (((t.m i).par.toNat : Nat) : Int) := by omega
  have hfix : ∀ p ∈ truthsL t noBut, _ := fun p hp2 => (tru_yrs hO (tru_iff.1 hp2).2).fix i hi hp
  generalize hk : (t.m i).par.toNat = k at e hfix
  rw [e]
  obtain ⟨_, h1, ⟨p, hp, e1⟩, ⟨q, hq, e2⟩⟩ := born_ok hO h hi
  obtain ⟨h5, h3, ⟨r, hr, e3⟩, ⟨s, hs, e4⟩⟩ := born_ok hO h (i := k) (by omega)
  have f1 := hfix p hp
  have f2 := hfix q hq
  have f3 := hfix r hr
  have f4 := hfix s hs
  have a1 := h1 r hr
  have a2 := h1 s hs
  have a3 := h3 p hp
  have a4 := h3 q hq
  refine ⟨by omega, by omega, by omega, by omega, h5⟩
end Go.Px

namespace Go.Px
open Go.Proofs Go.MapKept
set_option maxRecDepth 10000 in
theorem personOlder_ev (t : Town) (hw : t.wf) : Ev Tryz.prog 13 [.agg t.enc] (B true) := by
  have es := lsome3_ev t hw
  have hln : ((t.ms.map Men.enc).length : Int) = t.ms.length := by simp
  have sp00 := lspan_ev 0 0
  have wide0 : spB 1000000 (0, 0) := ⟨by decide, by decide, by decide, by decide⟩
  refine Ev.intro fn13 ?_
  refine LWp.sx (gs := []) (hs := [.ice]) rfl ⟨⟨rfl, rfl⟩, trivial⟩ ?_
  refine LWp.seq (LWp.seq ?_)
  refine LWp.x (gs := []) (hs := []) rfl trivial ?_
  refine LWp.blockT (fun _ : Unit => True) (fun _ => el []) (fun _ => []) (fun _ => []) ?_ ?_
  · refine LWp.loopN (fun i : Nat => True) (fun i => el [(1, .pi t.enc), (3, I i)]) (fun _ => []) (fun _ => []) (fun i => t.ms.length - i) 0 trivial (Ent.el ⟨rfl, rfl, trivial⟩) ?_
    intro i _
    refine LWp.seq (LWp.seq ?_)
    refine LWp.x (gs := []) (hs := []) rfl trivial ?_
    refine LWp.ite rfl (fun hc => LWp.skip ?_) (fun hc => LWp.exit ⟨(), trivial, Ent.el trivial⟩)
    rw [hln, decide_eq_true_eq] at hc
    have hi : i < t.ms.length := by omega
    refine LWp.blockX (fun _ : Unit => t.ms.length ≤ 6) (fun _ => el [(1, .pi t.enc), (3, I i)]) (fun _ => []) (fun _ => []) ?_ ?_
    · have eb := pborn_ev t hw (i : Nat)
      by_cases hS : someE t (townE t) = 0
      case neg =>
        rw [show (someE t (townE t) == 0) = false by rw [beq_eq_false_iff_ne]; exact hS] at es
        obtain ⟨b1, b2⟩ := born_out hS (i : Nat)
        rw [b1] at eb
        generalize (bornT t (i : Nat)).2 = e at eb b2
        have eb : Ev Tryz.prog 25 [.agg t.enc, I (i : Nat)] (.tup [.agg [I 0, I 0], I e]) := eb
        have he : (e != 0) = true := by rw [bne_iff_ne]; exact b2
        refine LWp.sx (gs := []) (hs := [.ret (.tup [.agg [I 0, I 0], I e]), .lin]) rfl ⟨eb, rfl, ⟨rfl, rfl, rfl, Nat.le_refl 2⟩, trivial⟩ ?_
        refine LWp.ent (Ent.freezeLbox (t := 4) rfl) ?_
        refine LWp.seq (LWp.seq ?_)
        refine LWp.x (gs := []) (hs := [.ret (B false)]) rfl ⟨es, trivial⟩ ?_
        refine LWp.ite (b := true) rfl (fun _ => ?_) (fun h => by cases h)
        refine LWp.sd (gs := [(28, true), (33, true)]) (hs := [.ret (.agg [I 0, I 0]), .op (B true), .ret (B true)]) hmix rfl (by kernel_rfl) (by (repeat' (with_reducible apply And.intro)); (all_goals first | (with_reducible exact trivial) | (with_reducible rfl) | (with_reducible assumption) | ((with_reducible apply isB); first | exact rfl | exact beq_self_eq_true _) | omega | ((first | exact sp00 | exact awake3_ev | exact op_eqSpan (x := (0, 0)) (y := (0, 0)) rfl rfl wide0 wide0 | exact congrArg B he)))) ?_
        refine LWp.ret (retT (.inr rfl) (.one (.tmp ?_ rfl)))
        rfl
      rw [show (someE t (townE t) == 0) = true by rw [beq_iff_eq]; exact hS] at es
      have hO := ((townE_zero hw).1 (someE_zero.1 hS).1).1
      obtain ⟨w1, w2, w3⟩ := born_within hO hS hi
      have z := (born_ok hO hS hi).1
      have hold := born_older hO hS hi
      rw [z] at eb
      obtain ⟨x, hx⟩ := ex_get hi
      have hxm := Town.m_get hx
      rw [hxm] at w2 w3 hold
      have ox := hO.men i x hx
      have o1 := ox.lo0
      have o2 := ox.hi1
      generalize (bornT t (i : Nat)).1 = s at eb w1 w2 w3 hold
      refine LWp.sx (gs := []) (hs := [.ret (.tup [.agg (sp2 s), I 0]), .lin]) rfl ⟨eb, rfl, ⟨rfl, rfl, rfl, Nat.le_refl 2⟩, trivial⟩ ?_
      refine LWp.ent (Ent.freezeLbox (t := 4) rfl) ?_
      refine LWp.seq (LWp.seq ?_)
      refine LWp.x (gs := []) (hs := [.ret (B true)]) rfl ⟨es, trivial⟩ ?_
      refine LWp.ite (b := false) rfl (fun h => by cases h) (fun _ => LWp.skip ?_)
      refine LWp.sx (gs := []) (hs := [.cells x.enc, .lin]) rfl ⟨⟨by omega, by simp [hx]⟩, rfl, ⟨rfl, rfl, rfl, Nat.le_refl 2⟩, trivial⟩ ?_
      refine LWp.ent (Ent.freezeLbox (t := 6) rfl) ?_
      refine LWp.seq (LWp.seq ?_)
      refine LWp.x (gs := [(44, false), (51, false), (58, false)]) (hs := []) rfl (by (repeat' (with_reducible apply And.intro)); (all_goals first | (with_reducible exact trivial) | (with_reducible rfl) | (with_reducible assumption) | ((with_reducible apply isB); first | exact rfl | exact beq_self_eq_true _) | omega | (((with_reducible apply isB); rw [decide_eq_false_iff_not]; omega)))) ?_
      refine LWp.ite rfl (fun h => ?_) (fun _ => LWp.skip ?_)
      · rw [decide_eq_true_eq] at h; omega
      refine LWp.sx (gs := []) (hs := [.cells x.enc]) rfl ⟨⟨by omega, by simp [hx]⟩, trivial⟩ ?_
      refine LWp.seq (LWp.seq ?_)
      refine LWp.x (gs := []) (hs := []) rfl trivial ?_
      refine LWp.ite rfl (fun h => ?_) (fun h => LWp.skip ?_)
      · exact LWp.exit ⟨(), hO.ms6, Ent.el ⟨rfl, rfl, trivial⟩⟩
      rw [beq_eq_false_iff_ne] at h
      obtain ⟨k1, k2, k3, k4, k5⟩ := hold h
      have eu := pborn_ev t hw x.par
      rw [k5] at eu
      generalize (bornT t x.par).1 = u at eu k1 k2 k3 k4
      refine LWp.sx (gs := []) (hs := [.ret (.tup [.agg (sp2 u), I 0]), .lin]) rfl ⟨eu, rfl, ⟨rfl, rfl, rfl, Nat.le_refl 2⟩, trivial⟩ ?_
      refine LWp.ent (Ent.freezeLbox (t := 8) rfl) ?_
      refine LWp.seq ?_
      refine LWp.x (gs := [(81, false), (89, false), (97, false), (105, false)]) (hs := []) rfl (by (repeat' (with_reducible apply And.intro)); (all_goals first | (with_reducible exact trivial) | (with_reducible rfl) | (with_reducible assumption) | ((with_reducible apply isB); first | exact rfl | exact beq_self_eq_true _) | omega | ((first | omega | ((with_reducible apply isB); rw [decide_eq_false_iff_not]; omega))))) ?_
      refine LWp.ite rfl (fun h => ?_) (fun _ => LWp.skip ?_)
      · rw [decide_eq_true_eq] at h; omega
      exact ⟨(), hO.ms6, Ent.el ⟨rfl, rfl, trivial⟩⟩
    · intro _ hm6
      refine LWp.x (gs := []) (hs := []) rfl ⟨by omega, trivial⟩ ?_
      exact ⟨i + 1, trivial, by omega, Ent.el ⟨rfl, rfl, trivial⟩⟩
  · intro _ _
    refine LWp.sx (gs := []) (hs := [.ret (B true)]) rfl ⟨awake3_ev, trivial⟩ ?_
    refine LWp.ret (retT (.inr rfl) (.one (.tmp ?_ rfl)))
    rfl
end Go.Px

