/- Part 4 of the proof of the statement PersonFewest (contracts of the functions that it alone wants). No conditions. -/
import Derived.Test.YtcioapljmakidaaGreatBFewest3
namespace Go.Px
open Go.Proofs Go.MapKept
theorem rcan_ev {t : Town} (h : t.OK) {p : List Nat} (hg : Grp t.ms.length p) (bl : List Int) : Ev Tryz.prog 86 [.agg t.enc, ints (natI p), ints bl] (B (canR t (butL bl) p)) := by
  have hm6 := h.ms6
  have hle := hg.le
  have hsm := small_of hm6 hg
  have hpl := hg.len
  have htl : ((t.ties.map Tie.enc).length : Int) = t.ties.length := by simp
  have ht4 := h.ties4
  have hcount := rcount3_ev hsm
  have hC : canR t (butL bl) p = ((List.range (cnt p)).all (fun who => namedR t (ofL p who)) && tiedF t (butL bl) p && (kinB t p && !emptyS (yearsW t p (cnt p)))) := rfl
  refine Ev.intro fn86 ?_
  refine LWp.sx (gs := []) (hs := [.ice]) rfl ⟨⟨rfl, rfl⟩, trivial⟩ ?_
  refine LWp.seq (LWp.seq ?_)
  refine LWp.x (gs := []) (hs := []) rfl trivial ?_
  refine LWp.blockT (fun _ : Unit => (List.range (cnt p)).all (fun who => namedR t (ofL p who)) = true) (fun _ => el [(1, ints (natI p)), (2, ints bl), (3, .pi t.enc)]) (fun _ => []) (fun _ => []) ?_ ?_
  · refine LWp.loopN (fun k : Nat => k ≤ cnt p ∧ ∀ who, who < k → namedR t (ofL p who) = true) (fun k => el [(1, ints (natI p)), (2, ints bl), (3, .pi t.enc), (7, I k)]) (fun _ => []) (fun _ => []) (fun k => cnt p - k) 0 ⟨by omega, by intro w hw; omega⟩ (Ent.el ⟨rfl, rfl, rfl, rfl, trivial⟩) ?_
    rintro k ⟨hk, hp⟩
    refine LWp.seq (LWp.seq ?_)
    refine LWp.x (gs := []) (hs := [.ret (I (cnt p : Nat))]) rfl ⟨hcount, trivial⟩ ?_
    refine LWp.ite rfl (fun hc => ?_) (fun hc => ?_)
    · simp only [decide_eq_true_eq, Int.ofNat_lt] at hc
      have hof := rof_ev (p := p) (by omega) k
      have hna := rnamed_ev h (l := ofL p k) (by
        have : ofL p k = ofK p k t.ms.length := by unfold ofL ofK; rw [hpl]
        rw [this]
        have := ofK_len p k t.ms.length
        omega) (fun i hi => by rw [← hpl]; exact (ofL_mem.1 hi).1)
      refine LWp.skip (LWp.seq (LWp.block ?_))
      refine LWp.sd (gs := []) (hs := [.ret (ints (natI (ofL p k))), .ret (B (namedR t (ofL p k)))]) hmix rfl (by kernel_rfl) ⟨hof, hna, trivial⟩ ?_
      cases hb : namedR t (ofL p k) with
      | false =>
        refine LWp.ite (b := true) rfl (fun _ => ?_) (fun h => by cases h)
        have hF : canR t (butL bl) p = false := by
          rw [hC]
          have : (List.range (cnt p)).all (fun who => namedR t (ofL p who)) = false := by
            rw [List.all_eq_false]
            exact ⟨k, List.mem_range.2 hc, by rw [hb]; decide⟩
          rw [this]; rfl
        rw [hF]
        refine LWp.sx (gs := []) (hs := []) rfl trivial ?_
        refine LWp.ret (retT (.inr rfl) (.one (.tmp ?_ rfl)))
        rfl
      | true =>
        refine LWp.ite (b := false) rfl (fun h => by cases h) (fun _ => LWp.skip ?_)
        refine LWp.x (gs := []) (hs := []) rfl ⟨by omega, trivial⟩ ?_
        refine ⟨k + 1, ⟨hc, fun w hw => ?_⟩, by omega, Ent.el ⟨rfl, rfl, rfl, rfl, trivial⟩⟩
        by_cases e : w = k
        · rw [e]; exact hb
        · exact hp w (by omega)
    · simp only [decide_eq_false_iff_not, Int.ofNat_lt] at hc
      refine LWp.exit ⟨(), ?_, Ent.el ⟨rfl, rfl, rfl, trivial⟩⟩
      rw [List.all_eq_true]
      intro w hw
      exact hp w (by have := List.mem_range.1 hw; omega)
  intro _ hN
  rw [hN, Bool.true_and] at hC
  refine LWp.seq (LWp.seq ?_)
  refine LWp.x (gs := []) (hs := []) rfl trivial ?_
  refine LWp.blockT (fun _ : Unit => tiedF t (butL bl) p = true) (fun _ => el [(1, ints (natI p)), (3, .pi t.enc)]) (fun _ => []) (fun _ => []) ?_ ?_
  · refine LWp.loopN (fun k : Nat => k ≤ t.ties.length ∧ ∀ j, j < k → tieAtB t (butL bl) p j = true) (fun k => el [(1, ints (natI p)), (2, ints bl), (3, .pi t.enc), (8, I k)]) (fun _ => []) (fun _ => []) (fun k => t.ties.length - k) 0 ⟨by omega, by intro w hw; omega⟩ (Ent.el ⟨rfl, rfl, rfl, rfl, trivial⟩) ?_
    rintro k ⟨hk, hp⟩
    refine LWp.seq (LWp.seq ?_)
    refine LWp.x (gs := []) (hs := []) rfl trivial ?_
    refine LWp.ite rfl (fun hc => ?_) (fun hc => ?_)
    · simp only [decide_eq_true_eq] at hc
      have hkl : k < t.ties.length := by omega
      obtain ⟨x, hx⟩ := ex_get hkl
      obtain ⟨a0, a1, b0, b1, _⟩ := h.tie x (List.mem_of_getElem? hx)
      have hti := rtied_ev (p := p) x a0 (by omega) b0 (by omega)
      have hhas := has_ev bl (k : Int)
      have hat := tieAt_some (but := butL bl) (p := p) hx
      have hbk : butL bl k = bl.any (· == (k : Int)) := rfl
      rw [← hbk] at hhas
      refine LWp.skip (LWp.seq (LWp.block ?_))
      refine LWp.cutX (fun _ : Unit => True) (fun _ => el [(1, ints (natI p)), (2, ints bl), (3, .pi t.enc), (8, I k), (41, B (!tieAtB t (butL bl) p k))]) (fun _ => []) (fun _ => []) ?_ ?_
      · rw [hat]
        cases hb : butL bl k with
        | true =>
          rw [hb] at hhas
          refine LWp.x (gs := [(32, false)]) (hs := [.ret (B true)]) rfl (by (repeat' (with_reducible apply And.intro)); (all_goals first | (with_reducible exact trivial) | (with_reducible rfl) | (with_reducible assumption) | ((with_reducible apply isB); first | exact rfl | exact beq_self_eq_true _) | omega | ((first | exact hhas | rfl)))) ?_
          exact ⟨(), trivial, Ent.el ⟨rfl, rfl, rfl, rfl, rfl, trivial⟩⟩
        | false =>
          rw [hb] at hhas
          have hx' : (t.ties.map Tie.enc)[((k : Nat) : Int).toNat]? = some x.enc := by simp [hx]
          refine LWp.x (gs := [(32, true)]) (hs := [.ret (B false), .cells x.enc, .ret (B (tieB p x))]) rfl ⟨hhas, rfl, rfl, rfl, ⟨rfl, by omega, hx'⟩, rfl, rfl, ⟨rfl, hti⟩, rfl, rfl, trivial⟩ ?_
          exact ⟨(), trivial, Ent.el ⟨rfl, rfl, rfl, rfl, rfl, trivial⟩⟩
      intro _ _
      cases hb : tieAtB t (butL bl) p k with
      | false =>
        refine LWp.ite (b := true) rfl (fun _ => ?_) (fun h => by cases h)
        have hF : canR t (butL bl) p = false := by
          rw [hC]
          have : tiedF t (butL bl) p = false := by
            rw [tiedF_all, List.all_eq_false]
            exact ⟨k, List.mem_range.2 hkl, by rw [hb]; decide⟩
          rw [this]; rfl
        rw [hF]
        refine LWp.sx (gs := []) (hs := []) rfl trivial ?_
        refine LWp.ret (retT (.inr rfl) (.one (.tmp ?_ rfl)))
        rfl
      | true =>
        refine LWp.ite (b := false) rfl (fun h => by cases h) (fun _ => LWp.skip ?_)
        refine LWp.x (gs := []) (hs := []) rfl ⟨by omega, trivial⟩ ?_
        refine ⟨k + 1, ⟨hkl, fun w hw => ?_⟩, by omega, Ent.el ⟨rfl, rfl, rfl, rfl, trivial⟩⟩
        by_cases e : w = k
        · rw [e]; exact hb
        · exact hp w (by omega)
    · simp only [decide_eq_false_iff_not] at hc
      refine LWp.exit ⟨(), ?_, Ent.el ⟨rfl, rfl, trivial⟩⟩
      rw [tiedF_all, List.all_eq_true]
      intro w hw
      exact hp w (by have := List.mem_range.1 hw; omega)
  intro _ hT
  rw [hT, Bool.true_and] at hC
  rw [hC]
  have hki := rkin_ev h hpl
  cases hb : kinB t p with
  | false =>
    rw [hb] at hki
    refine LWp.sx (gs := [(45, false)]) (hs := [.ret (B false)]) rfl (by (repeat' (with_reducible apply And.intro)); (all_goals first | (with_reducible exact trivial) | (with_reducible rfl) | (with_reducible assumption) | ((with_reducible apply isB); first | exact rfl | exact beq_self_eq_true _) | omega | ((first | exact hki | rfl)))) ?_
    refine LWp.ret (retT (.inr rfl) (.one (.tmp ?_ rfl)))
    rfl
  | true =>
    rw [hb] at hki
    have hk1 : Kin1 t p := fun i hi hpi => (kinB_iff.1 hb i hi hpi).1
    have hye := ryears_ev h hg hk1
    have hlen : (yearsW t p (cnt p)).length = cnt p := by
      have := (yearsW_sub h hg hk1 (Nat.le_refl (cnt p))).1
      rw [this, born0_len]
    have hem := rempty_ev (yearsW t p (cnt p)) (by omega)
    refine LWp.sx (gs := [(45, true)]) (hs := [.ret (B true), .ret (spans (yearsW t p (cnt p))), .ret (B (emptyS (yearsW t p (cnt p))))]) rfl ⟨hki, rfl, rfl, ⟨rfl, hye⟩, ⟨rfl, hem⟩, rfl, rfl, trivial⟩ ?_
    refine LWp.ret (retT (.inr rfl) (.one (.tmp ?_ rfl)))
    rfl
theorem rtruths_ev {t : Town} (h : t.OK) (bl : List Int) : Ev Tryz.prog 42 [.agg t.enc, ints bl] (lists (truthsL t (butL bl))) := by
  have hm6 := h.ms6
  have hml : ((t.ms.map Men.enc).length : Int) = t.ms.length := by simp
  have hgr := groups_ev t.ms.length hm6
  have hgl := groups_len hm6
  have hgm : ∀ p ∈ groupsN t.ms.length, Grp t.ms.length p := fun p hp => groups_grp hp
  have hT : truthsL t (butL bl) = (groupsN t.ms.length).filter (canR t (butL bl)) := rfl
  rw [hT]
  generalize groupsN t.ms.length = G at hgr hgl hgm
  refine Ev.freeze (T := 34) ?_
  refine Ev.intro fn42 ?_
  refine LWp.sx (gs := []) (hs := [.ice]) rfl ⟨⟨rfl, rfl⟩, trivial⟩ ?_
  refine LWp.sx (gs := []) (hs := [.ret (lists G)]) rfl ⟨by rw [hml]; exact hgr, trivial⟩ ?_
  refine LWp.sx (gs := []) (hs := []) rfl trivial ?_
  refine LWp.ent (Ent.nilLin (t := 6) 34 1 rfl) ?_
  have hGl : ((G.map fun c => [ints (natI c)]).length : Int) = G.length := by simp
  refine LWp.seq (LWp.seq ?_)
  refine LWp.x (gs := []) (hs := []) rfl trivial ?_
  refine LWp.blockT (fun _ : Unit => True) (fun _ => el [(6, .lin 34 1 ((G.filter (canR t (butL bl))).map fun c => [ints (natI c)]))]) (fun _ => []) (fun _ => []) ?_ ?_
  · refine LWp.loopN (fun k : Nat => k ≤ G.length) (fun k => el [(1, ints bl), (2, .pi t.enc), (5, lists G), (6, .lin 34 1 (((G.take k).filter (canR t (butL bl))).map fun c => [ints (natI c)])), (7, I k)]) (fun _ => []) (fun _ => []) (fun k => G.length - k) 0 (by omega) (Ent.el ⟨rfl, rfl, rfl, rfl, rfl, trivial⟩) ?_
    intro k hk
    refine LWp.seq (LWp.seq ?_)
    refine LWp.x (gs := []) (hs := []) rfl trivial ?_
    refine LWp.ite rfl (fun hc => ?_) (fun hc => ?_)
    · simp only [decide_eq_true_eq] at hc
      have hkl : k < G.length := by omega
      obtain ⟨p, hp⟩ := ex_get hkl
      have hcan := rcan_ev h (hgm p (List.mem_of_getElem? hp)) bl
      have htk : (G.take (k + 1)).filter (canR t (butL bl)) = (G.take k).filter (canR t (butL bl)) ++ (if canR t (butL bl) p = true then [p] else []) := by
        rw [List.take_add_one, hp, List.filter_append]
        congr 1
        show List.filter _ [p] = _
        simp only [List.filter_cons, List.filter_nil]
      have hle := List.length_filter_le (canR t (butL bl)) (G.take k)
      rw [List.length_take] at hle
      refine LWp.skip (LWp.seq (LWp.block ?_))
      refine LWp.sd (gs := []) (hs := [.cells [ints (natI p)], .ret (B (canR t (butL bl) p))]) hmix rfl (by kernel_rfl) ⟨⟨by omega, by simp [hp]⟩, hcan, trivial⟩ ?_
      refine LWp.ite (b := canR t (butL bl) p) rfl (fun hb => ?_) (fun hb => LWp.skip ?_)
      · rw [if_pos hb] at htk
        refine LWp.x (gs := []) (hs := [.cells [ints (natI p)], .ice]) rfl ⟨⟨by omega, by simp [hp]⟩, rfl, ⟨by simp only [List.length_map, chunk, List.length_cons, List.length_nil]; omega, by simp only [List.length_map, chunk, List.length_cons, List.length_nil]; omega⟩, trivial⟩ ?_
        refine LWp.x (gs := []) (hs := []) rfl ⟨by omega, trivial⟩ ?_
        refine ⟨k + 1, by omega, by omega, Ent.el ⟨rfl, rfl, rfl, ?_, rfl, trivial⟩⟩
        show AV.lin _ 1 _ = AV.lin _ 1 _
        rw [htk, List.map_append]; rfl
      · rw [if_neg (by rw [hb]; decide), List.append_nil] at htk
        refine LWp.x (gs := []) (hs := []) rfl ⟨by omega, trivial⟩ ?_
        exact ⟨k + 1, by omega, by omega, Ent.el ⟨rfl, rfl, rfl, by rw [htk]; rfl, rfl, trivial⟩⟩
    · simp only [decide_eq_false_iff_not] at hc
      refine LWp.exit ⟨(), trivial, Ent.el ⟨?_, trivial⟩⟩
      rw [List.take_of_length_le (by omega)]; rfl
  · intro _ _
    refine LWp.sx (gs := []) (hs := []) rfl trivial ?_
    exact LWp.ret (retT (.inr rfl) (.lin rfl rfl))
end Go.Px

namespace Go.Px
open Go.Proofs
open Go.ChangeShapes Go.WideShapes Go.ChangeAt Go.RowKit
theorem fits_u8 (a : AV) (h : FitA (.int .u8) a) : ∃ i : Int, 0 ≤ i ∧ i ≤ 255 ∧ a = U i := by
  simp only [FitA, Fits] at h
  obtain ⟨n, h, hn⟩ := h
  simp only [List.cons.injEq, and_true] at h
  have := bounds_u8 hn
  exact ⟨n, by omega, by omega, h⟩
end Go.Px

namespace Go.Px
open Go.Proofs Go.MapKept
structure Yrs (t : Town) (p : List Nat) (F : Nat → Sp) : Prop where
  ne : ∀ w, w < cnt p → (F w).1 ≤ (F w).2
  sub : ∀ i, i < t.ms.length → (t.m i).lo ≤ (F (per p i)).1 ∧ (F (per p i)).2 ≤ (t.m i).hi
  fix : ∀ i, i < t.ms.length → (t.m i).par ≠ -1 → (F (per p i)).1 - 60 ≤ (F (per p (t.m i).par.toNat)).1 ∧ (F (per p (t.m i).par.toNat)).2 ≤ (F (per p i)).2 - 15 ∧ (F (per p (t.m i).par.toNat)).1 + 15 ≤ (F (per p i)).1 ∧ (F (per p i)).2 ≤ (F (per p (t.m i).par.toNat)).2 + 60
structure Fine (t : Town) (but : Nat → Bool) (p : List Nat) : Prop where
  kin : ∀ i, i < t.ms.length → (t.m i).par ≠ -1 → per p (t.m i).par.toNat ≠ per p i ∧ ∀ k, k < t.ms.length → (t.m k).par ≠ -1 → per p k = per p i → per p (t.m i).par.toNat = per p (t.m k).par.toNat
  snd : ∀ w, w < cnt p → Sounds t p w
  vil : ∀ i, i < t.ms.length → ∀ j, j < t.ms.length → per p i = per p j → Vil (t.m i).v (t.m j).v
  tie : ∀ i x, t.ties[i]? = some x → but i = false → tieB p x = true
  yrs : ∃ F, Yrs t p F
end Go.Px

namespace Go.Px
open Go.Proofs Go.MapKept
theorem lvalid3_ev (t : Town) (hw : t.wf) : Ev Tryz.prog 33 [.agg t.enc] (B (townE t == 0)) := by
  have e := rpcheck_ev t hw
  refine Ev.intro fn33 ?_
  refine LWp.sx (gs := []) (hs := [.ice]) rfl ⟨⟨rfl, rfl⟩, trivial⟩ ?_
  refine LWp.sx (gs := []) (hs := [.ret (.tup [I (checkT t).1, I (checkT t).2.1, I (checkT t).2.2])]) rfl ⟨e, trivial⟩ ?_
  refine LWp.sx (gs := []) (hs := []) rfl trivial ?_
  refine LWp.ret (retT (.inr rfl) (.one (.tmp ?_ rfl)))
  rfl
end Go.Px

namespace Go.Px
open Go.Proofs Go.MapKept
abbrev linI (l : List Int) : AV := .lin 3 1 (l.map fun x => [I x])
theorem lin_snoc (l : List Int) (v : Int) : AV.lin 3 1 (l.map (fun x => [I x]) ++ [[I v]]) = linI (l ++ [v]) := by rw [linI, List.map_append]; rfl
theorem wrong_ok {t : Town} (h0 : townE t = 0) : ((wrongT t).2 = 0 ∧ ∃ s, s < 2 ^ t.ties.length ∧ setG t (sN t.ties.length s) = true ∧ (wrongT t).1 = natI (sN t.ties.length s) ∧ ∀ s', s' < 2 ^ t.ties.length → setG t (sN t.ties.length s') = true → fewerL (natI (sN t.ties.length s')) (wrongT t).1 = false) ∨
    (wrongT t = ([], 9) ∧ ∀ s, s < 2 ^ t.ties.length → setG t (sN t.ties.length s) = false) := by
  obtain ⟨i1, i2⟩ := wrong_inv t (2 ^ t.ties.length)
  unfold wrongT
  rw [if_pos h0]
  cases hf : (wrongF t (2 ^ t.ties.length)).2 with
  | true =>
    left
    rw [if_pos rfl]
    obtain ⟨s, h1, h2, h3⟩ := i1 hf
    exact ⟨rfl, s, h1, h2, h3, fun s' h4 h5 => (i2 s' h4 h5).2⟩
  | false =>
    right
    rw [if_neg (by simp)]
    refine ⟨rfl, fun s hs => ?_⟩
    cases hg : setG t (sN t.ties.length s) with
    | false => rfl
    | true => rw [(i2 s hs hg).1] at hf; cases hf
end Go.Px

namespace Go.Px
open Go.Proofs Go.MapKept
theorem natI_inc : ∀ {c : List Nat} {k : Int}, Inc c → (∀ v ∈ c, k < (v : Int)) → ascB (natI c) k = true
  | [], _, _, _ => rfl
  | x :: c, k, hi, hk => by
    have h1 := hk x (by simp)
    obtain ⟨h2, h3⟩ := List.pairwise_cons.1 hi
    simp only [natI, List.map_cons, ascB, Bool.and_eq_true, decide_eq_true_eq]
    exact ⟨h1, natI_inc h3 (fun v hv => by have := h2 v hv; omega)⟩
theorem sN_rising (n s : Nat) : risingF (n : Nat) (natI (sN n s)) (-1) = true := by
  rw [rising_asc (fun j hj => by obtain ⟨k, hk, rfl⟩ := List.mem_map.1 hj; have := (sN_mem.1 hk).1; omega)]
  exact natI_inc (sN_inc n s) (fun v _ => by omega)
theorem sN_succ (w : Int) (h0 : 0 ≤ w) (n : Nat) : natI (sN (n + 1) w.toNat) = natI (sN n w.toNat) ++ if bitI w n = true then [(n : Int)] else [] := by
  unfold sN
  rw [List.range_succ, List.filter_append, natI, List.map_append]
  congr 1
  rw [bit_gives _ _ h0, gives_bit _ _ h0]
  cases hg : w.toNat.testBit n <;> simp [hg]
theorem sN_len (n s : Nat) : (sN n s).length ≤ n := by
  unfold sN
  exact Nat.le_trans (List.length_filter_le _ _) (by simp)
theorem sN_mod (n s : Nat) : sN n s = sN n (s % 2 ^ n) := by
  unfold sN
  refine List.filter_congr fun k hk => ?_
  rw [Nat.testBit_mod_two_pow, decide_eq_true (List.mem_range.1 hk), Bool.true_and]
theorem sN_all (n : Nat) : natI (sN n (2 ^ n - 1)) = natI (List.range n) := by
  unfold sN
  congr 1
  rw [List.filter_eq_self]
  intro k hk
  rw [Nat.testBit_two_pow_sub_one, decide_eq_true (List.mem_range.1 hk)]
theorem rng_succ (n : Nat) : natI (List.range (n + 1)) = natI (List.range n) ++ [(n : Int)] := by
  rw [List.range_succ, natI, List.map_append]; rfl
theorem setG_len {t : Town} {c : List Nat} : (setG t c = true → (truthsL t (butL (natI c))).length ≠ 0) ∧ (setG t c = false → (truthsL t (butL (natI c))).length = 0) := by
  unfold setG
  cases truthsL t (butL (natI c)) <;> simp
theorem lists_len (l : List (List Nat)) : ((l.map fun p => [ints (natI p)]).length : Int) = l.length := by simp
set_option maxRecDepth 10000 in
set_option maxHeartbeats 1000000 in
theorem personFewest_ev (t : Town) (hw : t.wf) (w : Int) (h0 : 0 ≤ w) (h0' : w ≤ 255) : Ev Tryz.prog 10 [.agg t.enc, U w] (B true) := by
  have ev := lvalid3_ev t hw
  have ew := pwrong_ev t hw
  have hln : ((t.ties.map Tie.enc).length : Int) = t.ties.length := by simp
  refine Ev.intro fn10 ?_
  refine LWp.sx (gs := []) (hs := [.ice]) rfl ⟨⟨rfl, rfl⟩, trivial⟩ ?_
  by_cases hE : townE t = 0
  case neg =>
    have hW : wrongT t = ([], townE t) := by unfold wrongT; rw [if_neg hE]
    rw [hW] at ew
    rw [show (townE t == 0) = false by rw [beq_eq_false_iff_ne]; exact hE] at ev
    generalize townE t = e at ew hE
    have he : (e != 0) = true := by rw [bne_iff_ne]; exact hE
    refine LWp.sx (gs := []) (hs := [.ret (.tup [ints [], I e])]) rfl ⟨ew, trivial⟩ ?_
    refine LWp.seq (LWp.seq ?_)
    refine LWp.x (gs := []) (hs := [.ret (B false)]) rfl ⟨ev, trivial⟩ ?_
    refine LWp.ite (b := true) rfl (fun _ => ?_) (fun h => by cases h)
    refine LWp.sx (gs := [(20, true), (25, true)]) (hs := [.ret (B true)]) rfl (by (repeat' (with_reducible apply And.intro)); (all_goals first | (with_reducible exact trivial) | (with_reducible rfl) | (with_reducible assumption) | ((with_reducible apply isB); first | exact rfl | exact beq_self_eq_true _) | omega | ((first | exact awake3_ev | ((with_reducible apply isB); exact he))))) ?_
    refine LWp.ret (retT (.inr rfl) (.one (.tmp ?_ rfl)))
    rfl
  rw [show (townE t == 0) = true by rw [beq_iff_eq]; exact hE] at ev
  obtain ⟨hO, h5⟩ := (townE_zero hw).1 hE
  have ht4 := hO.ties4
  have hok := wrong_ok hE
  obtain ⟨l, e, hew⟩ : ∃ l e, wrongT t = (l, e) := ⟨_, _, rfl⟩
  rw [hew] at ew hok
  simp only at ew hok
  refine LWp.sx (gs := []) (hs := [.ret (.tup [ints l, I e])]) rfl ⟨ew, trivial⟩ ?_
  refine LWp.seq (LWp.seq ?_)
  refine LWp.x (gs := []) (hs := [.ret (B true)]) rfl ⟨ev, trivial⟩ ?_
  refine LWp.ite (b := false) rfl (fun h => by cases h) (fun _ => LWp.skip ?_)
  refine LWp.sx (gs := []) (hs := []) rfl trivial ?_
  refine LWp.seq (LWp.seq ?_)
  refine LWp.x (gs := []) (hs := []) rfl trivial ?_
  refine LWp.blockT (fun _ : Unit => True) (fun _ => el [(2, .pi t.enc), (5, ints l), (6, I e), (7, ints (natI (sN t.ties.length w.toNat))), (8, ints (natI (List.range t.ties.length)))]) (fun _ => []) (fun _ => []) ?_ ?_
  · refine LWp.loopN (fun i : Nat => i ≤ t.ties.length) (fun i => el [(1, U w), (2, .pi t.enc), (5, ints l), (6, I e), (7, linI (natI (sN i w.toNat))), (8, linI (natI (List.range i))), (9, I i)]) (fun _ => []) (fun _ => []) (fun i => t.ties.length - i) 0 (by omega)
      (Ent.trans (Ent.nilLin (t := 7) 3 1 rfl) (Ent.trans (Ent.nilLin (t := 8) 3 1 rfl) (Ent.el ⟨rfl, rfl, rfl, rfl, rfl, rfl, rfl, trivial⟩))) ?_
    intro i hi
    refine LWp.seq (LWp.seq ?_)
    refine LWp.x (gs := []) (hs := []) rfl trivial ?_
    refine LWp.ite rfl (fun hc => LWp.skip ?_) (fun hc => ?_)
    · rw [hln, decide_eq_true_eq] at hc
      have hsu := sN_succ w h0 i
      have hsl := sN_len i w.toNat
      have hru := rng_succ i
      have hrl : (List.range i).length = i := List.length_range
      refine LWp.blockX (fun _ : Unit => True) (fun _ => el [(1, U w), (2, .pi t.enc), (5, ints l), (6, I e), (7, linI (natI (sN (i + 1) w.toNat))), (8, linI (natI (List.range (i + 1)))), (9, I i)]) (fun _ => []) (fun _ => []) ?_ ?_
      · rw [hsu, hru]
        rw [← natI_len] at hsl hrl
        generalize natI (sN i w.toNat) = sm at hsl
        generalize natI (List.range i) = sr at hrl
        refine LWp.sx (gs := []) (hs := [.ice]) rfl ⟨rfl, ⟨by simp [chunk]; omega, by simp [chunk]; omega⟩, trivial⟩ ?_
        refine LWp.seq ?_
        refine LWp.x (gs := []) (hs := [.ret (B (bitI w i))]) rfl ⟨i64_wrap (n := w) (by omega) (by omega), bit_ev w i h0 (by omega) (by omega), trivial⟩ ?_
        refine LWp.ite rfl (fun hg => ?_) (fun hg => ?_)
        · rw [if_pos hg]
          refine LWp.x (gs := []) (hs := [.ice]) rfl ⟨rfl, ⟨by simp [chunk]; omega, by simp [chunk]; omega⟩, trivial⟩ ?_
          refine ⟨(), trivial, Ent.el ⟨rfl, rfl, rfl, rfl, ?_, ?_, rfl, trivial⟩⟩
          · exact lin_snoc _ _
          · exact lin_snoc _ _
        · rw [if_neg (by simp [hg]), List.append_nil]
          refine LWp.skip ⟨(), trivial, Ent.el ⟨rfl, rfl, rfl, rfl, rfl, ?_, rfl, trivial⟩⟩
          exact lin_snoc _ _
      · intro _ _
        refine LWp.x (gs := []) (hs := []) rfl ⟨by omega, trivial⟩ ?_
        exact ⟨i + 1, by omega, by omega, Ent.el ⟨rfl, rfl, rfl, rfl, rfl, rfl, rfl, trivial⟩⟩
    · rw [hln, decide_eq_false_iff_not] at hc
      have e : i = t.ties.length := by omega
      subst e
      exact LWp.exit ⟨(), trivial, Ent.trans (Ent.freezeLin (t := 7) rfl) (Ent.trans (Ent.freezeLin (t := 8) rfl) (Ent.el ⟨rfl, rfl, rfl, rfl, rfl, trivial⟩))⟩
  intro _ _
  have hall := sN_all t.ties.length
  rw [← hall]
  have hmod := sN_mod t.ties.length w.toNat
  have hlt : w.toNat % 2 ^ t.ties.length < 2 ^ t.ties.length := Nat.mod_lt _ (Nat.two_pow_pos _)
  have hlt2 : 2 ^ t.ties.length - 1 < 2 ^ t.ties.length := by have := Nat.two_pow_pos t.ties.length; omega
  rw [hmod]
  generalize w.toNat % 2 ^ t.ties.length = v at hlt
  generalize 2 ^ t.ties.length - 1 = a at hlt2
  refine LWp.seq (LWp.seq ?_)
  rcases hok with ⟨rfl, s, hs, hg, rfl, hmin⟩ | ⟨he, hno⟩
  case inr =>
    injection he with e1 e2
    subst e1 e2
    have htr := rtruths_ev hO (natI (sN t.ties.length a))
    have hz := setG_len.2 (hno a hlt2)
    generalize truthsL t (butL (natI (sN t.ties.length a))) = L at htr hz
    have hz2 : (((L.map fun p => [ints (natI p)]).length : Int) == 0) = true := by rw [lists_len, hz]; rfl
    refine LWp.x (gs := []) (hs := []) rfl trivial ?_
    refine LWp.ite (b := true) rfl (fun _ => ?_) (fun h => by cases h)
    refine LWp.sx (gs := [(51, true), (56, true), (63, true)]) (hs := [.ret (lists L), .ret (B true)]) rfl (by (repeat' (with_reducible apply And.intro)); (all_goals first | (with_reducible exact trivial) | (with_reducible rfl) | (with_reducible assumption) | ((with_reducible apply isB); first | exact rfl | exact beq_self_eq_true _) | omega | ((first | exact awake3_ev | exact htr | ((with_reducible apply isB); exact hz2))))) ?_
    refine LWp.ret (retT (.inr rfl) (.one (.tmp ?_ rfl)))
    rfl
  have her := sN_rising t.ties.length s
  have er := rising_ev (natI (sN t.ties.length s)) t.ties.length
  rw [her] at er
  rw [← hln] at er
  have htr := rtruths_ev hO (natI (sN t.ties.length s))
  have hz := setG_len.1 hg
  generalize truthsL t (butL (natI (sN t.ties.length s))) = L at htr hz
  have hz2 : decide (((L.map fun p => [ints (natI p)]).length : Int) > 0) = true := decide_eq_true (by rw [lists_len]; omega)
  have hto := rtruths_ev hO (natI (sN t.ties.length v))
  have hf := fewer_ev (natI (sN t.ties.length v)) (natI (sN t.ties.length s))
  refine LWp.x (gs := []) (hs := []) rfl trivial ?_
  refine LWp.ite (b := false) rfl (fun h => by cases h) (fun _ => LWp.skip ?_)
  cases hgv : setG t (sN t.ties.length v) with
  | false =>
    have hz3 := setG_len.2 hgv
    generalize truthsL t (butL (natI (sN t.ties.length v))) = M at hto hz3
    have hz4 : (((M.map fun p => [ints (natI p)]).length : Int) == 0) = true := by rw [lists_len, hz3]; rfl
    refine LWp.sx (gs := [(71, true), (78, true), (84, true), (91, true)]) (hs := [.ret (B true), .ret (lists L), .ret (lists M), .ret (B true)]) rfl (by (repeat' (with_reducible apply And.intro)); (all_goals first | (with_reducible exact trivial) | (with_reducible rfl) | (with_reducible assumption) | ((with_reducible apply isB); first | exact rfl | exact beq_self_eq_true _) | omega | ((first | exact awake3_ev | exact htr | exact hto | exact er | ((with_reducible apply isB); first | exact hz2 | exact hz4))))) ?_
    refine LWp.ret (retT (.inr rfl) (.one (.tmp ?_ rfl)))
    rfl
  | true =>
    have hz3 := setG_len.1 hgv
    rw [hmin v hlt hgv] at hf
    generalize truthsL t (butL (natI (sN t.ties.length v))) = M at hto hz3
    have hz4 : (((M.map fun p => [ints (natI p)]).length : Int) == 0) = false := by rw [lists_len, beq_eq_false_iff_ne]; omega
    refine LWp.sx (gs := [(71, true), (78, true), (84, false), (91, true)]) (hs := [.ret (B true), .ret (lists L), .ret (lists M), .ret (B false), .ret (B true)]) rfl (by (repeat' (with_reducible apply And.intro)); (all_goals first | (with_reducible exact trivial) | (with_reducible rfl) | (with_reducible assumption) | ((with_reducible apply isB); first | exact rfl | exact beq_self_eq_true _) | omega | ((first | exact awake3_ev | exact htr | exact hto | exact er | exact hf | ((with_reducible apply isB); first | exact hz2 | exact hz4))))) ?_
    refine LWp.ret (retT (.inr rfl) (.one (.tmp ?_ rfl)))
    rfl
end Go.Px

