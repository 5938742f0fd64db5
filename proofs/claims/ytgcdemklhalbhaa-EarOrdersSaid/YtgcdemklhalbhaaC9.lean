/- Part 9 of the proofs of the outright statements of this seat (functions lowered, plain laws, contracts). No conditions. -/
import Derived.Test.YtgcdemklhalbhaaC8
namespace Go.Px
open Go.Proofs

theorem natI_erase (c : List Nat) (p : Nat) : (natI c).eraseIdx p = natI (c.eraseIdx p) := by
  induction c generalizing p with
  | nil => rfl
  | cons x c ih =>
    cases p with
    | zero => rfl
    | succ p => simp only [natI, List.map_cons, List.eraseIdx_cons_succ]; exact congrArg _ (ih p)
theorem inc_erase {c : List Nat} (h : Inc c) (p : Nat) : Inc (c.eraseIdx p) := List.Pairwise.sublist (List.eraseIdx_sublist c p) h
theorem erase_step {α : Type} {l : List α} {k p : Nat} {x : α} (h : l[k]? = some x) : (l.take (k + 1)).eraseIdx p = if k = p then l.take k else (l.take k).eraseIdx p ++ if k = p then [] else (if k < p then [x] else [x]) := by
  have hk := (List.getElem?_eq_some_iff.1 h).1
  have hl : (l.take k).length = k := by rw [List.length_take]; omega
  rw [List.take_add_one, h]
  simp only [Option.toList_some]
  by_cases e : k = p
  · subst e
    rw [if_pos rfl, List.eraseIdx_append_of_length_le (by omega), hl, Nat.sub_self]
    simp
  · rw [if_neg e, if_neg e]
    simp only [ite_self]
    by_cases hp : p < k
    · rw [List.eraseIdx_append_of_lt_length (by omega)]
    · rw [List.eraseIdx_of_length_le (by simp; omega), List.eraseIdx_of_length_le (by omega)]
theorem erase_other {α : Type} {l : List α} {k p : Nat} {x : α} (h : l[k]? = some x) (e : k ≠ p) : (l.take (k + 1)).eraseIdx p = (l.take k).eraseIdx p ++ [x] := by
  rw [erase_step h, if_neg e, if_neg e]; simp
theorem erase_same {α : Type} {l : List α} {k : Nat} {x : α} (h : l[k]? = some x) : (l.take (k + 1)).eraseIdx k = (l.take k).eraseIdx k := by
  rw [erase_step h, if_pos rfl, List.eraseIdx_of_length_le (by rw [List.length_take]; omega)]
theorem common_err {b : Book} {l : List Int} (h : ¬ Valid b ∨ l = []) : (commonR b l).1 = [] ∧ (commonR b l).2 ≠ 0 := by
  by_cases V : Valid b
  · have e : l = [] := h.resolve_left (fun hn => hn V)
    subst e
    rw [common_nil V]
    exact ⟨rfl, by decide⟩
  · obtain ⟨e1, e2⟩ := enter_bad V b.ss.length l
    unfold commonR
    rw [e1, if_neg e2]
    exact ⟨rfl, e2⟩

theorem earCommon_ev (b : Book) (hw : b.wf) (hs : b.ss.length ≤ 9223372036854775807) (w v : Int) (h0 : 0 ≤ w) (h0' : w ≤ 255) (v0 : 0 ≤ v) (v0' : v ≤ 255) : Ev Try.prog 15 [.agg b.enc, U w, U v] (B true) := by
  refine Ev.intro fn15 ?_
  have ev := valid_ev b hw
  have hln : (b.ss.map Spelling.enc).length = b.ss.length := List.length_map _
  refine LWp.sx (gs := []) (hs := [.ice]) rfl ⟨⟨rfl, rfl⟩, trivial⟩ ?_
  refine LWp.sx (gs := []) (hs := []) rfl trivial ?_
  refine LWp.seq (LWp.seq ?_)
  refine LWp.x (gs := []) (hs := []) rfl trivial ?_
  refine LWp.blockT (fun _ : Unit => True) (fun _ => el [(2, U v), (3, .pi b.enc), (7, ints (natI (bitsN w (min b.ss.length 8))))]) (fun _ => []) (fun _ => []) ?_ ?_
  · refine LWp.loopN (fun i : Nat => i ≤ min b.ss.length 8) (fun i => el [(1, U w), (2, U v), (3, .pi b.enc), (7, linI (natI (bitsN w i))), (8, I i)]) (fun _ => []) (fun _ => []) (fun i => min b.ss.length 8 - i) 0 (by omega)
      (Ent.trans (Ent.nilLin (t := 7) 3 1 rfl) (Ent.el ⟨rfl, rfl, rfl, rfl, rfl, trivial⟩)) ?_
    intro i hi
    refine LWp.seq (LWp.seq ?_)
    refine LWp.cutT (fun _ : Unit => True) (fun _ => el [(1, U w), (2, U v), (3, .pi b.enc), (7, linI (natI (bitsN w i))), (8, I i), (26, B (decide (i < min b.ss.length 8)))]) (fun _ => []) (fun _ => []) ?_ (fun _ _ => ?_)
    · by_cases hc : i < b.ss.length
      · have h1 : decide ((i : Int) < ((b.ss.map Spelling.enc).length : Int)) = true := decide_eq_true (by rw [hln]; omega)
        refine LWp.x (gs := [(23, true)]) (hs := []) rfl (by (repeat' (with_reducible apply And.intro)); (all_goals try first | (with_reducible exact trivial) | (with_reducible rfl) | (with_reducible assumption) | ((with_reducible apply isB); first | exact rfl | exact beq_self_eq_true _))) ?_
        refine ⟨(), trivial, Ent.el ⟨rfl, rfl, rfl, rfl, rfl, ?_, trivial⟩⟩
        have e : decide (i < min b.ss.length 8) = decide ((i : Int) < 8) := by rw [Bool.eq_iff_iff]; simp; omega
        rw [e]; rfl
      · have h1 : decide ((i : Int) < ((b.ss.map Spelling.enc).length : Int)) = false := decide_eq_false (by rw [hln]; omega)
        refine LWp.x (gs := [(23, false)]) (hs := []) rfl (by (repeat' (with_reducible apply And.intro)); (all_goals try first | (with_reducible exact trivial) | (with_reducible rfl) | (with_reducible assumption) | ((with_reducible apply isB); first | exact rfl | exact beq_self_eq_true _))) ?_
        refine ⟨(), trivial, Ent.el ⟨rfl, rfl, rfl, rfl, rfl, ?_, trivial⟩⟩
        rw [decide_eq_false (show ¬ i < min b.ss.length 8 by omega)]; rfl
    refine LWp.ite rfl (fun hc => ?_) (fun hc => ?_)
    · simp only [decide_eq_true_eq] at hc
      have hsu := bitsN_succ w i
      have hsl := bitsN_len w i
      refine LWp.skip ?_
      refine LWp.blockX (fun _ : Unit => True) (fun _ => el [(1, U w), (2, U v), (3, .pi b.enc), (7, linI (natI (bitsN w (i + 1)))), (8, I i)]) (fun _ => []) (fun _ => []) ?_ ?_
      · rw [hsu]
        rw [← natI_len] at hsl
        generalize natI (bitsN w i) = sm at hsl
        refine LWp.sx (gs := []) (hs := [.ret (B (bitI w i))]) rfl ⟨i64_wrap (n := w) (by omega) (by omega), bit_ev w i h0 (by omega) (by omega), trivial⟩ ?_
        refine LWp.ite rfl (fun hg => ?_) (fun hg => ?_)
        · rw [if_pos hg]
          refine LWp.x (gs := []) (hs := [.ice]) rfl ⟨rfl, ⟨by simp [chunk]; omega, by simp [chunk]; omega⟩, trivial⟩ ?_
          refine ⟨(), trivial, Ent.el ⟨rfl, rfl, rfl, ?_, rfl, trivial⟩⟩
          exact lin_snoc _ _
        · rw [if_neg (by simp [hg]), List.append_nil]
          exact LWp.skip ⟨(), trivial, Ent.el ⟨rfl, rfl, rfl, rfl, rfl, trivial⟩⟩
      · intro _ _
        refine LWp.x (gs := []) (hs := []) rfl ⟨by omega, trivial⟩ ?_
        exact ⟨i + 1, by omega, by omega, Ent.el ⟨rfl, rfl, rfl, rfl, rfl, trivial⟩⟩
    · simp only [decide_eq_false_iff_not] at hc
      have e : i = min b.ss.length 8 := by omega
      subst e
      exact LWp.exit ⟨(), trivial, Ent.trans (Ent.freezeLin (t := 7) rfl) (Ent.el ⟨rfl, rfl, rfl, trivial⟩)⟩
  intro _ _
  have hbi := bitsN_inc w (min b.ss.length 8)
  have hbl : ∀ x ∈ bitsN w (min b.ss.length 8), x < b.ss.length := fun x hx => by have := bitsN_lt hx; omega
  have hb8 := bitsN_len w (min b.ss.length 8)
  generalize bitsN w (min b.ss.length 8) = d at hbi hbl hb8
  have ec := ecommon_ev b hw hs (natI d)
  by_cases hgo : ¬ Valid b ∨ d = []
  · obtain ⟨c1, c2⟩ := common_err (b := b) (l := natI d) (by rcases hgo with h | h; exact .inl h; exact .inr (by rw [h]; rfl))
    rw [c1] at ec
    generalize (commonR b (natI d)).2 = q at ec c2
    have hqt : (q != 0) = true := by simpa using c2
    refine LWp.sx (gs := []) (hs := [.ret (.tup [ints [], I q])]) rfl ⟨ec, trivial⟩ ?_
    refine LWp.seq (LWp.seq ?_)
    refine LWp.cutT (fun _ : Unit => True) (fun _ => el [(9, ints []), (10, I q), (50, B true)]) (fun _ => []) (fun _ => []) ?_ (fun _ _ => ?_)
    · by_cases V : Valid b
      · have e : d = [] := hgo.resolve_left (fun hn => hn V)
        subst e
        rw [validB_iff.2 V] at ev
        refine LWp.x (gs := [(46, false)]) (hs := [.ret (B true)]) rfl (by (repeat' (with_reducible apply And.intro)); (all_goals try first | (with_reducible exact trivial) | (with_reducible rfl) | (with_reducible assumption) | ((with_reducible apply isB); first | exact rfl | exact beq_self_eq_true _)); exact ev) ?_
        exact ⟨(), trivial, Ent.el ⟨rfl, rfl, rfl, trivial⟩⟩
      · have hv : validB b = false := by
          cases h : validB b with
          | false => rfl
          | true => exact absurd (validB_iff.1 h) V
        rw [hv] at ev
        refine LWp.x (gs := [(46, true)]) (hs := [.ret (B false)]) rfl (by (repeat' (with_reducible apply And.intro)); (all_goals try first | (with_reducible exact trivial) | (with_reducible rfl) | (with_reducible assumption) | ((with_reducible apply isB); first | exact rfl | exact beq_self_eq_true _)); exact ev) ?_
        exact ⟨(), trivial, Ent.el ⟨rfl, rfl, rfl, trivial⟩⟩
    refine LWp.ite (b := true) rfl (fun _ => ?_) (fun h => by cases h)
    refine LWp.sx (gs := [(53, true), (58, true)]) (hs := [.ret (B true)]) rfl (by (repeat' (with_reducible apply And.intro)); (all_goals try first | (with_reducible exact trivial) | (with_reducible rfl) | (with_reducible assumption) | ((with_reducible apply isB); first | exact rfl | exact beq_self_eq_true _)); exact awake_ev) ?_
    refine LWp.ret (retT (.inr rfl) (.one (.tmp ?_ rfl)))
    rfl
  · have V : Valid b := Classical.byContradiction fun h => hgo (.inl h)
    have hd : d ≠ [] := fun h => hgo (.inr h)
    have hdl : 0 < d.length := List.length_pos_iff.2 hd
    rw [validB_iff.2 V] at ev
    have hcm := common_nat V hw hd hbi hbl
    generalize hco : commonR b (natI d) = co at ec hcm
    obtain ⟨g, q⟩ := co
    have hdn : ((natI d).map fun x => [I x]).length = d.length := by simp [natI]
    refine LWp.sx (gs := []) (hs := [.ret (.tup [ints g, I q])]) rfl ⟨ec, trivial⟩ ?_
    refine LWp.seq (LWp.seq ?_)
    refine LWp.x (gs := [(46, false)]) (hs := [.ret (B true)]) rfl (by (repeat' (with_reducible apply And.intro)); (all_goals try first | (with_reducible exact trivial) | (with_reducible rfl) | (with_reducible assumption) | ((with_reducible apply isB); first | exact rfl | exact beq_self_eq_true _)); exact ev) ?_
    refine LWp.ite rfl (fun h => absurd (by simpa using h) hd) (fun _ => LWp.skip ?_)
    obtain ⟨p, hp, ep⟩ := w_mod v0 hdl
    refine LWp.ent (Ent.el (l := [(2, U v), (3, .pi b.enc), (7, ints (natI d)), (9, ints g), (10, I q)]) ⟨rfl, rfl, rfl, rfl, rfl, trivial⟩) ?_
    refine LWp.sx (gs := []) (hs := []) rfl trivial ?_
    refine LWp.seq (LWp.seq ?_)
    refine LWp.x (gs := []) (hs := []) rfl trivial ?_
    refine LWp.blockT (fun _ : Unit => True) (fun _ => el [(3, .pi b.enc), (7, ints (natI d)), (9, ints g), (10, I q), (11, ints (natI (d.eraseIdx p)))]) (fun _ => []) (fun _ => []) ?_ ?_
    · refine LWp.loopN (fun k : Nat => k ≤ d.length) (fun k => el [(2, U v), (3, .pi b.enc), (7, ints (natI d)), (9, ints g), (10, I q), (11, linI (natI ((d.take k).eraseIdx p))), (12, I k)]) (fun _ => []) (fun _ => []) (fun k => d.length - k) 0 (by omega)
        (Ent.trans (Ent.nilLin (t := 11) 3 1 rfl) (Ent.el ⟨rfl, rfl, rfl, rfl, rfl, rfl, rfl, trivial⟩)) ?_
      intro k hk
      refine LWp.seq (LWp.seq ?_)
      refine LWp.x (gs := []) (hs := []) rfl trivial ?_
      refine LWp.ite rfl (fun hc => ?_) (fun hc => ?_)
      · simp only [decide_eq_true_eq] at hc
        rw [hdn] at hc
        obtain ⟨x, hx⟩ := ex_get (show k < d.length by omega)
        have hel : ((d.take k).eraseIdx p).length ≤ 8 := by
          have := List.length_eraseIdx_le (d.take k) p
          have := List.length_take_le k d
          omega
        refine LWp.skip ?_
        refine LWp.blockX (fun _ : Unit => True) (fun _ => el [(2, U v), (3, .pi b.enc), (7, ints (natI d)), (9, ints g), (10, I q), (11, linI (natI ((d.take (k + 1)).eraseIdx p))), (12, I k)]) (fun _ => []) (fun _ => []) ?_ ?_
        · refine LWp.seq ?_
          refine LWp.x (gs := []) (hs := []) rfl ⟨i64_wrap (n := v) (by omega) (by omega), ⟨by omega, by rw [hdn]; omega⟩, trivial⟩ ?_
          refine LWp.ite rfl (fun hne => ?_) (fun hne => ?_)
          · have hkp : k ≠ p := by
              intro e
              simp only [bne_iff_ne, ne_eq] at hne
              rw [hdn] at hne
              exact hne (by rw [ep, e])
            rw [erase_other hx hkp]
            generalize (d.take k).eraseIdx p = sm at hel
            rw [← natI_len] at hel
            have e2 : natI (sm ++ [x]) = natI sm ++ [(x : Int)] := by simp [natI]
            rw [e2]
            generalize natI sm = sn at hel
            refine LWp.x (gs := []) (hs := [.cells [I x], .ice]) rfl ⟨⟨by omega, getI (by simp [natI, hx])⟩, rfl, ⟨by simp [chunk]; omega, by simp [chunk]; omega⟩, trivial⟩ ?_
            refine ⟨(), trivial, Ent.el ⟨rfl, rfl, rfl, rfl, rfl, ?_, rfl, trivial⟩⟩
            exact lin_snoc _ _
          · have hkp : k = p := by
              simp only [bne_eq_false_iff_eq] at hne
              rw [hdn, ep] at hne
              omega
            subst hkp
            rw [erase_same hx]
            exact LWp.skip ⟨(), trivial, Ent.el ⟨rfl, rfl, rfl, rfl, rfl, rfl, rfl, trivial⟩⟩
        · intro _ _
          refine LWp.x (gs := []) (hs := []) rfl ⟨by omega, trivial⟩ ?_
          exact ⟨k + 1, by omega, by omega, Ent.el ⟨rfl, rfl, rfl, rfl, rfl, rfl, rfl, trivial⟩⟩
      · simp only [decide_eq_false_iff_not] at hc
        rw [hdn] at hc
        refine LWp.exit ⟨(), trivial, Ent.trans (Ent.freezeLin (t := 11) rfl) (Ent.el ⟨rfl, rfl, rfl, rfl, ?_, trivial⟩)⟩
        have e : d.take k = d := List.take_of_length_le (by omega)
        rw [e]; rfl
    intro _ _
    refine LWp.seq (LWp.seq ?_)
    refine LWp.x (gs := []) (hs := []) rfl trivial ?_
    rcases hcm with ⟨g', c1, c2, c3⟩ | ⟨c1, c3⟩
    · simp only [Prod.mk.injEq] at c3
      obtain ⟨rfl, rfl⟩ := c3
      refine LWp.ite (b := false) rfl (fun h => by cases h) (fun _ => LWp.skip ?_)
      refine LWp.seq (LWp.seq ?_)
      refine LWp.x (gs := []) (hs := []) rfl trivial ?_
      refine LWp.blockT (fun _ : Unit => True) (fun _ => el [(3, .pi b.enc), (9, ints g), (11, ints (natI (d.eraseIdx p)))]) (fun _ => []) (fun _ => []) ?_ ?_
      · refine LWp.loopN (fun k : Nat => k ≤ d.length) (fun k => el [(3, .pi b.enc), (7, ints (natI d)), (9, ints g), (11, ints (natI (d.eraseIdx p))), (13, I k)]) (fun _ => []) (fun _ => []) (fun k => d.length - k) 0 (by omega)
          (Ent.el ⟨rfl, rfl, rfl, rfl, rfl, trivial⟩) ?_
        intro k hk
        refine LWp.seq (LWp.seq ?_)
        refine LWp.x (gs := []) (hs := []) rfl trivial ?_
        refine LWp.ite rfl (fun hc => ?_) (fun hc => ?_)
        · simp only [decide_eq_true_eq] at hc
          rw [hdn] at hc
          obtain ⟨x, hx⟩ := ex_get (show k < d.length by omega)
          have hgx := c1 x (List.mem_of_getElem? hx)
          have er := ereads_ev b hw hs x g
          rw [reads_of V hw (hbl x (List.mem_of_getElem? hx)) (hear_bound V hw hgx).1 (hear_bound V hw hgx).2, decide_eq_true hgx] at er
          refine LWp.skip ?_
          refine LWp.blockX (fun _ : Unit => True) (fun _ => el [(3, .pi b.enc), (7, ints (natI d)), (9, ints g), (11, ints (natI (d.eraseIdx p))), (13, I k)]) (fun _ => []) (fun _ => []) ?_ ?_
          · refine LWp.sd (gs := []) (hs := [.cells [I x], .ret (.tup [B true, I 0])]) hmix rfl (by kernel_rfl) ⟨⟨by omega, getI (by simp [natI, hx])⟩, er, trivial⟩ ?_
            refine LWp.seq ?_
            refine LWp.x (gs := [(116, false)]) (hs := []) rfl (by (repeat' (with_reducible apply And.intro)); (all_goals try first | (with_reducible exact trivial) | (with_reducible rfl) | (with_reducible assumption) | ((with_reducible apply isB); first | exact rfl | exact beq_self_eq_true _))) ?_
            refine LWp.ite (b := false) rfl (fun h => by cases h) (fun _ => LWp.skip ?_)
            exact ⟨(), trivial, Ent.el ⟨rfl, rfl, rfl, rfl, rfl, trivial⟩⟩
          · intro _ _
            refine LWp.x (gs := []) (hs := []) rfl ⟨by omega, trivial⟩ ?_
            exact ⟨k + 1, by omega, by omega, Ent.el ⟨rfl, rfl, rfl, rfl, rfl, trivial⟩⟩
        · exact LWp.exit ⟨(), trivial, Ent.el ⟨rfl, rfl, rfl, trivial⟩⟩
      intro _ _
      refine LWp.seq (LWp.seq ?_)
      refine LWp.x (gs := []) (hs := []) rfl trivial ?_
      refine LWp.ite rfl (fun h => ?_) (fun h => LWp.skip ?_)
      · refine LWp.sx (gs := []) (hs := [.ret (B true)]) rfl ⟨awake_ev, trivial⟩ ?_
        refine LWp.ret (retT (.inr rfl) (.one (.tmp ?_ rfl)))
        rfl
      · have hle : d.eraseIdx p ≠ [] := by
          intro e
          rw [e] at h
          simp [natI] at h
        have hsub : ∀ x ∈ d.eraseIdx p, x ∈ d := fun x hx => (List.eraseIdx_sublist d p).subset hx
        have hc2 : ∃ t, commonR b (natI (d.eraseIdx p)) = (t, 0) ∧ fewerL g t = false := by
          rcases common_nat V hw hle (inc_erase hbi p) (fun x hx => hbl x (hsub x hx)) with ⟨t, t1, t2, t3⟩ | ⟨t1, _⟩
          · exact ⟨t, t3, t2 g (fun k hk => c1 k (hsub k hk))⟩
          · exact absurd ⟨g, fun k hk => c1 k (hsub k hk)⟩ t1
        obtain ⟨t, e1, e2⟩ := hc2
        have ec2 := ecommon_ev b hw hs (natI (d.eraseIdx p))
        rw [e1] at ec2
        have hf := fewer_ev g t
        rw [e2] at hf
        refine LWp.sx (gs := []) (hs := [.ret (.tup [ints t, I 0])]) rfl ⟨ec2, trivial⟩ ?_
        refine LWp.sx (gs := [(132, true), (138, true)]) (hs := [.ret (B false), .ret (B true)]) rfl (by (repeat' (with_reducible apply And.intro)); (all_goals try first | (with_reducible exact trivial) | (with_reducible rfl) | (with_reducible assumption) | ((with_reducible apply isB); first | exact rfl | exact beq_self_eq_true _)); exact hf; exact awake_ev) ?_
        refine LWp.ret (retT (.inr rfl) (.one (.tmp ?_ rfl)))
        rfl
    · simp only [Prod.mk.injEq] at c3
      obtain ⟨rfl, rfl⟩ := c3
      have hl1 : 1 < d.length := by
        apply Decidable.byContradiction
        intro hn
        obtain ⟨x, hx⟩ := List.length_eq_one_iff.1 (show d.length = 1 by omega)
        subst hx
        obtain ⟨h, hh⟩ := List.exists_mem_of_ne_nil _ (hearS_ne V (hbl x (by simp)))
        exact c1 ⟨h, by simpa using hh⟩
      have hgt : decide ((((natI d).map fun x => [I x]).length : Int) > 1) = true := decide_eq_true (by rw [hdn]; omega)
      refine LWp.ite (b := true) rfl (fun _ => ?_) (fun h => by cases h)
      refine LWp.sx (gs := [(85, true), (90, true), (95, true)]) (hs := [.ret (B true)]) rfl (by (repeat' (with_reducible apply And.intro)); (all_goals try first | (with_reducible exact trivial) | (with_reducible rfl) | (with_reducible assumption) | ((with_reducible apply isB); first | exact rfl | exact beq_self_eq_true _)); exact awake_ev) ?_
      refine LWp.ret (retT (.inr rfl) (.one (.tmp ?_ rfl)))
      rfl
end Go.Px

