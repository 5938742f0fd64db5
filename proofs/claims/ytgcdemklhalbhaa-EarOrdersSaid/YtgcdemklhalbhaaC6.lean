/- Part 6 of the proofs of the outright statements of this seat (functions lowered, plain laws, contracts). No conditions. -/
import Derived.Test.YtgcdemklhalbhaaC5
namespace Go.Px
open Go.Proofs

/-- What is told of two spellings. -/
def AlikeIs (b : Book) (i j : Nat) (m : Int) : Prop := (m = 0 ∨ m = 1 ∨ m = 2) ∧ (m = 2 ↔ ¬ ∃ h, h ∈ hearS b i ∧ h ∈ hearS b j) ∧ (m = 1 ↔ ∃ g, (∀ h, h ∈ hearS b i ↔ h = g) ∧ (∀ h, h ∈ hearS b j ↔ h = g))
theorem AlikeIs.symm {b : Book} {i j : Nat} {m : Int} (h : AlikeIs b i j m) : AlikeIs b j i m := by
  obtain ⟨h0, h1, h2⟩ := h
  refine ⟨h0, h1.trans (not_congr ?_), h2.trans ?_⟩
  · exact ⟨fun ⟨h, a, b⟩ => ⟨h, b, a⟩, fun ⟨h, a, b⟩ => ⟨h, b, a⟩⟩
  · exact ⟨fun ⟨h, a, b⟩ => ⟨h, b, a⟩, fun ⟨h, a, b⟩ => ⟨h, b, a⟩⟩
theorem AlikeIs.uniq {b c : Book} {i j k l : Nat} {m n : Int} (h : AlikeIs b i j m) (g : AlikeIs c k l n) (e1 : ∀ x, x ∈ hearS b i ↔ x ∈ hearS c k) (e2 : ∀ x, x ∈ hearS b j ↔ x ∈ hearS c l) : m = n := by
  obtain ⟨h0, h1, h2⟩ := h
  obtain ⟨g0, g1, g2⟩ := g
  have a1 : m = 2 ↔ n = 2 := by
    rw [h1, g1]
    exact not_congr ⟨fun ⟨h, a, b⟩ => ⟨h, (e1 h).1 a, (e2 h).1 b⟩, fun ⟨h, a, b⟩ => ⟨h, (e1 h).2 a, (e2 h).2 b⟩⟩
  have a2 : m = 1 ↔ n = 1 := by
    rw [h2, g2]
    exact ⟨fun ⟨g, a, b⟩ => ⟨g, fun h => (e1 h).symm.trans (a h), fun h => (e2 h).symm.trans (b h)⟩, fun ⟨g, a, b⟩ => ⟨g, fun h => (e1 h).trans (a h), fun h => (e2 h).trans (b h)⟩⟩
  omega
theorem alike_is {b : Book} (V : Valid b) (hw : b.wf) {i j : Nat} (hi : i < b.ss.length) (hj : j < b.ss.length) (hij : i ≠ j) : ∃ m : Int, alikeR b i j = (m, 0) ∧ AlikeIs b i j m := alike_of V hw hi hj hij
theorem alike_same {b : Book} (V : Valid b) {i : Nat} (hi : i < b.ss.length) : alikeR b i i = (0, 2) := by
  have e : alikeE b i i = 2 := by
    unfold alikeE
    rw [if_pos (enter_zero V (by simp; omega)), if_pos rfl]
  unfold alikeR
  rw [e]; rfl
theorem alike_bad {b : Book} (h : ¬ (Valid b ∧ 2 ≤ b.ss.length)) : (alikeR b 0 1).2 ≠ 0 := by
  have hne : enterE b b.ss.length [0, 1] ≠ 0 := by
    by_cases V : Valid b
    · have hz : b.ss.length < 2 := by
        apply Decidable.byContradiction
        intro hn
        exact h ⟨V, by omega⟩
      unfold enterE
      rw [if_pos (valid_iff.2 V)]
      have : beyondB 0 ((b.ss.length : Int) - 1) [0, 1] = true := by
        simp [beyondB]; omega
      rw [if_pos this]; decide
    · obtain ⟨e1, e2⟩ := enter_bad V b.ss.length [0, 1]
      rw [e1]; exact e2
  unfold alikeR alikeE
  rw [if_neg hne]
  exact hne
theorem common_two {b : Book} (V : Valid b) (hw : b.wf) {i j : Nat} (hi : i < b.ss.length) (hj : j < b.ss.length) (hij : i ≠ j) : (∃ g, commonR b [min (i : Int) j, max (i : Int) j] = (g, 0) ∧ ∃ h, h ∈ hearS b i ∧ h ∈ hearS b j) ∨ (commonR b [min (i : Int) j, max (i : Int) j] = ([], 9) ∧ ¬ ∃ h, h ∈ hearS b i ∧ h ∈ hearS b j) := by
  have hall : ∀ h, (∀ x ∈ [min (i : Int) j, max (i : Int) j], h ∈ hearS b x.toNat) ↔ h ∈ hearS b i ∧ h ∈ hearS b j := by
    intro h
    simp only [List.mem_cons, List.not_mem_nil, or_false, forall_eq_or_imp, forall_eq]
    rcases Nat.lt_or_gt_of_ne hij with hlt | hlt
    · rw [show (min (i : Int) j).toNat = i by omega, show (max (i : Int) j).toNat = j by omega]
    · rw [show (min (i : Int) j).toNat = j by omega, show (max (i : Int) j).toNat = i by omega]
      exact And.comm
  rcases common_of V hw (l := [min (i : Int) j, max (i : Int) j]) (by simp) (by simp [ascB]; omega) (by simp; omega) with ⟨g, h1, _, h3⟩ | ⟨h1, h2⟩
  · exact .inl ⟨g, h3, g, (hall g).1 h1⟩
  · refine .inr ⟨h2, fun ⟨h, hh⟩ => h1 ⟨h, (hall h).2 hh⟩⟩

theorem earJoined_ev (b : Book) (hw : b.wf) (hs : b.ss.length ≤ 9223372036854775807) (w0 w1 w2 : Int) (h0 : 0 ≤ w0) (h0' : w0 ≤ 255) (h1 : 0 ≤ w1) (h1' : w1 ≤ 255) (h2 : 0 ≤ w2) (h2' : w2 ≤ 255) :
    Ev Try.prog 10 [.agg b.enc, .agg [U w0, U w1, U w2]] (B true) := by
  refine Ev.intro fn10 ?_
  refine LWp.sx (gs := []) (hs := [.ice, .ice]) rfl ⟨⟨rfl, rfl⟩, ⟨rfl, rfl⟩, trivial⟩ ?_
  refine LWp.seq (LWp.seq ?_)
  have ev := valid_ev b hw
  refine LWp.cutT (fun _ : Unit => True) (fun _ => el [(2, .pi b.enc), (3, .pi [U w0, U w1, U w2]), (28, B (!(validB b && decide (2 ≤ b.ss.length))))]) (fun _ => []) (fun _ => []) ?_ (fun _ _ => ?_)
  · generalize validB b = v at ev
    cases v with
    | true =>
      refine LWp.x (gs := [(23, false)]) (hs := [.ret (B true)]) rfl (by (repeat' (with_reducible apply And.intro)); (all_goals try first | (with_reducible exact trivial) | (with_reducible rfl) | (with_reducible assumption) | ((with_reducible apply isB); first | exact rfl | exact beq_self_eq_true _)); exact ev) ?_
      refine ⟨(), trivial, Ent.el ⟨rfl, rfl, ?_, trivial⟩⟩
      show B _ = B _
      rw [List.length_map]
      congr 2
      rw [Bool.eq_iff_iff]; simp; omega
    | false =>
      refine LWp.x (gs := [(23, true)]) (hs := [.ret (B false)]) rfl (by (repeat' (with_reducible apply And.intro)); (all_goals try first | (with_reducible exact trivial) | (with_reducible rfl) | (with_reducible assumption) | ((with_reducible apply isB); first | exact rfl | exact beq_self_eq_true _)); exact ev) ?_
      exact ⟨(), trivial, Ent.el ⟨rfl, rfl, rfl, trivial⟩⟩
  refine LWp.ite rfl (fun h => ?_) (fun h => LWp.skip ?_)
  · have hgo : ¬ (Valid b ∧ 2 ≤ b.ss.length) := by
      rintro ⟨h1, h2⟩
      rw [validB_iff.2 h1, decide_eq_true h2] at h
      cases h
    have e2 := ealike_ev b hw hs 0 1
    have hq := alike_bad hgo
    generalize (alikeR b 0 1).1 = p1 at e2
    generalize (alikeR b 0 1).2 = q1 at e2 hq
    have hqt : (q1 != 0) = true := by simpa using hq
    refine LWp.sx (gs := []) (hs := [.ret (.tup [I p1, I q1])]) rfl ⟨e2, trivial⟩ ?_
    refine LWp.sx (gs := [(36, true)]) (hs := [.ret (B true)]) rfl (by (repeat' (with_reducible apply And.intro)); (all_goals try first | (with_reducible exact trivial) | (with_reducible rfl) | (with_reducible assumption) | ((with_reducible apply isB); first | exact rfl | exact beq_self_eq_true _)); exact awake_ev) ?_
    refine LWp.ret (retT (.inr rfl) (.one (.tmp ?_ rfl)))
    rfl
  · have hgo : Valid b ∧ 2 ≤ b.ss.length := by simpa [validB_iff] using h
    obtain ⟨V, hl2⟩ := hgo
    have hlen : 0 < b.ss.length := by omega
    obtain ⟨i, hi, ei⟩ := w_mod h0 hlen
    obtain ⟨j, hj, ej⟩ := w_mod h1 hlen
    obtain ⟨k, hk, ek⟩ := w_mod h2 hlen
    refine LWp.sd (gs := []) (hs := []) hmix rfl (by kernel_rfl) ⟨⟨by omega, by decide⟩, i64_wrap (by omega) (by omega), ⟨by omega, by rw [List.length_map]; omega⟩, ⟨by omega, by decide⟩, i64_wrap (by omega) (by omega), ⟨by omega, by rw [List.length_map]; omega⟩, ⟨by omega, by decide⟩, i64_wrap (by omega) (by omega), ⟨by omega, by rw [List.length_map]; omega⟩, trivial⟩ ?_
    refine LWp.ent (Ent.el (l := [(2, .pi b.enc), (7, I i), (8, I j), (9, I k)]) ⟨rfl, by show I _ = I _; rw [← ei, List.length_map], by show I _ = I _; rw [← ej, List.length_map], by show I _ = I _; rw [← ek, List.length_map], trivial⟩) ?_
    have e1 := ealike_ev b hw hs i j
    have e2 := ealike_ev b hw hs j i
    by_cases hij : i = j
    · subst hij
      rw [alike_same V hi] at e1
      refine LWp.sx (gs := []) (hs := [.ret (.tup [I 0, I 2])]) rfl ⟨e1, trivial⟩ ?_
      refine LWp.sx (gs := []) (hs := [.ret (.tup [I 0, I 2])]) rfl ⟨e1, trivial⟩ ?_
      refine LWp.seq (LWp.seq ?_)
      have hii : ((i : Int) == (i : Int)) = true := by simp
      refine LWp.x (gs := [(77, false), (82, false)]) (hs := []) rfl (by (repeat' (with_reducible apply And.intro)); (all_goals try first | (with_reducible exact trivial) | (with_reducible rfl) | (with_reducible assumption) | ((with_reducible apply isB); first | exact rfl | exact beq_self_eq_true _)); exact ub) ?_
      refine LWp.ite rfl (fun h => by simp at h) (fun _ => LWp.skip ?_)
      refine LWp.seq (LWp.seq ?_)
      refine LWp.x (gs := []) (hs := []) rfl trivial ?_
      refine LWp.ite rfl (fun _ => ?_) (fun h => by simp at h)
      refine LWp.sx (gs := [(95, true)]) (hs := [.ret (B true)]) rfl (by (repeat' (with_reducible apply And.intro)); (all_goals try first | (with_reducible exact trivial) | (with_reducible rfl) | (with_reducible assumption) | ((with_reducible apply isB); first | exact rfl | exact beq_self_eq_true _)); exact awake_ev) ?_
      refine LWp.ret (retT (.inr rfl) (.one (.tmp ?_ rfl)))
      rfl
    · obtain ⟨m, em, am⟩ := alike_is V hw hi hj hij
      obtain ⟨n, en, an⟩ := alike_is V hw hj hi (fun e => hij e.symm)
      have hmn : n = m := an.uniq am.symm (fun _ => Iff.rfl) (fun _ => Iff.rfl)
      subst hmn
      rw [em] at e1
      rw [en] at e2
      refine LWp.sx (gs := []) (hs := [.ret (.tup [I n, I 0])]) rfl ⟨e1, trivial⟩ ?_
      refine LWp.sx (gs := []) (hs := [.ret (.tup [I n, I 0])]) rfl ⟨e2, trivial⟩ ?_
      refine LWp.seq (LWp.seq ?_)
      have hnn : (n != n) = false := by simp
      have hije : ((i : Int) == (j : Int)) = false := by simp; omega
      refine LWp.x (gs := [(77, false), (82, false)]) (hs := []) rfl (by (repeat' (with_reducible apply And.intro)); (all_goals try first | (with_reducible exact trivial) | (with_reducible rfl) | (with_reducible assumption) | ((with_reducible apply isB); first | exact rfl | exact beq_self_eq_true _)); exact ub) ?_
      refine LWp.ite rfl (fun h => by simp at h; omega) (fun _ => LWp.skip ?_)
      refine LWp.seq (LWp.seq ?_)
      refine LWp.x (gs := []) (hs := []) rfl trivial ?_
      refine LWp.ite rfl (fun h => by simp at h; omega) (fun _ => LWp.skip ?_)
      have ec := ecommon_ev b hw hs [min (i : Int) j, max (i : Int) j]
      obtain ⟨a0, a1, a2⟩ := am
      have hc := common_two V hw hi hj hij
      have hc2 : ∃ g q, commonR b [min (i : Int) j, max (i : Int) j] = (g, q) ∧ ((q = 0 ∧ n ≠ 2) ∨ (q = 9 ∧ n = 2)) := by
        rcases hc with ⟨g, h1, h2⟩ | ⟨h1, h2⟩
        · exact ⟨g, 0, h1, .inl ⟨rfl, fun e => a1.1 e h2⟩⟩
        · exact ⟨[], 9, h1, .inr ⟨rfl, a1.2 h2⟩⟩
      obtain ⟨g, q, eg, hgq⟩ := hc2
      rw [eg] at ec
      refine LWp.sx (gs := []) (hs := [.ice, .ret (.tup [ints g, I q])]) rfl ⟨rfl, ec, trivial⟩ ?_
      refine LWp.cutX (fun _ : Unit => True) (fun _ => el [(2, .pi b.enc), (7, I i), (8, I j), (9, I k), (10, I n)]) (fun _ => []) (fun _ => []) ?_ (fun _ _ => ?_)
      · refine LWp.seq ?_
        rcases hgq with ⟨rfl, hn2⟩ | ⟨rfl, rfl⟩
        · have hb2 : (n == 2) = false := by simpa using hn2
          refine LWp.x (gs := [(112, false), (115, false), (120, false)]) (hs := []) rfl (by (repeat' (with_reducible apply And.intro)); (all_goals try first | (with_reducible exact trivial) | (with_reducible rfl) | (with_reducible assumption) | ((with_reducible apply isB); first | exact rfl | exact beq_self_eq_true _)); exact ub) ?_
          refine LWp.ite rfl (fun h => by simp at h; omega) (fun _ => LWp.skip ?_)
          exact ⟨(), trivial, Ent.el ⟨rfl, rfl, rfl, rfl, rfl, trivial⟩⟩
        · refine LWp.x (gs := [(112, false), (115, true), (120, false)]) (hs := []) rfl (by (repeat' (with_reducible apply And.intro)); (all_goals try first | (with_reducible exact trivial) | (with_reducible rfl) | (with_reducible assumption) | ((with_reducible apply isB); first | exact rfl | exact beq_self_eq_true _)); exact ub) ?_
          refine LWp.ite (b := false) rfl (fun h => by cases h) (fun _ => LWp.skip ?_)
          exact ⟨(), trivial, Ent.el ⟨rfl, rfl, rfl, rfl, rfl, trivial⟩⟩
      refine LWp.seq (LWp.seq ?_)
      refine LWp.cutT (fun _ : Unit => True) (fun _ => el [(2, .pi b.enc), (7, I i), (8, I j), (9, I k), (10, I n), (134, B (decide (i = k ∨ j = k)))]) (fun _ => []) (fun _ => []) ?_ (fun _ _ => ?_)
      · by_cases hik : i = k
        · have h1 : ((i : Int) == (k : Int)) = true := by simp; omega
          refine LWp.x (gs := [(130, true)]) (hs := []) rfl (by (repeat' (with_reducible apply And.intro)); (all_goals try first | (with_reducible exact trivial) | (with_reducible rfl) | (with_reducible assumption) | ((with_reducible apply isB); first | exact rfl | exact beq_self_eq_true _))) ?_
          refine ⟨(), trivial, Ent.el ⟨rfl, rfl, rfl, rfl, rfl, ?_, trivial⟩⟩
          rw [decide_eq_true (.inl hik)]; rfl
        · have h1 : ((i : Int) == (k : Int)) = false := by simp; omega
          refine LWp.x (gs := [(130, false)]) (hs := []) rfl (by (repeat' (with_reducible apply And.intro)); (all_goals try first | (with_reducible exact trivial) | (with_reducible rfl) | (with_reducible assumption) | ((with_reducible apply isB); first | exact rfl | exact beq_self_eq_true _))) ?_
          refine ⟨(), trivial, Ent.el ⟨rfl, rfl, rfl, rfl, rfl, ?_, trivial⟩⟩
          show B _ = B _
          congr 2
          rw [Bool.eq_iff_iff]; simp; omega
      refine LWp.ite rfl (fun _ => ?_) (fun h => LWp.skip ?_)
      · refine LWp.sx (gs := []) (hs := [.ret (B true)]) rfl ⟨awake_ev, trivial⟩ ?_
        refine LWp.ret (retT (.inr rfl) (.one (.tmp ?_ rfl)))
        rfl
      · simp only [decide_eq_false_iff_not, not_or] at h
        obtain ⟨hik, hjk⟩ := h
        obtain ⟨o, eo, ao⟩ := alike_is V hw hj hk hjk
        obtain ⟨p, ep, ap⟩ := alike_is V hw hi hk hik
        have e3 := ealike_ev b hw hs j k
        have e4 := ealike_ev b hw hs i k
        rw [eo] at e3
        rw [ep] at e4
        refine LWp.sx (gs := []) (hs := [.ret (.tup [I o, I 0])]) rfl ⟨e3, trivial⟩ ?_
        refine LWp.sx (gs := []) (hs := [.ret (.tup [I p, I 0])]) rfl ⟨e4, trivial⟩ ?_
        by_cases hn1 : n = 1
        · obtain ⟨g, g1, g2⟩ := a2.1 hn1
          have hop : o = p := ao.uniq ap (fun x => (g2 x).trans (g1 x).symm) (fun _ => Iff.rfl)
          subst hn1 hop
          have hoo : (o == o) = true := by simp
          refine LWp.sx (gs := [(152, true), (156, true), (159, false), (165, true)]) (hs := [.ret (B true)]) rfl (by (repeat' (with_reducible apply And.intro)); (all_goals try first | (with_reducible exact trivial) | (with_reducible rfl) | (with_reducible assumption) | ((with_reducible apply isB); first | exact rfl | exact beq_self_eq_true _)); exact awake_ev) ?_
          refine LWp.ret (retT (.inr rfl) (.one (.tmp ?_ rfl)))
          rfl
        · have hn : (n != 1) = true := by simpa using hn1
          refine LWp.sx (gs := [(152, true), (156, true), (159, true), (165, true)]) (hs := [.ret (B true)]) rfl (by (repeat' (with_reducible apply And.intro)); (all_goals try first | (with_reducible exact trivial) | (with_reducible rfl) | (with_reducible assumption) | ((with_reducible apply isB); first | exact rfl | exact beq_self_eq_true _)); exact awake_ev) ?_
          refine LWp.ret (retT (.inr rfl) (.one (.tmp ?_ rfl)))
          rfl
end Go.Px

