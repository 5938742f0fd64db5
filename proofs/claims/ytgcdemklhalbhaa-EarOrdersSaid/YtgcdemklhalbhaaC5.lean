/- Part 5 of the proofs of the outright statements of this seat (functions lowered, plain laws, contracts). No conditions. -/
import Derived.Test.YtgcdemklhalbhaaC4
namespace Go.Px
open Go.Proofs

/-- The book of some of a book's spellings. -/
def Book.of (b : Book) (ss : List Spelling) : Book := ⟨b.n, b.al, ss⟩
theorem of_valid {b : Book} (V : Valid b) {ss : List Spelling} (h : ∀ s ∈ ss, SpV b s) (h5 : ss.length ≤ 5) : Valid (b.of ss) :=
  ⟨V.n1, V.n4, V.al1, V.al3, h5, V.alph, V.names, fun s hs => ⟨(h s hs).a0, (h s hs).ha, (h s hs).t1, (h s hs).t5⟩⟩
theorem of_wf {b : Book} (hw : b.wf) {ss : List Spelling} (h : ∀ s ∈ ss, s.wf) : (b.of ss).wf := by
  obtain ⟨h1, h2, h3, _⟩ := hw
  exact ⟨h1, h2, h3, h⟩
theorem of_hear {b : Book} {ss : List Spelling} {i k : Nat} {s : Spelling} (h : ss[k]? = some s) (hs : b.ss[i]? = some s) : hearS (b.of ss) k = hearS b i := by
  unfold hearS
  have e : (b.of ss).ss[k]? = some s := h
  rw [e, hs]
  rfl
theorem two_odd {b : Book} (V : Valid b) (hw : b.wf) {i k : Nat} {s t : Spelling} (hs : b.ss[i]? = some s) (ht : b.ss[k]? = some t) {h : List Int} (h1 : h ∈ hearS b i) (h2 : h ∈ hearS b k) : oddR (b.of [s, t]) = ([], 0) := by
  have m1 := List.mem_of_getElem? hs
  have m2 := List.mem_of_getElem? ht
  have V2 : Valid (b.of [s, t]) := of_valid V (by intro x hx; simp only [List.mem_cons, List.not_mem_nil, or_false] at hx; rcases hx with rfl | rfl; exact V.sp _ m1; exact V.sp _ m2) (by simp)
  have w2 : (b.of [s, t]).wf := of_wf hw (by intro x hx; simp only [List.mem_cons, List.not_mem_nil, or_false] at hx; rcases hx with rfl | rfl; exact hw.ss _ m1; exact hw.ss _ m2)
  obtain ⟨c, e, _, _, _, _, hmin⟩ := odd_of V2 w2
  have := hmin [] List.Pairwise.nil (by simp) ⟨h, fun j hj _ => by
    have hj : j < 2 := hj
    match j, hj with
    | 0, _ => rw [of_hear (k := 0) rfl hs]; exact h1
    | 1, _ => rw [of_hear (k := 1) rfl ht]; exact h2⟩
  rw [e]
  cases c with
  | nil => rfl
  | cons x c => simp [fewerL, natI] at this

theorem w_mod {w : Int} (_h0 : 0 ≤ w) {n : Nat} (hn : 0 < n) : ∃ i : Nat, i < n ∧ w % (n : Int) = i := by
  refine ⟨(w % (n : Int)).toNat, ?_, ?_⟩
  · have := Int.emod_lt_of_pos w (b := (n : Int)) (by omega)
    have := Int.emod_nonneg w (b := (n : Int)) (by omega)
    omega
  · have := Int.emod_nonneg w (b := (n : Int)) (by omega)
    omega
theorem count_pos {b : Book} (V : Valid b) (hw : b.wf) {i : Nat} (hi : i < b.ss.length) : ∃ m : Int, 1 ≤ m ∧ countR b i = (m, 0) := by
  obtain ⟨K, _, hm, e⟩ := count_of V hw hi
  refine ⟨K.length, ?_, e⟩
  obtain ⟨g, hg⟩ := List.exists_mem_of_ne_nil _ (hearS_ne V hi)
  have := List.length_pos_iff.2 (List.ne_nil_of_mem ((hm g).2 hg))
  omega
theorem count_bad {b : Book} (h : ¬ (Valid b ∧ b.ss ≠ [])) : (countR b 0).2 ≠ 0 := by
  unfold countR
  have hne : enterE b b.ss.length [0] ≠ 0 := by
    by_cases V : Valid b
    · have hz : b.ss = [] := Classical.byContradiction fun hz => h ⟨V, hz⟩
      unfold enterE
      rw [if_pos (valid_iff.2 V), hz]
      decide
    · obtain ⟨e1, e2⟩ := enter_bad V b.ss.length [0]
      rw [e1]; exact e2
  rw [if_neg hne]
  exact hne

theorem earTrue_ev (b : Book) (hw : b.wf) (hs : b.ss.length ≤ 9223372036854775807) (w0 w1 : Int) (h0 : 0 ≤ w0) (h0' : w0 ≤ 255) (h1 : 0 ≤ w1) (h1' : w1 ≤ 255) (x : List UInt8) :
    Ev Try.prog 9 [.agg b.enc, .agg [U w0, U w1], bytes x] (B true) := by
  refine Ev.intro fn9 ?_
  refine LWp.sx (gs := []) (hs := [.ice, .ice]) rfl ⟨⟨rfl, rfl⟩, ⟨rfl, rfl⟩, trivial⟩ ?_
  refine LWp.seq (LWp.seq ?_)
  have ev := valid_ev b hw
  by_cases hgo : Valid b ∧ b.ss ≠ []
  · obtain ⟨V, hne⟩ := hgo
    have hlen : 0 < b.ss.length := List.length_pos_iff.2 hne
    rw [validB_iff.2 V] at ev
    have hz : ¬ ((b.ss.map Spelling.enc).length : Int) = 0 := by rw [List.length_map]; omega
    refine LWp.x (gs := [(28, false)]) (hs := [.ret (B true)]) rfl (by (repeat' (with_reducible apply And.intro)); (all_goals try first | (with_reducible exact trivial) | (with_reducible rfl) | (with_reducible assumption) | ((with_reducible apply isB); first | exact rfl | exact beq_self_eq_true _)); exact ev) ?_
    refine LWp.ite rfl (fun h => absurd (by simpa using h) hne) (fun _ => LWp.skip ?_)
    obtain ⟨i, hi, ei⟩ := w_mod h0 hlen
    obtain ⟨k, hk, ek⟩ := w_mod h1 hlen
    obtain ⟨s, hsi⟩ := ex_get hi
    obtain ⟨t, htk⟩ := ex_get hk
    have ms := List.mem_of_getElem? hsi
    have mt := List.mem_of_getElem? htk
    refine LWp.sd (gs := []) (hs := []) hmix rfl (by kernel_rfl) ⟨⟨by omega, by decide⟩, i64_wrap (by omega) (by omega), ⟨by omega, by rw [List.length_map]; omega⟩, ⟨by omega, by decide⟩, i64_wrap (by omega) (by omega), ⟨by omega, by rw [List.length_map]; omega⟩, trivial⟩ ?_
    refine LWp.ent (Ent.el (l := [(2, bytes x), (3, .pi b.enc), (9, I i), (10, I k)]) ⟨rfl, rfl, by show I _ = I _; rw [← ei, List.length_map], by show I _ = I _; rw [← ek, List.length_map], trivial⟩) ?_
    have esaid := said_ev b V s (V.sp s ms) x
    have hsaid := saidB_hear V hsi x
    generalize saidB b s x = sd at esaid hsaid
    refine LWp.sd (gs := []) (hs := [.cells s.enc, .ret (ints sd)]) hmix rfl (by kernel_rfl) ⟨⟨by omega, by simp [hsi]⟩, esaid, trivial⟩ ?_
    obtain ⟨b5, bv⟩ := hear_bound V hw hsaid
    have er := ereads_ev b hw hs i sd
    rw [reads_of V hw hi b5 bv, decide_eq_true hsaid] at er
    have ec := count_ev b hw hs i
    obtain ⟨m, hm1, em⟩ := count_pos V hw hi
    rw [em] at ec
    obtain ⟨g, hg1, hg2, eg⟩ := first_of V hw hi
    have ef := efirst_ev b hw hs i
    rw [eg] at ef
    have hfw := hg2 sd hsaid
    have efw := fewer_ev sd g
    rw [hfw] at efw
    refine LWp.sx (gs := []) (hs := [.ret (.tup [B true, I 0])]) rfl ⟨er, trivial⟩ ?_
    refine LWp.sx (gs := []) (hs := [.ret (.tup [I m, I 0])]) rfl ⟨ec, trivial⟩ ?_
    refine LWp.sx (gs := []) (hs := [.ret (.tup [ints g, I 0])]) rfl ⟨ef, trivial⟩ ?_
    refine LWp.seq (LWp.seq ?_)
    have hmf : decide (m < 1) = false := by simp; omega
    refine LWp.x (gs := [(87, false), (91, false), (95, false), (99, false), (103, false)]) (hs := [.ret (B false)]) rfl (by (repeat' (with_reducible apply And.intro)); (all_goals try first | (with_reducible exact trivial) | (with_reducible rfl) | (with_reducible assumption) | ((with_reducible apply isB); first | exact rfl | exact beq_self_eq_true _)); exact efw) ?_
    refine LWp.ite (b := false) rfl (fun h => by cases h) (fun _ => LWp.skip ?_)
    have er2 := ereads_ev b hw hs k sd
    rw [reads_of V hw hk b5 bv] at er2
    refine LWp.sx (gs := []) (hs := [.ret (.tup [B (decide (sd ∈ hearS b k)), I 0])]) rfl ⟨er2, trivial⟩ ?_
    refine LWp.seq (LWp.seq ?_)
    refine LWp.x (gs := []) (hs := []) rfl trivial ?_
    refine LWp.ite (b := false) rfl (fun h => by cases h) (fun _ => LWp.skip ?_)
    refine LWp.seq (LWp.seq ?_)
    by_cases hso : sd ∈ hearS b k ∧ i ≠ k
    · obtain ⟨hso, hik⟩ := hso
      rw [decide_eq_true hso]
      refine LWp.x (gs := [(119, false)]) (hs := []) rfl (by (repeat' (with_reducible apply And.intro)); (all_goals try first | (with_reducible exact trivial) | (with_reducible rfl) | (with_reducible assumption) | ((with_reducible apply isB); first | exact rfl | exact beq_self_eq_true _))) ?_
      refine LWp.ite rfl (fun h => absurd (by simp at h; omega) hik) (fun _ => LWp.skip ?_)
      obtain ⟨q, eq, _, hq2, _⟩ := alike_of V hw hi hk hik
      have hq : q ≠ 2 := fun e => hq2.1 e ⟨sd, hsaid, hso⟩
      have ea := ealike_ev b hw hs i k
      rw [eq] at ea
      refine LWp.sx (gs := []) (hs := [.ret (.tup [I q, I 0])]) rfl ⟨ea, trivial⟩ ?_
      have w2 : (b.of [s, t]).wf := of_wf hw (by intro x hx; simp only [List.mem_cons, List.not_mem_nil, or_false] at hx; rcases hx with rfl | rfl; exact hw.ss _ ms; exact hw.ss _ mt)
      have eo := eodd_ev (b.of [s, t]) w2 (by show 2 ≤ _; omega)
      rw [two_odd V hw hsi htk hsaid hso] at eo
      refine LWp.sx (gs := []) (hs := [.lin]) rfl ⟨rfl, ⟨rfl, rfl, rfl, by decide⟩, trivial⟩ ?_
      refine LWp.shareB (t := 22) rfl (fun b2 => ?_)
      refine LWp.seq (LWp.d (gs := []) (hs := [.cells s.enc, .cells t.enc, .ice]) hmix rfl (by kernel_rfl) ⟨⟨by omega, by simp [hsi]⟩, ⟨by omega, by simp [htk]⟩, rfl, trivial⟩ ?_)
      refine WOps.hd (gs := []) (hs := [.stO 0]) rfl ⟨⟨rfl, rfl, rfl, rfl, Nat.le_refl 3⟩, trivial⟩ ?_
      refine LWp.ent (Ent.freezeBox (t := 22) (i := 0) rfl rfl) ?_
      refine LWp.sx (gs := []) (hs := [.ret (.tup [ints [], I 0])]) rfl ⟨eo, trivial⟩ ?_
      have hqt : (q != 2) = true := by simpa using hq
      refine LWp.sx (gs := [(152, true), (156, true), (160, true), (165, true)]) (hs := [.ret (B true)]) rfl (by (repeat' (with_reducible apply And.intro)); (all_goals try first | (with_reducible exact trivial) | (with_reducible rfl) | (with_reducible assumption) | ((with_reducible apply isB); first | exact rfl | exact beq_self_eq_true _)); exact awake_ev) ?_
      refine LWp.ret (retT (.inr rfl) (.one (.tmp ?_ rfl)))
      rfl
    · by_cases hso1 : sd ∈ hearS b k
      · have hik : i = k := Classical.byContradiction fun e => hso ⟨hso1, e⟩
        subst hik
        rw [decide_eq_true hso1]
        refine LWp.x (gs := [(119, false)]) (hs := []) rfl (by (repeat' (with_reducible apply And.intro)); (all_goals try first | (with_reducible exact trivial) | (with_reducible rfl) | (with_reducible assumption) | ((with_reducible apply isB); first | exact rfl | exact beq_self_eq_true _))) ?_
        refine LWp.ite rfl (fun _ => ?_) (fun h => by simp at h)
        refine LWp.sx (gs := []) (hs := [.ret (B true)]) rfl ⟨awake_ev, trivial⟩ ?_
        refine LWp.ret (retT (.inr rfl) (.one (.tmp ?_ rfl)))
        rfl
      · rw [decide_eq_false hso1]
        refine LWp.x (gs := [(119, true)]) (hs := []) rfl (by (repeat' (with_reducible apply And.intro)); (all_goals try first | (with_reducible exact trivial) | (with_reducible rfl) | (with_reducible assumption) | ((with_reducible apply isB); first | exact rfl | exact beq_self_eq_true _))) ?_
        refine LWp.ite rfl (fun _ => ?_) (fun h => by simp at h)
        refine LWp.sx (gs := []) (hs := [.ret (B true)]) rfl ⟨awake_ev, trivial⟩ ?_
        refine LWp.ret (retT (.inr rfl) (.one (.tmp ?_ rfl)))
        rfl
  · have e2 := count_ev b hw hs 0
    have hq := count_bad hgo
    generalize (countR b 0).1 = p1 at e2
    generalize (countR b 0).2 = q1 at e2 hq
    have hqt : (q1 != 0) = true := by simpa using hq
    have rest : ∀ (env : Env) (Q : Post), ElOK env [(3, .pi b.enc)] → (∀ env H D, retP Try.prog [.tmp 6] (B true) .ret env H D → Q .ret env H D) →
        LWp Try.prog none 168 (.seq (.ops [⟨some 35, none, .load 25 (tm 3) (some 3)⟩, ⟨some 36, none, .call 22 [(tm 35), (kc 0)] 33⟩, ⟨some 34, none, .mov (tm 36)⟩, ⟨some 37, none, .extract (tm 34) 0⟩, ⟨some 38, none, .extract (tm 34) 1⟩, ⟨some 7, none, .mov (tm 37)⟩, ⟨some 8, none, .mov (tm 38)⟩])
          (.seq (.ops [⟨some 39, none, .mov (tm 8)⟩, ⟨some 40, none, .bin .neq 26 (tm 39) (kc 0)⟩, ⟨some 41, none, .mov (tm 40)⟩, ⟨some 42, some (41, true), .call 21 [] 4⟩, ⟨some 43, none, .pick (tm 41) (tm 42) (.const (.bool false))⟩, ⟨some 6, none, .mov (tm 43)⟩]) .ret)) Q env [] [] := by
      intro env Q hel hQ
      refine LWp.ent (Ent.el hel) ?_
      refine LWp.sx (gs := []) (hs := [.ret (.tup [I p1, I q1])]) rfl ⟨e2, trivial⟩ ?_
      refine LWp.sx (gs := [(41, true)]) (hs := [.ret (B true)]) rfl (by (repeat' (with_reducible apply And.intro)); (all_goals try first | (with_reducible exact trivial) | (with_reducible rfl) | (with_reducible assumption) | ((with_reducible apply isB); first | exact rfl | exact beq_self_eq_true _)); exact awake_ev) ?_
      refine LWp.ret (hQ _ _ _ (retT (.inr rfl) (.one (.tmp ?_ rfl))))
      rfl
    by_cases V : Valid b
    · have hz : b.ss = [] := Classical.byContradiction fun hz => hgo ⟨V, hz⟩
      rw [validB_iff.2 V] at ev
      refine LWp.x (gs := [(28, false)]) (hs := [.ret (B true)]) rfl (by (repeat' (with_reducible apply And.intro)); (all_goals try first | (with_reducible exact trivial) | (with_reducible rfl) | (with_reducible assumption) | ((with_reducible apply isB); first | exact rfl | exact beq_self_eq_true _)); exact ev) ?_
      refine LWp.ite rfl (fun _ => ?_) (fun h => by simp [hz] at h)
      exact rest _ _ ⟨rfl, trivial⟩ (fun _ _ _ h => h)
    · have hv : validB b = false := by
        cases h : validB b with
        | false => rfl
        | true => exact absurd (validB_iff.1 h) V
      rw [hv] at ev
      refine LWp.x (gs := [(28, true)]) (hs := [.ret (B false)]) rfl (by (repeat' (with_reducible apply And.intro)); (all_goals try first | (with_reducible exact trivial) | (with_reducible rfl) | (with_reducible assumption) | ((with_reducible apply isB); first | exact rfl | exact beq_self_eq_true _)); exact ev) ?_
      refine LWp.ite (b := true) rfl (fun _ => ?_) (fun h => by cases h)
      exact rest _ _ ⟨rfl, trivial⟩ (fun _ _ _ h => h)
end Go.Px

