/- Part 12 of the proof of the statements of this seat (a logic of pure contracts, the functions lowered, their contracts, the statements). No conditions. -/
import Derived.Test.YtgcdemklhalbhaaA11
namespace Go.Px
open Go.Proofs

theorem gives_bit (s : Int) (k : Nat) (h : 0 ≤ s) : givesB s k = s.toNat.testBit k := by
  rw [← bit_gives s k h, Nat.testBit_eq_decide_div_mod_eq]
  unfold bitI
  rw [Int.toNat_natCast]
  obtain ⟨m, rfl⟩ := Int.eq_ofNat_of_zero_le h
  rw [Int.toNat_natCast, ← pow_cast, ← Int.natCast_ediv, Bool.eq_iff_iff, decide_eq_true_iff, decide_eq_true_iff]
  omega
theorem gives_some {s : Int} {n : Nat} (h0 : 0 < s) (h1 : s < 2 ^ n) : ∃ k : Nat, k < n ∧ givesB s k = true := by
  have hne : s.toNat ≠ 0 := by omega
  obtain ⟨k, hk⟩ := Nat.exists_testBit_of_ne_zero hne
  refine ⟨k, ?_, by rw [gives_bit s k (by omega)]; exact hk⟩
  apply Decidable.byContradiction
  intro hkn
  have h2 : s.toNat < 2 ^ k := by
    have e1 : s.toNat < 2 ^ n := by rw [← pow_cast] at h1; omega
    have e2 : 2 ^ n ≤ 2 ^ k := Nat.pow_le_pow_right (by omega) (by omega)
    omega
  rw [Nat.testBit_lt_two_pow h2] at hk
  cases hk
theorem hearL_ne {n : Nat} : ∀ (xs : List Letter) (h : List Int), (∀ x ∈ xs, x.q = true ∨ ∃ k : Nat, k < n ∧ givesB x.s k = true) → hearL n xs h ≠ []
  | [], h, _ => by simp [hearL]
  | x :: xs, h, hx => by
    intro e
    simp only [hearL, List.append_eq_nil_iff, List.flatMap_eq_nil_iff, List.mem_filter, List.mem_range] at e
    rcases hx x (by simp) with hq | ⟨k, hk, hg⟩
    · rw [if_pos hq] at e
      exact hearL_ne xs h (fun y hy => hx y (by simp [hy])) e.1
    · exact hearL_ne xs _ (fun y hy => hx y (by simp [hy])) (e.2 k ⟨hk, hg⟩)
theorem letAt_mem {ls : List Letter} {c : Int} (h : 0 ≤ indexC ls c) : letAt ls c ∈ ls ∧ ls[(indexC ls c).toNat]? = some (letAt ls c) := by
  obtain ⟨_, x, hx, _⟩ := idxF_lt _ ls 0 (by omega) h
  rw [Int.sub_zero] at hx
  have hx : ls[(indexC ls c).toNat]? = some x := hx
  have e : letAt ls c = x := by unfold letAt; rw [hx]; rfl
  rw [e]
  exact ⟨List.mem_of_getElem? hx, hx⟩
theorem hearS_ne {b : Book} (V : Valid b) {k : Nat} (hk : k < b.ss.length) : hearS b k ≠ [] := by
  obtain ⟨s, hs⟩ := ex_get hk
  have sp := V.sp s (List.mem_of_getElem? hs)
  obtain ⟨a, ha, hc⟩ := sp.ha
  have ok := V.alph a (List.mem_of_getElem? ha)
  unfold hearS
  rw [hs]
  refine hearL_ne _ _ ?_
  intro x hx
  simp only [spLetters, ha] at hx
  obtain ⟨c, hcm, rfl⟩ := List.mem_map.1 hx
  obtain ⟨_, _, h0, h1, h2⟩ := ok.let_ _ (letAt_mem (hc c hcm)).1
  by_cases hz : (letAt a.ls c.toNat).s = 0
  · exact .inl (h2 hz)
  · exact .inr (gives_some (by omega) h1)
theorem keysIn_ne {b : Book} (V : Valid b) {i : Int} (hi : i.toNat < b.ss.length) : keysIn (knownOf b) (setN [i] 0 : Nat) ≠ [] := by
  have h := hearS_ne V hi
  obtain ⟨g, hg⟩ := List.exists_mem_of_ne_nil _ h
  have : g ∈ keysIn (knownOf b) (setN [i] 0 : Nat) := (keysIn_iff (by simp) g).2 (by simpa using hg)
  exact List.ne_nil_of_mem this

theorem rcount_ev (b : Book) (hw : b.wf) (hs : b.ss.length ≤ 9223372036854775807) (i : Int) : Ev Try.prog 23 [.agg b.enc, I i] (.tup [I (countR b i).1, I (countR b i).2]) := by
  refine Ev.intro fn23 ?_
  refine LWp.sx (gs := []) (hs := [.ice]) rfl ⟨⟨rfl, rfl⟩, trivial⟩ ?_
  refine LWp.sx (gs := []) (hs := [.ret (I (enterE b b.ss.length [i]))]) rfl ⟨one_ev b hw hs i, trivial⟩ ?_
  refine LWp.seq (LWp.seq ?_)
  refine LWp.x (gs := []) (hs := []) rfl trivial ?_
  refine LWp.ite rfl (fun h => ?_) (fun h => ?_)
  · simp only [bne_iff_ne, ne_eq] at h
    have e : countR b i = (0, enterE b b.ss.length [i]) := by simp only [countR, h, if_false]
    rw [e]
    refine LWp.sx (gs := []) (hs := []) rfl trivial ?_
    refine LWp.ret (retT (.inr rfl) (.many (by decide) ⟨.tmp ?_ rfl, .tmp ?_ rfl, trivial⟩))
    · rfl
    · rfl
  · simp only [bne_eq_false_iff_eq] at h
    have e : countR b i = (((firstK (knownOf b) (2 ^ i.toNat)).2 : Int), 0) := by simp only [countR, h, if_true]
    have V := valid_iff.1 (enterE_check h).1
    obtain ⟨hall, h5, hk, _⟩ := enter_pow2 hw h
    obtain ⟨i0, i1, _, _⟩ := hall i (by simp)
    have hil : i.toNat < b.ss.length := by omega
    obtain ⟨s, hs2⟩ := ex_get hil
    have hm := many_shared V (l := [i]) (by simp) hk
    rw [shP_one, setN_one, pow_cast] at hm
    rw [e, ← hm]
    refine LWp.skip ?_
    refine LWp.sd (gs := []) (hs := [.cells s.enc, .ret (bools (markL (strS b i))), .ret (I ((markL (strS b i)).countP id))]) hmix rfl (by kernel_rfl) ⟨⟨i0, by simp [hs2]⟩, (strS_ev V hs2).freeze, many_ev _, trivial⟩ ?_
    refine LWp.ret (retT (.inr rfl) (.many (by decide) ⟨.tmp ?_ rfl, .tmp ?_ rfl, trivial⟩))
    · rfl
    · rfl

theorem rfirst_ev (b : Book) (hw : b.wf) (hs : b.ss.length ≤ 9223372036854775807) (i : Int) : Ev Try.prog 25 [.agg b.enc, I i] (.tup [ints (firstR b i).1, I (firstR b i).2]) := by
  refine Ev.intro fn25 ?_
  refine LWp.sx (gs := []) (hs := [.ice]) rfl ⟨⟨rfl, rfl⟩, trivial⟩ ?_
  refine LWp.sx (gs := []) (hs := [.ret (I (enterE b b.ss.length [i]))]) rfl ⟨one_ev b hw hs i, trivial⟩ ?_
  refine LWp.seq (LWp.seq ?_)
  refine LWp.x (gs := []) (hs := []) rfl trivial ?_
  refine LWp.ite rfl (fun h => ?_) (fun h => ?_)
  · simp only [bne_iff_ne, ne_eq] at h
    have e : firstR b i = ([], enterE b b.ss.length [i]) := by simp only [firstR, h, if_false]
    rw [e]
    refine LWp.sx (gs := []) (hs := []) rfl trivial ?_
    refine LWp.ent (Ent.nilSl (t := 4) 1 rfl) ?_
    refine LWp.ret (retT (.inr rfl) (.many (by decide) ⟨.tmp ?_ rfl, .tmp ?_ rfl, trivial⟩))
    · rfl
    · rfl
  · simp only [bne_eq_false_iff_eq] at h
    have e : firstR b i = ((firstK (knownOf b) (2 ^ i.toNat)).1, 0) := by simp only [firstR, h, if_true]
    have V := valid_iff.1 (enterE_check h).1
    obtain ⟨hall, h5, hk, _⟩ := enter_pow2 hw h
    obtain ⟨i0, i1, _, _⟩ := hall i (by simp)
    have hil : i.toNat < b.ss.length := by omega
    obtain ⟨s, hs2⟩ := ex_get hil
    have hl := least_shared V (l := [i]) (by simp) hk
    have hne := keysIn_ne V hil
    have hcnt := (firstK_spec hk (setN [i] 0 : Nat)).1
    have hok := first_ok V (l := [i]) (by simp) hk
    have h0 : ¬ (firstK (knownOf b) (setN [i] 0 : Nat)).2 = 0 := by rw [hcnt, List.length_eq_zero_iff]; exact hne
    rw [if_neg h0, shP_one] at hl
    rw [setN_one, pow_cast] at hl hok
    have hhd := heardF_code 5 _ hok.1 hok.2
    have hlt := codeN_lt hok.1
    have hlt2 : 5 ^ (firstK (knownOf b) (2 ^ i.toNat)).1.length ≤ 5 ^ 5 := Nat.pow_le_pow_right (by omega) hok.2
    have hle := least_ev (markL (strS b i))
    rw [hl] at hle
    have hhe := (heard_ev 5 (codeN (firstK (knownOf b) (2 ^ i.toNat)).1) (by omega) (by omega)).freeze
    rw [hhd] at hhe
    rw [e]
    refine LWp.skip ?_
    refine LWp.sd (gs := []) (hs := [.cells s.enc, .ret (bools (markL (strS b i))), .ret (I (codeN (firstK (knownOf b) (2 ^ i.toNat)).1)), .ret (ints (firstK (knownOf b) (2 ^ i.toNat)).1)]) hmix rfl (by kernel_rfl) ⟨⟨i0, by simp [hs2]⟩, (strS_ev V hs2).freeze, hle, hhe, trivial⟩ ?_
    refine LWp.ret (retT (.inr rfl) (.many (by decide) ⟨.tmp ?_ rfl, .tmp ?_ rfl, trivial⟩))
    · rfl
    · rfl

theorem hearE_H4 {n : Int} (hn : n ≤ 4) {l : List Int} (h : hearE n l = 0) : H4 l ∧ l.length ≤ 5 := by
  unfold hearE at h
  split at h
  · cases h
  split at h
  · cases h
  rename_i h1 h2
  refine ⟨?_, by omega⟩
  intro v hv
  simp only [beyondB, Bool.not_eq_true, List.any_eq_false, Bool.or_eq_true, decide_eq_true_eq, not_or] at h2
  have := h2 v hv
  omega
theorem reads_iff {b : Book} (V : Valid b) {i : Int} (i0 : 0 ≤ i) {l : List Int} (h4 : H4 l) : strS b i (codeN l) = givesB (kval (knownOf b) l) i := by
  have e : i = ((i.toNat : Nat) : Int) := by omega
  rw [Bool.eq_iff_iff, strS_iff V]
  rw [e, gives_bit _ _ (by omega), Int.toNat_natCast, Int.toNat_natCast, known_bit]
  constructor
  · rintro ⟨h, hh, hc⟩
    rw [← codeN_inj (hearS_ok V hh).1 h4 hc]; exact hh
  · intro h; exact ⟨l, h, rfl⟩
theorem rreads_ev (b : Book) (hw : b.wf) (hs : b.ss.length ≤ 9223372036854775807) (i : Int) (l : List Int) : Ev Try.prog 28 [.agg b.enc, I i, ints l] (.tup [B (readsR b i l).1, I (readsR b i l).2]) := by
  refine Ev.intro fn28 ?_
  refine LWp.sx (gs := []) (hs := [.ice]) rfl ⟨⟨rfl, rfl⟩, trivial⟩ ?_
  have hr : (if enterE b b.ss.length [i] = 0 then hearE b.n l else enterE b b.ss.length [i]) = readsE b i l := rfl
  have hhe := hears_ev b l (enterE b b.ss.length [i]) (fun h => by have := check_n (enterE_check h).1; omega)
  rw [hr] at hhe
  refine LWp.sd (gs := []) (hs := [.ret (I (enterE b b.ss.length [i])), .ret (I (readsE b i l))]) hmix rfl (by kernel_rfl) ⟨one_ev b hw hs i, hhe, trivial⟩ ?_
  refine LWp.seq (LWp.seq ?_)
  refine LWp.x (gs := []) (hs := []) rfl trivial ?_
  refine LWp.ite rfl (fun h => ?_) (fun h => ?_)
  · simp only [bne_iff_ne, ne_eq] at h
    refine LWp.sx (gs := []) (hs := []) rfl trivial ?_
    refine LWp.ret (retT (.inr rfl) (.many (by decide) ⟨.tmp ?_ rfl, .tmp ?_ rfl, trivial⟩))
    · show B _ = B _
      simp only [readsR, h, decide_false, Bool.false_and]
    · rfl
  · simp only [bne_eq_false_iff_eq] at h
    have hen : enterE b b.ss.length [i] = 0 := by
      apply Decidable.byContradiction
      intro hne
      rw [readsE, if_neg hne] at h
      exact hne h
    have hhr : hearE b.n l = 0 := by rw [readsE, if_pos hen] at h; exact h
    have V := valid_iff.1 (enterE_check hen).1
    obtain ⟨hall, h5, hk, _⟩ := enter_pow2 hw hen
    obtain ⟨i0, i1, _, _⟩ := hall i (by simp)
    have hil : i.toNat < b.ss.length := by omega
    obtain ⟨s, hs2⟩ := ex_get hil
    obtain ⟨l4, l5⟩ := hearE_H4 V.n4 hhr
    have hci : codeI l = codeN l := codeI_N (fun v hv => (l4 v hv).1)
    have hlt := codeN_lt l4
    have hlt2 : 5 ^ l.length ≤ 5 ^ 5 := Nat.pow_le_pow_right (by omega) l5
    have hcode := code_ev l (l4.ok l5)
    rw [hci] at hcode
    refine LWp.skip ?_
    refine LWp.sd (gs := []) (hs := [.cells s.enc, .ret (bools (markL (strS b i))), .ret (I (codeN l)), .cells [B (strS b i (codeN l))]]) hmix rfl (by kernel_rfl) ⟨⟨i0, by simp [hs2]⟩, (strS_ev V hs2).freeze, hcode, ⟨by omega, markE_get _ (by omega)⟩, trivial⟩ ?_
    refine LWp.ret (retT (.inr rfl) (.many (by decide) ⟨.tmp ?_ rfl, .tmp ?_ rfl, trivial⟩))
    · show B _ = B _
      rw [reads_iff V i0 l4]
      simp only [readsR, h, decide_true, Bool.true_and]
    · show I _ = I _
      simp only [readsR, h]

theorem alike_plain {b : Book} (V : Valid b) (hk : KOK (knownOf b)) {i j : Int} (hi : i.toNat < b.ss.length) (hj : j.toNat < b.ss.length) :
    (if (firstK (knownOf b) (setN [i, j] 0 : Nat)).2 = (firstK (knownOf b) (setN [i] 0 : Nat)).2 * (firstK (knownOf b) (setN [j] 0 : Nat)).2 then (1 : Int) else if (firstK (knownOf b) (setN [i, j] 0 : Nat)).2 = 0 then 2 else 0) = alikeM (knownOf b) i j := by
  have e2 : ((setN [i, j] 0 : Nat) : Int) = ((2 ^ i.toNat ||| 2 ^ j.toNat : Nat) : Int) := by simp [setN]
  obtain ⟨a1, a2, a3⟩ := firstK_spec hk (setN [i] 0 : Nat)
  obtain ⟨b1, b2, b3⟩ := firstK_spec hk (setN [j] 0 : Nat)
  obtain ⟨c1, c2, c3⟩ := firstK_spec hk (setN [i, j] 0 : Nat)
  have na := keysIn_ne V hi
  have nb := keysIn_ne V hj
  have mC := keysIn_iff (b := b) (l := [i, j]) (by simp)
  have mA := keysIn_iff (b := b) (l := [i]) (by simp)
  have mB := keysIn_iff (b := b) (l := [j]) (by simp)
  have dA := keysIn_nd b (setN [i] 0 : Nat)
  have dB := keysIn_nd b (setN [j] 0 : Nat)
  have dC := keysIn_nd b (setN [i, j] 0 : Nat)
  simp only [alikeM]
  rw [← e2, ← pow_cast, ← pow_cast, ← setN_one, ← setN_one]
  generalize hA : keysIn (knownOf b) (setN [i] 0 : Nat) = A at *
  generalize hB : keysIn (knownOf b) (setN [j] 0 : Nat) = B' at *
  generalize hC : keysIn (knownOf b) (setN [i, j] 0 : Nat) = C at *
  have hCA : ∀ h, h ∈ C ↔ h ∈ A ∧ h ∈ B' := by
    intro h
    rw [mC, mA, mB]; simp
  have lA : C.length ≤ A.length := List.Nodup.length_le_of_subset dC (fun h hh => ((hCA h).1 hh).1)
  have lB : C.length ≤ B'.length := List.Nodup.length_le_of_subset dC (fun h hh => ((hCA h).1 hh).2)
  have pA : 0 < A.length := List.length_pos_iff.2 na
  have pB : 0 < B'.length := List.length_pos_iff.2 nb
  rw [a1, b1, c1]
  by_cases hm : A.length = 1 ∧ B'.length = 1 ∧ (firstK (knownOf b) (setN [i] 0 : Nat)).1 = (firstK (knownOf b) (setN [j] 0 : Nat)).1
  · rw [if_pos hm]
    obtain ⟨m1, m2, m3⟩ := hm
    have hin := (a3 na).1
    have hin2 := (b3 nb).1
    rw [← m3] at hin2
    have : 0 < C.length := List.length_pos_iff.2 (List.ne_nil_of_mem ((hCA _).2 ⟨hin, hin2⟩))
    rw [m1, m2, if_pos (by omega)]
  · rw [if_neg hm]
    by_cases hx : C.length = A.length * B'.length
    · exfalso
      have h1 : A.length * B'.length ≤ A.length * 1 := by omega
      have h2 : B'.length ≤ 1 := Nat.le_of_mul_le_mul_left h1 pA
      have e3 : B'.length = 1 := by omega
      rw [e3] at hx lB
      have e4 : A.length = 1 := by omega
      refine hm ⟨e4, e3, ?_⟩
      have hcn : C ≠ [] := by intro h; rw [h] at hx; simp at hx; omega
      obtain ⟨h, hh⟩ := List.exists_mem_of_ne_nil _ hcn
      obtain ⟨ha, hb⟩ := (hCA h).1 hh
      obtain ⟨x, rfl⟩ := List.length_eq_one_iff.1 e4
      obtain ⟨y, rfl⟩ := List.length_eq_one_iff.1 e3
      have f1 := (a3 na).1
      have f2 := (b3 nb).1
      simp only [List.mem_singleton] at ha hb f1 f2
      rw [f1, f2, ← ha, ← hb]
    · rw [if_neg hx]

theorem ralike_ev (b : Book) (hw : b.wf) (hs : b.ss.length ≤ 9223372036854775807) (i j : Int) : Ev Try.prog 30 [.agg b.enc, I i, I j] (.tup [I (alikeR b i j).1, I (alikeR b i j).2]) := by
  have hln : ((b.ss.map Spelling.enc).length : Int) = b.ss.length := by simp
  refine Ev.intro fn30 ?_
  refine LWp.sx (gs := []) (hs := [.ice]) rfl ⟨⟨rfl, rfl⟩, trivial⟩ ?_
  refine LWp.sx (gs := []) (hs := [.ice, .ret (I (enterE b b.ss.length [i, j]))]) rfl ⟨rfl, by rw [← hln]; exact indices_ev b hw [i, j] _ (by omega) (by omega), trivial⟩ ?_
  refine LWp.cutX (fun _ : Unit => True) (fun _ => el [(1, I i), (2, I j), (3, .pi b.enc), (8, I (alikeE b i j))]) (fun _ => []) (fun _ => []) ?_ ?_
  · refine LWp.seq ?_
    by_cases he : enterE b b.ss.length [i, j] = 0
    · have hae : alikeE b i j = if i = j then 2 else 0 := by simp only [alikeE, he, if_true]
      refine LWp.x (gs := [(20, true)]) (hs := []) rfl (by simp [he]) ?_
      refine LWp.ite rfl (fun h => ?_) (fun h => ?_)
      · simp only [beq_iff_eq] at h
        refine LWp.x (gs := []) (hs := []) rfl trivial ?_
        exact ⟨(), trivial, Ent.el ⟨rfl, rfl, rfl, by rw [hae, if_pos h]; rfl, trivial⟩⟩
      · simp only [beq_eq_false_iff_ne, ne_eq] at h
        exact LWp.skip ⟨(), trivial, Ent.el ⟨rfl, rfl, rfl, by rw [hae, if_neg h, ← he]; rfl, trivial⟩⟩
    · have hae : alikeE b i j = enterE b b.ss.length [i, j] := by simp only [alikeE, he, if_false]
      refine LWp.x (gs := [(20, false)]) (hs := []) rfl (by simp [he]) ?_
      refine LWp.ite (b := false) rfl (fun h => by cases h) (fun _ => ?_)
      exact LWp.skip ⟨(), trivial, Ent.el ⟨rfl, rfl, rfl, by rw [hae]; rfl, trivial⟩⟩
  intro _ _
  refine LWp.seq (LWp.seq ?_)
  refine LWp.x (gs := []) (hs := []) rfl trivial ?_
  refine LWp.ite rfl (fun h => ?_) (fun h => ?_)
  · simp only [bne_iff_ne, ne_eq] at h
    refine LWp.sx (gs := []) (hs := []) rfl trivial ?_
    refine LWp.ret (retT (.inr rfl) (.many (by decide) ⟨.tmp ?_ rfl, .tmp ?_ rfl, trivial⟩))
    · show I _ = I _
      simp only [alikeR, h, if_false]
    · rfl
  · simp only [bne_eq_false_iff_eq] at h
    have hen : enterE b b.ss.length [i, j] = 0 := by
      apply Decidable.byContradiction
      intro hne
      rw [alikeE, if_neg hne] at h
      exact hne h
    have V := valid_iff.1 (enterE_check hen).1
    obtain ⟨hall, h5, hk, _⟩ := enter_pow2 hw hen
    obtain ⟨i0, i1, _, _⟩ := hall i (by simp)
    obtain ⟨j0, j1, _, _⟩ := hall j (by simp)
    have hil : i.toNat < b.ss.length := by omega
    have hjl : j.toNat < b.ss.length := by omega
    obtain ⟨s, hs2⟩ := ex_get hil
    obtain ⟨t, ht2⟩ := ex_get hjl
    have hm1 := many_shared V (l := [i]) (by simp) hk
    have hm2 := many_shared V (l := [j]) (by simp) hk
    have hm3 := many_shared V (l := [i, j]) (by simp) hk
    rw [shP_one] at hm1 hm2
    have hpl := alike_plain V hk hil hjl
    rw [← hm1, ← hm2, ← hm3] at hpl
    have lp : ∀ p, (markL p).countP id ≤ 3125 := fun p => by have := List.countP_le_length (p := id) (l := markL p); rw [markL_len] at this; exact this
    have l1 := lp (strS b i)
    have l2 := lp (strS b j)
    have hsh := shared_ev V [i, j] (fun k hk2 => by have := hall k hk2; omega)
    generalize hp1 : (markL (strS b i)).countP id = p1 at *
    generalize hp2 : (markL (strS b j)).countP id = p2 at *
    generalize hp3 : (markL (shP b [i, j])).countP id = p3 at *
    have hmul : p1 * p2 ≤ 3125 * 3125 := Nat.mul_le_mul l1 l2
    have hmul2 : (p1 : Int) * p2 = ((p1 * p2 : Nat) : Int) := by simp
    refine LWp.skip ?_
    refine LWp.sd (gs := []) (hs := [.cells s.enc, .ret (bools (markL (strS b i))), .ret (I p1), .cells t.enc, .ret (bools (markL (strS b j))), .ret (I p2)]) hmix rfl (by kernel_rfl) ⟨⟨i0, by simp [hs2]⟩, (strS_ev V hs2).freeze, by rw [← hp1]; exact many_ev _, ⟨j0, by simp [ht2]⟩, (strS_ev V ht2).freeze, by rw [← hp2]; exact many_ev _, by omega, trivial⟩ ?_
    refine LWp.sx (gs := []) (hs := [.ice, .ret (bools (markL (shP b [i, j]))), .ret (I p3), .ret (I (if (p3 : Int) = (p1 : Int) * p2 then 1 else if (p3 : Int) = 0 then 2 else 0))]) rfl ⟨rfl, hsh, by rw [← hp3]; exact many_ev _, settled_ev _ _, trivial⟩ ?_
    refine LWp.ret (retT (.inr rfl) (.many (by decide) ⟨.tmp ?_ rfl, .tmp ?_ rfl, trivial⟩))
    · show I _ = I _
      have e : ((p3 : Int) = (p1 : Int) * p2) ↔ (p3 = p1 * p2) := by rw [hmul2]; omega
      have e0 : ((p3 : Int) = 0) ↔ (p3 = 0) := by omega
      simp only [e, e0, hpl, alikeR, h, if_true]
    · show I _ = I _
      simp only [alikeR, h]

theorem rising_asc {m : Int} : ∀ {l : List Int} {last : Int}, (∀ j ∈ l, j < m) → risingF m l last = ascB l last
  | [], _, _ => rfl
  | n :: l, last, h => by
    have := h n (by simp)
    simp only [risingF, ascB, this, decide_true, Bool.and_true]
    rw [rising_asc (fun j hj => h j (by simp [hj]))]
theorem setN_ne {l : List Int} : setN l 0 ≠ 0 ↔ l ≠ [] := by
  cases l with
  | nil => simp [setN]
  | cons n l =>
    simp only [ne_eq, reduceCtorEq, not_false_eq_true, iff_true]
    intro h
    have : (setN (n :: l) 0).testBit n.toNat = true := (setN_bit _ _ _).2 (.inr ⟨n, by simp, rfl⟩)
    rw [h] at this
    simp at this
theorem rcommon_ev (b : Book) (hw : b.wf) (hs : b.ss.length ≤ 9223372036854775807) (l : List Int) : Ev Try.prog 34 [.agg b.enc, ints l] (.tup [ints (commonR b l).1, I (commonR b l).2]) := by
  have hln : ((b.ss.map Spelling.enc).length : Int) = b.ss.length := by simp
  refine Ev.intro fn34 ?_
  refine LWp.sx (gs := []) (hs := [.ice]) rfl ⟨⟨rfl, rfl⟩, trivial⟩ ?_
  refine LWp.sx (gs := []) (hs := [.ret (I (enterE b b.ss.length l))]) rfl ⟨by rw [← hln]; exact indices_ev b hw l _ (by omega) (by omega), trivial⟩ ?_
  generalize hE : (if enterE b b.ss.length l = 0 then (if ascB l (-1) = true ∧ setN l 0 ≠ 0 then 0 else 2) else enterE b b.ss.length l) = E
  refine LWp.cutX (fun _ : Unit => True) (fun _ => el [(1, ints l), (2, .pi b.enc), (6, I E)]) (fun _ => []) (fun _ => []) ?_ ?_
  · refine LWp.seq ?_
    by_cases he : enterE b b.ss.length l = 0
    · rw [if_pos he] at hE
      obtain ⟨hall, _, _, _⟩ := enter_pow2 hw he
      have hra : ascB l (-1) = risingF b.ss.length l (-1) := (rising_asc (fun j hj => (hall j hj).2.1)).symm
      simp only [setN_ne, hra] at hE
      by_cases h0 : l = []
      · rw [if_neg (by simp [h0])] at hE
        refine LWp.x (gs := [(16, true), (20, true)]) (hs := []) rfl (by rw [he]; simp [h0]) ?_
        refine LWp.ite (b := true) rfl (fun _ => ?_) (fun h => by cases h)
        refine LWp.x (gs := []) (hs := []) rfl trivial ?_
        exact ⟨(), trivial, Ent.el ⟨rfl, rfl, by rw [← hE]; rfl, trivial⟩⟩
      · have hll : ¬ ((l.length : Int) = 0) := by
          have := List.length_pos_iff.2 h0; omega
        have hri := rising_ev l (b.ss.map Spelling.enc).length
        rw [hln] at hri
        refine LWp.x (gs := [(16, true), (20, false)]) (hs := [.ret (B (risingF b.ss.length l (-1)))]) rfl (by simp [he, h0]; exact hri) ?_
        refine LWp.ite rfl (fun h => ?_) (fun h => ?_)
        · simp only [Bool.not_eq_true'] at h
          rw [h] at hE
          refine LWp.x (gs := []) (hs := []) rfl trivial ?_
          exact ⟨(), trivial, Ent.el ⟨rfl, rfl, by rw [← hE]; rfl, trivial⟩⟩
        · simp only [Bool.not_eq_false'] at h
          rw [h, if_pos ⟨rfl, h0⟩] at hE
          exact LWp.skip ⟨(), trivial, Ent.el ⟨rfl, rfl, by rw [← hE, ← he]; rfl, trivial⟩⟩
    · rw [if_neg he] at hE
      refine LWp.x (gs := [(16, false), (20, false)]) (hs := []) rfl (by simp [he]) ?_
      refine LWp.ite (b := false) rfl (fun h => by cases h) (fun _ => ?_)
      exact LWp.skip ⟨(), trivial, Ent.el ⟨rfl, rfl, by rw [← hE]; rfl, trivial⟩⟩
  intro _ _
  refine LWp.seq (LWp.seq ?_)
  refine LWp.x (gs := []) (hs := []) rfl trivial ?_
  refine LWp.ite rfl (fun h => ?_) (fun h => ?_)
  · simp only [bne_iff_ne, ne_eq] at h
    have e : commonR b l = ([], E) := by
      unfold commonR
      by_cases he : enterE b b.ss.length l = 0
      · rw [if_pos he] at hE ⊢
        split at hE
        · exact absurd hE.symm h
        · rename_i hn; rw [if_neg hn, hE]
      · rw [if_neg he] at hE ⊢; rw [hE]
    rw [e]
    refine LWp.sx (gs := []) (hs := []) rfl trivial ?_
    refine LWp.ent (Ent.nilSl (t := 4) 1 rfl) ?_
    refine LWp.ret (retT (.inr rfl) (.many (by decide) ⟨.tmp ?_ rfl, .tmp ?_ rfl, trivial⟩))
    · rfl
    · rfl
  · simp only [bne_eq_false_iff_eq] at h
    have hen : enterE b b.ss.length l = 0 := by
      apply Decidable.byContradiction
      intro hne
      rw [if_neg hne] at hE
      exact hne (hE.trans h)
    rw [if_pos hen] at hE
    have hcond : ascB l (-1) = true ∧ setN l 0 ≠ 0 := by
      apply Decidable.byContradiction
      intro hn
      rw [if_neg hn] at hE
      omega
    have hl0 := setN_ne.1 hcond.2
    have V := valid_iff.1 (enterE_check hen).1
    obtain ⟨hall, h5, hk, _⟩ := enter_pow2 hw hen
    have hle := least_shared V hl0 hk
    have hok := first_ok V hl0 hk
    have hsh := shared_ev V l (fun k hk2 => by have := hall k hk2; omega)
    have hlev := least_ev (markL (shP b l))
    have e : commonR b l = if (firstK (knownOf b) (setN l 0 : Int)).2 = 0 then ([], 9) else ((firstK (knownOf b) (setN l 0 : Int)).1, 0) := by
      unfold commonR
      rw [if_pos hen, if_pos hcond]
    generalize hF : firstK (knownOf b) (setN l 0 : Nat) = F at *
    rw [hle] at hlev
    refine LWp.skip ?_
    by_cases h0 : F.2 = 0
    · rw [if_pos h0] at e hlev
      rw [e]
      refine LWp.sx (gs := []) (hs := [.ret (bools (markL (shP b l))), .ret (I (-1))]) rfl ⟨hsh, hlev, trivial⟩ ?_
      refine LWp.seq (LWp.seq ?_)
      refine LWp.x (gs := []) (hs := []) rfl trivial ?_
      refine LWp.ite (b := true) rfl (fun _ => ?_) (fun h => by cases h)
      refine LWp.sx (gs := []) (hs := []) rfl trivial ?_
      refine LWp.ent (Ent.nilSl (t := 4) 1 rfl) ?_
      refine LWp.ret (retT (.inr rfl) (.many (by decide) ⟨.tmp ?_ rfl, .tmp ?_ rfl, trivial⟩))
      · rfl
      · rfl
    · rw [if_neg h0] at e hlev
      rw [e]
      have hlt := codeN_lt hok.1
      have hlt2 : 5 ^ F.1.length ≤ 5 ^ 5 := Nat.pow_le_pow_right (by omega) hok.2
      have hhd := heardF_code 5 _ hok.1 hok.2
      have hhe := (heard_ev 5 (codeN F.1) (by omega) (by omega)).freeze
      rw [hhd] at hhe
      refine LWp.sx (gs := []) (hs := [.ret (bools (markL (shP b l))), .ret (I (codeN F.1))]) rfl ⟨hsh, hlev, trivial⟩ ?_
      refine LWp.seq (LWp.seq ?_)
      refine LWp.x (gs := []) (hs := []) rfl trivial ?_
      refine LWp.ite rfl (fun h => ?_) (fun _ => LWp.skip ?_)
      · have h : decide ((codeN F.1 : Int) < 0) = true := h
        simp only [decide_eq_true_eq] at h; omega
      refine LWp.sx (gs := []) (hs := [.ret (ints F.1)]) rfl ⟨hhe, trivial⟩ ?_
      refine LWp.ret (retT (.inr rfl) (.many (by decide) ⟨.tmp ?_ rfl, .tmp ?_ rfl, trivial⟩))
      · rfl
      · rfl
end Go.Px

