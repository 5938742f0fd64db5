/- Part 6 of the proof of the statements of this seat (a logic of pure contracts, the functions lowered, their contracts, the statements). No conditions. -/
import Derived.Test.YtgcdemklhalbhaaA5
namespace Go.Px
open Go.Proofs

def lettersE (n : Int) (l : List Letter) : Int := if beyondB 1 6 [(l.length : Int)] = true then 3 else (failF (letterErr n l) l.length 0).2

theorem failF_step {f : Nat → Int} {n k : Nat} (h : k < n) : (failF f (n - k) k) = if f k = 0 then failF f (n - (k + 1)) (k + 1) else ((k : Int), f k) := by
  rw [show n - k = (n - (k + 1)) + 1 by omega, failF]

theorem letters_ev (b : Book) (h0 : 0 ≤ b.n) (h1 : b.n < 62) (l : List Letter) (hw : ∀ x ∈ l, x.wf) : Ev Try.prog 57 [.agg b.enc, letters l] (I (lettersE b.n l)) := by
  refine Ev.intro fn57 ?_
  refine LWp.slLen 1 rfl fun hll => ?_
  simp only [List.length_map] at hll
  refine LWp.sx (gs := []) (hs := [.ice]) rfl ⟨⟨rfl, rfl⟩, trivial⟩ ?_
  refine LWp.seq (LWp.seq ?_)
  have hin := in_ev ((l.map Letter.enc).length : Int) 1 6
  refine LWp.x (gs := []) (hs := [.ret (B (decide (1 ≤ ((l.map Letter.enc).length : Int)) && decide (((l.map Letter.enc).length : Int) ≤ 6)))]) rfl ⟨hin, trivial⟩ ?_
  refine LWp.ite rfl (fun hc => ?_) (fun hc => ?_)
  · rw [inB_not, List.length_map] at hc
    refine LWp.sx (gs := []) (hs := []) rfl trivial ?_
    refine LWp.ret (retT (.inr rfl) (.one (.tmp ?_ rfl)))
    show I _ = I _
    simp only [lettersE, hc, if_true]
  rw [inB_not, List.length_map] at hc
  have hL : lettersE b.n l = (failF (letterErr b.n l) l.length 0).2 := by simp only [lettersE, hc, if_false, Bool.false_eq_true]
  rw [hL]
  refine LWp.skip ?_
  refine LWp.seq (LWp.seq ?_)
  refine LWp.x (gs := []) (hs := []) rfl trivial ?_
  refine LWp.blockT (fun _ : Unit => (failF (letterErr b.n l) l.length 0).2 = 0) (fun _ => el []) (fun _ => []) (fun _ => []) ?_ ?_
  · refine LWp.loopN (fun k : Nat => k ≤ l.length ∧ failF (letterErr b.n l) l.length 0 = failF (letterErr b.n l) (l.length - k) k) (fun k => el [(1, letters l), (2, .pi b.enc), (5, I k)]) (fun _ => []) (fun _ => []) (fun k => l.length - k) 0 ⟨by omega, rfl⟩
      (Ent.el ⟨rfl, rfl, rfl, trivial⟩) ?_
    rintro k ⟨hk, hi⟩
    refine LWp.seq (LWp.seq ?_)
    refine LWp.x (gs := []) (hs := []) rfl trivial ?_
    refine LWp.ite rfl (fun hc => ?_) (fun hc => ?_)
    · simp only [List.length_map, decide_eq_true_eq, Int.ofNat_lt] at hc
      obtain ⟨x, hx⟩ := ex_get hc
      obtain ⟨w0, w1, w2, w3⟩ := hw x (List.mem_of_getElem? hx)
      rw [failF_step hc] at hi
      have hle : letterErr b.n l k = if beyondB 97 122 [x.c] = true then 6 else if decide (indexC (l.take k) x.c ≥ 0) = true then 5 else if beyondB 0 (2 ^ b.n.toNat - 1) [x.s] = true then 7 else if (x.s == 0 && !x.q) = true then 2 else 0 := by
        simp only [letterErr, hx]
      have err : ∀ e : Int, e ≠ 0 → letterErr b.n l k = e → (failF (letterErr b.n l) l.length 0).2 = e := by
        intro e h1 h2
        rw [hi, h2, if_neg h1]
      have hwr : IntKind.i64.wrap x.c = x.c := i64_wrap (by omega) (by omega)
      refine LWp.skip ?_
      refine LWp.blockX (fun _ : Unit => letterErr b.n l k = 0) (fun _ => el [(1, letters l), (2, .pi b.enc), (5, I k)]) (fun _ => []) (fun _ => []) ?_ ?_
      · refine LWp.seq (LWp.seq ?_)
        refine LWp.x (gs := []) (hs := [.cells x.enc, .ret (B (decide (97 ≤ x.c) && decide (x.c ≤ 122)))]) rfl ⟨⟨by omega, by simp [hx]⟩, hwr, in_ev _ 97 122, trivial⟩ ?_
        refine LWp.ite rfl (fun hb => ?_) (fun hb => ?_)
        · rw [inB_not] at hb
          rw [if_pos hb] at hle
          refine LWp.sx (gs := []) (hs := []) rfl trivial ?_
          refine LWp.ret (retT (.inr rfl) (.one (.tmp ?_ rfl)))
          rw [err 6 (by decide) hle]; rfl
        rw [inB_not] at hb
        rw [if_neg (by rw [hb]; simp)] at hle
        refine LWp.skip ?_
        refine LWp.seq (LWp.seq ?_)
        refine LWp.x (gs := []) (hs := []) rfl trivial ?_
        refine LWp.blockT (fun _ : Unit => ¬ indexC (l.take k) x.c ≥ 0) (fun _ => el [(1, letters l), (2, .pi b.enc), (5, I k)]) (fun _ => []) (fun _ => []) ?_ ?_
        · refine LWp.loopN (fun j : Nat => j ≤ k ∧ ∀ y ∈ l.take j, y.c ≠ x.c) (fun j => el [(1, letters l), (2, .pi b.enc), (5, I k), (6, I j)]) (fun _ => []) (fun _ => []) (fun j => k - j) 0 ⟨by omega, by simp⟩
            (Ent.el ⟨rfl, rfl, rfl, rfl, trivial⟩) ?_
          rintro j ⟨hj, hall⟩
          refine LWp.seq (LWp.seq ?_)
          refine LWp.x (gs := []) (hs := []) rfl trivial ?_
          refine LWp.ite rfl (fun hd => ?_) (fun hd => ?_)
          · simp only [decide_eq_true_eq, Int.ofNat_lt] at hd
            have hjl : j < l.length := by omega
            obtain ⟨y, hy⟩ := ex_get hjl
            refine LWp.skip (LWp.seq (LWp.block ?_))
            refine LWp.seq ?_
            refine LWp.dd (gs := []) (hs := [.cells y.enc, .cells x.enc]) hmix rfl (by kernel_rfl) ⟨⟨by omega, by simp [hy]⟩, ⟨by omega, by simp [hx]⟩, trivial⟩ ?_
            refine LWp.ite rfl (fun he => ?_) (fun he => ?_)
            · simp only [beq_iff_eq] at he
              have hm : y ∈ l.take k := List.mem_iff_getElem?.2 ⟨j, by rw [List.getElem?_take, if_pos hd, hy]⟩
              have h5 : decide (indexC (l.take k) x.c ≥ 0) = true := decide_eq_true ((indexC_nonneg _ _).2 ⟨y, hm, he⟩)
              rw [if_pos h5] at hle
              refine LWp.sx (gs := []) (hs := []) rfl trivial ?_
              refine LWp.ret (retT (.inr rfl) (.one (.tmp ?_ rfl)))
              rw [err 5 (by decide) hle]; rfl
            · simp only [beq_eq_false_iff_ne, ne_eq] at he
              refine LWp.skip ?_
              refine LWp.x (gs := []) (hs := []) rfl ⟨by omega, trivial⟩ ?_
              refine ⟨j + 1, ⟨by omega, ?_⟩, by omega, Ent.el ⟨rfl, rfl, rfl, rfl, trivial⟩⟩
              intro z hz
              rw [List.take_add_one, hy] at hz
              rcases List.mem_append.1 hz with hz | hz
              · exact hall z hz
              · simp only [Option.toList_some, List.mem_singleton] at hz; subst hz; exact he
          · simp only [decide_eq_false_iff_not, Int.ofNat_lt] at hd
            have : j = k := by omega
            subst this
            refine LWp.exit ⟨(), ?_, Ent.el ⟨rfl, rfl, rfl, trivial⟩⟩
            intro h
            obtain ⟨y, hy, e⟩ := (indexC_nonneg _ _).1 h
            exact hall y hy e
        intro _ hni
        rw [if_neg (by simpa using hni)] at hle
        refine LWp.seq (LWp.seq ?_)
        refine LWp.dd (gs := []) (hs := [.cells x.enc, .ret (I (2 ^ b.n.toNat - 1)), .ret (B (decide (0 ≤ x.s) && decide (x.s ≤ 2 ^ b.n.toNat - 1)))]) hmix rfl (by kernel_rfl) ⟨⟨by omega, by simp [hx]⟩, all_ev b.n h0 h1, in_ev _ 0 _, trivial⟩ ?_
        refine LWp.ite rfl (fun he => ?_) (fun he => ?_)
        · rw [inB_not] at he
          rw [if_pos he] at hle
          refine LWp.sx (gs := []) (hs := []) rfl trivial ?_
          refine LWp.ret (retT (.inr rfl) (.one (.tmp ?_ rfl)))
          rw [err 7 (by decide) hle]; rfl
        rw [inB_not] at he
        rw [if_neg (by rw [he]; simp)] at hle
        refine LWp.skip ?_
        by_cases hs : x.s = 0
        · refine LWp.seq ?_
          refine LWp.x (gs := [(57, true)]) (hs := [.cells x.enc, .cells x.enc]) rfl (by simp [hs, hx]; try exact hc) ?_
          refine LWp.ite rfl (fun hq => ?_) (fun hq => ?_)
          · simp only [Bool.not_eq_true'] at hq
            rw [if_pos (by simp [hs, hq])] at hle
            refine LWp.sx (gs := []) (hs := []) rfl trivial ?_
            refine LWp.ret (retT (.inr rfl) (.one (.tmp ?_ rfl)))
            rw [err 2 (by decide) hle]; rfl
          · simp only [Bool.not_eq_false'] at hq
            rw [if_neg (by simp [hs, hq])] at hle
            exact LWp.skip ⟨(), hle, Ent.el ⟨rfl, rfl, rfl, trivial⟩⟩
        · refine LWp.seq ?_
          refine LWp.x (gs := [(57, false)]) (hs := [.cells x.enc]) rfl (by simp [hs, hx]; try exact hc) ?_
          refine LWp.ite (b := false) rfl (fun h => by cases h) (fun _ => ?_)
          rw [if_neg (by simp [hs])] at hle
          exact LWp.skip ⟨(), hle, Ent.el ⟨rfl, rfl, rfl, trivial⟩⟩
      · intro _ hz
        rw [if_pos hz] at hi
        refine LWp.x (gs := []) (hs := []) rfl ⟨by omega, trivial⟩ ?_
        exact ⟨k + 1, ⟨hc, hi⟩, by omega, Ent.el ⟨rfl, rfl, rfl, trivial⟩⟩
    · simp only [List.length_map, decide_eq_false_iff_not, Int.ofNat_lt] at hc
      exact LWp.exit ⟨(), by rw [hi, show l.length - k = 0 by omega]; rfl, Ent.el trivial⟩
  · intro _ h
    refine LWp.sx (gs := []) (hs := []) rfl trivial ?_
    refine LWp.ret (retT (.inr rfl) (.one (.tmp ?_ rfl)))
    rw [h]; rfl

/-- The error of a spelling. -/
def spellS (b : Book) (s : Spelling) : Int := if beyondB 0 ((b.al.length : Int) - 1) [s.a] = true then 4 else if beyondB 1 5 [(s.t.length : Int)] = true then 3 else match b.al[s.a.toNat]? with
    | none => 0
    | some a => if s.t.all (fun c => decide (0 ≤ indexC a.ls c.toNat)) = true then 0 else 6
theorem rspelling_ev (b : Book) (hal : b.al.length < 1000) (hls : ∀ a ∈ b.al, a.ls.length ≤ 1000) (s : Spelling) (hw : s.wf) : Ev Try.prog 58 [.agg b.enc, .agg s.enc] (I (spellS b s)) := by
  have ht := hw.t
  refine Ev.intro fn58 ?_
  refine LWp.sx (gs := []) (hs := [.ice, .ice]) rfl ⟨⟨rfl, rfl⟩, ⟨rfl, rfl⟩, trivial⟩ ?_
  refine LWp.seq (LWp.seq ?_)
  refine LWp.x (gs := []) (hs := [.ret (B (decide (0 ≤ s.a) && decide (s.a ≤ ((b.al.map Alph.enc).length : Int) - 1)))]) rfl ⟨by simp; omega, in_ev _ 0 _, trivial⟩ ?_
  refine LWp.ite rfl (fun hc => ?_) (fun hc => ?_)
  · rw [inB_not, List.length_map] at hc
    refine LWp.sx (gs := []) (hs := []) rfl trivial ?_
    refine LWp.ret (retT (.inr rfl) (.one (.tmp ?_ rfl)))
    show I _ = I _
    simp only [spellS, hc, if_true]
  rw [inB_not, List.length_map] at hc
  refine LWp.skip ?_
  refine LWp.seq (LWp.seq ?_)
  refine LWp.x (gs := []) (hs := [.ret (B (decide (1 ≤ (s.t.length : Int)) && decide ((s.t.length : Int) ≤ 5)))]) rfl ⟨in_ev _ 1 5, trivial⟩ ?_
  refine LWp.ite rfl (fun hd => ?_) (fun hd => ?_)
  · rw [inB_not] at hd
    refine LWp.sx (gs := []) (hs := []) rfl trivial ?_
    refine LWp.ret (retT (.inr rfl) (.one (.tmp ?_ rfl)))
    show I _ = I _
    simp only [spellS, hc, hd, if_true, if_false, Bool.false_eq_true]
  rw [inB_not] at hd
  have hc' := hc
  simp only [beyondB, List.any_cons, List.any_nil, Bool.or_false, Bool.or_eq_false_iff, decide_eq_false_iff_not] at hc'
  have hlt : s.a.toNat < b.al.length := by omega
  obtain ⟨a, ha⟩ := ex_get hlt
  have hS : spellS b s = if s.t.all (fun c => decide (0 ≤ indexC a.ls c.toNat)) = true then 0 else 6 := by simp only [spellS, hc, hd, ha, if_false, Bool.false_eq_true]
  rw [hS]
  refine LWp.skip ?_
  refine LWp.seq (LWp.seq ?_)
  refine LWp.x (gs := []) (hs := []) rfl trivial ?_
  refine LWp.blockT (fun _ : Unit => s.t.all (fun c => decide (0 ≤ indexC a.ls c.toNat)) = true) (fun _ => el []) (fun _ => []) (fun _ => []) ?_ ?_
  · refine LWp.loopN (fun k : Nat => k ≤ s.t.length ∧ s.t.all (fun c => decide (0 ≤ indexC a.ls c.toNat)) = (s.t.drop k).all (fun c => decide (0 ≤ indexC a.ls c.toNat))) (fun k => el [(2, .pi b.enc), (3, .pi s.enc), (5, I k)]) (fun _ => []) (fun _ => []) (fun k => s.t.length - k) 0 ⟨by omega, rfl⟩
      (Ent.el ⟨rfl, rfl, rfl, trivial⟩) ?_
    rintro k ⟨hk, hi⟩
    refine LWp.seq (LWp.seq ?_)
    refine LWp.x (gs := []) (hs := []) rfl trivial ?_
    refine LWp.ite rfl (fun hb => ?_) (fun hb => ?_)
    · simp only [decide_eq_true_eq] at hb
      have hb' : k < s.t.length := by have : ((k : Int) < (s.t.length : Int)) := hb; omega
      obtain ⟨c, hx⟩ := ex_get hb'
      rw [drop_cons hx, List.all_cons] at hi
      refine LWp.skip (LWp.seq (LWp.block ?_))
      refine LWp.seq ?_
      refine LWp.dd (gs := []) (hs := [.cells a.enc, .byte c, .ret (I (indexC a.ls c.toNat))]) hmix rfl (by kernel_rfl) ⟨⟨by omega, by simp [ha]⟩, ⟨by omega, by simpa using hx⟩, rletter_ev a c.toNat (hls a (List.mem_of_getElem? ha)), trivial⟩ ?_
      refine LWp.ite rfl (fun he => ?_) (fun he => ?_)
      · simp only [decide_eq_true_eq] at he
        refine LWp.sx (gs := []) (hs := []) rfl trivial ?_
        refine LWp.ret (retT (.inr rfl) (.one (.tmp ?_ rfl)))
        have : decide (0 ≤ indexC a.ls c.toNat) = false := by simp; omega
        rw [hi, this]; rfl
      · simp only [decide_eq_false_iff_not] at he
        have : decide (0 ≤ indexC a.ls c.toNat) = true := by simp; omega
        refine LWp.skip ?_
        refine LWp.x (gs := []) (hs := []) rfl ⟨by omega, trivial⟩ ?_
        exact ⟨k + 1, ⟨hb', by rw [hi, this]; rfl⟩, by omega, Ent.el ⟨rfl, rfl, rfl, trivial⟩⟩
    · simp only [decide_eq_false_iff_not] at hb
      have hb' : ¬ k < s.t.length := by have : ¬ ((k : Int) < (s.t.length : Int)) := hb; omega
      exact LWp.exit ⟨(), by rw [hi, drop_nil hb']; rfl, Ent.el trivial⟩
  · intro _ h
    refine LWp.sx (gs := []) (hs := []) rfl trivial ?_
    refine LWp.ret (retT (.inr rfl) (.one (.tmp ?_ rfl)))
    rw [h]; rfl

theorem rcheck_ev (b : Book) (hw : b.wf) : Ev Try.prog 18 [.agg b.enc] (.tup [I (check b).1, I (check b).2.1, I (check b).2.2]) := by
  refine Ev.intro fn18 ?_
  refine LWp.sx (gs := []) (hs := [.ice]) rfl ⟨⟨rfl, rfl⟩, trivial⟩ ?_
  have res : ∀ {env : Env} {H : Heap} {p q r : Int}, check b = (p, q, r) → env 2 = I p → env 3 = I q → env 4 = I r → retP Try.prog [.tmp 2, .tmp 3, .tmp 4] (.tup [I (check b).1, I (check b).2.1, I (check b).2.2]) .ret env H [] := by
    intro env H p q r h h2 h3 h4
    rw [h]
    exact retT (.inr rfl) (.many (by decide) ⟨.tmp h2 rfl, .tmp h3 rfl, .tmp h4 rfl, trivial⟩)
  refine LWp.seq (LWp.seq ?_)
  refine LWp.x (gs := []) (hs := [.ret (B (decide (1 ≤ b.n) && decide (b.n ≤ 4)))]) rfl ⟨in_ev _ 1 4, trivial⟩ ?_
  refine LWp.ite rfl (fun hc => ?_) (fun hc => ?_)
  · rw [inB_not] at hc
    refine LWp.sx (gs := []) (hs := []) rfl trivial ?_
    exact LWp.ret (res (p := 1) (q := 0) (r := 7) (by simp only [check, hc, if_true]) rfl rfl rfl)
  rw [inB_not] at hc
  refine LWp.skip (LWp.seq (LWp.seq ?_))
  refine LWp.x (gs := []) (hs := [.ret (B (decide (1 ≤ ((b.al.map Alph.enc).length : Int)) && decide (((b.al.map Alph.enc).length : Int) ≤ 3)))]) rfl ⟨in_ev _ 1 3, trivial⟩ ?_
  refine LWp.ite rfl (fun hd => ?_) (fun hd => ?_)
  · rw [inB_not, List.length_map] at hd
    refine LWp.sx (gs := []) (hs := []) rfl trivial ?_
    exact LWp.ret (res (p := 2) (q := 0) (r := 3) (by simp only [check, hc, hd, if_true, if_false, Bool.false_eq_true]) rfl rfl rfl)
  rw [inB_not, List.length_map] at hd
  have hc' := hc
  have hd' := hd
  simp only [beyondB, List.any_cons, List.any_nil, Bool.or_false, Bool.or_eq_false_iff, decide_eq_false_iff_not] at hc' hd'
  refine LWp.skip ?_
  refine LWp.sx (gs := []) (hs := []) rfl trivial ?_
  refine LWp.seq (LWp.seq ?_)
  refine LWp.x (gs := []) (hs := []) rfl trivial ?_
  refine LWp.blockT (fun _ : Unit => (failF (alphErr b) b.al.length 0).2 = 0) (fun _ => el [(1, .pi b.enc)]) (fun _ => []) (fun _ => []) ?_ ?_
  · refine LWp.loopN (fun k : Nat => k ≤ b.al.length ∧ failF (alphErr b) b.al.length 0 = failF (alphErr b) (b.al.length - k) k) (fun k => el [(1, .pi b.enc), (5, .lin 9 1 (((b.al.take k).map (·.name)).map fun s => [Str s])), (6, I k)]) (fun _ => []) (fun _ => []) (fun k => b.al.length - k) 0 ⟨by omega, rfl⟩
      (Ent.trans (Ent.nilLin (t := 5) 9 1 rfl) (Ent.el ⟨rfl, rfl, rfl, trivial⟩)) ?_
    rintro k ⟨hk, hi⟩
    refine LWp.seq (LWp.seq ?_)
    refine LWp.x (gs := []) (hs := []) rfl trivial ?_
    refine LWp.ite rfl (fun he => ?_) (fun he => ?_)
    · simp only [List.length_map, decide_eq_true_eq, Int.ofNat_lt] at he
      obtain ⟨a, ha⟩ := ex_get he
      have haw := hw.al a (List.mem_of_getElem? ha)
      rw [failF_step he] at hi
      have hle : alphErr b k = if freshE a.name ((b.al.take k).map (·.name)) = 0 then lettersE b.n a.ls else freshE a.name ((b.al.take k).map (·.name)) := by
        simp only [alphErr, ha, freshE, lettersE, List.any_map]
        by_cases g1 : nameB a.name = true
        · simp only [g1, if_true]
          have e : (b.al.take k).any ((fun x => x == a.name) ∘ fun x => x.name) = (b.al.take k).any (fun x => x.name == a.name) := rfl
          rw [e]
          by_cases g2 : (b.al.take k).any (fun x => x.name == a.name) = true
          · simp [g2]
          · simp [g2]
        · simp [g1]
      refine LWp.skip ?_
      refine LWp.blockX (fun _ : Unit => alphErr b k = 0) (fun _ => el [(1, .pi b.enc), (5, .lin 9 1 (((b.al.take (k + 1)).map (·.name)).map fun s => [Str s])), (6, I k)]) (fun _ => []) (fun _ => []) ?_ ?_
      · generalize hnm : (b.al.take k).map (·.name) = nm at hle
        have hnl : nm.length ≤ 3 := by rw [← hnm]; simp; omega
        have hns : (b.al.take (k + 1)).map (·.name) = nm ++ [a.name] := by
          rw [List.take_add_one, ha, List.map_append, hnm]; rfl
        rw [hns]
        refine LWp.peek 5 rfl (fun ad cap => ?_)
        refine LWp.sx (gs := []) (hs := [.cells a.enc, .retB [Str a.name, strs nm] (I (freshE a.name nm))]) rfl ⟨⟨by omega, by simp [ha]⟩, ⟨fresh_ev a.name haw.name nm, rfl, .refl _, .linV (u := 5) rfl rfl, trivial⟩, trivial⟩ ?_
        refine LWp.sx (gs := []) (hs := [.cells a.enc, .ice, .own 5]) rfl ⟨⟨by omega, by simp [ha]⟩, rfl, ⟨⟨rfl, rfl, rfl⟩, by simp [chunk]; omega, by simp [chunk]; omega⟩, trivial⟩ ?_
        refine LWp.cutX (fun _ : Unit => True) (fun _ => el [(1, .pi b.enc), (5, .lin 9 1 ((nm ++ [a.name]).map fun s => [Str s])), (6, I k), (7, I (alphErr b k))]) (fun _ => []) (fun _ => []) ?_ ?_
        · refine LWp.sx (gs := []) (hs := []) rfl trivial ?_
          refine LWp.ite rfl (fun hf => ?_) (fun hf => ?_)
          · simp only [beq_iff_eq] at hf
            rw [if_pos hf] at hle
            refine LWp.dd (gs := []) (hs := [.cells a.enc, .ret (I (lettersE b.n a.ls))]) hmix rfl (by kernel_rfl) ⟨⟨by omega, by simp [ha]⟩, letters_ev b (by omega) (by omega) a.ls haw.ls, trivial⟩ ?_
            exact ⟨(), trivial, Ent.el ⟨rfl, by show AV.lin _ _ _ = _; rw [List.map_append]; rfl, rfl, by rw [hle]; rfl, trivial⟩⟩
          · simp only [beq_eq_false_iff_ne, ne_eq] at hf
            rw [if_neg hf] at hle
            exact LWp.skip ⟨(), trivial, Ent.el ⟨rfl, by show AV.lin _ _ _ = _; rw [List.map_append]; rfl, rfl, by rw [hle]; rfl, trivial⟩⟩
        intro _ _
        refine LWp.seq ?_
        refine LWp.x (gs := []) (hs := []) rfl trivial ?_
        refine LWp.ite rfl (fun hf => ?_) (fun hf => ?_)
        · simp only [bne_iff_ne, ne_eq] at hf
          rw [if_neg hf] at hi
          refine LWp.sx (gs := []) (hs := []) rfl trivial ?_
          exact LWp.ret (res (p := 2) (q := (k : Int)) (r := alphErr b k) (by simp only [check, hc, hd, hi, hf, if_false, Bool.false_eq_true]) rfl rfl rfl)
        · simp only [bne_eq_false_iff_eq] at hf
          exact LWp.skip ⟨(), hf, Ent.el ⟨rfl, rfl, rfl, trivial⟩⟩
      · intro _ hz
        rw [if_pos hz] at hi
        refine LWp.x (gs := []) (hs := []) rfl ⟨by omega, trivial⟩ ?_
        exact ⟨k + 1, ⟨he, hi⟩, by omega, Ent.el ⟨rfl, rfl, rfl, trivial⟩⟩
    · simp only [List.length_map, decide_eq_false_iff_not, Int.ofNat_lt] at he
      exact LWp.exit ⟨(), by rw [hi, show b.al.length - k = 0 by omega]; rfl, Ent.el ⟨rfl, trivial⟩⟩
  intro _ hz
  refine LWp.seq (LWp.seq ?_)
  refine LWp.x (gs := []) (hs := []) rfl trivial ?_
  refine LWp.ite rfl (fun he => ?_) (fun he => ?_)
  · simp only [List.length_map, decide_eq_true_eq] at he
    have he' : 5 < b.ss.length := by omega
    refine LWp.sx (gs := []) (hs := []) rfl trivial ?_
    exact LWp.ret (res (p := 3) (q := 0) (r := 3) (by simp only [check, hc, hd, hz, he', if_true, if_false, Bool.false_eq_true]) rfl rfl rfl)
  simp only [List.length_map, decide_eq_false_iff_not] at he
  have he' : ¬ 5 < b.ss.length := by omega
  have hls : ∀ a ∈ b.al, a.ls.length ≤ 1000 := by
    intro a ha
    obtain ⟨i, hi⟩ := List.mem_iff_getElem?.1 ha
    have := ((alphErr_iff hi).1 (failF_iff.1 hz i (List.getElem?_eq_some_iff.1 hi).1)).1.l6
    omega
  refine LWp.skip (LWp.seq (LWp.seq ?_))
  refine LWp.x (gs := []) (hs := []) rfl trivial ?_
  refine LWp.blockT (fun _ : Unit => (failF (spellErr b) b.ss.length 0).2 = 0) (fun _ => el []) (fun _ => []) (fun _ => []) ?_ ?_
  · refine LWp.loopN (fun k : Nat => k ≤ b.ss.length ∧ failF (spellErr b) b.ss.length 0 = failF (spellErr b) (b.ss.length - k) k) (fun k => el [(1, .pi b.enc), (8, I k)]) (fun _ => []) (fun _ => []) (fun k => b.ss.length - k) 0 ⟨by omega, rfl⟩
      (Ent.el ⟨rfl, rfl, trivial⟩) ?_
    rintro k ⟨hk, hi⟩
    refine LWp.seq (LWp.seq ?_)
    refine LWp.x (gs := []) (hs := []) rfl trivial ?_
    refine LWp.ite rfl (fun hf => ?_) (fun hf => ?_)
    · simp only [List.length_map, decide_eq_true_eq, Int.ofNat_lt] at hf
      obtain ⟨s, hs⟩ := ex_get hf
      rw [failF_step hf] at hi
      have hle : spellErr b k = spellS b s := by simp only [spellErr, hs]; rfl
      refine LWp.skip (LWp.seq (LWp.block ?_))
      refine LWp.sd (gs := []) (hs := [.cells s.enc, .ret (I (spellS b s))]) hmix rfl (by kernel_rfl) ⟨⟨by omega, by simp [hs]⟩, rspelling_ev b (by omega) hls s (hw.ss s (List.mem_of_getElem? hs)), trivial⟩ ?_
      refine LWp.seq ?_
      refine LWp.x (gs := []) (hs := []) rfl trivial ?_
      refine LWp.ite rfl (fun hg => ?_) (fun hg => ?_)
      · simp only [bne_iff_ne, ne_eq] at hg
        rw [← hle] at hg
        rw [if_neg hg] at hi
        refine LWp.sx (gs := []) (hs := []) rfl trivial ?_
        exact LWp.ret (res (p := 3) (q := (k : Int)) (r := spellS b s) (by simp only [check, hc, hd, hz, he', hi, hg, if_true, if_false, Bool.false_eq_true]; rw [hle]) rfl rfl rfl)
      · simp only [bne_eq_false_iff_eq] at hg
        rw [← hle] at hg
        rw [if_pos hg] at hi
        refine LWp.skip ?_
        refine LWp.x (gs := []) (hs := []) rfl ⟨by omega, trivial⟩ ?_
        exact ⟨k + 1, ⟨hf, hi⟩, by omega, Ent.el ⟨rfl, rfl, trivial⟩⟩
    · simp only [List.length_map, decide_eq_false_iff_not, Int.ofNat_lt] at hf
      exact LWp.exit ⟨(), by rw [hi, show b.ss.length - k = 0 by omega]; rfl, Ent.el trivial⟩
  · intro _ hs
    refine LWp.sx (gs := []) (hs := []) rfl trivial ?_
    exact LWp.ret (res (p := 0) (q := 0) (r := 0) (by simp only [check, hc, hd, hz, he', hs, if_true, if_false, Bool.false_eq_true]) rfl rfl rfl)
end Go.Px

