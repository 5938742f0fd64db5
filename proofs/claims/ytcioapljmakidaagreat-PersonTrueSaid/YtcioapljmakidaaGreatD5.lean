/- Part 5 of the proofs of the statements of this seat (a logic of pure contracts, the functions lowered, their contracts). No conditions. -/
import Derived.Test.YtcioapljmakidaaGreatD4
namespace Go.Px
open Go.Proofs
def letAt (ls : List Letter) (c : Int) : Letter := (ls[(indexC ls c).toNat]?).getD ⟨0, 0, false⟩
def spLetters (b : Book) (s : Spelling) : List Letter := match b.al[s.a.toNat]? with
  | none => []
  | some a => s.t.map fun c => letAt a.ls c.toNat
def spsOf (b : Book) : List (List Letter) := b.ss.map (spLetters b)
def knownOf (b : Book) : Kn := knownF b.n.toNat (spsOf b) 0 []
theorem failF_zero {f : Nat → Int} : ∀ {m k : Nat}, (failF f m k).2 = 0 → ∀ j, k ≤ j → j < k + m → f j = 0
  | 0, k, _, j, h1, h2 => by omega
  | m + 1, k, h, j, h1, h2 => by
    simp only [failF] at h
    by_cases hf : f k = 0
    · rw [if_pos hf] at h
      by_cases e : j = k
      · subst e; exact hf
      · exact failF_zero h j (by omega) (by omega)
    · rw [if_neg hf] at h
      exact absurd h hf
theorem idxF_lt {α : Type} (p : α → Bool) : ∀ (l : List α) (k : Int), 0 ≤ k → 0 ≤ idxF p l k → k ≤ idxF p l k ∧ ∃ x, l[(idxF p l k - k).toNat]? = some x ∧ p x = true
  | [], k, _, h => by simp [idxF] at h
  | x :: l, k, hk, h => by
    by_cases hp : p x = true
    · have e : idxF p (x :: l) k = k := by simp only [idxF, hp, if_true]
      rw [e]; exact ⟨Int.le_refl _, x, by simp, hp⟩
    · have e : idxF p (x :: l) k = idxF p l (k + 1) := by simp only [idxF, hp, if_false, Bool.false_eq_true]
      rw [e] at h ⊢
      obtain ⟨h1, y, h2, h3⟩ := idxF_lt p l (k + 1) (by omega) h
      refine ⟨by omega, y, ?_, h3⟩
      have : (idxF p l (k + 1) - k).toNat = (idxF p l (k + 1) - (k + 1)).toNat + 1 := by omega
      rw [this]; simpa using h2
theorem bookOK (b : Book) (_hw : b.wf) (h : (check b).2.2 = 0) : BookOK b (spsOf b) := by
  unfold check at h
  split at h
  · simp at h
  rename_i h1
  split at h
  · simp at h
  rename_i h2
  split at h
  · rename_i h3
    split at h
    · simp at h
    rename_i h4
    split at h
    · rename_i h5
      simp only [beyondB, List.any_cons, List.any_nil, Bool.or_false, Bool.not_eq_true, Bool.or_eq_false_iff, decide_eq_false_iff_not] at h1 h2
      refine ⟨by omega, by omega, by simp [spsOf], by simp [spsOf]; omega, ?_⟩
      intro i xs hx
      simp only [spsOf, List.getElem?_map, Option.map_eq_some_iff] at hx
      obtain ⟨s, hs, rfl⟩ := hx
      have hil := (List.getElem?_eq_some_iff.1 hs).1
      have he := failF_zero h5 i (by omega) (by omega)
      simp only [spellErr, hs] at he
      split at he
      · cases he
      rename_i g1
      split at he
      · cases he
      rename_i g2
      simp only [beyondB, List.any_cons, List.any_nil, Bool.or_false, Bool.not_eq_true, Bool.or_eq_false_iff, decide_eq_false_iff_not] at g1 g2
      have halt : s.a.toNat < b.al.length := by omega
      obtain ⟨a, ha⟩ := ex_get halt
      simp only [ha] at he
      split at he
      case isFalse => cases he
      rename_i g3
      have hae := failF_zero h3 s.a.toNat (by omega) (by omega)
      simp only [alphErr, ha] at hae
      split at hae
      case isFalse => cases hae
      split at hae
      · cases hae
      split at hae
      · cases hae
      have hxs : spLetters b s = s.t.map fun c => letAt a.ls c.toNat := by simp only [spLetters, ha]
      have hat : ∀ (k : Nat) (c : UInt8), s.t[k]? = some c → 0 ≤ indexC a.ls c.toNat ∧ ∃ x, a.ls[(indexC a.ls c.toNat).toNat]? = some x ∧ (spLetters b s)[k]? = some x := by
        intro k c hc
        have h0 : 0 ≤ indexC a.ls c.toNat := by
          have := List.all_eq_true.1 g3 c (List.mem_of_getElem? hc)
          simpa using this
        obtain ⟨_, x, hx, _⟩ := idxF_lt _ a.ls 0 (by omega) h0
        rw [Int.sub_zero] at hx
        refine ⟨h0, x, hx, ?_⟩
        rw [hxs, List.getElem?_map, hc]
        simp only [Option.map_some, letAt]
        have hx' : a.ls[(indexC a.ls c.toNat).toNat]? = some x := hx
        rw [hx']; rfl
      refine ⟨s, a, hs, by omega, ha, by rw [hxs]; simp, hat, ?_, by omega⟩
      intro x hx
      rw [hxs] at hx
      obtain ⟨c, hc, rfl⟩ := List.mem_map.1 hx
      obtain ⟨k, hk⟩ := List.mem_iff_getElem?.1 hc
      obtain ⟨h0, y, hy, hy2⟩ := hat k c hk
      have e : letAt a.ls c.toNat = y := by simp only [letAt, hy]; rfl
      rw [e]
      have hlt := (List.getElem?_eq_some_iff.1 hy).1
      have hle := failF_zero hae (indexC a.ls c.toNat).toNat (by omega) (by omega)
      simp only [letterErr, hy] at hle
      split at hle
      · cases hle
      split at hle
      · cases hle
      split at hle
      · cases hle
      rename_i g4
      simp only [beyondB, List.any_cons, List.any_nil, Bool.or_false, Bool.not_eq_true, Bool.or_eq_false_iff, decide_eq_false_iff_not] at g4
      have := pow2_le (k := b.n.toNat) (by omega)
      omega
    · rename_i h5
      exact absurd h h5
  · rename_i h3
    exact absurd h h3
end Go.Px

namespace Go.Px
open Go.Proofs
def enterE (b : Book) (many : Int) (l : List Int) : Int := if (check b).2.2 = 0 then (if beyondB 0 (many - 1) l = true then 4 else 0) else (check b).2.2
abbrev lookP (b : Book) : AV := bp b (.mi (encK (knownOf b)))
theorem enter_ev (b : Book) (hw : b.wf) (many : Int) (hm0 : 0 ≤ many) (hm1 : many ≤ 9223372036854775807) (l : List Int) : Ev Tryz.prog 145 [.agg b.enc, I many, ints l] (.tup [if enterE b many l = 0 then lookP b else .v (.pointer none), I (enterE b many l)]) := by
  refine Ev.intro fn145 ?_
  refine LWp.sx (gs := []) (hs := [.ice]) rfl ⟨⟨rfl, rfl⟩, trivial⟩ ?_
  refine LWp.sx (gs := []) (hs := [.ret (.tup [I (check b).1, I (check b).2.1, I (check b).2.2])]) rfl ⟨check_ev b hw, trivial⟩ ?_
  refine LWp.blockX (fun _ : Unit => enterE b many l = 0 ∧ (check b).2.2 = 0) (fun _ => el [(3, .pi b.enc)]) (fun _ => []) (fun _ => []) ?_ ?_
  · refine LWp.sx (gs := []) (hs := []) rfl trivial ?_
    refine LWp.ite rfl (fun hc => ?_) (fun hc => ?_)
    · simp only [bne_iff_ne, ne_eq] at hc
      have he : enterE b many l = (check b).2.2 := by simp [enterE, hc]
      refine LWp.sx (gs := []) (hs := []) rfl trivial ?_
      refine LWp.ret (retT (.inr rfl) (.many (by decide) ⟨.tmp ?_ ?_, .tmp ?_ rfl, trivial⟩))
      · rw [he, if_neg hc]; rfl
      · rw [he, if_neg hc]; rfl
      · rw [he]; rfl
    · simp only [bne_eq_false_iff_eq] at hc
      refine LWp.sx (gs := []) (hs := [.ret (B (beyondB 0 (many - 1) l))]) rfl ⟨⟨by omega, by omega⟩, beyond_ev 0 (many - 1) l, trivial⟩ ?_
      refine LWp.ite rfl (fun hd => ?_) (fun hd => ?_)
      · have he : enterE b many l = 4 := by simp [enterE, hc, hd]
        refine LWp.sx (gs := []) (hs := []) rfl trivial ?_
        refine LWp.ret (retT (.inr rfl) (.many (by decide) ⟨.tmp ?_ ?_, .tmp ?_ rfl, trivial⟩))
        · rw [he]; rfl
        · rw [he]; rfl
        · rw [he]; rfl
      · exact LWp.skip ⟨(), ⟨by simp [enterE, hc, hd], hc⟩, Ent.el ⟨rfl, trivial⟩⟩
  · rintro _ ⟨he, hc⟩
    refine LWp.sx (gs := []) (hs := [.ret (lookP b)]) rfl ⟨look_ev b (spsOf b) (bookOK b hw hc), trivial⟩ ?_
    refine LWp.ret (retT (.inr rfl) (.many (by decide) ⟨.tmp ?_ ?_, .tmp ?_ rfl, trivial⟩))
    · rw [he]; rfl
    · rw [he]; rfl
    · rw [he]; rfl
end Go.Px

namespace Go.Px
open Go.Proofs
def selB (set : Int) (u : Nat) : Bool := (((u &&& set.toNat : Nat) : Int) == set)
def stepF (set : Int) (p : List Int × Nat) (e : List Int × Nat) : List Int × Nat :=
  if selB set e.2 = true then (if p.2 = 0 ∨ hbefore e.1 p.1 = true then e.1 else p.1, p.2 + 1) else p
def firstK (es : Kn) (set : Int) : List Int × Nat := es.foldl (stepF set) ([], 0)
theorem pad_inj {h g : List Int} (hl : h.length = g.length) (h5 : h.length ≤ 5) (e : pad h = pad g) : h = g := by
  simp only [pad, List.cons.injEq, and_true] at e
  obtain ⟨e1, e2, e3, e4, e5⟩ := e
  apply hval_inj h5
  simp only [hval, hl, e1, e2, e3, e4, e5]
theorem hbefore_iff {h g : List Int} (_hh : HOK h) (_hg : HOK g) : hbefore h g = true ↔ h.length < g.length ∨ (h.length = g.length ∧ lessL (pad h) (pad g) = true) := by
  unfold hbefore
  by_cases hl : h.length = g.length
  · by_cases hp : pad h = pad g
    · rw [if_pos (.inl hp), hp]
      simp [hl, lessL_refl]
    · rw [if_neg (by simp [hl, hp])]
      rw [decide_eq_true_iff, cmpL_lt]
      simp [hl]
  · rw [if_pos (.inr hl)]
    simp [hl]
theorem lessL_trans : ∀ {a b c : List Int}, a.length = b.length → b.length = c.length → lessL a b = true → lessL b c = true → lessL a c = true
  | [], [], _, _, _, h, _ => by simp [lessL] at h
  | x :: a, y :: b, z :: c, h1, h2, h, g => by
    simp only [lessL] at h g ⊢
    have ih := lessL_trans (a := a) (b := b) (c := c) (by simpa using h1) (by simpa using h2)
    by_cases e1 : x = y
    · subst e1
      simp only [if_true] at h
      by_cases e2 : x = z
      · subst e2; simp only [if_true] at g ⊢; exact ih h g
      · simp only [e2, if_false] at g ⊢; exact g
    · simp only [e1, if_false, decide_eq_true_eq] at h
      by_cases e2 : y = z
      · subst e2; simp [e1, h]
      · simp only [e2, if_false, decide_eq_true_eq] at g
        have : x ≠ z := by omega
        simp [this]; omega
theorem lessL_total : ∀ {a b : List Int}, a.length = b.length → a ≠ b → lessL a b = false → lessL b a = true
  | [], [], _, h, _ => absurd rfl h
  | x :: a, y :: b, h1, h2, h => by
    simp only [lessL] at h ⊢
    by_cases e : x = y
    · subst e
      simp only [if_true] at h ⊢
      exact lessL_total (by simpa using h1) (fun e => h2 (by rw [e])) h
    · have e' : ¬ y = x := fun h => e h.symm
      simp only [e, e', if_false, decide_eq_false_iff_not, decide_eq_true_eq] at h ⊢
      omega
theorem hbefore_trans {a b c : List Int} (ha : HOK a) (hb : HOK b) (hc : HOK c) (h : hbefore a b = true) (g : hbefore b c = true) : hbefore a c = true := by
  rw [hbefore_iff ha hb] at h
  rw [hbefore_iff hb hc] at g
  rw [hbefore_iff ha hc]
  rcases h with h | ⟨h1, h2⟩ <;> rcases g with g | ⟨g1, g2⟩
  · left; omega
  · left; omega
  · left; omega
  · right; exact ⟨by omega, lessL_trans (a := pad a) (b := pad b) (c := pad c) rfl rfl h2 g2⟩
theorem hbefore_total {a b : List Int} (ha : HOK a) (hb : HOK b) (hne : a ≠ b) (h : hbefore a b = false) : hbefore b a = true := by
  have h' : ¬ hbefore a b = true := by simp [h]
  rw [hbefore_iff ha hb] at h'
  rw [hbefore_iff hb ha]
  by_cases hl : b.length < a.length
  · exact .inl hl
  · right
    have e : b.length = a.length := by omega
    refine ⟨e, lessL_total (a := pad a) (b := pad b) rfl (fun e' => hne (pad_inj e.symm ha.1 e')) ?_⟩
    cases hx : lessL (pad a) (pad b) with
    | false => rfl
    | true => exact absurd (.inr ⟨e.symm, hx⟩) h'
theorem hbefore_irrefl {a : List Int} (ha : HOK a) : hbefore a a = false := by
  cases h : hbefore a a with
  | false => rfl
  | true =>
    rw [hbefore_iff ha ha] at h
    simp [lessL_refl] at h
def IsFirst (set : Int) (l : Kn) (p : List Int × Nat) : Prop :=
  p.2 = l.countP (fun e => selB set e.2) ∧ (p.2 = 0 → p.1 = []) ∧ (p.2 ≠ 0 → (∃ u, (p.1, u) ∈ l ∧ selB set u = true) ∧ ∀ e ∈ l, selB set e.2 = true → e.1 = p.1 ∨ hbefore p.1 e.1 = true)
theorem isFirst_fold (set : Int) : ∀ (l2 l1 : Kn) (p : List Int × Nat), KOK (l1 ++ l2) → IsFirst set l1 p → IsFirst set (l1 ++ l2) (l2.foldl (stepF set) p)
  | [], l1, p, _, h => by simpa using h
  | e :: l2, l1, p, hk, h => by
    have hstep : IsFirst set (l1 ++ [e]) (stepF set p e) := by
      obtain ⟨h1, h2, h3⟩ := h
      have he := hk e (by simp)
      unfold stepF
      by_cases hs : selB set e.2 = true
      · rw [if_pos hs]
        refine ⟨by simp [List.countP_append, hs, ← h1], fun h => by simp at h, fun _ => ?_⟩
        by_cases hb : p.2 = 0 ∨ hbefore e.1 p.1 = true
        · rw [if_pos hb]
          refine ⟨⟨e.2, by simp, hs⟩, ?_⟩
          intro g hg hgs
          rcases List.mem_append.1 hg with hg | hg
          · by_cases h0 : p.2 = 0
            · have : 0 < l1.countP (fun e => selB set e.2) := List.countP_pos_iff.2 ⟨g, hg, hgs⟩
              omega
            · rcases hb with hb | hb
              · exact absurd hb h0
              · obtain ⟨⟨u, hu, _⟩, h4⟩ := h3 h0
                rcases h4 g hg hgs with e1 | e1
                · right; rw [e1]; exact hb
                · right
                  exact hbefore_trans he.1 (hk (p.1, u) (by simp [hu])).1 (hk g (by simp [hg])).1 hb e1
          · simp only [List.mem_singleton] at hg; subst hg; exact .inl rfl
        · rw [if_neg hb]
          have h0 : ¬ p.2 = 0 := fun h => hb (.inl h)
          obtain ⟨⟨u, hu, hus⟩, h4⟩ := h3 h0
          refine ⟨⟨u, by simp [hu], hus⟩, ?_⟩
          intro g hg hgs
          rcases List.mem_append.1 hg with hg | hg
          · exact h4 g hg hgs
          · simp only [List.mem_singleton] at hg; subst hg
            by_cases e1 : g.1 = p.1
            · exact .inl e1
            · right
              refine hbefore_total he.1 (hk (p.1, u) (by simp [hu])).1 e1 ?_
              cases hx : hbefore g.1 p.1 with
              | false => rfl
              | true => exact absurd (.inr hx) hb
      · rw [if_neg hs]
        refine ⟨by simp [List.countP_append, hs, ← h1], h2, fun h0 => ?_⟩
        obtain ⟨⟨u, hu, hus⟩, h4⟩ := h3 h0
        refine ⟨⟨u, by simp [hu], hus⟩, ?_⟩
        intro g hg hgs
        rcases List.mem_append.1 hg with hg | hg
        · exact h4 g hg hgs
        · simp only [List.mem_singleton] at hg; subst hg; exact absurd hgs hs
    have := isFirst_fold set l2 (l1 ++ [e]) (stepF set p e) (by simpa using hk) hstep
    simpa using this
theorem isFirst_unique {set : Int} {l l' : Kn} (hp : l.Perm l') (hk : KOK l) {p q : List Int × Nat} (h : IsFirst set l p) (g : IsFirst set l' q) : p = q := by
  obtain ⟨h1, h2, h3⟩ := h
  obtain ⟨g1, g2, g3⟩ := g
  have e2 : p.2 = q.2 := by rw [h1, g1]; exact hp.countP_eq _
  by_cases h0 : p.2 = 0
  · exact Prod.ext (by rw [h2 h0, g2 (by omega)]) e2
  · obtain ⟨⟨u, hu, hus⟩, h4⟩ := h3 h0
    obtain ⟨⟨v, hv, hvs⟩, g4⟩ := g3 (by omega)
    refine Prod.ext ?_ e2
    rcases h4 _ (hp.symm.subset hv) hvs with a | a
    · exact a.symm
    · rcases g4 _ (hp.subset hu) hus with b | b
      · exact b
      · have := hbefore_trans (hk _ hu).1 (hk _ (hp.symm.subset hv)).1 (hk _ hu).1 a b
        rw [hbefore_irrefl (hk _ hu).1] at this; cases this
theorem firstK_perm {l es : Kn} (set : Int) (hp : l.Perm es) (hk : KOK es) : l.foldl (stepF set) ([], 0) = firstK es set := by
  have hk' : KOK l := fun e he => hk e (hp.subset he)
  have h0 : IsFirst set [] ([], 0) := ⟨rfl, fun _ => rfl, fun h => absurd rfl h⟩
  have h1 := isFirst_fold set l [] ([], 0) (by simpa using hk') h0
  have h2 := isFirst_fold set es [] ([], 0) (by simpa using hk) h0
  exact isFirst_unique (by simpa using hp) (by simpa using hk') h1 h2
end Go.Px

namespace Go.Px
open Go.Proofs
theorem filterMap_range {α : Type} (es : List α) : (List.range es.length).filterMap (fun j => es[j]?) = es := by
  have key : ∀ n, n ≤ es.length → (List.range n).filterMap (fun j => es[j]?) = es.take n := by
    intro n
    induction n with
    | zero => intro _; rfl
    | succ n ih =>
      intro hn
      have hn' : n < es.length := by omega
      rw [List.range_succ, List.filterMap_append, ih (by omega), List.take_succ_eq_append_getElem hn']
      simp [hn']
  rw [key _ (Nat.le_refl _), List.take_length]
def stOf (es : Kn) (set : Int) (seen : List Nat) : List Int × Nat := (seen.filterMap fun j => es[j]?).foldl (stepF set) ([], 0)
theorem stOf_snoc {es : Kn} {set : Int} {seen : List Nat} {j : Nat} {e : List Int × Nat} (h : es[j]? = some e) : stOf es set (seen ++ [j]) = stepF set (stOf es set seen) e := by
  simp [stOf, List.filterMap_append, h, List.foldl_append]
theorem stOf_all {es : Kn} {set : Int} {seen : List Nat} (hk : KOK es) (hn : seen.Nodup) (hlt : ∀ j ∈ seen, j < es.length) (hall : ∀ j, j < es.length → j ∈ seen) : stOf es set seen = firstK es set := by
  have hp : seen.Perm (List.range es.length) := (List.perm_ext_iff_of_nodup hn List.nodup_range).2 (fun j => by
    rw [List.mem_range]; exact ⟨hlt j, hall j⟩)
  have h2 := hp.filterMap (fun j => es[j]?)
  rw [filterMap_range] at h2
  exact firstK_perm set h2 hk
theorem stOf_HOK {es : Kn} {set : Int} (hk : KOK es) (seen : List Nat) : HOK (stOf es set seen).1 ∧ (stOf es set seen).2 ≤ seen.length := by
  have key : ∀ (l : Kn) (p : List Int × Nat), KOK l → HOK p.1 → HOK (l.foldl (stepF set) p).1 ∧ (l.foldl (stepF set) p).2 ≤ p.2 + l.length := by
    intro l
    induction l with
    | nil => intro p _ hp; exact ⟨hp, by simp⟩
    | cons e l ih =>
      intro p hl hp
      simp only [List.foldl_cons]
      have he := hl e (by simp)
      have hl' : KOK l := fun x hx => hl x (by simp [hx])
      have hst : stepF set p e = if selB set e.2 = true then (if p.2 = 0 ∨ hbefore e.1 p.1 = true then e.1 else p.1, p.2 + 1) else p := rfl
      rw [hst]
      split
      · obtain ⟨i1, i2⟩ := ih (if p.2 = 0 ∨ hbefore e.1 p.1 = true then e.1 else p.1, p.2 + 1) hl' (by simp only; split; exact he.1; exact hp)
        exact ⟨i1, by simp at i2 ⊢; omega⟩
      · obtain ⟨i1, i2⟩ := ih p hl' hp
        exact ⟨i1, by simp; omega⟩
  have h0 : KOK (seen.filterMap fun j => es[j]?) := by
    intro e he
    obtain ⟨j, _, hj⟩ := List.mem_filterMap.1 he
    exact hk e (List.mem_of_getElem? hj)
  obtain ⟨i1, i2⟩ := key _ ([], 0) h0 ⟨by simp, by simp⟩
  refine ⟨i1, Nat.le_trans i2 ?_⟩
  simp only [Nat.zero_add]
  exact List.length_filterMap_le _ _
theorem first_ev (b : Book) (es : Kn) (hk : KOK es) (hlen : es.length < 1000000) (set : Int) (h0 : 0 ≤ set) (h1 : set < 9223372036854775808) :
    Ev Tryz.prog 146 [bp b (.mi (encK es)), I set] (.tup [.agg (hcells (firstK es set).1), I (firstK es set).2]) := by
  refine Ev.intro fn146 ?_
  refine LWp.sx (gs := []) (hs := [.lin]) rfl ⟨rfl, trivial⟩ ?_
  refine LWp.seq (LWp.seq (LWp.ops ?_))
  refine WOps.xn (gs := []) (hs := []) 4 rfl rfl trivial ?_
  refine WOps.cons (Op1.rangeM rfl (fun bI m => ?_))
  refine WOps.xd (gs := []) (hs := []) rfl trivial ?_
  refine LWp.blockT (fun _ : Unit => True) (fun _ => el [(4, .lbox 184 (hcells (firstK es set).1)), (5, I (firstK es set).2)]) (fun _ => []) (fun _ => []) ?_ ?_
  · refine LWp.loopN (X := List Nat) (fun seen => seen.Nodup ∧ (∀ j ∈ seen, j < es.length)) (fun seen => el [(1, I set), (4, .lbox 184 (hcells (stOf es set seen).1)), (5, I (stOf es set seen).2), (12, .po bI 0)])
      (fun seen => [(bI, .miter m (encK es) seen)]) (fun _ => []) (fun seen => es.length - seen.length) [] ⟨by simp, by simp⟩ (Ent.el ⟨rfl, rfl, rfl, rfl, trivial⟩) ?_
    rintro seen ⟨hn, hlt⟩
    have hsl : seen.length ≤ es.length := by
      have hs := List.Nodup.length_le_of_subset (l₂ := List.range es.length) hn (fun j hj => List.mem_range.2 (hlt j hj))
      simpa using hs
    obtain ⟨hbok, hcnt⟩ := stOf_HOK (set := set) hk seen
    refine LWp.seq (LWp.ops (WOps.cons (Op1.nextM (i := 0) rfl rfl (fun j kv p hj he => ?_) (fun hall => ?_))))
    · have he' : (es.map fun e => (hval e.1, I e.2))[j]? = some (kv, p) := he
      rw [List.getElem?_map, Option.map_eq_some_iff] at he'
      obtain ⟨⟨h, u⟩, hj2, he3⟩ := he'
      simp only [Prod.mk.injEq] at he3
      obtain ⟨rfl, rfl⟩ := he3
      have hjl := (List.getElem?_eq_some_iff.1 hj2).1
      obtain ⟨hh, hu⟩ := hk _ (List.mem_of_getElem? hj2)
      simp only at hh hu
      have hst := stOf_snoc (set := set) (seen := seen) hj2
      have hn' : (seen ++ [j]).Nodup := by
        rw [List.nodup_append]
        exact ⟨hn, by simp, by intro a ha c hc e; simp only [List.mem_singleton] at hc; subst hc e; exact hj ha⟩
      have hlt' : ∀ i ∈ seen ++ [j], i < es.length := by
        intro i hi
        rcases List.mem_append.1 hi with hi | hi
        · exact hlt i hi
        · simp only [List.mem_singleton] at hi; subst hi; exact hjl
      have hsl' : (seen ++ [j]).length ≤ es.length := by
        have hs := List.Nodup.length_le_of_subset (l₂ := List.range es.length) hn' (fun j hj => List.mem_range.2 (hlt' j hj))
        simpa using hs
      simp only [List.length_append, List.length_cons, List.length_nil] at hsl'
      generalize stOf es set seen = st at hst hbok hcnt
      obtain ⟨best, many⟩ := st
      simp only at hbok hcnt
      refine WOps.xd (gs := []) (hs := []) rfl trivial ?_
      refine LWp.seq (LWp.ite (b := true) rfl (fun _ => LWp.skip ?_) (fun h => by cases h))
      refine LWp.block (LWp.seq (LWp.ops (WOps.cons (Op1.entry (i := 0) rfl rfl he ?_))))
      refine WOps.xd (gs := []) (hs := [.lin]) rfl ⟨rfl, ⟨rfl, rfl, rfl, by decide⟩, trivial⟩ ?_
      refine LWp.seq (LWp.seq ?_)
      refine LWp.x (gs := []) (hs := []) rfl ⟨⟨⟨by omega, by omega⟩, h0, h1⟩, trivial⟩ ?_
      refine LWp.ite rfl (fun hb => ?_) (fun hb => ?_)
      · have hsel : selB set u = false := by
          have hb : ((((u : Int).toNat &&& set.toNat : Nat) : Int) != set) = true := hb
          simp only [bne_iff_ne, ne_eq] at hb
          simp only [selB, beq_eq_false_iff_ne, ne_eq]
          exact hb
        refine LWp.exit ⟨seen ++ [j], ⟨hn', hlt'⟩, by simp; omega, Ent.trans (Ent.ofH rfl) (Ent.el ⟨rfl, ?_, ?_, rfl, trivial⟩)⟩
        · rw [hst]; simp only [stepF, hsel, if_false, Bool.false_eq_true]; rfl
        · rw [hst]; simp only [stepF, hsel, if_false, Bool.false_eq_true]; rfl
      · have hsel : selB set u = true := by
          have hb : ((((u : Int).toNat &&& set.toNat : Nat) : Int) != set) = false := hb
          simp only [bne_eq_false_iff_eq] at hb
          simp only [selB, beq_iff_eq]
          exact hb
        refine LWp.skip ?_
        refine LWp.sx (gs := []) (hs := []) rfl ⟨by omega, trivial⟩ ?_
        refine LWp.cutX (fun _ : Unit => True) (fun _ => el [(1, I set), (4, .lbox 184 (hcells best)), (5, I ((many : Int) + 1)), (6, .lbox 184 (hcells h)), (12, .po bI 0), (31, B (decide (many = 0 ∨ hbefore h best = true)))]) (fun _ => [(bI, .miter m (encK es) (seen ++ [j]))]) (fun _ => []) ?_ ?_
        · by_cases hm : many = 0
          · subst hm
            refine LWp.x (gs := [(27, true)]) (hs := []) rfl (by simp) ?_
            exact ⟨(), trivial, Ent.el ⟨rfl, rfl, rfl, rfl, rfl, by show B _ = B _; simp, trivial⟩⟩
          · have hf : (((many : Int) + 1) == 1) = false := by simp; omega
            refine LWp.x (gs := [(27, false)]) (hs := [.ret (B (hbefore h best))]) rfl ⟨hf, hf, ⟨hf, before_ev h best hh hbok⟩, hf, trivial⟩ ?_
            exact ⟨(), trivial, Ent.el ⟨rfl, rfl, rfl, rfl, rfl, by show B _ = B _; simp [hm], trivial⟩⟩
        intro _ _
        refine LWp.ite rfl (fun hd => ?_) (fun hd => ?_)
        · simp only [decide_eq_true_eq] at hd
          refine LWp.x (gs := []) (hs := []) rfl ⟨⟨rfl, rfl, rfl, Nat.le_refl 6⟩, trivial⟩ ?_
          refine ⟨seen ++ [j], ⟨hn', hlt'⟩, by simp; omega, Ent.trans (Ent.ofH rfl) (Ent.el ⟨rfl, ?_, ?_, rfl, trivial⟩)⟩
          · rw [hst]; simp only [stepF, hsel, if_true, hd]; rfl
          · rw [hst]; simp only [stepF, hsel, if_true]; rfl
        · simp only [decide_eq_false_iff_not] at hd
          refine LWp.skip ⟨seen ++ [j], ⟨hn', hlt'⟩, by simp; omega, Ent.trans (Ent.ofH rfl) (Ent.el ⟨rfl, ?_, ?_, rfl, trivial⟩)⟩
          · rw [hst]; simp only [stepF, hsel, if_true, hd, if_false]; rfl
          · rw [hst]; simp only [stepF, hsel, if_true]; rfl
    · refine WOps.xd (gs := []) (hs := []) rfl trivial ?_
      refine LWp.seq (LWp.ite (b := false) rfl (fun h => by cases h) (fun _ => LWp.exit ⟨(), trivial, Ent.trans (Ent.dropH 0) (Ent.el ⟨?_, ?_, trivial⟩)⟩))
      · rw [← stOf_all (set := set) hk hn hlt (fun j hj => hall j (by simpa [encK] using hj))]; rfl
      · rw [← stOf_all (set := set) hk hn hlt (fun j hj => hall j (by simpa [encK] using hj))]; rfl
  · intro _ _
    refine LWp.sx (gs := []) (hs := []) rfl ⟨⟨rfl, rfl, rfl, Nat.le_refl 6⟩, trivial⟩ ?_
    refine LWp.ent (Ent.freezeLbox (t := 4) rfl) (LWp.ret ⟨.inr rfl, [], rfl, .many (by decide) ⟨.cellI (n := some 6) (cs := hcells (firstK es set).1) (upd_same _ _ _) (by kernel_rfl) rfl, .tmp rfl rfl, trivial⟩⟩)
end Go.Px

namespace Go.Px
open Go.Proofs
theorem enter_ok {b : Book} (hw : b.wf) {many : Int} (hm0 : 0 ≤ many) (hm1 : many ≤ 9223372036854775807) {l : List Int} (h : enterE b many l = 0) : Ev Tryz.prog 145 [.agg b.enc, I many, ints l] (.tup [lookP b, I 0]) := by
  have := enter_ev b hw many hm0 hm1 l
  rw [h, if_pos rfl] at this
  exact this
theorem enter_err {b : Book} (hw : b.wf) {many : Int} (hm0 : 0 ≤ many) (hm1 : many ≤ 9223372036854775807) {l : List Int} (h : ¬ enterE b many l = 0) : Ev Tryz.prog 145 [.agg b.enc, I many, ints l] (.tup [.v (.pointer none), I (enterE b many l)]) := by
  have := enter_ev b hw many hm0 hm1 l
  rw [if_neg h] at this
  exact this
theorem enterE_check {b : Book} {many : Int} {l : List Int} (h : enterE b many l = 0) : (check b).2.2 = 0 ∧ beyondB 0 (many - 1) l = false := by
  unfold enterE at h
  split at h
  · rename_i h1
    split at h
    · cases h
    · rename_i h2; exact ⟨h1, by simpa using h2⟩
  · rename_i h1; exact absurd h h1
theorem check_n {b : Book} (h : (check b).2.2 = 0) : 1 ≤ b.n ∧ b.n ≤ 4 ∧ 1 ≤ b.al.length ∧ b.al.length ≤ 3 ∧ b.ss.length ≤ 5 := by
  unfold check at h
  split at h
  · simp at h
  rename_i h1
  split at h
  · simp at h
  rename_i h2
  simp only [beyondB, List.any_cons, List.any_nil, Bool.or_false, Bool.not_eq_true, Bool.or_eq_false_iff, decide_eq_false_iff_not] at h1 h2
  split at h
  · split at h
    · simp at h
    · omega
  · rename_i h3; exact absurd h h3
theorem length_flatMap_le {α β : Type} {f : α → List β} {c : Nat} : ∀ {l : List α}, (∀ x ∈ l, (f x).length ≤ c) → (l.flatMap f).length ≤ l.length * c
  | [], _ => by simp
  | x :: l, h => by
    have h1 := h x (by simp)
    have h2 := length_flatMap_le (l := l) (fun y hy => h y (by simp [hy]))
    simp only [List.flatMap_cons, List.length_append, List.length_cons, Nat.add_mul]
    omega
theorem hearL_length {n : Nat} (hn : n ≤ 4) : ∀ (xs : List Letter) (h : List Int), (hearL n xs h).length ≤ 5 ^ xs.length
  | [], h => by simp [hearL]
  | x :: xs, h => by
    have h1 := hearL_length hn xs h
    have h2 : (((List.range n).filter (fun (k : Nat) => givesB x.s k)).flatMap (fun (k : Nat) => hearL n xs (h ++ [(k : Int)]))).length ≤ ((List.range n).filter (fun (k : Nat) => givesB x.s k)).length * 5 ^ xs.length :=
      length_flatMap_le (fun k _ => hearL_length hn xs _)
    have h3 : ((List.range n).filter (fun (k : Nat) => givesB x.s k)).length ≤ 4 := Nat.le_trans (List.length_filter_le _ _) (by simp; omega)
    have h4 := Nat.mul_le_mul_right (5 ^ xs.length) h3
    simp only [hearL, List.length_append, List.length_cons, Nat.pow_succ]
    split
    · omega
    · simp only [List.length_nil]; omega
theorem kput_length (es : Kn) (h : List Int) (bit : Nat) : (kput es h bit).length ≤ es.length + 1 := by
  unfold kput
  cases kfind es h <;> simp
theorem kfold_length (bit : Nat) : ∀ (l : List (List Int)) (es : Kn), (l.foldl (fun es h => kput es h bit) es).length ≤ es.length + l.length
  | [], es => by simp
  | h :: l, es => by
    simp only [List.foldl_cons, List.length_cons]
    have := kfold_length bit l (kput es h bit)
    have := kput_length es h bit
    omega
theorem knownF_length {n : Nat} (hn : n ≤ 4) : ∀ (sps : List (List Letter)) (i : Nat) (es : Kn), (∀ xs ∈ sps, xs.length ≤ 5) → (knownF n sps i es).length ≤ es.length + sps.length * 3125
  | [], i, es, _ => by simp [knownF]
  | xs :: sps, i, es, h => by
    have h1 := knownF_length hn sps (i + 1) ((hearL n xs []).foldl (fun es h => kput es h (2 ^ i)) es) (fun y hy => h y (by simp [hy]))
    have h2 := kfold_length (2 ^ i) (hearL n xs []) es
    have h3 := hearL_length hn xs []
    have h4 : 5 ^ xs.length ≤ 5 ^ 5 := Nat.pow_le_pow_right (by omega) (h xs (by simp))
    simp only [knownF, List.length_cons]
    omega
theorem knownF_ok {n : Nat} (hn : n ≤ 64) : ∀ (sps : List (List Letter)) (i : Nat) (es : Kn), (∀ xs ∈ sps, xs.length ≤ 5) → i + sps.length ≤ 5 → KOK es → KOK (knownF n sps i es)
  | [], i, es, _, _, hk => hk
  | xs :: sps, i, es, h, hi, hk => by
    simp only [knownF, List.length_cons] at hi ⊢
    refine knownF_ok hn sps (i + 1) _ (fun y hy => h y (by simp [hy])) (by omega) ?_
    have hx := h xs (by simp)
    have hall : ∀ g ∈ hearL n xs [], HOK g := fun g hg => ⟨by
      have := hearL_len n xs [] g hg
      simp at this; omega, hearL_HOK hn xs [] g hg (by simp)⟩
    have hb : 2 ^ i < 32 := by
      have : 2 ^ i ≤ 2 ^ 4 := Nat.pow_le_pow_right (by omega) (by omega)
      omega
    generalize hearL n xs [] = l at hall
    induction l generalizing es with
    | nil => exact hk
    | cons g l ih =>
      simp only [List.foldl_cons]
      exact ih _ (kput_ok hk (hall g (by simp)) hb) (fun y hy => hall y (by simp [hy]))
theorem spsOf_len {b : Book} (hw : b.wf) (h : (check b).2.2 = 0) : ∀ xs ∈ spsOf b, xs.length ≤ 5 := by
  have ok := bookOK b hw h
  intro xs hx
  obtain ⟨i, hi⟩ := List.mem_iff_getElem?.1 hx
  obtain ⟨s, a, hs⟩ := ok.sp i xs hi
  have := hs.len
  have := hs.t5
  omega
theorem knownOf_ok {b : Book} (hw : b.wf) (h : (check b).2.2 = 0) : KOK (knownOf b) ∧ (knownOf b).length < 1000000 := by
  obtain ⟨n0, n1, _, _, h5⟩ := check_n h
  have hl := spsOf_len hw h
  have hsp : (spsOf b).length = b.ss.length := by simp [spsOf]
  refine ⟨knownF_ok (by omega) _ 0 [] hl (by omega) (by intro e he; cases he), ?_⟩
  have := knownF_length (n := b.n.toNat) (by omega) (spsOf b) 0 [] hl
  simp only [List.length_nil] at this
  unfold knownOf
  omega
end Go.Px

namespace Go.Px
open Go.Proofs
theorem firstK_HOK {es : Kn} (hk : KOK es) (set : Int) : HOK (firstK es set).1 := by
  have h := (stOf_HOK (set := set) hk (List.range es.length)).1
  have e : stOf es set (List.range es.length) = firstK es set := stOf_all hk (List.nodup_range) (by simp) (by simp)
  rw [e] at h; exact h
end Go.Px

namespace Go.Px
open Go.Proofs
theorem enter_pow2 {b : Book} {l : List Int} (hw : b.wf) (he : enterE b b.ss.length l = 0) : (∀ i ∈ l, 0 ≤ i ∧ i < b.ss.length ∧ (2 : Int) ^ i.toNat ≤ 16 ∧ (0 : Int) < 2 ^ i.toNat) ∧ b.ss.length ≤ 5 ∧ KOK (knownOf b) ∧ (knownOf b).length < 1000000 := by
  obtain ⟨hc, hb⟩ := enterE_check he
  obtain ⟨hk, hkl⟩ := knownOf_ok hw hc
  obtain ⟨_, _, _, _, h5⟩ := check_n hc
  refine ⟨?_, h5, hk, hkl⟩
  intro i hi
  simp only [beyondB, List.any_eq_false, Bool.or_eq_true, decide_eq_true_eq, not_or] at hb
  have := hb i hi
  have hp0 : (0 : Int) < 2 ^ i.toNat := Int.pow_pos (by omega)
  have hp : (2 : Nat) ^ i.toNat ≤ 2 ^ 4 := Nat.pow_le_pow_right (by omega) (by omega)
  have hp' : (2 : Int) ^ i.toNat = ((2 ^ i.toNat : Nat) : Int) := by simp
  refine ⟨by omega, by omega, by omega, hp0⟩
end Go.Px

namespace Go.Px
open Go.Proofs
def ascB : List Int → Int → Bool
  | [], _ => true
  | n :: l, last => decide (last < n) && ascB l n
def setN : List Int → Nat → Nat
  | [], s => s
  | n :: l, s => setN l (s ||| 2 ^ n.toNat)
theorem one_pow (k : Nat) : ((1 : Int) * 2 ^ k).toNat = 2 ^ k := by
  have : (1 : Int) * 2 ^ k = ((2 ^ k : Nat) : Int) := by simp
  rw [this]; rfl
def commonR (b : Book) (l : List Int) : List Int × Int :=
  if enterE b b.ss.length l = 0 then
    (if ascB l (-1) = true ∧ setN l 0 ≠ 0 then
      (if (firstK (knownOf b) (setN l 0 : Int)).2 = 0 then ([], 9) else ((firstK (knownOf b) (setN l 0 : Int)).1, 0))
    else ([], 2))
  else ([], enterE b b.ss.length l)
theorem ecommon_ev (b : Book) (hw : b.wf) (hs : b.ss.length ≤ 9223372036854775807) (l : List Int) : Ev Tryz.prog 144 [.agg b.enc, ints l] (.tup [ints (commonR b l).1, I (commonR b l).2]) := by
  refine Ev.intro fn144 ?_
  refine LWp.slLen 1 rfl fun hll => ?_
  simp only [List.length_map] at hll
  refine LWp.sx (gs := []) (hs := [.ice]) rfl ⟨⟨rfl, rfl⟩, trivial⟩ ?_
  have hln : ((b.ss.map Spelling.enc).length : Int) = b.ss.length := by simp
  have err : ∀ (env : Env) (e : Int), commonR b l = ([], e) → env 4 = .nil → env 5 = I e → LWp Tryz.prog none 53 .ret (fun e env H D => e = .ret ∧ retP Tryz.prog [.tmp 4, .tmp 5] (.tup [ints (commonR b l).1, I (commonR b l).2]) .ret env H D) env [] [] := by
    intro env e h h4 h5
    rw [h]
    refine LWp.ent (Ent.nilSl (t := 4) 1 h4) ?_
    refine LWp.ret ⟨rfl, retT (.inr rfl) (.many (by decide) ⟨.tmp ?_ rfl, .tmp ?_ rfl, trivial⟩)⟩
    · rfl
    · rw [upd_other _ _ (by decide), h5]
  by_cases he : enterE b b.ss.length l = 0
  · obtain ⟨hall, h5, hk, hkl⟩ := enter_pow2 hw he
    refine LWp.sx (gs := []) (hs := [.ret (.tup [lookP b, I 0])]) rfl ⟨by rw [← hln] at he; exact enter_ok hw (by omega) (by omega) he, trivial⟩ ?_
    refine LWp.seq (LWp.seq ?_)
    refine LWp.x (gs := []) (hs := []) rfl trivial ?_
    refine LWp.ite (b := false) rfl (fun h => by cases h) (fun _ => LWp.skip ?_)
    refine LWp.sx (gs := []) (hs := []) rfl trivial ?_
    refine LWp.seq (LWp.seq ?_)
    refine LWp.x (gs := []) (hs := []) rfl trivial ?_
    refine LWp.blockT (fun s : Nat => s < 32 ∧ setN l 0 = s ∧ ascB l (-1) = true) (fun s => el [(6, lookP b), (8, I s)]) (fun _ => []) (fun _ => []) ?_ ?_
    · refine LWp.loopN (X := Nat × Nat × Int) (fun x => x.1 ≤ l.length ∧ x.2.1 < 32 ∧ setN l 0 = setN (l.drop x.1) x.2.1 ∧ ascB l (-1) = ascB (l.drop x.1) x.2.2) (fun x => el [(6, lookP b), (8, I x.2.1), (9, I x.2.2), (26, ints l), (27, I l.length), (28, I x.1)]) (fun _ => []) (fun _ => []) (fun x => l.length - x.1) (0, 0, -1) ⟨by simp, by simp, rfl, rfl⟩
        (Ent.el ⟨rfl, rfl, rfl, rfl, by show I _ = I _; simp, rfl, trivial⟩) ?_
      rintro ⟨k, s, last⟩ ⟨hk1, hs32, h1, h2⟩
      simp only at hk1 hs32 h1 h2 ⊢
      refine LWp.sx (gs := []) (hs := []) rfl trivial ?_
      refine LWp.seq (LWp.ite rfl (fun hc => ?_) (fun hc => ?_))
      · simp only [decide_eq_true_eq, Int.ofNat_lt] at hc
        obtain ⟨n, hn⟩ := ex_get hc
        rw [drop_cons hn] at h1 h2
        simp only [setN, ascB] at h1 h2
        obtain ⟨n0, n1, np, np0⟩ := hall n (List.mem_of_getElem? hn)
        have hor : s ||| 2 ^ n.toNat < 2 ^ 5 := Nat.or_lt_two_pow (by omega) (Nat.pow_lt_pow_right (by omega) (by omega))
        refine LWp.skip (LWp.seq (LWp.block ?_))
        refine LWp.sx (gs := []) (hs := [.cells [I n]]) rfl ⟨⟨by omega, by simp [hn]⟩, trivial⟩ ?_
        refine LWp.seq (LWp.seq ?_)
        refine LWp.x (gs := []) (hs := []) rfl trivial ?_
        refine LWp.ite rfl (fun hb => ?_) (fun hb => ?_)
        · simp only [decide_eq_true_eq] at hb
          refine LWp.sx (gs := []) (hs := []) rfl trivial ?_
          refine LWp.mono (err _ 2 ?_ rfl rfl) (by rintro e env H D ⟨rfl, h⟩; exact h)
          · have : decide (last < n) = false := by simp; omega
            rw [this, Bool.false_and] at h2
            simp only [commonR, he, h2, if_true, if_false, Bool.false_eq_true, false_and]
        · simp only [decide_eq_false_iff_not] at hb
          have h2' : decide (last < n) = true := by simp; omega
          rw [h2', Bool.true_and] at h2
          refine LWp.skip ?_
          refine LWp.x (gs := []) (hs := []) rfl ⟨⟨by omega, by omega, by omega, by omega⟩, ⟨⟨by omega, by omega⟩, by omega, by omega⟩, trivial⟩ ?_
          refine LWp.x (gs := []) (hs := []) rfl ⟨by omega, trivial⟩ ?_
          refine ⟨(k + 1, s ||| 2 ^ n.toNat, n), ⟨hc, by simp only; omega, h1, h2⟩, by simp only; omega, Ent.el ⟨rfl, ?_, rfl, rfl, rfl, rfl, trivial⟩⟩
          show I _ = I _
          rw [one_pow]; rfl
      · simp only [decide_eq_false_iff_not, Int.ofNat_lt] at hc
        rw [drop_nil hc] at h1 h2
        exact LWp.exit ⟨s, ⟨hs32, h1, h2⟩, Ent.el ⟨rfl, rfl, trivial⟩⟩
    · rintro s ⟨hs32, h1, h2⟩
      refine LWp.seq (LWp.seq ?_)
      refine LWp.x (gs := []) (hs := []) rfl trivial ?_
      refine LWp.ite rfl (fun hb => ?_) (fun hb => ?_)
      · simp only [beq_iff_eq] at hb
        refine LWp.sx (gs := []) (hs := []) rfl trivial ?_
        refine LWp.mono (err _ 2 ?_ rfl rfl) (by rintro e env H D ⟨rfl, h⟩; exact h)
        · have : s = 0 := by omega
          simp only [commonR, he, h2, h1, this, if_true, if_false, ne_eq, not_true_eq_false, and_false]
      · simp only [beq_eq_false_iff_ne, ne_eq] at hb
        have hs0 : ¬ s = 0 := by omega
        have hcr : commonR b l = if (firstK (knownOf b) (s : Int)).2 = 0 then ([], 9) else ((firstK (knownOf b) (s : Int)).1, 0) := by
          simp only [commonR, he, h2, h1, hs0, if_true, ne_eq, not_false_eq_true, and_self]
        refine LWp.skip ?_
        refine LWp.sx (gs := []) (hs := [.ret (.tup [.agg (hcells (firstK (knownOf b) (s : Int)).1), I (firstK (knownOf b) (s : Int)).2]), .lin]) rfl ⟨first_ev b _ hk hkl s (by omega) (by omega), rfl, ⟨rfl, rfl, rfl, Nat.le_refl 6⟩, trivial⟩ ?_
        refine LWp.ent (Ent.freezeLbox (t := 12) rfl) ?_
        refine LWp.seq (LWp.seq ?_)
        refine LWp.x (gs := []) (hs := []) rfl trivial ?_
        refine LWp.ite rfl (fun hd => ?_) (fun hd => ?_)
        · simp only [beq_iff_eq] at hd
          have hd' : (firstK (knownOf b) (s : Int)).2 = 0 := by omega
          refine LWp.sx (gs := []) (hs := []) rfl trivial ?_
          refine LWp.mono (err _ 9 (by rw [hcr, if_pos hd']) rfl rfl) (by rintro e env H D ⟨rfl, h⟩; exact h)
        · simp only [beq_eq_false_iff_ne, ne_eq] at hd
          have hd' : ¬ (firstK (knownOf b) (s : Int)).2 = 0 := by omega
          refine LWp.skip ?_
          refine LWp.sx (gs := []) (hs := [.ret (ints (firstK (knownOf b) (s : Int)).1)]) rfl ⟨list_ev _ (firstK_HOK hk _).1, trivial⟩ ?_
          rw [hcr, if_neg hd']
          refine LWp.ret (retT (.inr rfl) (.many (by decide) ⟨.tmp ?_ rfl, .tmp ?_ rfl, trivial⟩))
          · rfl
          · rfl
  · refine LWp.sx (gs := []) (hs := [.ret (.tup [.v (.pointer none), I (enterE b b.ss.length l)])]) rfl ⟨by rw [← hln] at he ⊢; exact enter_err hw (by omega) (by omega) he, trivial⟩ ?_
    refine LWp.seq (LWp.seq ?_)
    refine LWp.x (gs := []) (hs := []) rfl trivial ?_
    refine LWp.ite rfl (fun h => ?_) (fun h => ?_)
    · refine LWp.sx (gs := []) (hs := []) rfl trivial ?_
      refine LWp.mono (err _ (enterE b b.ss.length l) (by simp only [commonR, he, if_false]) rfl rfl) (by rintro e env H D ⟨rfl, h⟩; exact h)
    · simp only [bne_eq_false_iff_eq] at h
      exact absurd h he
end Go.Px

namespace Go.Px
open Go.Proofs
theorem lessL_trans' : ∀ {a b c : List Int}, lessL a b = true → lessL b c = true → lessL a c = true
  | _, _, [], _, g => by cases (by assumption : List Int) <;> simp [lessL] at g
  | _, [], _ :: _, h, _ => by cases (by assumption : List Int) <;> simp [lessL] at h
  | [], _ :: _, _ :: _, _, _ => by simp [lessL]
  | x :: a, y :: b, z :: c, h, g => by
    simp only [lessL] at h g ⊢
    have ih := lessL_trans' (a := a) (b := b) (c := c)
    by_cases e1 : x = y
    · subst e1
      simp only [if_true] at h
      by_cases e2 : x = z
      · subst e2; simp only [if_true] at g ⊢; exact ih h g
      · simp only [e2, if_false] at g ⊢; exact g
    · simp only [e1, if_false, decide_eq_true_eq] at h
      by_cases e2 : y = z
      · subst e2; simp [e1, h]
      · simp only [e2, if_false, decide_eq_true_eq] at g
        have : x ≠ z := by omega
        simp [this]; omega
theorem lessL_total' : ∀ {a b : List Int}, a ≠ b → lessL a b = false → lessL b a = true
  | [], [], h, _ => absurd rfl h
  | [], _ :: _, _, h => by simp [lessL] at h
  | _ :: _, [], _, _ => by simp [lessL]
  | x :: a, y :: b, h2, h => by
    simp only [lessL] at h ⊢
    by_cases e : x = y
    · subst e
      simp only [if_true] at h ⊢
      exact lessL_total' (fun e => h2 (by rw [e])) h
    · have e' : ¬ y = x := fun h => e h.symm
      simp only [e, e', if_false, decide_eq_false_iff_not, decide_eq_true_eq] at h ⊢
      omega
theorem fewerL_trans {a b c : List Int} (h : fewerL a b = true) (g : fewerL b c = true) : fewerL a c = true := by
  unfold fewerL at *
  by_cases h1 : a.length = b.length <;> by_cases h2 : b.length = c.length
  · rw [if_pos h1] at h; rw [if_pos h2] at g; rw [if_pos (by omega)]; exact lessL_trans' h g
  · rw [if_neg h2, decide_eq_true_iff] at g; rw [if_neg (by omega), decide_eq_true_iff]; omega
  · rw [if_neg h1, decide_eq_true_iff] at h; rw [if_neg (by omega), decide_eq_true_iff]; omega
  · rw [if_neg h1, decide_eq_true_iff] at h; rw [if_neg h2, decide_eq_true_iff] at g; rw [if_neg (by omega), decide_eq_true_iff]; omega
theorem fewerL_total {a b : List Int} (hne : a ≠ b) (h : fewerL a b = false) : fewerL b a = true := by
  unfold fewerL at *
  by_cases h1 : a.length = b.length
  · rw [if_pos h1] at h; rw [if_pos h1.symm]; exact lessL_total' hne h
  · rw [if_neg h1, decide_eq_false_iff_not] at h; rw [if_neg (fun e => h1 e.symm), decide_eq_true_iff]; omega
theorem fewerL_irrefl (a : List Int) : fewerL a a = false := by simp [fewerL, lessL_refl]
end Go.Px

namespace Go.Px
open Go.Proofs
abbrev bytes (l : List UInt8) : AV := .sl 1 (l.map fun c => [U c.toNat])
end Go.Px

namespace Go.Px
open Go.Proofs
def LsOK (ls : List Letter) : Prop := ls.length ≤ 1000 ∧ ∀ x ∈ ls, 97 ≤ x.c ∧ x.c ≤ 122 ∧ 0 ≤ x.s ∧ x.s < 9223372036854775808
end Go.Px

namespace Go.Px
open Go.Proofs
structure AlOK (n : Int) (a : Alph) : Prop where
  name : nameB a.name = true
  l1 : 1 ≤ a.ls.length
  l6 : a.ls.length ≤ 6
  let_ : ∀ x ∈ a.ls, 97 ≤ x.c ∧ x.c ≤ 122 ∧ 0 ≤ x.s ∧ x.s < 2 ^ n.toNat ∧ (x.s = 0 → x.q = true)
  nd : (a.ls.map (·.c)).Nodup
structure SpV (b : Book) (s : Spelling) : Prop where
  a0 : 0 ≤ s.a
  ha : ∃ a, b.al[s.a.toNat]? = some a ∧ ∀ c ∈ s.t, 0 ≤ indexC a.ls c.toNat
  t1 : 1 ≤ s.t.length
  t5 : s.t.length ≤ 5
structure Valid (b : Book) : Prop where
  n1 : 1 ≤ b.n
  n4 : b.n ≤ 4
  al1 : 1 ≤ b.al.length
  al3 : b.al.length ≤ 3
  ss5 : b.ss.length ≤ 5
  alph : ∀ a ∈ b.al, AlOK b.n a
  names : (b.al.map (·.name)).Nodup
  sp : ∀ s ∈ b.ss, SpV b s
theorem failF_zero' {f : Nat → Int} : ∀ {m k : Nat}, (∀ j, k ≤ j → j < k + m → f j = 0) → (failF f m k).2 = 0
  | 0, k, _ => rfl
  | m + 1, k, h => by
    simp only [failF]
    rw [if_pos (h k (by omega) (by omega))]
    exact failF_zero' (fun j h1 h2 => h j (by omega) (by omega))
theorem failF_iff {f : Nat → Int} {m : Nat} : (failF f m 0).2 = 0 ↔ ∀ j, j < m → f j = 0 :=
  ⟨fun h j hj => failF_zero h j (by omega) (by omega), fun h => failF_zero' (fun j _ hj => h j (by omega))⟩
theorem beyond1_iff {lo hi n : Int} : beyondB lo hi [n] = true ↔ ¬ (lo ≤ n ∧ n ≤ hi) := by
  simp only [beyondB, List.any_cons, List.any_nil, Bool.or_false, Bool.or_eq_true, decide_eq_true_eq]; omega
theorem nodup_iff_take {α β : Type} [DecidableEq β] (f : α → β) (l : List α) : (l.map f).Nodup ↔ ∀ (i : Nat) (x : α), l[i]? = some x → ∀ y ∈ l.take i, f y ≠ f x := by
  constructor
  · intro h i x hx y hy e
    obtain ⟨j, hj⟩ := List.mem_iff_getElem?.1 hy
    rw [List.getElem?_take] at hj
    split at hj
    · rename_i hji
      have h1 : (l.map f)[j]? = some (f x) := by rw [List.getElem?_map, hj]; simp [e]
      have h2 : (l.map f)[i]? = some (f x) := by rw [List.getElem?_map, hx]; rfl
      obtain ⟨a1, a2⟩ := List.getElem?_eq_some_iff.1 h1
      obtain ⟨b1, b2⟩ := List.getElem?_eq_some_iff.1 h2
      have := (List.getElem_inj h).1 (a2.trans b2.symm)
      omega
    · cases hj
  · intro h
    rw [List.Nodup, List.pairwise_iff_getElem]
    intro i j hi hj hij e
    simp only [List.length_map] at hi hj
    simp only [List.getElem_map] at e
    refine h j l[j] (by simp) l[i] ?_ e
    rw [List.mem_iff_getElem?]
    exact ⟨i, by rw [List.getElem?_take, if_pos hij]; simp⟩
theorem indexC_nonneg (l : List Letter) (c : Int) : 0 ≤ indexC l c ↔ ∃ x ∈ l, x.c = c := by
  unfold indexC
  rw [idxF_iff _ _ _ (by omega), List.any_eq_true]
  simp
theorem letterErr_iff {n : Int} {ls : List Letter} {i : Nat} {x : Letter} (hx : ls[i]? = some x) : letterErr n ls i = 0 ↔ (97 ≤ x.c ∧ x.c ≤ 122 ∧ 0 ≤ x.s ∧ x.s < 2 ^ n.toNat ∧ (x.s = 0 → x.q = true)) ∧ ∀ y ∈ ls.take i, y.c ≠ x.c := by
  simp only [letterErr, hx]
  by_cases h1 : beyondB 97 122 [x.c] = true
  · rw [if_pos h1]; rw [beyond1_iff] at h1; simp; omega
  rw [if_neg h1]; rw [beyond1_iff] at h1
  by_cases h2 : decide (indexC (ls.take i) x.c ≥ 0) = true
  · rw [if_pos h2]
    simp only [ge_iff_le, decide_eq_true_eq, indexC_nonneg] at h2
    obtain ⟨y, hy, e⟩ := h2
    simp; intro _ _ _ _ _; exact ⟨y, hy, e⟩
  rw [if_neg h2]
  simp only [ge_iff_le, decide_eq_true_eq, indexC_nonneg, not_exists, not_and] at h2
  by_cases h3 : beyondB 0 (2 ^ n.toNat - 1) [x.s] = true
  · rw [if_pos h3]; rw [beyond1_iff] at h3; simp; omega
  rw [if_neg h3]; rw [beyond1_iff] at h3
  by_cases h4 : (x.s == 0 && !x.q) = true
  · rw [if_pos h4]; simp at h4; simp [h4]
  rw [if_neg h4]
  simp only [true_iff]
  refine ⟨⟨by omega, by omega, by omega, by omega, ?_⟩, h2⟩
  intro e
  simp only [e, beq_self_eq_true, Bool.true_and, Bool.not_eq_true', Bool.not_eq_false] at h4
  exact h4
theorem alphErr_iff {b : Book} {i : Nat} {a : Alph} (ha : b.al[i]? = some a) : alphErr b i = 0 ↔ AlOK b.n a ∧ ∀ y ∈ b.al.take i, y.name ≠ a.name := by
  simp only [alphErr, ha]
  by_cases h1 : nameB a.name = true
  case neg => rw [if_neg h1]; exact ⟨fun h => by simp at h, fun h => absurd h.1.name h1⟩
  rw [if_pos h1]
  by_cases h2 : (b.al.take i).any (fun x => x.name == a.name) = true
  · rw [if_pos h2]
    simp only [List.any_eq_true, beq_iff_eq] at h2
    obtain ⟨y, hy, e⟩ := h2
    exact ⟨fun h => by simp at h, fun h => absurd e (h.2 y hy)⟩
  rw [if_neg h2]
  simp only [List.any_eq_true, beq_iff_eq, not_exists, not_and] at h2
  by_cases h3 : beyondB 1 6 [(a.ls.length : Int)] = true
  · rw [if_pos h3]; rw [beyond1_iff] at h3
    exact ⟨fun h => by simp at h, fun h => absurd ⟨by have := h.1.l1; omega, by have := h.1.l6; omega⟩ h3⟩
  rw [if_neg h3]; rw [beyond1_iff] at h3
  rw [failF_iff]
  constructor
  · intro h
    refine ⟨⟨h1, by omega, by omega, ?_, ?_⟩, h2⟩
    · intro x hx
      obtain ⟨j, hj⟩ := List.mem_iff_getElem?.1 hx
      exact ((letterErr_iff hj).1 (h j (List.getElem?_eq_some_iff.1 hj).1)).1
    · rw [nodup_iff_take]
      intro j x hj
      exact ((letterErr_iff hj).1 (h j (List.getElem?_eq_some_iff.1 hj).1)).2
  · rintro ⟨ok, _⟩ j hj
    have hx : a.ls[j]? = some a.ls[j] := by simp
    rw [letterErr_iff hx]
    exact ⟨ok.let_ _ (List.mem_of_getElem? hx), (nodup_iff_take _ _).1 ok.nd j _ hx⟩
theorem spellErr_iff {b : Book} {i : Nat} {s : Spelling} (hs : b.ss[i]? = some s) : spellErr b i = 0 ↔ SpV b s := by
  simp only [spellErr, hs]
  by_cases h1 : beyondB 0 ((b.al.length : Int) - 1) [s.a] = true
  · rw [if_pos h1]; rw [beyond1_iff] at h1
    refine ⟨fun h => by simp at h, fun h => absurd ⟨h.a0, ?_⟩ h1⟩
    obtain ⟨a, ha, _⟩ := h.ha
    have := (List.getElem?_eq_some_iff.1 ha).1
    omega
  rw [if_neg h1]; rw [beyond1_iff] at h1
  by_cases h2 : beyondB 1 5 [(s.t.length : Int)] = true
  · rw [if_pos h2]; rw [beyond1_iff] at h2
    exact ⟨fun h => by simp at h, fun h => absurd ⟨by have := h.t1; omega, by have := h.t5; omega⟩ h2⟩
  rw [if_neg h2]; rw [beyond1_iff] at h2
  have hlt : s.a.toNat < b.al.length := by omega
  obtain ⟨a, ha⟩ := ex_get hlt
  simp only [ha]
  by_cases h3 : s.t.all (fun c => decide (0 ≤ indexC a.ls c.toNat)) = true
  · rw [if_pos h3]
    simp only [List.all_eq_true, decide_eq_true_eq] at h3
    exact ⟨fun _ => ⟨by omega, ⟨a, ha, h3⟩, by omega, by omega⟩, fun _ => rfl⟩
  · rw [if_neg h3]
    refine ⟨fun h => by simp at h, fun h => absurd ?_ h3⟩
    obtain ⟨a', ha', h4⟩ := h.ha
    rw [ha] at ha'; cases ha'
    simp only [List.all_eq_true, decide_eq_true_eq]
    exact h4
theorem valid_iff {b : Book} : (check b).2.2 = 0 ↔ Valid b := by
  unfold check
  by_cases h1 : beyondB 1 4 [b.n] = true
  · rw [if_pos h1]; rw [beyond1_iff] at h1
    exact ⟨fun h => by simp at h, fun h => absurd ⟨h.n1, h.n4⟩ h1⟩
  rw [if_neg h1]; rw [beyond1_iff] at h1
  by_cases h2 : beyondB 1 3 [(b.al.length : Int)] = true
  · rw [if_pos h2]; rw [beyond1_iff] at h2
    exact ⟨fun h => by simp at h, fun h => absurd ⟨by have := h.al1; omega, by have := h.al3; omega⟩ h2⟩
  rw [if_neg h2]; rw [beyond1_iff] at h2
  have hal : (failF (alphErr b) b.al.length 0).2 = 0 ↔ (∀ a ∈ b.al, AlOK b.n a) ∧ (b.al.map (·.name)).Nodup := by
    rw [failF_iff, nodup_iff_take]
    constructor
    · intro h
      constructor
      · intro a ha
        obtain ⟨i, hi⟩ := List.mem_iff_getElem?.1 ha
        exact ((alphErr_iff hi).1 (h i (List.getElem?_eq_some_iff.1 hi).1)).1
      · intro i a hi
        exact ((alphErr_iff hi).1 (h i (List.getElem?_eq_some_iff.1 hi).1)).2
    · rintro ⟨h3, h4⟩ i hi
      have ha : b.al[i]? = some b.al[i] := by simp
      exact (alphErr_iff ha).2 ⟨h3 _ (List.mem_of_getElem? ha), h4 i _ ha⟩
  have hsp : (failF (spellErr b) b.ss.length 0).2 = 0 ↔ ∀ s ∈ b.ss, SpV b s := by
    rw [failF_iff]
    constructor
    · intro h s hs
      obtain ⟨i, hi⟩ := List.mem_iff_getElem?.1 hs
      exact (spellErr_iff hi).1 (h i (List.getElem?_eq_some_iff.1 hi).1)
    · intro h i hi
      have ha : b.ss[i]? = some b.ss[i] := by simp
      exact (spellErr_iff ha).2 (h _ (List.mem_of_getElem? ha))
  by_cases h3 : (failF (alphErr b) b.al.length 0).2 = 0
  · rw [if_pos h3]
    by_cases h4 : 5 < b.ss.length
    · rw [if_pos h4]
      exact ⟨fun h => by simp at h, fun h => absurd h.ss5 (by omega)⟩
    rw [if_neg h4]
    by_cases h5 : (failF (spellErr b) b.ss.length 0).2 = 0
    · rw [if_pos h5]
      exact ⟨fun _ => ⟨by omega, by omega, by omega, by omega, by omega, (hal.1 h3).1, (hal.1 h3).2, hsp.1 h5⟩, fun _ => rfl⟩
    · rw [if_neg h5]
      exact ⟨fun h => absurd h h5, fun h => absurd (hsp.2 h.sp) h5⟩
  · rw [if_neg h3]
    exact ⟨fun h => absurd h h3, fun h => absurd (hal.2 ⟨h.alph, h.names⟩) h3⟩
theorem AlOK.ls {n : Int} (hn : n ≤ 60) {a : Alph} (h : AlOK n a) : LsOK a.ls := by
  refine ⟨by have := h.l6; omega, fun x hx => ?_⟩
  obtain ⟨h1, h2, h3, h4, _⟩ := h.let_ x hx
  have := pow2_le (k := n.toNat) (by omega)
  exact ⟨h1, h2, h3, by omega⟩
end Go.Px

namespace Go.Px
open Go.Proofs
def heardF : Nat → Nat → List Int
  | 0, _ => []
  | f + 1, c => if c = 0 then [] else heardF f (c / 5) ++ [((c % 5 : Nat) : Int) - 1]
end Go.Px

namespace Go.Px
open Go.Proofs
def markL (p : Nat → Bool) : List Bool := (List.range 3125).map p
theorem markL_get (p : Nat → Bool) {c : Nat} (h : c < 3125) : (markL p)[c]? = some (p c) := by simp [markL, h]
def stepP (n : Nat) (x : Letter) (p : Nat → Bool) : Nat → Bool := fun c => (p c && x.q) || (decide (0 < c) && decide ((c - 1) % 5 < n) && givesB x.s (((c - 1) % 5 : Nat) : Int) && p ((c - 1) / 5))
def strP (n : Nat) (xs : List Letter) : Nat → Bool := xs.foldl (fun p x => stepP n x p) (fun c => c == 0)
theorem strP_snoc (n : Nat) (xs : List Letter) (x : Letter) : strP n (xs ++ [x]) = stepP n x (strP n xs) := by
  simp [strP, List.foldl_append]
theorem bit_gives (s : Int) (k : Nat) (h : 0 ≤ s) : bitI s k = givesB s k := by
  unfold bitI givesB
  have hq : 0 ≤ s / 2 ^ ((k : Nat) : Int).toNat := Int.ediv_nonneg h (Int.le_of_lt (Int.pow_pos (by omega)))
  generalize s / 2 ^ ((k : Nat) : Int).toNat = q at hq
  obtain ⟨m, rfl⟩ := Int.eq_ofNat_of_zero_le hq
  have e1 : ((m : Int)).toNat &&& (1 : Int).toNat = m % 2 := by
    show m &&& 1 = m % 2
    exact Nat.and_one_is_mod m
  rw [e1, Bool.eq_iff_iff, decide_eq_true_iff, beq_iff_eq]
  omega
def strS (b : Book) (j : Int) : Nat → Bool := match b.ss[j.toNat]? with
  | some s => strP b.n.toNat (spLetters b s)
  | none => fun _ => false
def shP (b : Book) (l : List Int) : Nat → Bool := fun c => !l.isEmpty && l.all fun j => strS b j c
end Go.Px

namespace Go.Px
open Go.Proofs
def H4 (h : List Int) : Prop := ∀ v ∈ h, 0 ≤ v ∧ v < 4
def codeN (l : List Int) : Nat := l.foldl (fun n v => n * 5 + v.toNat + 1) 0
theorem codeN_from : ∀ (l : List Int) (n : Nat), l.foldl (fun n v => n * 5 + v.toNat + 1) n = n * 5 ^ l.length + codeN l
  | [], n => by simp [codeN]
  | v :: l, n => by
    unfold codeN
    simp only [List.foldl_cons, List.length_cons]
    rw [codeN_from l (n * 5 + v.toNat + 1), codeN_from l (0 * 5 + v.toNat + 1), Nat.pow_succ]
    generalize 5 ^ l.length = q
    generalize codeN l = r
    rw [Nat.zero_mul, Nat.zero_add, Nat.add_mul, Nat.add_mul, Nat.add_mul, Nat.mul_assoc, Nat.mul_comm 5 q]
    omega
theorem codeN_cons (v : Int) (l : List Int) : codeN (v :: l) = (v.toNat + 1) * 5 ^ l.length + codeN l := by
  have := codeN_from l (0 * 5 + v.toNat + 1)
  rw [Nat.zero_mul, Nat.zero_add] at this
  unfold codeN at this ⊢
  simpa using this
theorem codeN_snoc (l : List Int) (v : Int) : codeN (l ++ [v]) = codeN l * 5 + v.toNat + 1 := by
  simp [codeN, List.foldl_append]
theorem codeN_lt : ∀ {l : List Int}, H4 l → codeN l < 5 ^ l.length
  | [], _ => by simp [codeN]
  | v :: l, h => by
    have ih := codeN_lt (l := l) (fun x hx => h x (by simp [hx]))
    have hv := h v (by simp)
    rw [codeN_cons, List.length_cons, Nat.pow_succ]
    have : (v.toNat + 1) * 5 ^ l.length ≤ 4 * 5 ^ l.length := Nat.mul_le_mul_right _ (by omega)
    omega
theorem codeN_ge (v : Int) (l : List Int) : 5 ^ l.length ≤ codeN (v :: l) := by
  rw [codeN_cons]
  have : 1 * 5 ^ l.length ≤ (v.toNat + 1) * 5 ^ l.length := Nat.mul_le_mul_right _ (by omega)
  omega
theorem code_len {h g : List Int} (hh : H4 h) (hl : h.length < g.length) : codeN h < codeN g := by
  cases g with
  | nil => simp at hl
  | cons v g =>
    have h1 := codeN_lt hh
    have h2 := codeN_ge v g
    have h3 : 5 ^ h.length ≤ 5 ^ g.length := Nat.pow_le_pow_right (by omega) (by simp at hl; omega)
    omega
theorem code_less : ∀ {h g : List Int}, H4 h → H4 g → h.length = g.length → (codeN h < codeN g ↔ lessL h g = true)
  | [], [], _, _, _ => by simp [codeN, lessL]
  | v :: h, u :: g, hh, hg, hl => by
    have hl' : h.length = g.length := by simpa using hl
    have ih := code_less (h := h) (g := g) (fun x hx => hh x (by simp [hx])) (fun x hx => hg x (by simp [hx])) hl'
    have hv := hh v (by simp)
    have hu := hg u (by simp)
    have b1 := codeN_lt (l := h) (fun x hx => hh x (by simp [hx]))
    have b2 := codeN_lt (l := g) (fun x hx => hg x (by simp [hx]))
    rw [codeN_cons, codeN_cons, lessL, hl']
    rw [hl'] at b1
    generalize 5 ^ g.length = q at b1 b2 ⊢
    by_cases e : v = u
    · rw [if_pos e, ← ih, e]; omega
    · rw [if_neg e, decide_eq_true_iff]
      constructor
      · intro h1
        apply Decidable.byContradiction
        intro h2
        have : (u.toNat + 1 + 1) * q ≤ (v.toNat + 1) * q := Nat.mul_le_mul_right _ (by omega)
        rw [Nat.add_mul, Nat.one_mul] at this
        omega
      · intro h1
        have : (v.toNat + 1 + 1) * q ≤ (u.toNat + 1) * q := Nat.mul_le_mul_right _ (by omega)
        rw [Nat.add_mul, Nat.one_mul] at this
        omega
theorem pad_less {h g : List Int} (h5 : h.length ≤ 5) (hl : h.length = g.length) : lessL (pad h) (pad g) = lessL h g := by
  match h, g, hl, h5 with
  | [], [], _, _ => rfl
  | [_], [_], _, _ => simp [pad, lessL]
  | [_, _], [_, _], _, _ => simp [pad, lessL]
  | [_, _, _], [_, _, _], _, _ => simp [pad, lessL]
  | [_, _, _, _], [_, _, _, _], _, _ => simp [pad, lessL]
  | [_, _, _, _, _], [_, _, _, _, _], _, _ => rfl
theorem H4.ok {h : List Int} (hh : H4 h) (h5 : h.length ≤ 5) : HOK h := ⟨h5, fun v hv => by have := hh v hv; omega⟩
theorem before_code {h g : List Int} (hh : H4 h) (hg : H4 g) (h5 : h.length ≤ 5) (g5 : g.length ≤ 5) : hbefore h g = true ↔ codeN h < codeN g := by
  rw [hbefore_iff (hh.ok h5) (hg.ok g5)]
  rcases Nat.lt_trichotomy h.length g.length with hl | hl | hl
  · have := code_len (g := g) hh hl
    simp [hl, this]
  · rw [code_less hh hg hl, pad_less h5 hl]; simp [hl]
  · have := code_len (g := h) hg hl
    constructor
    · rintro (h1 | ⟨h1, _⟩) <;> omega
    · intro h1; omega
theorem heardF_code : ∀ (f : Nat) (l : List Int), H4 l → l.length ≤ f → heardF f (codeN l) = l := by
  intro f
  induction f with
  | zero =>
    intro l _ hl
    have : l = [] := List.length_eq_zero_iff.1 (by omega)
    subst this; rfl
  | succ f ih =>
    intro l hh hl
    rcases List.eq_nil_or_concat l with rfl | ⟨m, v, rfl⟩
    · rfl
    · rw [List.concat_eq_append] at *
      have hv := hh v (by simp)
      have hm := ih m (fun x hx => hh x (by simp [hx])) (by simp at hl; omega)
      rw [codeN_snoc]
      simp only [heardF]
      rw [if_neg (by omega)]
      have e1 : (codeN m * 5 + v.toNat + 1) / 5 = codeN m := by omega
      have e2 : (codeN m * 5 + v.toNat + 1) % 5 = v.toNat + 1 := by omega
      rw [e1, e2, hm]
      congr 2
      omega
theorem codeN_inj {h g : List Int} (hh : H4 h) (hg : H4 g) (e : codeN h = codeN g) : h = g := by
  have h1 := heardF_code (h.length + g.length) h hh (by omega)
  have h2 := heardF_code (h.length + g.length) g hg (by omega)
  exact h1.symm.trans (by rw [e]; exact h2)
theorem hearL_snoc {n : Nat} : ∀ (xs : List Letter) (x : Letter) (h g : List Int), g ∈ hearL n (xs ++ [x]) h ↔ ∃ f ∈ hearL n xs h, (x.q = true ∧ g = f) ∨ ∃ k : Nat, k < n ∧ givesB x.s k = true ∧ g = f ++ [(k : Int)]
  | [], x, h, g => by
    simp only [List.nil_append, hearL, List.mem_append, List.mem_flatMap, List.mem_filter, List.mem_range, List.mem_singleton, exists_eq_left]
    constructor
    · rintro (h1 | ⟨k, ⟨h1, h2⟩, h3⟩)
      · split at h1
        · rename_i hq; exact .inl ⟨hq, by simpa using h1⟩
        · cases h1
      · exact .inr ⟨k, h1, h2, h3⟩
    · rintro (⟨hq, rfl⟩ | ⟨k, h1, h2, h3⟩)
      · left; rw [if_pos hq]; simp
      · exact .inr ⟨k, ⟨h1, h2⟩, h3⟩
  | y :: xs, x, h, g => by
    have ih := fun h => hearL_snoc (n := n) xs x h g
    simp only [List.cons_append, hearL, List.mem_append, List.mem_flatMap, List.mem_filter, List.mem_range]
    constructor
    · rintro (h1 | ⟨k, h1, h2⟩)
      · split at h1
        · rename_i hq
          obtain ⟨f, hf, h2⟩ := (ih h).1 h1
          exact ⟨f, .inl (by rw [if_pos hq]; exact hf), h2⟩
        · cases h1
      · obtain ⟨f, hf, h3⟩ := (ih _).1 h2
        exact ⟨f, .inr ⟨k, h1, hf⟩, h3⟩
    · rintro ⟨f, h1 | ⟨k, h1, hf⟩, h3⟩
      · split at h1
        · rename_i hq
          left; rw [if_pos hq]; exact (ih h).2 ⟨f, h1, h3⟩
        · cases h1
      · exact .inr ⟨k, h1, (ih _).2 ⟨f, hf, h3⟩⟩
theorem hearL_H4 {n : Nat} (hn : n ≤ 4) : ∀ (xs : List Letter) (h g : List Int), g ∈ hearL n xs h → H4 h → H4 g
  | [], h, g, hg, hh => by simp [hearL] at hg; subst hg; exact hh
  | x :: xs, h, g, hg, hh => by
    simp only [hearL, List.mem_append, List.mem_flatMap] at hg
    rcases hg with hg | ⟨k, hk, hg⟩
    · split at hg
      · exact hearL_H4 hn xs h g hg hh
      · cases hg
    · refine hearL_H4 hn xs _ g hg ?_
      intro v hv
      rcases List.mem_append.1 hv with hv | hv
      · exact hh v hv
      · simp only [List.mem_singleton] at hv
        have := List.mem_range.1 (List.mem_filter.1 hk).1
        omega
theorem H4_nil : H4 [] := by intro v hv; cases hv
theorem strP_iff {n : Nat} (hn : n ≤ 4) (xs : List Letter) (c : Nat) : strP n xs c = true ↔ ∃ h ∈ hearL n xs [], codeN h = c := by
  have key : ∀ (ys : List Letter) (c : Nat), strP n ys.reverse c = true ↔ ∃ h ∈ hearL n ys.reverse [], codeN h = c := by
    intro ys
    induction ys with
    | nil =>
      intro c
      simp only [List.reverse_nil, strP, hearL, List.foldl_nil, List.mem_singleton, exists_eq_left, beq_iff_eq, codeN]
      exact eq_comm
    | cons y ys ih =>
      intro c
      rw [List.reverse_cons, strP_snoc]
      simp only [stepP, Bool.or_eq_true, Bool.and_eq_true, decide_eq_true_eq, ih]
      constructor
      · rintro (⟨⟨h, hh, hc⟩, hq⟩ | ⟨⟨⟨h1, h2⟩, h3⟩, ⟨h, hh, hc⟩⟩)
        · exact ⟨h, (hearL_snoc _ _ _ _).2 ⟨h, hh, .inl ⟨hq, rfl⟩⟩, hc⟩
        · refine ⟨h ++ [(((c - 1) % 5 : Nat) : Int)], (hearL_snoc _ _ _ _).2 ⟨h, hh, .inr ⟨(c - 1) % 5, h2, h3, rfl⟩⟩, ?_⟩
          rw [codeN_snoc, hc]
          simp only [Int.toNat_natCast]
          omega
      · rintro ⟨g, hg, hc⟩
        obtain ⟨f, hf, h1⟩ := (hearL_snoc _ _ _ _).1 hg
        rcases h1 with ⟨hq, rfl⟩ | ⟨k, hk, hgv, rfl⟩
        · exact .inl ⟨⟨_, hf, hc⟩, hq⟩
        · rw [codeN_snoc, Int.toNat_natCast] at hc
          have e1 : (c - 1) / 5 = codeN f := by omega
          have e2 : (c - 1) % 5 = k := by omega
          refine .inr ⟨⟨⟨by omega, by rw [e2]; exact hk⟩, by rw [e2]; exact hgv⟩, ⟨f, hf, e1.symm⟩⟩
  have := key xs.reverse c
  rwa [List.reverse_reverse] at this
end Go.Px

namespace Go.Px
open Go.Proofs
def KND (es : Kn) : Prop := (es.map (·.1)).Nodup
theorem kfind_none {es : Kn} {h : List Int} : kfind es h = none ↔ h ∉ es.map (·.1) := by
  induction es with
  | nil => simp [kfind]
  | cons e es ih =>
    obtain ⟨g, u⟩ := e
    simp only [kfind, List.map_cons, List.mem_cons, not_or]
    by_cases hg : g = h
    · simp [hg]
    · rw [if_neg hg]
      simp only [Option.map_eq_none_iff, ih]
      exact ⟨fun h1 => ⟨fun e => hg e.symm, h1⟩, fun h1 => h1.2⟩
theorem kval_mem {es : Kn} (hn : KND es) {h : List Int} {u : Nat} (hm : (h, u) ∈ es) : kval es h = u := by
  unfold kval
  induction es with
  | nil => cases hm
  | cons e es ih =>
    obtain ⟨g, v⟩ := e
    simp only [KND, List.map_cons, List.nodup_cons] at hn
    simp only [kfind]
    by_cases hg : g = h
    · rw [if_pos hg]
      rcases List.mem_cons.1 hm with hm | hm
      · cases hm; rfl
      · exact absurd (List.mem_map.2 ⟨_, hm, hg.symm⟩) hn.1
    · rw [if_neg hg]
      rcases List.mem_cons.1 hm with hm | hm
      · cases hm; exact absurd rfl hg
      · have := ih hn.2 hm
        cases hk : kfind es h with
        | none => rw [hk] at this; exact this
        | some p => rw [hk] at this; exact this
theorem kval_not {es : Kn} {h : List Int} (hm : h ∉ es.map (·.1)) : kval es h = 0 := by
  unfold kval
  rw [kfind_none.2 hm]
theorem kput_keys {es : Kn} {h : List Int} {bit : Nat} : (kput es h bit).map (·.1) = if h ∈ es.map (·.1) then es.map (·.1) else es.map (·.1) ++ [h] := by
  unfold kput
  have hs := kfind_spec es h
  cases hf : kfind es h with
  | none =>
    rw [if_neg (kfind_none.1 hf)]
    simp
  | some p =>
    obtain ⟨j, u⟩ := p
    rw [hf] at hs
    have hm : h ∈ es.map (·.1) := List.mem_map.2 ⟨_, List.mem_of_getElem? hs, rfl⟩
    rw [if_pos hm, List.map_set]
    apply List.ext_getElem?
    intro i
    rw [List.getElem?_set]
    by_cases e : j = i
    · subst e
      have hlt := (List.getElem?_eq_some_iff.1 hs).1
      rw [if_pos rfl, if_pos (by simpa using hlt), List.getElem?_map, hs]; rfl
    · rw [if_neg e]
theorem kput_nd {es : Kn} (hn : KND es) (h : List Int) (bit : Nat) : KND (kput es h bit) := by
  unfold KND
  rw [kput_keys]
  split
  · exact hn
  · rename_i hm
    rw [List.nodup_append]
    exact ⟨hn, by simp, fun a ha b hb e => by simp only [List.mem_singleton] at hb; subst hb e; exact hm ha⟩
theorem kval_kput {es : Kn} (hn : KND es) (h g : List Int) (bit : Nat) : kval (kput es h bit) g = if g = h then kval es h ||| bit else kval es g := by
  have hs := kfind_spec es h
  have hnd := kput_nd hn h bit
  have hput : kput es h bit = match kfind es h with | none => es ++ [(h, bit)] | some (j, u) => es.set j (h, u ||| bit) := rfl
  cases hf : kfind es h with
  | none =>
    have hm := kfind_none.1 hf
    rw [hf] at hput
    simp only at hput
    by_cases hg : g = h
    · subst hg
      rw [if_pos rfl, kval_not hm, Nat.zero_or]
      exact kval_mem hnd (by rw [hput]; simp)
    · rw [if_neg hg]
      by_cases hgm : g ∈ es.map (·.1)
      · obtain ⟨⟨g', u⟩, hmem, rfl⟩ := List.mem_map.1 hgm
        rw [kval_mem hn hmem]
        exact kval_mem hnd (by rw [hput]; simp [hmem])
      · rw [kval_not hgm, kval_not]
        rw [hput]
        simp only [List.map_append, List.map_cons, List.map_nil, List.mem_append, List.mem_singleton, not_or]
        exact ⟨hgm, hg⟩
  | some p =>
    obtain ⟨j, u⟩ := p
    rw [hf] at hs hput
    simp only at hs hput
    have hmem := List.mem_of_getElem? hs
    have hlt := (List.getElem?_eq_some_iff.1 hs).1
    by_cases hg : g = h
    · subst hg
      rw [if_pos rfl, kval_mem hn hmem]
      refine kval_mem hnd ?_
      rw [hput]
      exact List.mem_iff_getElem?.2 ⟨j, by rw [List.getElem?_set, if_pos rfl, if_pos hlt]⟩
    · rw [if_neg hg]
      by_cases hgm : g ∈ es.map (·.1)
      · obtain ⟨⟨g', v⟩, hmem2, rfl⟩ := List.mem_map.1 hgm
        rw [kval_mem hn hmem2]
        refine kval_mem hnd ?_
        rw [hput]
        obtain ⟨i, hi⟩ := List.mem_iff_getElem?.1 hmem2
        refine List.mem_iff_getElem?.2 ⟨i, ?_⟩
        rw [List.getElem?_set, if_neg (fun e => by subst e; rw [hs] at hi; cases hi; exact hg rfl), hi]
      · rw [kval_not hgm, kval_not]
        rw [kput_keys]
        have : h ∈ es.map (·.1) := List.mem_map.2 ⟨_, hmem, rfl⟩
        rw [if_pos this]; exact hgm
theorem kfold_nd (bit : Nat) : ∀ (l : List (List Int)) (es : Kn), KND es → KND (l.foldl (fun es h => kput es h bit) es)
  | [], _, hn => hn
  | h :: l, _es, hn => kfold_nd bit l _ (kput_nd hn h bit)
theorem kval_kfold (bit : Nat) : ∀ (l : List (List Int)) (es : Kn) (g : List Int), KND es → kval (l.foldl (fun es h => kput es h bit) es) g = if g ∈ l then kval es g ||| bit else kval es g
  | [], es, g, _ => by simp
  | h :: l, es, g, hn => by
    simp only [List.foldl_cons, List.mem_cons]
    rw [kval_kfold bit l _ g (kput_nd hn h bit), kval_kput hn]
    by_cases hg : g = h
    · subst hg
      simp only [if_true, true_or]
      split
      · rw [Nat.or_assoc, Nat.or_self]
      · rfl
    · simp [hg]
theorem knownF_nd {n : Nat} : ∀ (sps : List (List Letter)) (i : Nat) (es : Kn), KND es → KND (knownF n sps i es)
  | [], _, _, hn => hn
  | _xs :: sps, i, _es, hn => knownF_nd sps (i + 1) _ (kfold_nd _ _ _ hn)
theorem testBit_or_pow (u i k : Nat) : (u ||| 2 ^ i).testBit k = (u.testBit k || decide (i = k)) := by
  rw [Nat.testBit_or, Nat.testBit_two_pow]
theorem knownF_bit {n : Nat} : ∀ (sps : List (List Letter)) (i : Nat) (es : Kn) (g : List Int) (k : Nat), KND es →
    ((kval (knownF n sps i es) g).testBit k = true ↔ (kval es g).testBit k = true ∨ ∃ xs, i ≤ k ∧ sps[k - i]? = some xs ∧ g ∈ hearL n xs [])
  | [], i, es, g, k, _ => by simp [knownF]
  | xs :: sps, i, es, g, k, hn => by
    simp only [knownF]
    rw [knownF_bit sps (i + 1) _ g k (kfold_nd _ _ _ hn), kval_kfold _ _ _ _ hn]
    have hbit : ((if g ∈ hearL n xs [] then kval es g ||| 2 ^ i else kval es g).testBit k = true) ↔ ((kval es g).testBit k = true ∨ (i = k ∧ g ∈ hearL n xs [])) := by
      split
      · rename_i hm
        rw [testBit_or_pow]; simp [hm]
      · rename_i hm; simp [hm]
    rw [hbit]
    constructor
    · rintro ((h | ⟨rfl, h⟩) | ⟨ys, h1, h2, h3⟩)
      · exact .inl h
      · exact .inr ⟨xs, Nat.le_refl _, by simp, h⟩
      · refine .inr ⟨ys, by omega, ?_, h3⟩
        rw [show k - i = (k - (i + 1)) + 1 by omega]; simpa using h2
    · rintro (h | ⟨ys, h1, h2, h3⟩)
      · exact .inl (.inl h)
      · by_cases e : i = k
        · subst e
          simp only [Nat.sub_self, List.getElem?_cons_zero, Option.some.injEq] at h2
          subst h2
          exact .inl (.inr ⟨rfl, h3⟩)
        · refine .inr ⟨ys, by omega, ?_, h3⟩
          rw [show k - i = (k - (i + 1)) + 1 by omega] at h2; simpa using h2
def hearS (b : Book) (j : Nat) : List (List Int) := match b.ss[j]? with
  | some s => hearL b.n.toNat (spLetters b s) []
  | none => []
theorem known_bit (b : Book) (g : List Int) (k : Nat) : (kval (knownOf b) g).testBit k = true ↔ g ∈ hearS b k := by
  unfold knownOf
  rw [knownF_bit _ 0 [] g k (by simp [KND])]
  have h0 : kval ([] : Kn) g = 0 := rfl
  rw [h0]
  simp only [Nat.zero_testBit, Bool.false_eq_true, false_or, Nat.zero_le, true_and, Nat.sub_zero, spsOf, List.getElem?_map, Option.map_eq_some_iff, hearS]
  cases b.ss[k]? with
  | none => simp
  | some s => simp
theorem known_nd (b : Book) : KND (knownOf b) := knownF_nd _ 0 [] (by simp [KND])
theorem known_key {b : Book} {e : List Int × Nat} (he : e ∈ knownOf b) : ∀ k, e.2.testBit k = true ↔ e.1 ∈ hearS b k := by
  intro k
  rw [← known_bit, kval_mem (known_nd b) (h := e.1) (u := e.2) he]
theorem known_has {b : Book} {g : List Int} {k : Nat} (h : g ∈ hearS b k) : ∃ u, (g, u) ∈ knownOf b := by
  rw [← known_bit] at h
  apply Classical.byContradiction
  intro hn
  have : g ∉ (knownOf b).map (·.1) := fun hm => by
    obtain ⟨⟨g', u⟩, hm2, rfl⟩ := List.mem_map.1 hm
    exact hn ⟨u, hm2⟩
  rw [kval_not this] at h
  simp at h
end Go.Px

namespace Go.Px
open Go.Proofs
def keysIn (es : Kn) (set : Int) : List (List Int) := (es.filter fun e => selB set e.2).map (·.1)
def stepG (p : List Int × Nat) (h : List Int) : List Int × Nat := (if p.2 = 0 ∨ hbefore h p.1 = true then h else p.1, p.2 + 1)
theorem foldF_G (set : Int) : ∀ (es : Kn) (p : List Int × Nat), es.foldl (stepF set) p = (keysIn es set).foldl stepG p
  | [], p => rfl
  | e :: es, p => by
    simp only [List.foldl_cons]
    have hst : stepF set p e = if selB set e.2 = true then (if p.2 = 0 ∨ hbefore e.1 p.1 = true then e.1 else p.1, p.2 + 1) else p := rfl
    rw [foldF_G set es, hst]
    unfold keysIn
    by_cases h : selB set e.2 = true
    · rw [if_pos h, List.filter_cons_of_pos (by simpa using h)]; rfl
    · rw [if_neg h, List.filter_cons_of_neg (by simpa using h)]
theorem foldG_spec : ∀ (K : List (List Int)) (b : List Int) (m : Nat), m ≠ 0 → (∀ h ∈ b :: K, HOK h) →
    (K.foldl stepG (b, m)).2 = m + K.length ∧ (K.foldl stepG (b, m)).1 ∈ b :: K ∧ ∀ h ∈ b :: K, hbefore h (K.foldl stepG (b, m)).1 = false
  | [], b, m, hm, hk => by
    refine ⟨rfl, by simp, ?_⟩
    intro h hh
    simp only [List.mem_singleton] at hh
    subst hh
    cases hb : hbefore h h with
    | false => exact hb
    | true => rw [hbefore_iff (hk h (by simp)) (hk h (by simp)), lessL_refl] at hb; simp at hb
  | h :: K, b, m, hm, hk => by
    simp only [List.foldl_cons]
    have hst : stepG (b, m) h = (if hbefore h b = true then h else b, m + 1) := by simp [stepG, hm]
    rw [hst]
    have hh := hk h (by simp)
    have hb := hk b (by simp)
    obtain ⟨i1, i2, i3⟩ := foldG_spec K (if hbefore h b = true then h else b) (m + 1) (by omega) (by
      intro x hx
      rcases List.mem_cons.1 hx with rfl | hx
      · split; exact hh; exact hb
      · exact hk x (by simp [hx]))
    generalize K.foldl stepG (if hbefore h b = true then h else b, m + 1) = r at i1 i2 i3
    have hr : HOK r.1 := by
      rcases List.mem_cons.1 i2 with h2 | h2
      · rw [h2]; split; exact hh; exact hb
      · exact hk _ (by simp [h2])
    refine ⟨by rw [i1]; simp; omega, ?_, ?_⟩
    · rcases List.mem_cons.1 i2 with h2 | h2
      · rw [h2]; split <;> simp
      · simp [h2]
    · intro x hx
      simp only [List.mem_cons] at hx
      by_cases hc : hbefore h b = true
      · rw [if_pos hc] at i3
        rcases hx with rfl | rfl | hx
        · cases hq : hbefore x r.1 with
          | false => rfl
          | true =>
            have := hbefore_trans hh hb hr hc hq
            rw [i3 h (by simp)] at this; cases this
        · exact i3 _ (by simp)
        · exact i3 _ (by simp [hx])
      · rw [if_neg hc] at i3
        rcases hx with rfl | rfl | hx
        · exact i3 _ (by simp)
        · cases hq : hbefore x r.1 with
          | false => rfl
          | true =>
            by_cases e : x = b
            · subst e; rw [i3 x (by simp)] at hq; cases hq
            · have h2 := hbefore_total hh hb e (by simpa using hc)
              have := hbefore_trans hb hh hr h2 hq
              rw [i3 b (by simp)] at this; cases this
        · exact i3 _ (by simp [hx])
theorem firstK_spec {es : Kn} (hk : KOK es) (set : Int) : (firstK es set).2 = (keysIn es set).length ∧ (keysIn es set = [] → (firstK es set).1 = []) ∧
    (keysIn es set ≠ [] → (firstK es set).1 ∈ keysIn es set ∧ ∀ h ∈ keysIn es set, hbefore h (firstK es set).1 = false) := by
  unfold firstK
  rw [foldF_G]
  have hok : ∀ h ∈ keysIn es set, HOK h := by
    intro h hh
    obtain ⟨e, he, rfl⟩ := List.mem_map.1 hh
    exact (hk e (List.mem_filter.1 he).1).1
  cases hK : keysIn es set with
  | nil => exact ⟨rfl, fun _ => rfl, fun h => absurd rfl h⟩
  | cons h K =>
    rw [hK] at hok
    simp only [List.foldl_cons]
    have hst : stepG ([], 0) h = (h, 1) := by simp [stepG]
    rw [hst]
    obtain ⟨i1, i2, i3⟩ := foldG_spec K h 1 (by omega) hok
    refine ⟨?_, ?_, fun _ => ⟨i2, i3⟩⟩
    · rw [i1]; simp; omega
    · intro h; cases h
theorem idxF_eq {α : Type} (p : α → Bool) : ∀ {l : List α} {k : Int} {i : Nat} {x : α}, l[i]? = some x → p x = true → (∀ j y, j < i → l[j]? = some y → p y = false) → idxF p l k = k + i
  | [], _, _, _, h, _, _ => by simp at h
  | y :: l, k, 0, x, h, hp, _ => by
    simp only [List.getElem?_cons_zero, Option.some.injEq] at h
    subst h
    simp [idxF, hp]
  | y :: l, k, i + 1, x, h, hp, hm => by
    have h0 := hm 0 y (by omega) (by simp)
    simp only [idxF, h0, Bool.false_eq_true, if_false]
    rw [idxF_eq p (l := l) (k := k + 1) (i := i) (x := x) (by simpa using h) hp (fun j z hj hz => hm (j + 1) z (by omega) (by simpa using hz))]
    omega
theorem idxF_none {α : Type} (p : α → Bool) : ∀ {l : List α} {k : Int}, (∀ y ∈ l, p y = false) → idxF p l k = -1
  | [], _, _ => rfl
  | y :: l, k, h => by
    simp only [idxF, h y (by simp), Bool.false_eq_true, if_false]
    exact idxF_none p (fun z hz => h z (by simp [hz]))
theorem marks_least {p : Nat → Bool} {K : List (List Int)} (h4 : ∀ h ∈ K, H4 h ∧ h.length ≤ 5) (hp : ∀ c, c < 3125 → (p c = true ↔ ∃ h ∈ K, codeN h = c)) {best : List Int} (hb : K ≠ [] → best ∈ K ∧ ∀ h ∈ K, hbefore h best = false) :
    idxF id (markL p) 0 = if K = [] then -1 else (codeN best : Int) := by
  by_cases hK : K = []
  · rw [if_pos hK]
    refine idxF_none _ ?_
    intro y hy
    obtain ⟨c, hc, rfl⟩ := List.mem_map.1 hy
    cases hpc : p c with
    | false => rfl
    | true =>
      obtain ⟨h, hh, _⟩ := (hp c (List.mem_range.1 hc)).1 hpc
      rw [hK] at hh; cases hh
  · rw [if_neg hK]
    obtain ⟨h1, h2⟩ := hb hK
    obtain ⟨b4, b5⟩ := h4 best h1
    have hlt : codeN best < 3125 := by
      have g1 := codeN_lt b4
      have g2 : 5 ^ best.length ≤ 5 ^ 5 := Nat.pow_le_pow_right (by omega) b5
      omega
    rw [idxF_eq id (i := codeN best) (x := true) ?_ rfl ?_, Int.zero_add]
    · rw [markL_get p hlt, (hp _ hlt).2 ⟨best, h1, rfl⟩]
    · intro j y hj hy
      rw [markL_get p (by omega)] at hy
      cases hy
      cases hpj : p j with
      | false => rfl
      | true =>
        obtain ⟨h, hh, e⟩ := (hp j (by omega)).1 hpj
        obtain ⟨c4, c5⟩ := h4 h hh
        have := (before_code c4 b4 c5 b5).2 (by omega)
        rw [h2 h hh] at this; cases this
theorem hearS_ok {b : Book} (V : Valid b) {k : Nat} {h : List Int} (hh : h ∈ hearS b k) : H4 h ∧ h.length ≤ 5 := by
  unfold hearS at hh
  cases hs : b.ss[k]? with
  | none => rw [hs] at hh; cases hh
  | some s =>
    rw [hs] at hh
    simp only at hh
    have n1 := V.n1
    have n4 := V.n4
    have sp := V.sp s (List.mem_of_getElem? hs)
    obtain ⟨a, ha, _⟩ := sp.ha
    have hl : (spLetters b s).length = s.t.length := by simp only [spLetters, ha, List.length_map]
    have h1 := hearL_len _ _ _ _ hh
    have h2 := sp.t5
    exact ⟨hearL_H4 (by omega) _ _ _ hh H4_nil, by simp at h1; omega⟩
theorem strS_iff {b : Book} (V : Valid b) (j : Int) (c : Nat) : strS b j c = true ↔ ∃ h ∈ hearS b j.toNat, codeN h = c := by
  unfold strS hearS
  have n1 := V.n1
  have n4 := V.n4
  cases b.ss[j.toNat]? with
  | none => simp
  | some s => exact strP_iff (by omega) _ _
theorem setN_bit : ∀ (l : List Int) (s k : Nat), (setN l s).testBit k = true ↔ s.testBit k = true ∨ ∃ j ∈ l, j.toNat = k
  | [], s, k => by simp [setN]
  | n :: l, s, k => by
    simp only [setN]
    rw [setN_bit l _ k, testBit_or_pow]
    simp only [Bool.or_eq_true, decide_eq_true_eq, List.mem_cons, exists_eq_or_imp]
    exact or_assoc
theorem selB_iff (s u : Nat) : selB (s : Int) u = true ↔ ∀ k, s.testBit k = true → u.testBit k = true := by
  unfold selB
  rw [beq_iff_eq, Int.toNat_natCast, Int.natCast_inj]
  constructor
  · intro h k hk
    rw [← h, Nat.testBit_and, Bool.and_eq_true] at hk
    exact hk.1
  · intro h
    apply Nat.eq_of_testBit_eq
    intro k
    rw [Nat.testBit_and]
    cases hs : s.testBit k with
    | false => simp
    | true => rw [h k hs]; rfl
theorem keysIn_iff {b : Book} {l : List Int} (hl : l ≠ []) (h : List Int) : h ∈ keysIn (knownOf b) (setN l 0 : Nat) ↔ ∀ j ∈ l, h ∈ hearS b j.toNat := by
  unfold keysIn
  rw [List.mem_map]
  constructor
  · rintro ⟨e, he, rfl⟩ j hj
    obtain ⟨h1, h2⟩ := List.mem_filter.1 he
    rw [selB_iff] at h2
    exact (known_key h1 _).1 (h2 _ ((setN_bit l 0 _).2 (.inr ⟨j, hj, rfl⟩)))
  · intro hall
    obtain ⟨j0, hj0⟩ := List.exists_mem_of_ne_nil l hl
    obtain ⟨u, hu⟩ := known_has (hall j0 hj0)
    refine ⟨(h, u), List.mem_filter.2 ⟨hu, ?_⟩, rfl⟩
    rw [selB_iff]
    intro k hk
    rcases (setN_bit l 0 k).1 hk with hk | ⟨j, hj, rfl⟩
    · simp at hk
    · exact (known_key hu _).2 (hall j hj)
section
variable {b : Book} (V : Valid b) {l : List Int} (hl : l ≠ [])
include V hl
theorem keys_ok : ∀ h ∈ keysIn (knownOf b) (setN l 0 : Nat), H4 h ∧ h.length ≤ 5 := by
  intro h hh
  obtain ⟨j0, hj0⟩ := List.exists_mem_of_ne_nil l hl
  exact hearS_ok V ((keysIn_iff hl h).1 hh j0 hj0)
theorem shP_keys (c : Nat) : shP b l c = true ↔ ∃ h ∈ keysIn (knownOf b) (setN l 0 : Nat), codeN h = c := by
  have e : l.isEmpty = false := by simpa using hl
  simp only [shP, e, Bool.not_false, Bool.true_and, List.all_eq_true]
  constructor
  · intro hall
    obtain ⟨j0, hj0⟩ := List.exists_mem_of_ne_nil l hl
    obtain ⟨h, hh, hc⟩ := (strS_iff V j0 c).1 (hall j0 hj0)
    refine ⟨h, (keysIn_iff hl h).2 (fun j hj => ?_), hc⟩
    obtain ⟨g, hg, hgc⟩ := (strS_iff V j c).1 (hall j hj)
    have := codeN_inj (hearS_ok V hh).1 (hearS_ok V hg).1 (hc.trans hgc.symm)
    rw [this]; exact hg
  · rintro ⟨h, hh, hc⟩ j hj
    exact (strS_iff V j c).2 ⟨h, (keysIn_iff hl h).1 hh j hj, hc⟩
theorem least_shared (hk : KOK (knownOf b)) : idxF id (markL (shP b l)) 0 = if (firstK (knownOf b) (setN l 0 : Nat)).2 = 0 then -1 else (codeN (firstK (knownOf b) (setN l 0 : Nat)).1 : Int) := by
  obtain ⟨h1, h2, h3⟩ := firstK_spec hk (setN l 0 : Nat)
  rw [marks_least (keys_ok V hl) (fun c _ => shP_keys V hl c) h3, h1]
  simp only [List.length_eq_zero_iff]
end
theorem pow_cast (k : Nat) : ((2 ^ k : Nat) : Int) = (2 : Int) ^ k := by simp
end Go.Px

namespace Go.Px
open Go.Proofs
theorem gives_bit (s : Int) (k : Nat) (h : 0 ≤ s) : givesB s k = s.toNat.testBit k := by
  rw [← bit_gives s k h, Nat.testBit_eq_decide_div_mod_eq]
  unfold bitI
  rw [Int.toNat_natCast]
  obtain ⟨m, rfl⟩ := Int.eq_ofNat_of_zero_le h
  rw [Int.toNat_natCast, ← pow_cast, ← Int.natCast_ediv, Bool.eq_iff_iff, decide_eq_true_iff, decide_eq_true_iff]
  omega
theorem gives_some {s : Int} {n : Nat} (h0 : 0 < s) (h1 : s < 2 ^ n) : ∃ k : Nat, k < n ∧ givesB s k = true := by
  have hne : s.toNat ≠ 0 := by omega
  obtain ⟨k, hk⟩ := Nat.exists_testBit_of_ne_zero hne
  refine ⟨k, ?_, by rw [gives_bit s k (by omega)]; exact hk⟩
  apply Decidable.byContradiction
  intro hkn
  have h2 : s.toNat < 2 ^ k := by
    have e1 : s.toNat < 2 ^ n := by rw [← pow_cast] at h1; omega
    have e2 : 2 ^ n ≤ 2 ^ k := Nat.pow_le_pow_right (by omega) (by omega)
    omega
  rw [Nat.testBit_lt_two_pow h2] at hk
  cases hk
theorem hearL_ne {n : Nat} : ∀ (xs : List Letter) (h : List Int), (∀ x ∈ xs, x.q = true ∨ ∃ k : Nat, k < n ∧ givesB x.s k = true) → hearL n xs h ≠ []
  | [], h, _ => by simp [hearL]
  | x :: xs, h, hx => by
    intro e
    simp only [hearL, List.append_eq_nil_iff, List.flatMap_eq_nil_iff, List.mem_filter, List.mem_range] at e
    rcases hx x (by simp) with hq | ⟨k, hk, hg⟩
    · rw [if_pos hq] at e
      exact hearL_ne xs h (fun y hy => hx y (by simp [hy])) e.1
    · exact hearL_ne xs _ (fun y hy => hx y (by simp [hy])) (e.2 k ⟨hk, hg⟩)
theorem letAt_mem {ls : List Letter} {c : Int} (h : 0 ≤ indexC ls c) : letAt ls c ∈ ls ∧ ls[(indexC ls c).toNat]? = some (letAt ls c) := by
  obtain ⟨_, x, hx, _⟩ := idxF_lt _ ls 0 (by omega) h
  rw [Int.sub_zero] at hx
  have hx : ls[(indexC ls c).toNat]? = some x := hx
  have e : letAt ls c = x := by unfold letAt; rw [hx]; rfl
  rw [e]
  exact ⟨List.mem_of_getElem? hx, hx⟩
theorem hearS_ne {b : Book} (V : Valid b) {k : Nat} (hk : k < b.ss.length) : hearS b k ≠ [] := by
  obtain ⟨s, hs⟩ := ex_get hk
  have sp := V.sp s (List.mem_of_getElem? hs)
  obtain ⟨a, ha, hc⟩ := sp.ha
  have ok := V.alph a (List.mem_of_getElem? ha)
  unfold hearS
  rw [hs]
  refine hearL_ne _ _ ?_
  intro x hx
  simp only [spLetters, ha] at hx
  obtain ⟨c, hcm, rfl⟩ := List.mem_map.1 hx
  obtain ⟨_, _, h0, h1, h2⟩ := ok.let_ _ (letAt_mem (hc c hcm)).1
  by_cases hz : (letAt a.ls c.toNat).s = 0
  · exact .inl (h2 hz)
  · exact .inr (gives_some (by omega) h1)
theorem setN_ne {l : List Int} : setN l 0 ≠ 0 ↔ l ≠ [] := by
  cases l with
  | nil => simp [setN]
  | cons n l =>
    simp only [ne_eq, reduceCtorEq, not_false_eq_true, iff_true]
    intro h
    have : (setN (n :: l) 0).testBit n.toNat = true := (setN_bit _ _ _).2 (.inr ⟨n, by simp, rfl⟩)
    rw [h] at this
    simp at this
end Go.Px

namespace Go.Px
open Go.Proofs
abbrev natI (c : List Nat) : List Int := c.map fun (n : Nat) => (n : Int)
def loC (c : List Nat) : Nat := match c.getLast? with | none => 0 | some v => v + 1
def nextC (n : Nat) (c : List Nat) : List (List Nat) := (List.range' (loC c) (n - loC c)).map fun v => c ++ [v]
def chN (n : Nat) : Nat → List (List Nat)
  | 0 => [[]]
  | m + 1 => (chN n m).flatMap (nextC n)
theorem chN_len (n : Nat) : ∀ m, ∀ c ∈ chN n m, c.length = m
  | 0, c, h => by simp [chN] at h; subst h; rfl
  | m + 1, c, h => by
    simp only [chN, List.mem_flatMap, nextC, List.mem_map] at h
    obtain ⟨d, hd, v, _, rfl⟩ := h
    simp [chN_len n m d hd]
end Go.Px

namespace Go.Px
open Go.Proofs
def Inc (c : List Nat) : Prop := c.Pairwise (· < ·)
theorem inc_snoc {d : List Nat} {v : Nat} : Inc (d ++ [v]) ↔ Inc d ∧ ∀ x ∈ d, x < v := by
  unfold Inc
  rw [List.pairwise_append]
  simp
theorem loC_iff {d : List Nat} (h : Inc d) (v : Nat) : loC d ≤ v ↔ ∀ x ∈ d, x < v := by
  rcases List.eq_nil_or_concat d with rfl | ⟨e, u, rfl⟩
  · simp [loC]
  · rw [List.concat_eq_append] at *
    have hu := (inc_snoc.1 h).2
    unfold loC
    rw [List.getLast?_append]
    simp only [List.getLast?_singleton]
    constructor
    · intro hv x hx
      rcases List.mem_append.1 hx with hx | hx
      · have := hu x hx; simp at hv; omega
      · simp only [List.mem_singleton] at hx; simp at hv; omega
    · intro hall
      have := hall u (by simp)
      simp; omega
theorem chN_iff (n : Nat) : ∀ (m : Nat) (c : List Nat), c ∈ chN n m ↔ c.length = m ∧ Inc c ∧ ∀ v ∈ c, v < n
  | 0, c => by
    simp only [chN, List.mem_singleton]
    constructor
    · rintro rfl; exact ⟨rfl, List.Pairwise.nil, by simp⟩
    · rintro ⟨h, _, _⟩; exact List.length_eq_zero_iff.1 h
  | m + 1, c => by
    simp only [chN, List.mem_flatMap, nextC, List.mem_map, List.mem_range'_1]
    constructor
    · rintro ⟨d, hd, v, ⟨h1, h2⟩, rfl⟩
      obtain ⟨g1, g2, g3⟩ := (chN_iff n m d).1 hd
      refine ⟨by simp [g1], inc_snoc.2 ⟨g2, (loC_iff g2 v).1 h1⟩, ?_⟩
      intro u hu
      rcases List.mem_append.1 hu with hu | hu
      · exact g3 u hu
      · simp only [List.mem_singleton] at hu; omega
    · rintro ⟨h1, h2, h3⟩
      rcases List.eq_nil_or_concat c with rfl | ⟨d, v, rfl⟩
      · simp at h1
      · rw [List.concat_eq_append] at *
        obtain ⟨g1, g2⟩ := inc_snoc.1 h2
        have hv := h3 v (by simp)
        have hlo := (loC_iff g1 v).2 g2
        exact ⟨d, (chN_iff n m d).2 ⟨by simpa using h1, g1, fun u hu => h3 u (by simp [hu])⟩, v, ⟨hlo, by omega⟩, rfl⟩
theorem lessL_prefix : ∀ (a x y : List Int), lessL (a ++ x) (a ++ y) = lessL x y
  | [], _, _ => rfl
  | v :: a, x, y => by simp [lessL, lessL_prefix a x y]
theorem lessL_app : ∀ {a b : List Int} (x y : List Int), a.length = b.length → lessL a b = true → lessL (a ++ x) (b ++ y) = true
  | [], [], _, _, _, h => by simp [lessL] at h
  | u :: a, v :: b, x, y, hl, h => by
    simp only [List.cons_append, lessL] at h ⊢
    by_cases e : u = v
    · rw [if_pos e] at h ⊢; exact lessL_app x y (by simpa using hl) h
    · rw [if_neg e] at h ⊢; exact h
theorem natI_append (a b : List Nat) : natI (a ++ b) = natI a ++ natI b := List.map_append
theorem chN_sorted (n : Nat) : ∀ m, (chN n m).Pairwise (fun a b => lessL (natI a) (natI b) = true)
  | 0 => by simp [chN]
  | m + 1 => by
    simp only [chN]
    rw [List.pairwise_flatMap]
    constructor
    · intro c hc
      unfold nextC
      rw [List.pairwise_map]
      refine List.Pairwise.imp ?_ List.pairwise_lt_range'
      intro u v huv
      rw [natI_append, natI_append, lessL_prefix]
      have h1 : ¬ ((u : Int) = v) := by omega
      simp [natI, lessL, h1]; omega
    · refine List.Pairwise.imp_of_mem ?_ (chN_sorted n m)
      intro a b ha hb hab x hx y hy
      obtain ⟨u, _, rfl⟩ := List.mem_map.1 hx
      obtain ⟨v, _, rfl⟩ := List.mem_map.1 hy
      rw [natI_append, natI_append]
      exact lessL_app _ _ (by simp [chN_len n m a ha, chN_len n m b hb]) hab
theorem numsF_eq {s : Nat} {n : Nat} {p : Nat → Bool} (h : ∀ k, k < n → s.testBit k = p k) : numsF (s : Int) n = natI ((List.range n).filter p) := by
  unfold numsF
  show List.map _ _ = List.map _ _
  congr 1
  apply List.filter_congr
  intro k hk
  rw [gives_bit _ _ (by omega), Int.toNat_natCast]
  exact h k (List.mem_range.1 hk)
theorem inc_nodup {c : List Nat} (h : Inc c) : c.Nodup := List.Pairwise.imp (fun h => Nat.ne_of_lt h) h
theorem natI_len (c : List Nat) : (natI c).length = c.length := List.length_map _
section
variable {b : Book} (V : Valid b) (hk : KOK (knownOf b)) (hn : 1 ≤ b.ss.length)
include V hk hn
end
end Go.Px

namespace Go.Px
open Go.Proofs
structure LsD (ls : List Letter) : Prop where
  ok : ∀ x ∈ ls, 97 ≤ x.c ∧ x.c ≤ 122
  nd : (ls.map (·.c)).Nodup
end Go.Px

namespace Go.Px
open Go.Proofs
theorem letter_ev (c s : Int) (q : Bool) : Ev Tryz.prog 138 [U c, I s, B q] (.agg [U c, I s, B q]) := by
  refine Ev.intro fn138 ?_
  refine LWp.sx (gs := []) (hs := [.lin]) rfl ⟨rfl, trivial⟩ ?_
  refine LWp.sx (gs := []) (hs := []) rfl ⟨⟨rfl, rfl, rfl, by decide⟩, trivial⟩ ?_
  refine LWp.ent (Ent.freezeLbox (t := 6) rfl) (LWp.ret (retT (.inr rfl) (.one (.cellI (n := some 3) (upd_same _ _ _) (by kernel_rfl) rfl))))
def bookB : Book :=
  { n := 3
    al := [⟨[114, 111, 109, 97, 110], [⟨97, 1, false⟩, ⟨101, 3, false⟩, ⟨107, 4, false⟩, ⟨104, 0, true⟩]⟩, ⟨[97, 98, 106, 97, 100], [⟨107, 4, false⟩, ⟨121, 2, true⟩, ⟨110, 1, false⟩]⟩]
    ss := [⟨0, [107, 101]⟩, ⟨1, [107, 121]⟩, ⟨0, [104, 107, 97]⟩, ⟨1, [107, 110]⟩] }
theorem book_ev : Ev Tryz.prog 110 [] (.agg bookB.enc) := by
  refine Ev.intro fn110 ?_
  refine LWp.sx (gs := []) (hs := [.lin]) rfl ⟨rfl, trivial⟩ ?_
  refine LWp.sx (gs := []) (hs := [.ret (.agg [U 97, I 1, B false]), .ret (.agg [U 101, I 3, B false]), .ret (.agg [U 107, I 4, B false]), .ret (.agg [U 104, I 0, B true]), .ice, .lin]) rfl ⟨letter_ev 97 1 false, letter_ev 101 3 false, letter_ev 107 4 false, letter_ev 104 0 true, rfl, rfl, ⟨rfl, rfl, rfl, by decide⟩, trivial⟩ ?_
  refine LWp.ent (Ent.freezeLbox (t := 1) rfl) ?_
  refine LWp.sx (gs := []) (hs := [.ret (.agg [U 107, I 4, B false]), .ret (.agg [U 121, I 2, B true]), .ret (.agg [U 110, I 1, B false]), .ice, .lin]) rfl ⟨letter_ev 107 4 false, letter_ev 121 2 true, letter_ev 110 1 false, rfl, rfl, ⟨rfl, rfl, rfl, by decide⟩, trivial⟩ ?_
  refine LWp.ent (Ent.freezeLbox (t := 2) rfl) ?_
  refine LWp.sx (gs := []) (hs := [.ice, .ice]) rfl ⟨rfl, rfl, ⟨rfl, rfl, rfl, by decide⟩, trivial⟩ ?_
  refine LWp.ent (Ent.freezeLbox (t := 0) rfl) (LWp.ret (retT (.inr rfl) (.one (.cellI (n := some 3) (upd_same _ _ _) (by kernel_rfl) rfl))))
theorem bookB_wf : bookB.wf := by
  refine ⟨by decide, by decide, ?_, ?_⟩
  · intro a ha
    simp only [bookB, List.mem_cons, List.not_mem_nil, or_false] at ha
    rcases ha with rfl | rfl
    · refine ⟨by decide, ?_⟩
      intro x hx
      simp only [List.mem_cons, List.not_mem_nil, or_false] at hx
      rcases hx with rfl | rfl | rfl | rfl <;> exact ⟨by decide, by decide, by decide, by decide⟩
    · refine ⟨by decide, ?_⟩
      intro x hx
      simp only [List.mem_cons, List.not_mem_nil, or_false] at hx
      rcases hx with rfl | rfl | rfl <;> exact ⟨by decide, by decide, by decide, by decide⟩
  · intro s hs
    simp only [bookB, List.mem_cons, List.not_mem_nil, or_false] at hs
    rcases hs with rfl | rfl | rfl | rfl <;> exact ⟨by decide, by decide, by decide⟩
end Go.Px

namespace Go.Px
open Go.Proofs
theorem fewer_code {h g : List Int} (hh : H4 h) (hg : H4 g) : fewerL h g = true ↔ codeN h < codeN g := by
  unfold fewerL
  by_cases hl : h.length = g.length
  · rw [if_pos hl]; exact (code_less hh hg hl).symm
  · rw [if_neg hl, decide_eq_true_iff]
    rcases Nat.lt_or_gt_of_ne hl with h1 | h1
    · exact ⟨fun _ => code_len hh h1, fun _ => h1⟩
    · have := code_len hg h1
      exact ⟨fun _ => by omega, fun _ => by omega⟩
theorem fewer_before {h g : List Int} (hh : H4 h ∧ h.length ≤ 5) (hg : H4 g ∧ g.length ≤ 5) : fewerL h g = hbefore h g := by
  rw [Bool.eq_iff_iff, fewer_code hh.1 hg.1, before_code hh.1 hg.1 hh.2 hg.2]
theorem beyond_all {m : Int} {l : List Int} (h : ∀ i ∈ l, 0 ≤ i ∧ i < m) : beyondB 0 (m - 1) l = false := by
  unfold beyondB
  rw [List.any_eq_false]
  intro x hx
  have := h x hx
  simp; omega
theorem enter_zero {b : Book} (V : Valid b) {m : Int} {l : List Int} (h : ∀ i ∈ l, 0 ≤ i ∧ i < m) : enterE b m l = 0 := by
  unfold enterE
  rw [if_pos (valid_iff.2 V), beyond_all h]
  rfl
section
variable {b : Book} (V : Valid b) (hw : b.wf)
include V hw
theorem known_ok : KOK (knownOf b) := (knownOf_ok hw (valid_iff.2 V)).1
theorem common_of {l : List Int} (hl : l ≠ []) (ha : ascB l (-1) = true) (hr : ∀ j ∈ l, j < b.ss.length) :
    (∃ g, (∀ j ∈ l, g ∈ hearS b j.toNat) ∧ (∀ h, (∀ j ∈ l, h ∈ hearS b j.toNat) → fewerL h g = false) ∧ commonR b l = (g, 0)) ∨ ((¬ ∃ h, ∀ j ∈ l, h ∈ hearS b j.toNat) ∧ commonR b l = ([], 9)) := by
  have hk := known_ok V hw
  have h0 : ∀ j ∈ l, 0 ≤ j ∧ j < b.ss.length := by
    have key : ∀ (l : List Int) (k : Int), ascB l k = true → ∀ j ∈ l, k < j := by
      intro l
      induction l with
      | nil => intro k _ j hj; cases hj
      | cons x l ih =>
        intro k h j hj
        simp only [ascB, Bool.and_eq_true, decide_eq_true_eq] at h
        rcases List.mem_cons.1 hj with rfl | hj
        · exact h.1
        · have := ih x h.2 j hj
          omega
    intro j hj
    have := key l (-1) ha j hj
    exact ⟨by omega, hr j hj⟩
  have hK := fun h => keysIn_iff (b := b) hl h
  obtain ⟨c1, c2, c3⟩ := firstK_spec hk (setN l 0 : Nat)
  unfold commonR
  rw [if_pos (enter_zero V h0), if_pos ⟨ha, setN_ne.2 hl⟩, c1]
  by_cases hx : (keysIn (knownOf b) (setN l 0 : Nat)).length = 0
  · right
    rw [if_pos hx]
    refine ⟨?_, rfl⟩
    rintro ⟨h, hh⟩
    have := (hK h).2 hh
    rw [List.length_eq_zero_iff.1 hx] at this
    cases this
  · left
    rw [if_neg hx]
    obtain ⟨h4, h5⟩ := c3 (fun e => hx (by rw [e]; rfl))
    have h6 := (hK _).1 h4
    refine ⟨_, h6, fun h hh => ?_, rfl⟩
    obtain ⟨j0, hj0⟩ := List.exists_mem_of_ne_nil l hl
    rw [fewer_before (hearS_ok V (hh j0 hj0)) (hearS_ok V (h6 j0 hj0))]
    exact h5 h ((hK h).2 hh)
end
end Go.Px

namespace Go.Px
def cnt (p : List Nat) : Nat := p.foldl (fun m k => max m (k + 1)) 0
theorem cnt_snoc (p : List Nat) (k : Nat) : cnt (p ++ [k]) = max (cnt p) (k + 1) := by
  unfold cnt
  rw [List.foldl_append]; rfl
def nextG (p : List Nat) : List (List Nat) := (List.range (cnt p + 1)).map fun k => p ++ [k]
def groupsN : Nat → List (List Nat)
  | 0 => [[]]
  | n + 1 => (groupsN n).flatMap nextG
def groupsF : Nat → List Nat → List (List Nat)
  | 0, p => [p]
  | m + 1, p => (nextG p).flatMap (groupsF m)
theorem groupsF_snoc : ∀ (m : Nat) (p : List Nat), groupsF (m + 1) p = (groupsF m p).flatMap nextG
  | 0, p => by
    simp only [groupsF, List.flatMap_cons, List.flatMap_nil, List.append_nil]
    exact List.flatMap_singleton' _
  | m + 1, p => by
    show (nextG p).flatMap (groupsF (m + 1)) = ((nextG p).flatMap (groupsF m)).flatMap nextG
    rw [List.flatMap_assoc]
    congr 1
    funext q
    exact groupsF_snoc m q
theorem groups_eq : ∀ n : Nat, groupsN n = groupsF n []
  | 0 => rfl
  | n + 1 => by rw [groupsF_snoc, ← groups_eq n]; rfl
theorem groupsF_len : ∀ (m : Nat) (p : List Nat), ∀ q ∈ groupsF m p, q.length = p.length + m ∧ q.take p.length = p
  | 0, p, q, h => by
    simp only [groupsF, List.mem_singleton] at h
    subst h
    exact ⟨rfl, List.take_length⟩
  | m + 1, p, q, h => by
    simp only [groupsF, List.mem_flatMap, nextG, List.mem_map, List.mem_range] at h
    obtain ⟨r, ⟨k, hk, rfl⟩, hq⟩ := h
    obtain ⟨h1, h2⟩ := groupsF_len m (p ++ [k]) q hq
    rw [List.length_append, List.length_singleton] at h1 h2
    refine ⟨by omega, ?_⟩
    have := congrArg (List.take p.length) h2
    rw [List.take_take, Nat.min_eq_left (by omega), List.take_left] at this
    exact this
def dfsF (apart : Nat → Nat → Bool) (last : List Nat → Bool) : Nat → List Nat → List (List Nat)
  | 0, p => if last p = true then [p] else []
  | m + 1, p => (List.range (cnt p + 1)).flatMap fun k => if (List.range p.length).all (fun j => !(p[j]? == some k && apart j p.length)) = true then dfsF apart last m (p ++ [k]) else []
def pairsB (apart : Nat → Nat → Bool) (p : List Nat) : Bool := (List.range p.length).all fun i => (List.range i).all fun j => !(p[j]? == p[i]? && apart j i)
theorem pairsB_snoc (apart : Nat → Nat → Bool) (p : List Nat) (k : Nat) : pairsB apart (p ++ [k]) = (pairsB apart p && (List.range p.length).all (fun j => !(p[j]? == some k && apart j p.length))) := by
  unfold pairsB
  rw [List.length_append, List.length_singleton, List.range_succ, List.all_append, List.all_cons, List.all_nil, Bool.and_true]
  congr 1
  · rw [Bool.eq_iff_iff, List.all_eq_true, List.all_eq_true]
    refine forall_congr' fun i => ?_
    refine imp_congr_right fun hi => ?_
    rw [List.mem_range] at hi
    rw [List.all_eq_true, List.all_eq_true]
    refine forall_congr' fun j => ?_
    refine imp_congr_right fun hj => ?_
    rw [List.mem_range] at hj
    rw [List.getElem?_append_left (by omega), List.getElem?_append_left (by omega)]
  · rw [Bool.eq_iff_iff, List.all_eq_true, List.all_eq_true]
    refine forall_congr' fun j => ?_
    refine imp_congr_right fun hj => ?_
    rw [List.mem_range] at hj
    rw [List.getElem?_append_left (by omega), List.getElem?_append_right (by omega), Nat.sub_self]
    rfl
theorem pairsB_take (apart : Nat → Nat → Bool) {p q : List Nat} (h : q.take p.length = p) (hq : pairsB apart q = true) : pairsB apart p = true := by
  unfold pairsB at hq ⊢
  rw [List.all_eq_true] at hq ⊢
  have hl : p.length ≤ q.length := by
    have := congrArg List.length h
    rw [List.length_take] at this; omega
  have hg : ∀ i, i < p.length → p[i]? = q[i]? := by
    intro i hi
    conv => lhs; rw [← h]
    rw [List.getElem?_take, if_pos hi]
  intro i hi
  rw [List.mem_range] at hi
  have := hq i (List.mem_range.2 (by omega))
  rw [List.all_eq_true] at this ⊢
  intro j hj
  have h2 := this j hj
  rw [List.mem_range] at hj
  rw [hg i hi, hg j (by omega)]
  exact h2
theorem dfs_filter (apart : Nat → Nat → Bool) (last : List Nat → Bool) : ∀ (m : Nat) (p : List Nat), pairsB apart p = true → dfsF apart last m p = (groupsF m p).filter fun q => pairsB apart q && last q
  | 0, p, h => by
    simp only [dfsF, groupsF]
    by_cases hl : last p = true
    · rw [if_pos hl]; simp [h, hl]
    · rw [if_neg hl]; simp [hl]
  | m + 1, p, h => by
    simp only [dfsF, groupsF, nextG]
    rw [List.flatMap_map, List.filter_flatMap]
    congr 1
    funext k
    by_cases hk : (List.range p.length).all (fun j => !(p[j]? == some k && apart j p.length)) = true
    · rw [if_pos hk]
      exact dfs_filter apart last m (p ++ [k]) (by rw [pairsB_snoc, h, hk]; rfl)
    · rw [if_neg hk]
      symm
      rw [List.filter_eq_nil_iff]
      intro q hq hc
      simp only [Bool.and_eq_true] at hc
      have h2 := pairsB_take apart (groupsF_len m (p ++ [k]) q hq).2 hc.1
      rw [pairsB_snoc, Bool.and_eq_true] at h2
      exact hk h2.2
end Go.Px

namespace Go.Px
structure Men where
  sp : Int
  v : Int
  lo : Int
  hi : Int
  par : Int
  deriving DecidableEq
structure Tie where
  a : Int
  b : Int
  same : Bool
  deriving DecidableEq
structure Town where
  ear : Book
  vil : Int
  ms : List Men
  ties : List Tie
abbrev Sp := Int × Int
def older (x y : Sp) : Sp := (max x.1 (y.1 - 60), min x.2 (y.2 - 15))
def younger (x y : Sp) : Sp := (max y.1 (x.1 + 15), min y.2 (x.2 + 60))
def spAt (b : List Sp) (k : Nat) : Sp := (b[k]?).getD (0, 0)
def yrStep (b : List Sp) (par ch : Nat) : List Sp := (b.set par (older (spAt b par) (spAt b ch))).set ch (younger (spAt b par) (spAt b ch))
def yrMore (b : List Sp) (par ch : Nat) : Bool := decide (older (spAt b par) (spAt b ch) ≠ spAt b par) || decide (younger (spAt b par) (spAt b ch) ≠ spAt b ch)
def kids (ms : List Men) (p : List Nat) : List (Nat × Nat) := (List.range ms.length).filterMap fun i => match ms[i]? with
  | some x => if x.par = -1 then none else some ((p[x.par.toNat]?).getD 0, (p[i]?).getD 0)
  | none => none
def yrRound : List (Nat × Nat) → List Sp × Bool → List Sp × Bool
  | [], s => s
  | (a, c) :: l, s => yrRound l (yrStep s.1 a c, s.2 || yrMore s.1 a c)
def emptyS (b : List Sp) : Bool := b.any fun s => decide (s.1 > s.2)
def yrLoop (ks : List (Nat × Nat)) : Nat → List Sp → List Sp
  | 0, b => b
  | f + 1, b => if emptyS b = true then b else if (yrRound ks (b, false)).2 = true then yrLoop ks f (yrRound ks (b, false)).1 else (yrRound ks (b, false)).1
def width (b : List Sp) : Nat := (b.map fun s => (s.2 - s.1).toNat).sum
def SubS1 (x y : Sp) : Prop := y.1 ≤ x.1 ∧ x.2 ≤ y.2
def SubB (b c : List Sp) : Prop := b.length = c.length ∧ ∀ k, SubS1 (spAt b k) (spAt c k)
theorem SubB.refl (b : List Sp) : SubB b b := ⟨rfl, fun _ => ⟨Int.le_refl _, Int.le_refl _⟩⟩
theorem SubB.trans {a b c : List Sp} (h : SubB a b) (g : SubB b c) : SubB a c :=
  ⟨h.1.trans g.1, fun k => ⟨Int.le_trans (g.2 k).1 (h.2 k).1, Int.le_trans (h.2 k).2 (g.2 k).2⟩⟩
theorem spAt_set (b : List Sp) (i k : Nat) (x : Sp) (h : i < b.length) : spAt (b.set i x) k = if i = k then x else spAt b k := by
  unfold spAt
  rw [List.getElem?_set]
  by_cases e : i = k
  · rw [if_pos e, if_pos (by omega), if_pos e]; rfl
  · rw [if_neg e, if_neg e]
theorem yrStep_sub {b : List Sp} {a c : Nat} (ha : a < b.length) (hc : c < b.length) : SubB (yrStep b a c) b ∧ (yrMore b a c = false → yrStep b a c = b) := by
  constructor
  · refine ⟨by simp [yrStep], fun k => ?_⟩
    unfold yrStep
    rw [spAt_set _ _ _ _ (by simpa using hc), spAt_set _ _ _ _ ha]
    by_cases e1 : c = k
    · rw [if_pos e1]
      subst e1
      simp only [SubS1, younger]
      omega
    · rw [if_neg e1]
      by_cases e2 : a = k
      · rw [if_pos e2]
        subst e2
        simp only [SubS1, older]
        omega
      · rw [if_neg e2]; exact ⟨Int.le_refl _, Int.le_refl _⟩
  · intro h
    unfold yrMore at h
    simp only [Bool.or_eq_false_iff, decide_eq_false_iff_not, Classical.not_not] at h
    unfold yrStep
    rw [h.1, h.2]
    apply List.ext_getElem?
    intro k
    rw [List.getElem?_set, List.getElem?_set]
    by_cases e1 : c = k
    · subst e1
      rw [if_pos rfl, List.length_set, if_pos hc]
      unfold spAt
      rw [List.getElem?_eq_getElem hc]; rfl
    · rw [if_neg e1]
      by_cases e2 : a = k
      · subst e2
        rw [if_pos rfl, if_pos ha]
        unfold spAt
        rw [List.getElem?_eq_getElem ha]; rfl
      · rw [if_neg e2]
theorem yrRound_sub : ∀ (ks : List (Nat × Nat)) (b : List Sp) (m : Bool), (∀ k ∈ ks, k.1 < b.length ∧ k.2 < b.length) → SubB (yrRound ks (b, m)).1 b ∧ ((yrRound ks (b, m)).2 = false → (yrRound ks (b, m)).1 = b ∧ m = false)
  | [], b, m, _ => ⟨SubB.refl b, fun h => ⟨rfl, h⟩⟩
  | (a, c) :: ks, b, m, h => by
    obtain ⟨ha, hc⟩ := h (a, c) (by simp)
    obtain ⟨s1, s2⟩ := yrStep_sub (b := b) ha hc
    have hl := s1.1
    obtain ⟨r1, r2⟩ := yrRound_sub ks (yrStep b a c) (m || yrMore b a c) (fun k hk => by rw [hl]; exact h k (by simp [hk]))
    simp only [yrRound]
    refine ⟨r1.trans s1, fun h0 => ?_⟩
    obtain ⟨g1, g2⟩ := r2 h0
    rw [Bool.or_eq_false_iff] at g2
    exact ⟨by rw [g1]; exact s2 g2.2, g2.1⟩
theorem emptyS_cons (x : Sp) (b : List Sp) : emptyS (x :: b) = (decide (x.1 > x.2) || emptyS b) := rfl
theorem emptyS_sub : ∀ {b c : List Sp}, SubB b c → emptyS c = true → emptyS b = true
  | [], [], _, h => h
  | [], _ :: _, h, _ => by have := h.1; simp at this
  | _ :: _, [], h, _ => by have := h.1; simp at this
  | x :: b, y :: c, h, g => by
    have h0 := h.2 0
    have ht : SubB b c := ⟨by have := h.1; simpa using this, fun k => by have := h.2 (k + 1); simpa [spAt] using this⟩
    rw [emptyS_cons, Bool.or_eq_true, decide_eq_true_eq] at g ⊢
    simp only [spAt, SubS1, List.getElem?_cons_zero, Option.getD_some] at h0
    rcases g with g | g
    · left; omega
    · right; exact emptyS_sub ht g
theorem width_le : ∀ {b c : List Sp}, SubB b c → width b ≤ width c ∧ (emptyS b = false → width b = width c → b = c)
  | [], [], _ => ⟨Nat.le_refl _, fun _ _ => rfl⟩
  | [], _ :: _, h => by have := h.1; simp at this
  | _ :: _, [], h => by have := h.1; simp at this
  | x :: b, y :: c, h => by
    have h0 := h.2 0
    have ht : SubB b c := ⟨by have := h.1; simpa using this, fun k => by have := h.2 (k + 1); simpa [spAt] using this⟩
    obtain ⟨i1, i2⟩ := width_le ht
    simp only [spAt, SubS1, List.getElem?_cons_zero, Option.getD_some] at h0
    have e1 : width (x :: b) = (x.2 - x.1).toNat + width b := by simp [width]
    have e2 : width (y :: c) = (y.2 - y.1).toNat + width c := by simp [width]
    rw [e1, e2]
    refine ⟨by omega, fun he hw => ?_⟩
    rw [emptyS_cons, Bool.or_eq_false_iff, decide_eq_false_iff_not] at he
    have h3 := i2 he.2 (by omega)
    have h4 : x = y := Prod.ext (by omega) (by omega)
    rw [h3, h4]
theorem SubB.antisymm : ∀ {b c : List Sp}, SubB b c → SubB c b → b = c
  | [], [], _, _ => rfl
  | [], _ :: _, h, _ => by have := h.1; simp at this
  | _ :: _, [], h, _ => by have := h.1; simp at this
  | x :: b, y :: c, h, g => by
    have h0 := h.2 0
    have g0 := g.2 0
    have ht : SubB b c := ⟨by have := h.1; simpa using this, fun k => by have := h.2 (k + 1); simpa [spAt] using this⟩
    have gt : SubB c b := ⟨by have := g.1; simpa using this, fun k => by have := g.2 (k + 1); simpa [spAt] using this⟩
    simp only [spAt, SubS1, List.getElem?_cons_zero, Option.getD_some] at h0 g0
    rw [SubB.antisymm ht gt, show x = y from Prod.ext (by omega) (by omega)]
theorem yrStep_same {b : List Sp} {a c : Nat} (ha : a < b.length) (hc : c < b.length) (hne : a ≠ c) (h : yrStep b a c = b) : yrMore b a c = false := by
  have h1 : spAt (yrStep b a c) a = spAt b a := by rw [h]
  have h2 : spAt (yrStep b a c) c = spAt b c := by rw [h]
  unfold yrStep at h1 h2
  rw [spAt_set _ _ _ _ (by simpa using hc), if_neg (fun e => hne e.symm), spAt_set _ _ _ _ ha, if_pos rfl] at h1
  rw [spAt_set _ _ _ _ (by simpa using hc), if_pos rfl] at h2
  unfold yrMore
  rw [h1, h2]; simp
theorem yrRound_same : ∀ (ks : List (Nat × Nat)) (b : List Sp) (m : Bool), (∀ k ∈ ks, k.1 < b.length ∧ k.2 < b.length ∧ k.1 ≠ k.2) → (yrRound ks (b, m)).1 = b → (yrRound ks (b, m)).2 = m
  | [], b, m, _, _ => rfl
  | (a, c) :: ks, b, m, h, e => by
    obtain ⟨ha, hc, hne⟩ := h (a, c) (by simp)
    obtain ⟨s1, _⟩ := yrStep_sub (b := b) ha hc
    have hl := s1.1
    simp only [yrRound] at e ⊢
    obtain ⟨r1, _⟩ := yrRound_sub ks (yrStep b a c) (m || yrMore b a c) (fun k hk => by rw [hl]; exact ⟨(h k (by simp [hk])).1, (h k (by simp [hk])).2.1⟩)
    rw [e] at r1
    have eb : yrStep b a c = b := SubB.antisymm s1 r1
    have em := yrStep_same ha hc hne eb
    rw [eb, em, Bool.or_false] at e ⊢
    exact yrRound_same ks b m (fun k hk => h k (by simp [hk])) e
section
variable {ks : List (Nat × Nat)}
theorem yrLoop_fuel : ∀ (f g : Nat) (b : List Sp), (∀ k ∈ ks, k.1 < b.length ∧ k.2 < b.length ∧ k.1 ≠ k.2) → width b < f → width b < g → yrLoop ks f b = yrLoop ks g b
  | 0, _, _, _, h, _ => by omega
  | _, 0, _, _, _, h => by omega
  | f + 1, g + 1, b, hk, hf, hg => by
    simp only [yrLoop]
    by_cases he : emptyS b = true
    · rw [if_pos he, if_pos he]
    rw [if_neg he, if_neg he]
    by_cases hm : (yrRound ks (b, false)).2 = true
    · rw [if_pos hm, if_pos hm]
      obtain ⟨s1, _⟩ := yrRound_sub ks b false (fun k h => ⟨(hk k h).1, (hk k h).2.1⟩)
      obtain ⟨w1, w2⟩ := width_le s1
      have hk2 : ∀ k ∈ ks, k.1 < (yrRound ks (b, false)).1.length ∧ k.2 < (yrRound ks (b, false)).1.length ∧ k.1 ≠ k.2 := fun k h => by rw [s1.1]; exact hk k h
      by_cases he2 : emptyS (yrRound ks (b, false)).1 = true
      · have e3 : ∀ n, yrLoop ks n (yrRound ks (b, false)).1 = (yrRound ks (b, false)).1 := by
          intro n
          cases n with
          | zero => rfl
          | succ n => simp only [yrLoop]; rw [if_pos he2]
        rw [e3, e3]
      · have hne : (yrRound ks (b, false)).1 ≠ b := fun e => by
          rw [yrRound_same ks b false hk e] at hm; cases hm
        have : width (yrRound ks (b, false)).1 ≠ width b := fun h => hne (w2 (by simpa using he2) h)
        exact yrLoop_fuel f g _ hk2 (by omega) (by omega)
    · rw [if_neg hm, if_neg hm]
def yearsB (ks : List (Nat × Nat)) (b : List Sp) : List Sp := yrLoop ks (width b + 1) b
theorem yearsB_empty {b : List Sp} (h : emptyS b = true) : yearsB ks b = b := by
  unfold yearsB
  simp only [yrLoop]
  rw [if_pos h]
theorem yearsB_done {b : List Sp} (h : emptyS b = false) (hm : (yrRound ks (b, false)).2 = false) : yearsB ks b = (yrRound ks (b, false)).1 := by
  unfold yearsB
  simp only [yrLoop]
  rw [if_neg (by simp [h]), if_neg (by simp [hm])]
theorem yearsB_more {b : List Sp} (hk : ∀ k ∈ ks, k.1 < b.length ∧ k.2 < b.length ∧ k.1 ≠ k.2) (h : emptyS b = false) (hm : (yrRound ks (b, false)).2 = true) : yearsB ks b = yearsB ks (yrRound ks (b, false)).1 := by
  obtain ⟨s1, _⟩ := yrRound_sub ks b false (fun k h => ⟨(hk k h).1, (hk k h).2.1⟩)
  have hk2 : ∀ k ∈ ks, k.1 < (yrRound ks (b, false)).1.length ∧ k.2 < (yrRound ks (b, false)).1.length ∧ k.1 ≠ k.2 := fun k h => by rw [s1.1]; exact hk k h
  by_cases he2 : emptyS (yrRound ks (b, false)).1 = true
  · rw [yearsB_empty he2]
    unfold yearsB
    simp only [yrLoop]
    rw [if_neg (by simp [h]), if_pos hm]
    cases hw : width b with
    | zero => rfl
    | succ n => simp only [yrLoop]; rw [if_pos he2]
  · obtain ⟨w1, w2⟩ := width_le s1
    have hne : (yrRound ks (b, false)).1 ≠ b := fun e => by
      rw [yrRound_same ks b false hk e] at hm; cases hm
    have hlt : width (yrRound ks (b, false)).1 ≠ width b := fun h => hne (w2 (by simpa using he2) h)
    have e1 : yearsB ks b = yrLoop ks (width b) (yrRound ks (b, false)).1 := by
      unfold yearsB
      simp only [yrLoop]
      rw [if_neg (by simp [h]), if_pos hm]
    rw [e1]
    exact yrLoop_fuel _ _ _ hk2 (by omega) (by omega)
theorem width_round {b : List Sp} (hk : ∀ k ∈ ks, k.1 < b.length ∧ k.2 < b.length ∧ k.1 ≠ k.2) (hm : (yrRound ks (b, false)).2 = true) (he : emptyS (yrRound ks (b, false)).1 = false) : width (yrRound ks (b, false)).1 < width b := by
  obtain ⟨s1, _⟩ := yrRound_sub ks b false (fun k h => ⟨(hk k h).1, (hk k h).2.1⟩)
  obtain ⟨w1, w2⟩ := width_le s1
  have hne : (yrRound ks (b, false)).1 ≠ b := fun e => by
    rw [yrRound_same ks b false hk e] at hm; cases hm
  have hlt : width (yrRound ks (b, false)).1 ≠ width b := fun h => hne (w2 he h)
  omega
end
end Go.Px

namespace Go.Px
open Go.Proofs
theorem pbeyond1_ev (n lo hi : Int) : Ev Tryz.prog 100 [I n, .pi [I lo], .pi [I hi]] (B (decide (n < lo) || decide (n > hi))) := by
  refine Ev.intro fn100 ?_
  refine LWp.sx (gs := []) (hs := []) rfl trivial ?_
  by_cases h : n < lo
  · refine LWp.sx (gs := [(8, true)]) (hs := []) rfl (by simp [h]) ?_
    refine LWp.ret (retT (.inr rfl) (.one (.tmp ?_ rfl)))
    show B _ = B _
    simp [h]
  · refine LWp.sx (gs := [(8, false)]) (hs := []) rfl (by simp [h]) ?_
    refine LWp.ret (retT (.inr rfl) (.one (.tmp ?_ rfl)))
    show B _ = B _
    simp [h]
theorem pbeyond_ev (lo hi : Int) (l : List Int) : Ev Tryz.prog 50 [I lo, I hi, ints l] (B (beyondB lo hi l)) := by
  refine Ev.intro fn50 ?_
  refine LWp.sx (gs := []) (hs := [.ice, .ice]) rfl ⟨⟨rfl, rfl⟩, ⟨rfl, rfl⟩, trivial⟩ ?_
  refine LWp.sx (gs := []) (hs := [.ret (B (beyondB lo hi l))]) rfl ⟨containsI_ev l _ _ _ (fun n _ => pbeyond1_ev n lo hi), trivial⟩ ?_
  refine LWp.ret (retT (.inr rfl) (.one (.tmp ?_ rfl)))
  rfl
theorem pnumbers_ev (set : Int) (n : Nat) (h0 : 0 ≤ set) (h1 : set < 9223372036854775808) (hn : n ≤ 60) : Ev Tryz.prog 79 [I set, I n] (.lin 3 1 ((numsF set n).map fun x => [I x])) := by
  refine Ev.intro fn79 ?_
  refine LWp.sx (gs := []) (hs := []) rfl trivial ?_
  refine LWp.seq (LWp.seq ?_)
  refine LWp.x (gs := []) (hs := []) rfl trivial ?_
  refine LWp.blockT (fun _ : Unit => True) (fun _ => el [(4, .lin 3 1 ((numsF set n).map fun x => [I x]))]) (fun _ => []) (fun _ => []) ?_ ?_
  · refine LWp.loopN (fun k : Nat => k ≤ n) (fun k => el [(0, I set), (4, .lin 3 1 ((numsF set k).map fun x => [I x])), (6, I n), (7, I k)]) (fun _ => []) (fun _ => []) (fun k => n - k) 0 (by omega)
      (Ent.trans (Ent.nilLin (t := 4) 3 1 rfl) (Ent.el ⟨rfl, rfl, rfl, rfl, trivial⟩)) ?_
    intro k hk
    refine LWp.sx (gs := []) (hs := []) rfl trivial ?_
    refine LWp.seq (LWp.ite rfl (fun hc => ?_) (fun hc => ?_))
    · simp only [decide_eq_true_eq, Int.ofNat_lt] at hc
      have hq : 0 ≤ set / 2 ^ ((k : Nat) : Int).toNat := Int.ediv_nonneg h0 (Int.le_of_lt (Int.pow_pos (by omega)))
      have hq2 : set / 2 ^ ((k : Nat) : Int).toNat ≤ set := Int.ediv_le_self _ h0
      refine LWp.skip (LWp.seq (LWp.block ?_))
      refine LWp.sx (gs := []) (hs := []) rfl trivial ?_
      refine LWp.seq ?_
      refine LWp.x (gs := []) (hs := []) rfl ⟨⟨h0, by omega, by omega⟩, ⟨⟨hq, by omega⟩, by omega, by omega⟩, trivial⟩ ?_
      refine LWp.ite (b := givesB set k) rfl (fun hb => ?_) (fun hb => ?_)
      · have hl := numsF_len set k
        refine LWp.x (gs := []) (hs := [.ice]) rfl ⟨rfl, ⟨by simp only [List.length_map, chunk, List.length_cons, List.length_nil]; omega, by simp only [List.length_map, chunk, List.length_cons, List.length_nil]; omega⟩, trivial⟩ ?_
        refine LWp.x (gs := []) (hs := []) rfl ⟨by omega, trivial⟩ ?_
        refine ⟨k + 1, hc, by omega, Ent.el ⟨rfl, ?_, rfl, rfl, trivial⟩⟩
        show AV.lin 3 1 _ = AV.lin 3 1 _
        rw [numsF_succ, hb, List.map_append]; rfl
      · refine LWp.skip ?_
        refine LWp.x (gs := []) (hs := []) rfl ⟨by omega, trivial⟩ ?_
        refine ⟨k + 1, hc, by omega, Ent.el ⟨rfl, ?_, rfl, rfl, trivial⟩⟩
        show AV.lin 3 1 _ = AV.lin 3 1 _
        rw [numsF_succ, hb]; simp
    · simp only [decide_eq_false_iff_not, Int.ofNat_lt] at hc
      have : k = n := by omega
      subst this
      exact LWp.exit ⟨(), trivial, Ent.el ⟨rfl, trivial⟩⟩
  · intro _ _
    refine LWp.sx (gs := []) (hs := []) rfl trivial ?_
    exact LWp.ret (retT (.inr rfl) (.lin rfl rfl))
end Go.Px

namespace Go.Px
open Go.Proofs
abbrev Men.enc (x : Men) : List AV := [I x.sp, I x.v, I x.lo, I x.hi, I x.par]
abbrev mensV (l : List Men) : AV := .sl 5 (l.map Men.enc)
abbrev Tie.enc (x : Tie) : List AV := [I x.a, I x.b, B x.same]
abbrev tiesV (l : List Tie) : AV := .sl 3 (l.map Tie.enc)
abbrev Town.enc (t : Town) : List AV := t.ear.enc ++ [I t.vil, mensV t.ms, tiesV t.ties]
structure Men.wf (x : Men) : Prop where
  sp0 : -9223372036854775808 ≤ x.sp
  sp1 : x.sp ≤ 9223372036854775807
  v0 : -9223372036854775808 ≤ x.v
  v1 : x.v ≤ 9223372036854775807
  lo0 : -9223372036854775808 ≤ x.lo
  lo1 : x.lo ≤ 9223372036854775807
  hi0 : -9223372036854775808 ≤ x.hi
  hi1 : x.hi ≤ 9223372036854775807
  par0 : -9223372036854775808 ≤ x.par
  par1 : x.par ≤ 9223372036854775807
def menE (t : Town) (x : Men) (at_ : Int) : Int :=
  if ((beyondB 0 ((t.ear.ss.length : Int) - 1) [x.sp] || beyondB (-1) (t.vil - 1) [x.v]) || beyondB (-1) ((t.ms.length : Int) - 1) [x.par]) = true then 4
  else if beyondB 0 199 [x.lo, x.hi] = true then 7
  else if x.hi < x.lo ∨ x.par = at_ then 2 else 0
end Go.Px

namespace Go.Px
open Go.Proofs
theorem mention_ev (t : Town) (x : Men) (at_ : Int) (hv0 : -9223372036854775807 ≤ t.vil) (hv1 : t.vil ≤ 9223372036854775807) (hms : t.ms.length ≤ 1000) (hss : t.ear.ss.length ≤ 1000) : Ev Tryz.prog 53 [.agg t.enc, I at_, .agg x.enc] (I (menE t x at_)) := by
  have hsl : (t.ear.ss.map Spelling.enc).length = t.ear.ss.length := List.length_map _
  have hml : (t.ms.map Men.enc).length = t.ms.length := List.length_map _
  have b1 := pbeyond_ev 0 (((t.ear.ss.map Spelling.enc).length : Int) - 1) [x.sp]
  have b2 := pbeyond_ev (-1) (t.vil - 1) [x.v]
  have b3 := pbeyond_ev (-1) (((t.ms.map Men.enc).length : Int) - 1) [x.par]
  have b4 := pbeyond_ev 0 199 [x.lo, x.hi]
  have hE : menE t x at_ = if ((beyondB 0 (((t.ear.ss.map Spelling.enc).length : Int) - 1) [x.sp] || beyondB (-1) (t.vil - 1) [x.v]) || beyondB (-1) (((t.ms.map Men.enc).length : Int) - 1) [x.par]) = true then 4
      else if beyondB 0 199 [x.lo, x.hi] = true then 7
      else if x.hi < x.lo ∨ x.par = at_ then 2 else 0 := by rw [hsl, hml]; rfl
  generalize beyondB 0 (((t.ear.ss.map Spelling.enc).length : Int) - 1) [x.sp] = c1 at b1 hE
  generalize beyondB (-1) (t.vil - 1) [x.v] = c2 at b2 hE
  generalize beyondB (-1) (((t.ms.map Men.enc).length : Int) - 1) [x.par] = c3 at b3 hE
  generalize beyondB 0 199 [x.lo, x.hi] = c4 at b4 hE
  refine Ev.intro fn53 ?_
  refine LWp.sx (gs := []) (hs := [.ice, .ice]) rfl ⟨⟨rfl, rfl⟩, ⟨rfl, rfl⟩, trivial⟩ ?_
  refine LWp.seqBlock ?_
  refine LWp.cutX (fun _ : Unit => True) (fun _ => el [(1, I at_), (5, .pi x.enc), (7, B ((c1 || c2) || c3))]) (fun _ => []) (fun _ => []) ?_ ?_
  · cases c1 with
    | true =>
      refine LWp.x (gs := [(17, true), (26, true)]) (hs := [.ice, .ret (B true)]) rfl (by (repeat' (with_reducible apply And.intro)); (all_goals first | (with_reducible exact trivial) | (with_reducible rfl) | (with_reducible assumption) | ((with_reducible apply isB); first | exact rfl | exact beq_self_eq_true _) | omega | ((first | exact b1)))) ?_
      exact ⟨(), trivial, Ent.el ⟨rfl, rfl, rfl, trivial⟩⟩
    | false =>
      cases c2 with
      | true =>
        refine LWp.x (gs := [(17, false), (26, true)]) (hs := [.ice, .ret (B false), .ice, .ret (B true)]) rfl (by (repeat' (with_reducible apply And.intro)); (all_goals first | (with_reducible exact trivial) | (with_reducible rfl) | (with_reducible assumption) | ((with_reducible apply isB); first | exact rfl | exact beq_self_eq_true _) | omega | ((first | exact b1 | exact b2)))) ?_
        exact ⟨(), trivial, Ent.el ⟨rfl, rfl, rfl, trivial⟩⟩
      | false =>
        refine LWp.x (gs := [(17, false), (26, false)]) (hs := [.ice, .ret (B false), .ice, .ret (B false), .ice, .ret (B c3)]) rfl (by (repeat' (with_reducible apply And.intro)); (all_goals first | (with_reducible exact trivial) | (with_reducible rfl) | (with_reducible assumption) | ((with_reducible apply isB); first | exact rfl | exact beq_self_eq_true _) | omega | ((first | exact b1 | exact b2 | exact b3)))) ?_
        exact ⟨(), trivial, Ent.el ⟨rfl, rfl, rfl, trivial⟩⟩
  intro _ _
  refine LWp.ite rfl (fun h => ?_) (fun h => ?_)
  · rw [if_pos h] at hE
    rw [hE]
    refine LWp.sx (gs := []) (hs := []) rfl trivial ?_
    refine LWp.ret (retT (.inr rfl) (.one (.tmp ?_ rfl)))
    rfl
  rw [if_neg (by simp [h])] at hE
  refine LWp.sx (gs := []) (hs := [.ice, .ret (B c4)]) rfl (by (repeat' (with_reducible apply And.intro)); (all_goals first | (with_reducible exact trivial) | (with_reducible rfl) | (with_reducible assumption) | ((with_reducible apply isB); first | exact rfl | exact beq_self_eq_true _) | omega | ((first | exact b4)))) ?_
  cases c4 with
  | true =>
    rw [if_pos rfl] at hE
    rw [hE]
    refine LWp.ite (b := true) rfl (fun _ => ?_) (fun h => by cases h)
    refine LWp.sx (gs := []) (hs := []) rfl trivial ?_
    refine LWp.ret (retT (.inr rfl) (.one (.tmp ?_ rfl)))
    rfl
  | false =>
    rw [if_neg (by decide)] at hE
    refine LWp.ite (b := false) rfl (fun h => by cases h) (fun _ => ?_)
    refine LWp.cutX (fun _ : Unit => True) (fun _ => el [(45, B (decide (x.hi < x.lo ∨ x.par = at_)))]) (fun _ => []) (fun _ => []) ?_ ?_
    · by_cases h1 : x.hi < x.lo
      · have g : decide (x.lo > x.hi) = true := decide_eq_true h1
        refine LWp.x (gs := [(53, true)]) (hs := []) rfl (by (repeat' (with_reducible apply And.intro)); (all_goals first | (with_reducible exact trivial) | (with_reducible rfl) | (with_reducible assumption) | ((with_reducible apply isB); first | exact rfl | exact beq_self_eq_true _) | omega | ((skip)))) ?_
        exact ⟨(), trivial, Ent.el ⟨by show B _ = B _; exact congrArg B (decide_eq_true (.inl h1)).symm, trivial⟩⟩
      · have g : decide (x.lo > x.hi) = false := decide_eq_false h1
        refine LWp.x (gs := [(53, false)]) (hs := []) rfl (by (repeat' (with_reducible apply And.intro)); (all_goals first | (with_reducible exact trivial) | (with_reducible rfl) | (with_reducible assumption) | ((with_reducible apply isB); first | exact rfl | exact beq_self_eq_true _) | omega | ((skip)))) ?_
        exact ⟨(), trivial, Ent.el ⟨by show B _ = B _; refine congrArg B ?_; rw [Bool.eq_iff_iff]; simp [h1], trivial⟩⟩
    intro _ _
    refine LWp.ite rfl (fun h => ?_) (fun h => LWp.skip ?_)
    · rw [if_pos (of_decide_eq_true h)] at hE
      rw [hE]
      refine LWp.sx (gs := []) (hs := []) rfl trivial ?_
      refine LWp.ret (retT (.inr rfl) (.one (.tmp ?_ rfl)))
      rfl
    · rw [if_neg (of_decide_eq_false h)] at hE
      rw [hE]
      refine LWp.sx (gs := []) (hs := []) rfl trivial ?_
      refine LWp.ret (retT (.inr rfl) (.one (.tmp ?_ rfl)))
      rfl
end Go.Px

namespace Go.Px
open Go.Proofs
theorem checkM_ev (t : Town) (x : Men) (i : Int) (hv0 : -9223372036854775807 ≤ t.vil) (hv1 : t.vil ≤ 9223372036854775807) (hms : t.ms.length ≤ 1000) (hss : t.ear.ss.length ≤ 1000) : Ev Tryz.prog 52 [I i, .agg x.enc, .pi t.enc] (I (menE t x i)) := by
  have e := mention_ev t x i hv0 hv1 hms hss
  refine Ev.intro fn52 ?_
  refine LWp.sx (gs := []) (hs := [.ice]) rfl ⟨⟨rfl, rfl⟩, trivial⟩ ?_
  refine LWp.sx (gs := []) (hs := [.ret (I (menE t x i))]) rfl ⟨e, trivial⟩ ?_
  refine LWp.ret (retT (.inr rfl) (.one (.tmp ?_ rfl)))
  rfl
def tieE (t : Town) (x : Tie) : Int := if beyondB 0 ((t.ms.length : Int) - 1) [x.a, x.b] = true then 4 else if x.a = x.b then 2 else 0
theorem checkT_ev (t : Town) (x : Tie) (i : Int) (hms : t.ms.length ≤ 1000) : Ev Tryz.prog 55 [I i, .agg x.enc, .pi t.enc] (I (tieE t x)) := by
  have hml : (t.ms.map Men.enc).length = t.ms.length := List.length_map _
  have b := pbeyond_ev 0 (((t.ms.map Men.enc).length : Int) - 1) [x.a, x.b]
  have hE : tieE t x = if beyondB 0 (((t.ms.map Men.enc).length : Int) - 1) [x.a, x.b] = true then 4 else if x.a = x.b then 2 else 0 := by rw [hml]; rfl
  generalize beyondB 0 (((t.ms.map Men.enc).length : Int) - 1) [x.a, x.b] = c at b hE
  refine Ev.intro fn55 ?_
  refine LWp.sx (gs := []) (hs := [.ice]) rfl ⟨⟨rfl, rfl⟩, trivial⟩ ?_
  refine LWp.seqBlock ?_
  refine LWp.sx (gs := []) (hs := [.ice, .ret (B c)]) rfl (by (repeat' (with_reducible apply And.intro)); (all_goals first | (with_reducible exact trivial) | (with_reducible rfl) | (with_reducible assumption) | ((with_reducible apply isB); first | exact rfl | exact beq_self_eq_true _) | omega | ((first | exact b)))) ?_
  cases c with
  | true =>
    rw [if_pos rfl] at hE
    rw [hE]
    refine LWp.ite (b := true) rfl (fun _ => ?_) (fun h => by cases h)
    refine LWp.sx (gs := []) (hs := []) rfl trivial ?_
    refine LWp.ret (retT (.inr rfl) (.one (.tmp ?_ rfl)))
    rfl
  | false =>
    rw [if_neg (by decide)] at hE
    refine LWp.ite (b := false) rfl (fun h => by cases h) (fun _ => ?_)
    refine LWp.sx (gs := []) (hs := []) rfl trivial ?_
    by_cases h : x.a = x.b
    · rw [if_pos h] at hE
      rw [hE]
      refine LWp.ite (b := true) (by show B _ = B _; exact congrArg B (by rw [beq_iff_eq]; exact h)) (fun _ => ?_) (fun h => by cases h)
      refine LWp.sx (gs := []) (hs := []) rfl trivial ?_
      refine LWp.ret (retT (.inr rfl) (.one (.tmp ?_ rfl)))
      rfl
    · rw [if_neg h] at hE
      rw [hE]
      refine LWp.ite (b := false) (by show B _ = B _; exact congrArg B (by rw [beq_eq_false_iff_ne]; exact h)) (fun h => by cases h) (fun _ => LWp.skip ?_)
      refine LWp.sx (gs := []) (hs := []) rfl trivial ?_
      refine LWp.ret (retT (.inr rfl) (.one (.tmp ?_ rfl)))
      rfl
end Go.Px

namespace Go.Px
open Go.Proofs
theorem failingM_ev (l : List Men) (g : Nat) (caps : List AV) (f : Nat → Int) (h : ∀ (i : Nat) (x : Men), l[i]? = some x → Ev Tryz.prog g (I i :: .agg x.enc :: caps) (I (f i))) :
    Ev Tryz.prog 51 [.sl 5 (l.map Men.enc), .fn (.func g) [] caps] (.tup [I (failF f l.length 0).1, I (failF f l.length 0).2]) := by
  refine Ev.intro fn51 ?_
  refine LWp.slLen 0 rfl fun ha => ?_
  simp only [List.length_map] at ha
  refine LWp.sx (gs := []) (hs := []) rfl trivial ?_
  refine LWp.seq ?_
  refine LWp.sx (gs := []) (hs := []) rfl trivial ?_
  refine LWp.blockT (fun _ : Unit => failF f l.length 0 = (0, 0)) (fun _ => el []) (fun _ => []) (fun _ => []) ?_ ?_
  · refine LWp.loopN (fun k : Nat => k ≤ l.length ∧ failF f l.length 0 = failF f (l.length - k) k) (fun k => el [(1, .fn (.func g) [] caps), (9, .sl 5 (l.map Men.enc)), (10, I l.length), (11, I k)]) (fun _ => []) (fun _ => []) (fun k => l.length - k) 0 ⟨by omega, rfl⟩
      (Ent.el ⟨rfl, rfl, by show I _ = I _; simp, rfl, trivial⟩) ?_
    rintro k ⟨hk, hi⟩
    refine LWp.sx (gs := []) (hs := []) rfl trivial ?_
    refine LWp.seq (LWp.ite rfl (fun hc => ?_) (fun hc => ?_))
    · simp only [decide_eq_true_eq, Int.ofNat_lt] at hc
      obtain ⟨x, hx⟩ := ex_get hc
      rw [show l.length - k = (l.length - (k + 1)) + 1 by omega, failF] at hi
      refine LWp.skip (LWp.seq (LWp.block ?_))
      refine LWp.sx (gs := []) (hs := [.cells x.enc, .lin]) rfl ⟨⟨by omega, by simp [hx]⟩, rfl, ⟨rfl, rfl, rfl, by decide⟩, trivial⟩ ?_
      refine LWp.sx (gs := []) (hs := [.ret (I (f k))]) rfl ⟨h k x hx, trivial⟩ ?_
      refine LWp.seq ?_
      refine LWp.x (gs := []) (hs := []) rfl trivial ?_
      refine LWp.ite rfl (fun hb => ?_) (fun hb => ?_)
      · simp only [bne_iff_ne, ne_eq] at hb
        rw [if_neg hb] at hi
        refine LWp.sx (gs := []) (hs := []) rfl trivial ?_
        refine LWp.ret (retT (.inr rfl) (.many (by decide) ⟨.tmp ?_ rfl, .tmp ?_ rfl, trivial⟩))
        · show I _ = I _
          rw [hi]
        · show I _ = I _
          rw [hi]
      · simp only [bne_eq_false_iff_eq] at hb
        rw [if_pos hb] at hi
        refine LWp.skip ?_
        refine LWp.x (gs := []) (hs := []) rfl ⟨by omega, trivial⟩ ?_
        exact ⟨k + 1, ⟨hc, hi⟩, by omega, Ent.el ⟨rfl, rfl, rfl, rfl, trivial⟩⟩
    · simp only [decide_eq_false_iff_not, Int.ofNat_lt] at hc
      refine LWp.exit ⟨(), ?_, Ent.el trivial⟩
      rw [hi, show l.length - k = 0 by omega]; rfl
  · intro _ h
    refine LWp.sx (gs := []) (hs := []) rfl trivial ?_
    refine LWp.ret (retT (.inr rfl) (.many (by decide) ⟨.tmp ?_ rfl, .tmp ?_ rfl, trivial⟩))
    · rw [h]; rfl
    · rw [h]; rfl
theorem failingT_ev (l : List Tie) (g : Nat) (caps : List AV) (f : Nat → Int) (h : ∀ (i : Nat) (x : Tie), l[i]? = some x → Ev Tryz.prog g (I i :: .agg x.enc :: caps) (I (f i))) :
    Ev Tryz.prog 54 [.sl 3 (l.map Tie.enc), .fn (.func g) [] caps] (.tup [I (failF f l.length 0).1, I (failF f l.length 0).2]) := by
  refine Ev.intro fn54 ?_
  refine LWp.slLen 0 rfl fun ha => ?_
  simp only [List.length_map] at ha
  refine LWp.sx (gs := []) (hs := []) rfl trivial ?_
  refine LWp.seq ?_
  refine LWp.sx (gs := []) (hs := []) rfl trivial ?_
  refine LWp.blockT (fun _ : Unit => failF f l.length 0 = (0, 0)) (fun _ => el []) (fun _ => []) (fun _ => []) ?_ ?_
  · refine LWp.loopN (fun k : Nat => k ≤ l.length ∧ failF f l.length 0 = failF f (l.length - k) k) (fun k => el [(1, .fn (.func g) [] caps), (9, .sl 3 (l.map Tie.enc)), (10, I l.length), (11, I k)]) (fun _ => []) (fun _ => []) (fun k => l.length - k) 0 ⟨by omega, rfl⟩
      (Ent.el ⟨rfl, rfl, by show I _ = I _; simp, rfl, trivial⟩) ?_
    rintro k ⟨hk, hi⟩
    refine LWp.sx (gs := []) (hs := []) rfl trivial ?_
    refine LWp.seq (LWp.ite rfl (fun hc => ?_) (fun hc => ?_))
    · simp only [decide_eq_true_eq, Int.ofNat_lt] at hc
      obtain ⟨x, hx⟩ := ex_get hc
      rw [show l.length - k = (l.length - (k + 1)) + 1 by omega, failF] at hi
      refine LWp.skip (LWp.seq (LWp.block ?_))
      refine LWp.sx (gs := []) (hs := [.cells x.enc, .lin]) rfl ⟨⟨by omega, by simp [hx]⟩, rfl, ⟨rfl, rfl, rfl, by decide⟩, trivial⟩ ?_
      refine LWp.sx (gs := []) (hs := [.ret (I (f k))]) rfl ⟨h k x hx, trivial⟩ ?_
      refine LWp.seq ?_
      refine LWp.x (gs := []) (hs := []) rfl trivial ?_
      refine LWp.ite rfl (fun hb => ?_) (fun hb => ?_)
      · simp only [bne_iff_ne, ne_eq] at hb
        rw [if_neg hb] at hi
        refine LWp.sx (gs := []) (hs := []) rfl trivial ?_
        refine LWp.ret (retT (.inr rfl) (.many (by decide) ⟨.tmp ?_ rfl, .tmp ?_ rfl, trivial⟩))
        · show I _ = I _
          rw [hi]
        · show I _ = I _
          rw [hi]
      · simp only [bne_eq_false_iff_eq] at hb
        rw [if_pos hb] at hi
        refine LWp.skip ?_
        refine LWp.x (gs := []) (hs := []) rfl ⟨by omega, trivial⟩ ?_
        exact ⟨k + 1, ⟨hc, hi⟩, by omega, Ent.el ⟨rfl, rfl, rfl, rfl, trivial⟩⟩
    · simp only [decide_eq_false_iff_not, Int.ofNat_lt] at hc
      refine LWp.exit ⟨(), ?_, Ent.el trivial⟩
      rw [hi, show l.length - k = 0 by omega]; rfl
  · intro _ h
    refine LWp.sx (gs := []) (hs := []) rfl trivial ?_
    refine LWp.ret (retT (.inr rfl) (.many (by decide) ⟨.tmp ?_ rfl, .tmp ?_ rfl, trivial⟩))
    · rw [h]; rfl
    · rw [h]; rfl
end Go.Px

namespace Go.Px
open Go.Proofs
def menAt (t : Town) (i : Nat) : Int := match t.ms[i]? with | none => 0 | some x => menE t x i
def tieAt (t : Town) (i : Nat) : Int := match t.ties[i]? with | none => 0 | some x => tieE t x
def checkT (t : Town) : Int × Int × Int :=
  if (check t.ear).2.2 ≠ 0 then (1, 0, (check t.ear).2.2)
  else if beyondB 1 4 [t.vil] = true then (2, 0, 7)
  else if 5 < t.ms.length then (3, 0, 3)
  else if (failF (menAt t) t.ms.length 0).2 ≠ 0 then (3, (failF (menAt t) t.ms.length 0).1, (failF (menAt t) t.ms.length 0).2)
  else if 4 < t.ties.length then (4, 0, 3)
  else if (failF (tieAt t) t.ties.length 0).2 ≠ 0 then (4, (failF (tieAt t) t.ties.length 0).1, (failF (tieAt t) t.ties.length 0).2)
  else (0, 0, 0)
structure Town.wf (t : Town) : Prop where
  ear : t.ear.wf
  vil0 : -9223372036854775808 ≤ t.vil
  vil1 : t.vil ≤ 9223372036854775807
  ms : ∀ x ∈ t.ms, x.wf
end Go.Px

namespace Go.Px
open Go.Proofs
theorem pcheck_ev (t : Town) (hw : t.wf) : Ev Tryz.prog 15 [.agg t.enc] (.tup [I (checkT t).1, I (checkT t).2.1, I (checkT t).2.2]) := by
  have ec := check_ev t.ear hw.ear
  have hml : (t.ms.map Men.enc).length = t.ms.length := List.length_map _
  have htl : (t.ties.map Tie.enc).length = t.ties.length := List.length_map _
  have eb := pbeyond_ev 1 4 [t.vil]
  have res : ∀ {Q : Post} {env : Env} {H : Heap} {x y r : Int}, (∀ env H, retP Tryz.prog [.tmp 2, .tmp 3, .tmp 4] (.tup [I (checkT t).1, I (checkT t).2.1, I (checkT t).2.2]) .ret env H [] → Q .ret env H []) → checkT t = (x, y, r) → env 2 = I x → env 3 = I y → env 4 = I r → Q .ret env H [] := by
    intro Q env H x y r hQ h h2 h3 h4
    refine hQ _ _ ?_
    rw [h]
    exact retT (.inr rfl) (.many (by decide) ⟨.tmp h2 rfl, .tmp h3 rfl, .tmp h4 rfl, trivial⟩)
  have hC : checkT t = if (check t.ear).2.2 ≠ 0 then (1, 0, (check t.ear).2.2) else if beyondB 1 4 [t.vil] = true then (2, 0, 7)
      else if 5 < t.ms.length then (3, 0, 3)
      else if (failF (menAt t) t.ms.length 0).2 ≠ 0 then (3, (failF (menAt t) t.ms.length 0).1, (failF (menAt t) t.ms.length 0).2)
      else if 4 < t.ties.length then (4, 0, 3)
      else if (failF (tieAt t) t.ties.length 0).2 ≠ 0 then (4, (failF (tieAt t) t.ties.length 0).1, (failF (tieAt t) t.ties.length 0).2)
      else (0, 0, 0) := rfl
  have hss5 : (check t.ear).2.2 = 0 → t.ear.ss.length ≤ 5 := fun h => (valid_iff.1 h).ss5
  have hbv : beyondB 1 4 [t.vil] = false → 1 ≤ t.vil ∧ t.vil ≤ 4 := by
    intro h
    have h' : ¬ beyondB 1 4 [t.vil] = true := by rw [h]; decide
    rw [beyond1_iff, Decidable.not_not] at h'
    exact h'
  generalize (check t.ear).1 = c1 at ec
  generalize (check t.ear).2.1 = c2 at ec
  generalize (check t.ear).2.2 = c3 at ec hC hss5
  generalize beyondB 1 4 [t.vil] = bv at eb hC hbv
  refine Ev.intro fn15 ?_
  refine LWp.sx (gs := []) (hs := [.ice]) rfl ⟨⟨rfl, rfl⟩, trivial⟩ ?_
  refine LWp.seq (LWp.seq ?_)
  refine LWp.x (gs := []) (hs := [.ret (.tup [I c1, I c2, I c3])]) rfl ⟨ec, trivial⟩ ?_
  refine LWp.seq ?_
  refine LWp.x (gs := []) (hs := []) rfl trivial ?_
  by_cases h : c3 = 0
  case neg =>
    rw [if_pos h] at hC
    refine LWp.ite (b := true) (by show B _ = B _; exact congrArg B (by rw [bne_iff_ne]; exact h)) (fun _ => ?_) (fun h => by cases h)
    refine LWp.sx (gs := []) (hs := []) rfl trivial ?_
    exact LWp.ret (res (fun _ _ h => h) hC rfl rfl rfl)
  rw [if_neg (by simp [h])] at hC
  refine LWp.ite (b := false) (by show B _ = B _; exact congrArg B (by rw [h]; rfl)) (fun h => by cases h) (fun _ => LWp.skip ?_)
  refine LWp.seqBlock ?_
  refine LWp.sx (gs := []) (hs := [.ice, .ret (B bv)]) rfl (by (repeat' (with_reducible apply And.intro)); (all_goals first | (with_reducible exact trivial) | (with_reducible rfl) | (with_reducible assumption) | ((with_reducible apply isB); first | exact rfl | exact beq_self_eq_true _) | omega | ((first | exact eb)))) ?_
  cases bv with
  | true =>
    rw [if_pos rfl] at hC
    refine LWp.ite (b := true) rfl (fun _ => ?_) (fun h => by cases h)
    refine LWp.sx (gs := []) (hs := []) rfl trivial ?_
    exact LWp.ret (res (fun _ _ h => h) hC rfl rfl rfl)
  | false =>
  rw [if_neg (by decide)] at hC
  refine LWp.ite (b := false) rfl (fun h => by cases h) (fun _ => ?_)
  refine LWp.sx (gs := []) (hs := []) rfl trivial ?_
  by_cases h5 : 5 < t.ms.length
  · rw [if_pos h5] at hC
    refine LWp.ite (b := true) (by show B _ = B _; exact congrArg B (decide_eq_true (by omega))) (fun _ => ?_) (fun h => by cases h)
    refine LWp.sx (gs := []) (hs := []) rfl trivial ?_
    exact LWp.ret (res (fun _ _ h => h) hC rfl rfl rfl)
  rw [if_neg h5] at hC
  refine LWp.ite (b := false) (by show B _ = B _; exact congrArg B (decide_eq_false (by omega))) (fun h => by cases h) (fun _ => LWp.skip ?_)
  have hss : t.ear.ss.length ≤ 1000 := by have := hss5 h; omega
  have hms : t.ms.length ≤ 1000 := by omega
  have hvil : -9223372036854775807 ≤ t.vil ∧ t.vil ≤ 9223372036854775807 := by
    have := hbv rfl
    omega
  have eM := failingM_ev t.ms 52 [.pi t.enc] (menAt t) (fun i x hx => by
    have := checkM_ev t x i hvil.1 hvil.2 hms hss
    rw [show menAt t i = menE t x i by unfold menAt; rw [hx]]
    exact this)
  have eT := failingT_ev t.ties 55 [.pi t.enc] (tieAt t) (fun i x hx => by
    have := checkT_ev t x i hms
    rw [show tieAt t i = tieE t x by unfold tieAt; rw [hx]]
    exact this)
  generalize (failF (menAt t) t.ms.length 0).1 = m1 at eM hC
  generalize (failF (menAt t) t.ms.length 0).2 = m2 at eM hC
  generalize (failF (tieAt t) t.ties.length 0).1 = i1 at eT hC
  generalize (failF (tieAt t) t.ties.length 0).2 = i2 at eT hC
  refine LWp.seq (LWp.seq ?_)
  refine LWp.x (gs := []) (hs := [.ret (.tup [I m1, I m2])]) rfl ⟨eM, trivial⟩ ?_
  refine LWp.seq ?_
  refine LWp.x (gs := []) (hs := []) rfl trivial ?_
  by_cases h1 : m2 = 0
  case neg =>
    rw [if_pos h1] at hC
    refine LWp.ite (b := true) (by show B _ = B _; exact congrArg B (by rw [bne_iff_ne]; exact h1)) (fun _ => ?_) (fun h => by cases h)
    refine LWp.sx (gs := []) (hs := []) rfl trivial ?_
    exact LWp.ret (res (fun _ _ h => h) hC rfl rfl rfl)
  rw [if_neg (by simp [h1])] at hC
  refine LWp.ite (b := false) (by show B _ = B _; exact congrArg B (by rw [h1]; rfl)) (fun h => by cases h) (fun _ => LWp.skip ?_)
  refine LWp.seq (LWp.seq ?_)
  refine LWp.x (gs := []) (hs := []) rfl trivial ?_
  by_cases h4 : 4 < t.ties.length
  · rw [if_pos h4] at hC
    refine LWp.ite (b := true) (by show B _ = B _; exact congrArg B (decide_eq_true (by omega))) (fun _ => ?_) (fun h => by cases h)
    refine LWp.sx (gs := []) (hs := []) rfl trivial ?_
    exact LWp.ret (res (fun _ _ h => h) hC rfl rfl rfl)
  rw [if_neg h4] at hC
  refine LWp.ite (b := false) (by show B _ = B _; exact congrArg B (decide_eq_false (by omega))) (fun h => by cases h) (fun _ => LWp.skip ?_)
  refine LWp.sx (gs := []) (hs := [.ret (.tup [I i1, I i2])]) rfl ⟨eT, trivial⟩ ?_
  refine LWp.seq (LWp.seq ?_)
  refine LWp.x (gs := []) (hs := []) rfl trivial ?_
  by_cases h2 : i2 = 0
  case neg =>
    rw [if_pos h2] at hC
    refine LWp.ite (b := true) (by show B _ = B _; exact congrArg B (by rw [bne_iff_ne]; exact h2)) (fun _ => ?_) (fun h => by cases h)
    refine LWp.sx (gs := []) (hs := []) rfl trivial ?_
    exact LWp.ret (res (fun _ _ h => h) hC rfl rfl rfl)
  rw [if_neg (by simp [h2])] at hC
  refine LWp.ite (b := false) (by show B _ = B _; exact congrArg B (by rw [h2]; rfl)) (fun h => by cases h) (fun _ => LWp.skip ?_)
  refine LWp.sx (gs := []) (hs := []) rfl trivial ?_
  exact LWp.ret (res (fun _ _ h => h) hC rfl rfl rfl)
end Go.Px

namespace Go.Px
open Go.Proofs
def Town.m (t : Town) (i : Nat) : Men := (t.ms[i]?).getD ⟨0, 0, 0, 0, 0⟩
theorem Town.m_get {t : Town} {i : Nat} {x : Men} (h : t.ms[i]? = some x) : t.m i = x := by unfold Town.m; rw [h]; rfl
def per (p : List Nat) (i : Nat) : Nat := (p[i]?).getD 0
def alikeS (b : Book) (s : Nat) : Bool := decide ((commonR b (numsF (s : Int) b.ss.length)).2 = 0)
def whyF (t : Town) (a b : Nat) : Int :=
  if alikeS t.ear (2 ^ (t.m a).sp.toNat ||| 2 ^ (t.m b).sp.toNat) = false then 1
  else if (t.m a).v ≠ (t.m b).v ∧ (t.m a).v ≠ -1 ∧ (t.m b).v ≠ -1 then 2
  else if max (t.m a).lo (t.m b).lo > min (t.m a).hi (t.m b).hi then 3
  else if (t.m a).par = b ∨ (t.m b).par = a then 4 else 0
def setP (t : Town) (p : List Nat) (k who : Nat) : Nat := (List.range k).foldl (fun s i => if per p i = who then s ||| 2 ^ (t.m i).sp.toNat else s) 0
def namedF (t : Town) (p : List Nat) : Bool := (List.range 6).all fun who => setP t p t.ms.length who == 0 || alikeS t.ear (setP t p t.ms.length who)
def tieB (p : List Nat) (x : Tie) : Bool := (per p x.a.toNat == per p x.b.toNat) == x.same
def tiedF (t : Town) (but : Nat → Bool) (p : List Nat) : Bool := (List.range t.ties.length).all fun i => but i || (match t.ties[i]? with | some x => tieB p x | none => true)
def kinB (t : Town) (p : List Nat) : Bool := (List.range t.ms.length).all fun i => (t.m i).par == -1 || (per p (t.m i).par.toNat != per p i &&
  (List.range i).all fun k => (t.m k).par == -1 || per p k != per p i || per p (t.m i).par.toNat == per p (t.m k).par.toNat)
def bornAt (t : Town) (p : List Nat) (k who : Nat) : Sp := (List.range k).foldl (fun s i => if per p i = who then (max s.1 (t.m i).lo, min s.2 (t.m i).hi) else s) (0, 199)
def born0 (t : Town) (p : List Nat) (w : Nat) : List Sp := (List.range w).map (bornAt t p t.ms.length)
def yearsW (t : Town) (p : List Nat) (w : Nat) : List Sp := yearsB (kids t.ms p) (born0 t p w)
def lastB (t : Town) (p : List Nat) : Bool := !emptyS (yearsW t p 6) && kinB t p
def searchL (t : Town) : List (List Nat) := dfsF (fun j i => whyF t j i != 0) (lastB t) t.ms.length []
def fairL (t : Town) (but : Nat → Bool) : List (List Nat) := (searchL t).filter fun p => namedF t p && tiedF t but p
def ofL (p : List Nat) (who : Nat) : List Nat := (List.range p.length).filter fun i => per p i == who
def vilB (t : Town) : List Nat → Int → Bool
  | [], _ => true
  | i :: l, v => if (t.m i).v ≠ -1 ∧ v ≠ -1 ∧ (t.m i).v ≠ v then false else vilB t l (max v (t.m i).v)
def sharedG (b : Book) (l : List Int) : Bool := decide (0 ≤ idxF id (markL (shP b l)) 0)
def namedR (t : Town) (l : List Nat) : Bool := vilB t l (-1) && (decide (l.length < 2) || sharedG t.ear (l.map fun i => (t.m i).sp))
def canR (t : Town) (but : Nat → Bool) (p : List Nat) : Bool :=
  (List.range (cnt p)).all (fun who => namedR t (ofL p who)) && tiedF t but p && (kinB t p && !emptyS (yearsW t p (cnt p)))
def truthsL (t : Town) (but : Nat → Bool) : List (List Nat) := (groupsN t.ms.length).filter (canR t but)
structure Men.OK (t : Town) (i : Nat) (x : Men) : Prop where
  sp0 : 0 ≤ x.sp
  sp1 : x.sp < t.ear.ss.length
  v0 : -1 ≤ x.v
  v1 : x.v < t.vil
  par0 : -1 ≤ x.par
  par1 : x.par < t.ms.length
  lo0 : 0 ≤ x.lo
  lh : x.lo ≤ x.hi
  hi1 : x.hi ≤ 199
  own : x.par ≠ i
structure Town.OK (t : Town) : Prop where
  ear : Valid t.ear
  wf : t.ear.wf
  vil0 : 1 ≤ t.vil
  vil1 : t.vil ≤ 4
  ms6 : t.ms.length ≤ 6
  men : ∀ (i : Nat) (x : Men), t.ms[i]? = some x → Men.OK t i x
  ties4 : t.ties.length ≤ 4
  tie : ∀ x ∈ t.ties, 0 ≤ x.a ∧ x.a < t.ms.length ∧ 0 ≤ x.b ∧ x.b < t.ms.length ∧ x.a ≠ x.b
theorem Town.OK.at {t : Town} (h : t.OK) {i : Nat} (hi : i < t.ms.length) : Men.OK t i (t.m i) := by
  obtain ⟨x, hx⟩ := ex_get hi
  rw [Town.m_get hx]
  exact h.men i x hx
theorem per_snoc (q : List Nat) (k i : Nat) : per (q ++ [k]) i = if i < q.length then per q i else if i = q.length then k else 0 := by
  unfold per
  by_cases h : i < q.length
  · rw [if_pos h, List.getElem?_append_left h]
  · rw [if_neg h, List.getElem?_append_right (by omega)]
    by_cases e : i = q.length
    · rw [if_pos e, e, Nat.sub_self]; rfl
    · rw [if_neg e]
      obtain ⟨d, hd⟩ : ∃ d, i - q.length = d + 1 := ⟨i - q.length - 1, by omega⟩
      rw [hd]; rfl
structure Grp (n : Nat) (p : List Nat) : Prop where
  len : p.length = n
  lt : ∀ i, i < n → per p i < cnt p
  le : cnt p ≤ n
  on : ∀ w, w < cnt p → ∃ i, i < n ∧ per p i = w
theorem grp_snoc {n : Nat} {q : List Nat} {k : Nat} (h : Grp n q) (hk : k ≤ cnt q) : Grp (n + 1) (q ++ [k]) where
  len := by rw [List.length_append, h.len]; rfl
  lt := by
    intro i hi
    rw [cnt_snoc, per_snoc, h.len]
    by_cases e : i < n
    · rw [if_pos e]
      have := h.lt i e
      omega
    · rw [if_neg e, if_pos (by omega)]; omega
  le := by
    rw [cnt_snoc]
    have := h.le
    omega
  on := by
    intro w hw
    rw [cnt_snoc] at hw
    by_cases e : w < cnt q
    · obtain ⟨i, hi, he⟩ := h.on w e
      exact ⟨i, by omega, by rw [per_snoc, h.len, if_pos hi]; exact he⟩
    · exact ⟨n, by omega, by rw [per_snoc, h.len, if_neg (by omega), if_pos rfl]; omega⟩
theorem grp_nil : Grp 0 [] := ⟨rfl, fun i h => by omega, Nat.le_refl 0, fun w h => by cases h⟩
theorem groups_snoc {n : Nat} {p : List Nat} : p ∈ groupsN (n + 1) ↔ ∃ q k, q ∈ groupsN n ∧ k ≤ cnt q ∧ p = q ++ [k] := by
  simp only [groupsN, List.mem_flatMap, nextG, List.mem_map, List.mem_range]
  constructor
  · rintro ⟨q, hq, k, hk, rfl⟩; exact ⟨q, k, hq, by omega, rfl⟩
  · rintro ⟨q, k, hq, hk, rfl⟩; exact ⟨q, hq, k, by omega, rfl⟩
theorem groups_grp : ∀ {n : Nat} {p : List Nat}, p ∈ groupsN n → Grp n p
  | 0, p, h => by simp only [groupsN, List.mem_singleton] at h; subst h; exact grp_nil
  | n + 1, p, h => by
    obtain ⟨q, k, hq, hk, rfl⟩ := groups_snoc.1 h
    exact grp_snoc (groups_grp hq) hk
def Sounds (t : Town) (p : List Nat) (who : Nat) : Prop := ∃ h, ∀ i, i < t.ms.length → per p i = who → h ∈ hearS t.ear (t.m i).sp.toNat
theorem ascB_natI : ∀ {l : List Nat} {k : Int}, l.Pairwise (· < ·) → (∀ x ∈ l, k < (x : Int)) → ascB (natI l) k = true
  | [], _, _, _ => rfl
  | x :: l, k, h, g => by
    rw [List.pairwise_cons] at h
    show (decide (k < (x : Int)) && ascB (natI l) (x : Int)) = true
    rw [Bool.and_eq_true, decide_eq_true_eq]
    exact ⟨g x (by simp), ascB_natI h.2 (fun y hy => by have := h.1 y hy; omega)⟩
theorem alikeS_iff {b : Book} (V : Valid b) (hw : b.wf) {s : Nat} (hs : ∃ k, k < b.ss.length ∧ s.testBit k = true) : alikeS b s = true ↔ ∃ h, ∀ k, k < b.ss.length → s.testBit k = true → h ∈ hearS b k := by
  have hn : numsF (s : Int) b.ss.length = natI ((List.range b.ss.length).filter fun k => s.testBit k) := numsF_eq (p := fun k => s.testBit k) (fun k _ => rfl)
  unfold alikeS
  rw [hn, decide_eq_true_iff]
  obtain ⟨k0, hk0, hb0⟩ := hs
  have hm : ∀ {j : Int}, j ∈ natI ((List.range b.ss.length).filter fun k => s.testBit k) ↔ ∃ k : Nat, k < b.ss.length ∧ s.testBit k = true ∧ j = k := by
    intro j
    simp only [natI, List.mem_map, List.mem_filter, List.mem_range]
    constructor
    · rintro ⟨k, ⟨h1, h2⟩, rfl⟩; exact ⟨k, h1, h2, rfl⟩
    · rintro ⟨k, h1, h2, rfl⟩; exact ⟨k, ⟨h1, h2⟩, rfl⟩
  have hne : natI ((List.range b.ss.length).filter fun k => s.testBit k) ≠ [] := List.ne_nil_of_mem (hm.2 ⟨k0, hk0, hb0, rfl⟩)
  have hasc : ascB (natI ((List.range b.ss.length).filter fun k => s.testBit k)) (-1) = true :=
    ascB_natI (List.Pairwise.filter _ List.pairwise_lt_range) (fun x _ => by omega)
  have hr : ∀ j ∈ natI ((List.range b.ss.length).filter fun k => s.testBit k), j < (b.ss.length : Int) := by
    intro j hj
    obtain ⟨k, h1, _, rfl⟩ := hm.1 hj
    omega
  rcases common_of V hw hne hasc hr with ⟨g, h1, _, h3⟩ | ⟨h1, h2⟩
  · rw [h3]
    refine ⟨fun _ => ⟨g, fun k hk hb => ?_⟩, fun _ => rfl⟩
    have := h1 (k : Int) (hm.2 ⟨k, hk, hb, rfl⟩)
    simpa using this
  · rw [h2]
    refine ⟨fun h => by simp at h, fun ⟨g, hg⟩ => absurd ⟨g, fun j hj => ?_⟩ h1⟩
    obtain ⟨k, hk, hb, rfl⟩ := hm.1 hj
    simpa using hg k hk hb
theorem setP_succ (t : Town) (p : List Nat) (k who : Nat) : setP t p (k + 1) who = if per p k = who then setP t p k who ||| 2 ^ (t.m k).sp.toNat else setP t p k who := by
  unfold setP
  rw [List.range_succ, List.foldl_append]; rfl
theorem setP_bit (t : Town) (p : List Nat) (who b : Nat) : ∀ k, (setP t p k who).testBit b = true ↔ ∃ i, i < k ∧ per p i = who ∧ (t.m i).sp.toNat = b
  | 0 => by
    constructor
    · intro h; simp [setP] at h
    · rintro ⟨i, hi, _⟩; omega
  | k + 1 => by
    rw [setP_succ]
    have ih := setP_bit t p who b k
    by_cases e : per p k = who
    · rw [if_pos e, Nat.testBit_or, Bool.or_eq_true, ih, Nat.testBit_two_pow]
      simp only [decide_eq_true_eq]
      constructor
      · rintro (⟨i, h1, h2, h3⟩ | h)
        · exact ⟨i, by omega, h2, h3⟩
        · exact ⟨k, by omega, e, h⟩
      · rintro ⟨i, h1, h2, h3⟩
        by_cases hik : i = k
        · right; rw [← hik]; exact h3
        · left; exact ⟨i, by omega, h2, h3⟩
    · rw [if_neg e, ih]
      constructor
      · rintro ⟨i, h1, h2, h3⟩; exact ⟨i, by omega, h2, h3⟩
      · rintro ⟨i, h1, h2, h3⟩
        have hik : i ≠ k := fun h => e (by rw [← h]; exact h2)
        exact ⟨i, by omega, h2, h3⟩
theorem setP_lt {t : Town} (h : t.OK) (p : List Nat) (who : Nat) : ∀ k, k ≤ t.ms.length → setP t p k who < 32
  | 0, _ => by show (0 : Nat) < 32; omega
  | k + 1, hk => by
    rw [setP_succ]
    have ih := setP_lt h p who k (by omega)
    have hm := h.at (i := k) (by omega)
    have h5 := h.ear.ss5
    split
    · exact Nat.or_lt_two_pow (n := 5) ih (Nat.pow_lt_pow_right (by omega) (by have := hm.sp0; have := hm.sp1; omega))
    · exact ih
theorem sp_lt {t : Town} (h : t.OK) {i : Nat} (hi : i < t.ms.length) : (t.m i).sp.toNat < t.ear.ss.length := by
  have hm := h.at hi
  have := hm.sp0
  have := hm.sp1
  omega
theorem alike_set {t : Town} (h : t.OK) {p : List Nat} {who : Nat} (hi : ∃ i, i < t.ms.length ∧ per p i = who) : alikeS t.ear (setP t p t.ms.length who) = true ↔ Sounds t p who := by
  obtain ⟨i0, hi0, he0⟩ := hi
  rw [alikeS_iff h.ear h.wf ⟨_, sp_lt h hi0, (setP_bit t p who _ _).2 ⟨i0, hi0, he0, rfl⟩⟩]
  refine exists_congr fun g => ⟨fun hg i hi he => hg _ (sp_lt h hi) ((setP_bit t p who _ _).2 ⟨i, hi, he, rfl⟩), fun hg k _ hb => ?_⟩
  obtain ⟨i, h1, h2, h3⟩ := (setP_bit t p who _ _).1 hb
  rw [← h3]
  exact hg i h1 h2
theorem setP_zero {t : Town} {p : List Nat} {who : Nat} : setP t p t.ms.length who = 0 ↔ ¬ ∃ i, i < t.ms.length ∧ per p i = who := by
  constructor
  · rintro h ⟨i, hi, he⟩
    have := (setP_bit t p who _ _).2 ⟨i, hi, he, rfl⟩
    rw [h] at this; simp at this
  · intro h
    apply Nat.eq_of_testBit_eq
    intro b
    rw [Nat.zero_testBit, Bool.eq_false_iff]
    intro hb
    obtain ⟨i, h1, h2, _⟩ := (setP_bit t p who _ _).1 hb
    exact h ⟨i, h1, h2⟩
theorem alike_pair {t : Town} (h : t.OK) {a b : Nat} (ha : a < t.ms.length) (hb : b < t.ms.length) : alikeS t.ear (2 ^ (t.m a).sp.toNat ||| 2 ^ (t.m b).sp.toNat) = true ↔ ∃ g, g ∈ hearS t.ear (t.m a).sp.toNat ∧ g ∈ hearS t.ear (t.m b).sp.toNat := by
  have hbit : ∀ k, (2 ^ (t.m a).sp.toNat ||| 2 ^ (t.m b).sp.toNat).testBit k = true ↔ (t.m a).sp.toNat = k ∨ (t.m b).sp.toNat = k := by
    intro k
    rw [Nat.testBit_or, Bool.or_eq_true, Nat.testBit_two_pow, Nat.testBit_two_pow, decide_eq_true_eq, decide_eq_true_eq]
  rw [alikeS_iff h.ear h.wf ⟨_, sp_lt h ha, (hbit _).2 (.inl rfl)⟩]
  refine exists_congr fun g => ⟨fun hg => ⟨hg _ (sp_lt h ha) ((hbit _).2 (.inl rfl)), hg _ (sp_lt h hb) ((hbit _).2 (.inr rfl))⟩, fun ⟨h1, h2⟩ k _ hk => ?_⟩
  rcases (hbit k).1 hk with e | e
  · rw [← e]; exact h1
  · rw [← e]; exact h2
theorem sharedG_iff {b : Book} (V : Valid b) (hw : b.wf) {l : List Int} (hl : l ≠ []) : sharedG b l = true ↔ ∃ h, ∀ j ∈ l, h ∈ hearS b j.toNat := by
  have hk := known_ok V hw
  unfold sharedG
  rw [decide_eq_true_iff, least_shared V hl hk]
  obtain ⟨h1, h2, h3⟩ := firstK_spec hk (setN l 0 : Nat)
  have hm := keysIn_iff (b := b) hl
  rw [h1]
  generalize keysIn (knownOf b) (setN l 0 : Nat) = K at *
  constructor
  · intro h
    by_cases hK : K.length = 0
    · rw [if_pos hK] at h; omega
    · have hK' : K ≠ [] := fun e => hK (by rw [e]; rfl)
      obtain ⟨g, hg⟩ := List.exists_mem_of_ne_nil _ hK'
      exact ⟨g, (hm g).1 hg⟩
  · rintro ⟨g, hg⟩
    have hgm : g ∈ K := (hm g).2 hg
    have hK : ¬ K.length = 0 := by
      intro e
      rw [List.length_eq_zero_iff.1 e] at hgm; cases hgm
    rw [if_neg hK]; omega
def Vil (x y : Int) : Prop := x = -1 ∨ y = -1 ∨ x = y
theorem vilB_iff {t : Town} : ∀ {l : List Nat} {v : Int}, -1 ≤ v → (∀ i ∈ l, -1 ≤ (t.m i).v) → (vilB t l v = true ↔ (∀ i ∈ l, Vil v (t.m i).v) ∧ ∀ i ∈ l, ∀ j ∈ l, Vil (t.m i).v (t.m j).v)
  | [], v, _, _ => by simp [vilB]
  | i :: l, v, hv, hl => by
    have hi := hl i (by simp)
    unfold vilB
    by_cases h : (t.m i).v ≠ -1 ∧ v ≠ -1 ∧ (t.m i).v ≠ v
    · rw [if_pos h]
      refine ⟨fun h => by (cases h), fun ⟨g, _⟩ => ?_⟩
      have := g i (by simp)
      unfold Vil at this
      omega
    · rw [if_neg h, vilB_iff (l := l) (v := max v (t.m i).v) (by omega) (fun j hj => hl j (by simp [hj]))]
      unfold Vil at *
      constructor
      · rintro ⟨h1, h2⟩
        refine ⟨fun j hj => ?_, fun j hj k hk => ?_⟩
        · rcases List.mem_cons.1 hj with rfl | hj
          · omega
          · have := h1 j hj
            have := hl j (by simp [hj])
            omega
        · rcases List.mem_cons.1 hj with ej | hj2
          · rcases List.mem_cons.1 hk with ek | hk2
            · rw [ej, ek]; omega
            · have := h1 k hk2
              have := hl k (by simp [hk2])
              rw [ej]; omega
          · have := h1 j hj2
            have := hl j (by simp [hj2])
            rcases List.mem_cons.1 hk with ek | hk2
            · rw [ek]; omega
            · exact h2 j hj2 k hk2
      · rintro ⟨h1, h2⟩
        refine ⟨fun j hj => ?_, fun j hj k hk => h2 j (by simp [hj]) k (by simp [hk])⟩
        have a1 := h1 j (by simp [hj])
        have a2 := h2 i (by simp) j (by simp [hj])
        have := hl j (by simp [hj])
        omega
end Go.Px

namespace Go.Px
open Go.Proofs
theorem kinB_iff {t : Town} {p : List Nat} : kinB t p = true ↔ ∀ i, i < t.ms.length → (t.m i).par ≠ -1 → per p (t.m i).par.toNat ≠ per p i ∧ ∀ k, k < i → (t.m k).par ≠ -1 → per p k = per p i → per p (t.m i).par.toNat = per p (t.m k).par.toNat := by
  unfold kinB
  rw [List.all_eq_true]
  refine forall_congr' fun i => ?_
  rw [List.mem_range]
  refine imp_congr_right fun _ => ?_
  rw [Bool.or_eq_true, Bool.and_eq_true, List.all_eq_true, beq_iff_eq, bne_iff_ne]
  constructor
  · intro h hp
    rcases h with h | ⟨h1, h2⟩
    · exact absurd h hp
    · refine ⟨h1, fun k hk hpk he => ?_⟩
      have := h2 k (List.mem_range.2 hk)
      rw [Bool.or_eq_true, Bool.or_eq_true, beq_iff_eq, bne_iff_ne, beq_iff_eq] at this
      rcases this with (h | h) | h
      · exact absurd h hpk
      · exact absurd he h
      · exact h
  · intro h
    by_cases hp : (t.m i).par = -1
    · exact .inl hp
    · obtain ⟨h1, h2⟩ := h hp
      refine .inr ⟨h1, fun k hk => ?_⟩
      rw [List.mem_range] at hk
      rw [Bool.or_eq_true, Bool.or_eq_true, beq_iff_eq, bne_iff_ne, beq_iff_eq]
      by_cases hpk : (t.m k).par = -1
      · exact .inl (.inl hpk)
      · by_cases he : per p k = per p i
        · exact .inr (h2 k hk hpk he)
        · exact .inl (.inr he)
theorem kids_mem {ms : List Men} {p : List Nat} {a c : Nat} : (a, c) ∈ kids ms p ↔ ∃ i x, ms[i]? = some x ∧ x.par ≠ -1 ∧ a = per p x.par.toNat ∧ c = per p i := by
  unfold kids
  rw [List.mem_filterMap]
  constructor
  · rintro ⟨i, hi, h⟩
    rw [List.mem_range] at hi
    obtain ⟨x, hx⟩ := ex_get hi
    rw [hx] at h
    simp only at h
    split at h
    · cases h
    · rename_i hp
      simp only [Option.some.injEq, Prod.mk.injEq] at h
      exact ⟨i, x, hx, hp, h.1.symm, h.2.symm⟩
  · rintro ⟨i, x, hx, hp, rfl, rfl⟩
    refine ⟨i, List.mem_range.2 (List.getElem?_eq_some_iff.1 hx).1, ?_⟩
    rw [hx]
    simp only [if_neg hp]
    rfl
theorem spAt_app {b : List Sp} (c : List Sp) {k : Nat} (h : k < b.length) : spAt (b ++ c) k = spAt b k := by
  unfold spAt
  rw [List.getElem?_append_left h]
theorem yrStep_app {b : List Sp} (c : List Sp) {x y : Nat} (hx : x < b.length) (hy : y < b.length) : yrStep (b ++ c) x y = yrStep b x y ++ c ∧ yrMore (b ++ c) x y = yrMore b x y := by
  unfold yrStep yrMore
  rw [spAt_app c hx, spAt_app c hy]
  refine ⟨?_, rfl⟩
  rw [List.set_append_left _ _ hx, List.set_append_left _ _ (by simpa using hy)]
theorem yrStep_len (b : List Sp) (x y : Nat) : (yrStep b x y).length = b.length := by simp [yrStep]
theorem yrRound_app (c : List Sp) : ∀ (ks : List (Nat × Nat)) (b : List Sp) (m : Bool), (∀ k ∈ ks, k.1 < b.length ∧ k.2 < b.length) → yrRound ks (b ++ c, m) = ((yrRound ks (b, m)).1 ++ c, (yrRound ks (b, m)).2)
  | [], b, m, _ => rfl
  | (x, y) :: ks, b, m, h => by
    obtain ⟨hx, hy⟩ := h (x, y) (by simp)
    simp only [yrRound]
    obtain ⟨e1, e2⟩ := yrStep_app c hx hy
    rw [e1, e2]
    exact yrRound_app c ks _ _ (fun k hk => by rw [yrStep_len]; exact h k (by simp [hk]))
theorem yrRound_len : ∀ (ks : List (Nat × Nat)) (b : List Sp) (m : Bool), (yrRound ks (b, m)).1.length = b.length
  | [], b, m => rfl
  | (x, y) :: ks, b, m => by
    simp only [yrRound]
    rw [yrRound_len ks, yrStep_len]
theorem emptyS_app (b c : List Sp) : emptyS (b ++ c) = (emptyS b || emptyS c) := by simp [emptyS]
theorem width_app (b c : List Sp) : width (b ++ c) = width b + width c := by simp [width]
theorem yrLoop_app (c : List Sp) (hc : emptyS c = false) (ks : List (Nat × Nat)) : ∀ (f : Nat) (b : List Sp), (∀ k ∈ ks, k.1 < b.length ∧ k.2 < b.length) → yrLoop ks f (b ++ c) = yrLoop ks f b ++ c
  | 0, b, _ => rfl
  | f + 1, b, h => by
    simp only [yrLoop]
    rw [emptyS_app, hc, Bool.or_false, yrRound_app c ks b false h]
    by_cases he : emptyS b = true
    · rw [if_pos he, if_pos he]
    · rw [if_neg he, if_neg he]
      by_cases hm : (yrRound ks (b, false)).2 = true
      · rw [if_pos hm, if_pos hm]
        exact yrLoop_app c hc ks f _ (fun k hk => by rw [yrRound_len]; exact h k hk)
      · rw [if_neg hm, if_neg hm]
theorem yearsB_app {b : List Sp} (c : List Sp) (hc : emptyS c = false) {ks : List (Nat × Nat)} (h : ∀ k ∈ ks, k.1 < b.length ∧ k.2 < b.length ∧ k.1 ≠ k.2) : yearsB ks (b ++ c) = yearsB ks b ++ c := by
  unfold yearsB
  rw [yrLoop_app c hc ks _ b (fun k hk => ⟨(h k hk).1, (h k hk).2.1⟩), yrLoop_fuel (width (b ++ c) + 1) (width b + 1) b h (by rw [width_app]; omega) (by omega)]
theorem yrLoop_sub {ks : List (Nat × Nat)} : ∀ (f : Nat) (b : List Sp), (∀ k ∈ ks, k.1 < b.length ∧ k.2 < b.length) → SubB (yrLoop ks f b) b
  | 0, b, _ => SubB.refl b
  | f + 1, b, h => by
    simp only [yrLoop]
    obtain ⟨s1, _⟩ := yrRound_sub ks b false h
    split
    · exact SubB.refl b
    · split
      · exact (yrLoop_sub f _ (fun k hk => by rw [yrRound_len]; exact h k hk)).trans s1
      · exact s1
theorem born0_len (t : Town) (p : List Nat) (w : Nat) : (born0 t p w).length = w := by simp [born0]
theorem bornAt_succ (t : Town) (p : List Nat) (k who : Nat) : bornAt t p (k + 1) who = if per p k = who then (max (bornAt t p k who).1 (t.m k).lo, min (bornAt t p k who).2 (t.m k).hi) else bornAt t p k who := by
  unfold bornAt
  rw [List.range_succ, List.foldl_append]; rfl
theorem bornAt_le (t : Town) (p : List Nat) (who : Nat) : ∀ (k i : Nat), i < k → per p i = who → (t.m i).lo ≤ (bornAt t p k who).1 ∧ (bornAt t p k who).2 ≤ (t.m i).hi
  | 0, i, h, _ => by omega
  | k + 1, i, h, e => by
    rw [bornAt_succ]
    by_cases hik : i = k
    · subst hik
      rw [if_pos e]
      simp only
      omega
    · have := bornAt_le t p who k i (by omega) e
      split
      · simp only; omega
      · exact this
theorem bornAt_none (t : Town) (p : List Nat) (who : Nat) : ∀ (k : Nat), (∀ i, i < k → per p i ≠ who) → bornAt t p k who = (0, 199)
  | 0, _ => rfl
  | k + 1, h => by
    rw [bornAt_succ, if_neg (h k (by omega))]
    exact bornAt_none t p who k (fun i hi => h i (by omega))
theorem bornAt_in {t : Town} (h : t.OK) (p : List Nat) (who : Nat) : ∀ (k : Nat), k ≤ t.ms.length → 0 ≤ (bornAt t p k who).1 ∧ (bornAt t p k who).1 ≤ 199 ∧ 0 ≤ (bornAt t p k who).2 ∧ (bornAt t p k who).2 ≤ 199
  | 0, _ => by
    show (0 : Int) ≤ 0 ∧ (0 : Int) ≤ 199 ∧ (0 : Int) ≤ 199 ∧ (199 : Int) ≤ 199
    omega
  | k + 1, hk => by
    rw [bornAt_succ]
    have ih := bornAt_in h p who k (by omega)
    have hm := h.at (i := k) (by omega)
    have h1 := hm.lo0
    have h2 := hm.lh
    have h3 := hm.hi1
    split
    · simp only; omega
    · exact ih
theorem born0_get (t : Town) (p : List Nat) {w k : Nat} (h : k < w) : spAt (born0 t p w) k = bornAt t p t.ms.length k := by
  unfold spAt born0
  rw [List.getElem?_map, List.getElem?_range h]; rfl
def spare (n : Nat) : List Sp := List.replicate n (0, 199)
theorem spare_empty (n : Nat) : emptyS (spare n) = false := by
  unfold emptyS spare
  rw [List.any_replicate]
  split <;> rfl
theorem born0_pad {t : Town} {p : List Nat} (hg : Grp t.ms.length p) {w : Nat} (hw : cnt p ≤ w) : born0 t p w = born0 t p (cnt p) ++ spare (w - cnt p) := by
  apply List.ext_getElem?
  intro i
  by_cases h : i < cnt p
  · rw [List.getElem?_append_left (by rw [born0_len]; exact h)]
    unfold born0
    rw [List.getElem?_map, List.getElem?_map, List.getElem?_range h, List.getElem?_range (by omega)]
  · rw [List.getElem?_append_right (by rw [born0_len]; omega), born0_len]
    unfold born0 spare
    rw [List.getElem?_map, List.getElem?_replicate]
    by_cases h2 : i < w
    · rw [List.getElem?_range h2, if_pos (by omega)]
      show some _ = some _
      rw [bornAt_none t p i _ (fun j hj e => h (by rw [← e]; exact hg.lt j hj))]
    · rw [if_neg (by omega), List.getElem?_eq_none (by simp; omega)]; rfl
def Kin1 (t : Town) (p : List Nat) : Prop := ∀ i, i < t.ms.length → (t.m i).par ≠ -1 → per p (t.m i).par.toNat ≠ per p i
theorem kids_ok {t : Town} (h : t.OK) {p : List Nat} (hg : Grp t.ms.length p) (hk : Kin1 t p) {w : Nat} (hw : cnt p ≤ w) : ∀ k ∈ kids t.ms p, k.1 < (born0 t p w).length ∧ k.2 < (born0 t p w).length ∧ k.1 ≠ k.2 := by
  rintro ⟨a, c⟩ hm
  obtain ⟨i, x, hx, hp, rfl, rfl⟩ := kids_mem.1 hm
  have hi := (List.getElem?_eq_some_iff.1 hx).1
  have hok := h.men i x hx
  have h1 := hok.par0
  have h2 := hok.par1
  have e1 := hg.lt i hi
  have e2 := hg.lt x.par.toNat (by omega)
  have e3 := hk i hi (by rw [Town.m_get hx]; exact hp)
  rw [Town.m_get hx] at e3
  rw [born0_len]
  exact ⟨by show per p x.par.toNat < w; omega, by show per p i < w; omega, e3⟩
theorem yearsW_pad {t : Town} (h : t.OK) {p : List Nat} (hg : Grp t.ms.length p) (hk : Kin1 t p) {w : Nat} (hw : cnt p ≤ w) : yearsW t p w = yearsW t p (cnt p) ++ spare (w - cnt p) := by
  unfold yearsW
  rw [born0_pad hg hw]
  exact yearsB_app _ (spare_empty _) (kids_ok h hg hk (Nat.le_refl _))
theorem yearsW_empty {t : Town} (h : t.OK) {p : List Nat} (hg : Grp t.ms.length p) (hk : Kin1 t p) {w : Nat} (hw : cnt p ≤ w) : emptyS (yearsW t p w) = emptyS (yearsW t p (cnt p)) := by
  rw [yearsW_pad h hg hk hw, emptyS_app, spare_empty, Bool.or_false]
theorem yearsW_sub {t : Town} (h : t.OK) {p : List Nat} (hg : Grp t.ms.length p) (hk : Kin1 t p) {w : Nat} (hw : cnt p ≤ w) : SubB (yearsW t p w) (born0 t p w) :=
  yrLoop_sub _ _ (fun k hm => ⟨(kids_ok h hg hk hw k hm).1, (kids_ok h hg hk hw k hm).2.1⟩)
theorem not_empty_at {b : List Sp} (h : emptyS b = false) {k : Nat} (hk : k < b.length) : (spAt b k).1 ≤ (spAt b k).2 := by
  obtain ⟨x, hx⟩ := ex_get hk
  unfold spAt
  rw [hx]
  unfold emptyS at h
  rw [List.any_eq_false] at h
  have := h x (List.mem_of_getElem? hx)
  simp only [decide_eq_true_eq] at this
  simp only [Option.getD_some]
  omega
theorem whyF_zero {t : Town} {a b : Nat} : whyF t a b = 0 ↔ alikeS t.ear (2 ^ (t.m a).sp.toNat ||| 2 ^ (t.m b).sp.toNat) = true ∧ Vil (t.m a).v (t.m b).v ∧ max (t.m a).lo (t.m b).lo ≤ min (t.m a).hi (t.m b).hi ∧ (t.m a).par ≠ b ∧ (t.m b).par ≠ a := by
  unfold whyF Vil
  split
  · rename_i h
    simp [h]
  · rename_i h
    have h' : alikeS t.ear (2 ^ (t.m a).sp.toNat ||| 2 ^ (t.m b).sp.toNat) = true := by simpa using h
    split
    · rename_i h2
      constructor
      · intro h; omega
      · rintro ⟨_, g, _⟩; omega
    · rename_i h2
      split
      · rename_i h3
        constructor
        · intro h; omega
        · rintro ⟨_, _, g, _⟩; omega
      · rename_i h3
        split
        · rename_i h4
          constructor
          · intro h; omega
          · rintro ⟨_, _, _, g1, g2⟩; rcases h4 with h4 | h4
            · exact absurd h4 g1
            · exact absurd h4 g2
        · rename_i h4
          refine ⟨fun _ => ⟨h', by omega, by omega, fun e => h4 (.inl e), fun e => h4 (.inr e)⟩, fun _ => rfl⟩
theorem get_per {p : List Nat} {i : Nat} (h : i < p.length) : p[i]? = some (per p i) := by
  unfold per
  rw [List.getElem?_eq_getElem h]; rfl
theorem pairs_iff {t : Town} {p : List Nat} (hl : p.length = t.ms.length) : pairsB (fun j i => whyF t j i != 0) p = true ↔ ∀ i, i < t.ms.length → ∀ j, j < i → per p j = per p i → whyF t j i = 0 := by
  unfold pairsB
  rw [List.all_eq_true]
  refine forall_congr' fun i => ?_
  rw [List.mem_range, hl]
  refine imp_congr_right fun hi => ?_
  rw [List.all_eq_true]
  refine forall_congr' fun j => ?_
  rw [List.mem_range]
  refine imp_congr_right fun hj => ?_
  rw [get_per (p := p) (i := i) (by omega), get_per (p := p) (i := j) (by omega)]
  rw [Bool.not_eq_true', Bool.and_eq_false_iff]
  constructor
  · intro h e
    rcases h with h | h
    · rw [e] at h; simp at h
    · simpa using h
  · intro h
    by_cases e : per p j = per p i
    · right; simp [h e]
    · left; simpa using e
theorem ofL_mem {p : List Nat} {who i : Nat} : i ∈ ofL p who ↔ i < p.length ∧ per p i = who := by
  unfold ofL
  rw [List.mem_filter, List.mem_range, beq_iff_eq]
theorem namedR_iff {t : Town} (h : t.OK) {p : List Nat} (hl : p.length = t.ms.length) {who : Nat} (hi : ∃ i, i < t.ms.length ∧ per p i = who) :
    namedR t (ofL p who) = true ↔ Sounds t p who ∧ ∀ i, i < t.ms.length → per p i = who → ∀ j, j < t.ms.length → per p j = who → Vil (t.m i).v (t.m j).v := by
  obtain ⟨i0, hi0, he0⟩ := hi
  have hmem : i0 ∈ ofL p who := ofL_mem.2 ⟨by omega, he0⟩
  unfold namedR
  rw [Bool.and_eq_true, vilB_iff (by omega) (fun i hi => (h.at (by rw [← hl]; exact (ofL_mem.1 hi).1)).v0), Bool.or_eq_true, decide_eq_true_iff, sharedG_iff h.ear h.wf (by
    intro e
    rw [List.map_eq_nil_iff] at e
    rw [e] at hmem; cases hmem)]
  have hS : (∃ g, ∀ j ∈ (ofL p who).map (fun i => (t.m i).sp), g ∈ hearS t.ear j.toNat) ↔ Sounds t p who := by
    refine exists_congr fun g => ⟨fun hg i hi he => hg _ (List.mem_map.2 ⟨i, ofL_mem.2 ⟨by omega, he⟩, rfl⟩), fun hg j hj => ?_⟩
    obtain ⟨i, hi, rfl⟩ := List.mem_map.1 hj
    obtain ⟨h1, h2⟩ := ofL_mem.1 hi
    exact hg i (by omega) h2
  rw [hS]
  have hone : (ofL p who).length < 2 → Sounds t p who := by
    intro h2
    obtain ⟨g, hg⟩ := List.exists_mem_of_ne_nil _ (hearS_ne h.ear (sp_lt h hi0))
    refine ⟨g, fun i hi he => ?_⟩
    have hm2 : i ∈ ofL p who := ofL_mem.2 ⟨by omega, he⟩
    have : i = i0 := by
      match hL : ofL p who, h2, hmem, hm2 with
      | [x], _, a, b =>
        simp only [List.mem_singleton] at a b
        rw [a, b]
    rw [this]; exact hg
  constructor
  · rintro ⟨⟨_, h2⟩, h3⟩
    exact ⟨h3.elim hone id, fun i hi he j hj hf => h2 i (ofL_mem.2 ⟨by omega, he⟩) j (ofL_mem.2 ⟨by omega, hf⟩)⟩
  · rintro ⟨h1, h2⟩
    exact ⟨⟨fun i _ => .inl rfl, fun i hi j hj => h2 i (by rw [← hl]; exact (ofL_mem.1 hi).1) (ofL_mem.1 hi).2 j (by rw [← hl]; exact (ofL_mem.1 hj).1) (ofL_mem.1 hj).2⟩, .inr h1⟩
theorem namedF_iff {t : Town} (h : t.OK) {p : List Nat} (hg : Grp t.ms.length p) : namedF t p = true ↔ ∀ who, who < cnt p → Sounds t p who := by
  unfold namedF
  rw [List.all_eq_true]
  have hle := hg.le
  have h6 := h.ms6
  constructor
  · intro hh who hw
    have := hh who (List.mem_range.2 (by omega))
    rw [Bool.or_eq_true, beq_iff_eq] at this
    have hex := hg.on who hw
    rcases this with this | this
    · exact absurd hex (setP_zero.1 this)
    · exact (alike_set h hex).1 this
  · intro hh who _
    rw [Bool.or_eq_true, beq_iff_eq]
    by_cases hex : ∃ i, i < t.ms.length ∧ per p i = who
    · right
      obtain ⟨i, hi, he⟩ := hex
      exact (alike_set h ⟨i, hi, he⟩).2 (hh who (by rw [← he]; exact hg.lt i hi))
    · exact .inl (setP_zero.2 hex)
theorem can_eq {t : Town} (h : t.OK) (but : Nat → Bool) {p : List Nat} (hp : p ∈ groupsN t.ms.length) :
    ((pairsB (fun j i => whyF t j i != 0) p && lastB t p) && (namedF t p && tiedF t but p)) = canR t but p := by
  have hg := groups_grp hp
  have h6 := h.ms6
  have hle := hg.le
  rw [Bool.eq_iff_iff]
  unfold lastB canR
  simp only [Bool.and_eq_true]
  rw [pairs_iff hg.len, namedF_iff h hg, List.all_eq_true]
  constructor
  · rintro ⟨⟨h1, h2, h3⟩, h4, h5⟩
    have hk1 : Kin1 t p := fun i hi hpi => (kinB_iff.1 h3 i hi hpi).1
    refine ⟨⟨fun who hw => ?_, h5⟩, h3, ?_⟩
    · rw [List.mem_range] at hw
      refine (namedR_iff h hg.len (hg.on who hw)).2 ⟨h4 who hw, fun i hi he j hj hf => ?_⟩
      by_cases hij : i = j
      · subst hij; exact .inr (.inr rfl)
      · by_cases hlt : j < i
        · have := (whyF_zero.1 (h1 i hi j hlt (by rw [he, hf]))).2.1
          unfold Vil at *; omega
        · have := (whyF_zero.1 (h1 j hj i (by omega) (by rw [he, hf]))).2.1
          unfold Vil at *; omega
    · rw [yearsW_empty h hg hk1 (by omega)] at h2; exact h2
  · rintro ⟨⟨h1, h2⟩, h3, h4⟩
    have hk1 : Kin1 t p := fun i hi hpi => (kinB_iff.1 h3 i hi hpi).1
    have hN := fun who hw => (namedR_iff h hg.len (hg.on who hw)).1 (h1 who (List.mem_range.2 hw))
    refine ⟨⟨fun i hi j hj he => ?_, by rw [yearsW_empty h hg hk1 (by omega)]; exact h4, h3⟩, fun who hw => (hN who hw).1, h2⟩
    have hwi := hg.lt i hi
    obtain ⟨⟨g, hs⟩, hv⟩ := hN (per p i) hwi
    refine whyF_zero.2 ⟨(alike_pair h (by omega) hi).2 ⟨g, hs j (by omega) he, hs i hi rfl⟩, hv j (by omega) he i hi rfl, ?_, ?_, ?_⟩
    · have hsub := yearsW_sub h hg hk1 (Nat.le_refl (cnt p))
      have hem : emptyS (yearsW t p (cnt p)) = false := by simpa using h4
      have hne := not_empty_at hem (k := per p i) (by rw [hsub.1, born0_len]; exact hwi)
      have hs2 := hsub.2 (per p i)
      rw [born0_get t p hwi] at hs2
      have b1 := bornAt_le t p (per p i) t.ms.length i hi rfl
      have b2 := bornAt_le t p (per p i) t.ms.length j (by omega) he
      obtain ⟨s1, s2⟩ := hs2
      omega
    · intro e
      have := hk1 j (by omega) (by omega)
      rw [e, Int.toNat_natCast] at this
      exact this he.symm
    · intro e
      have := hk1 i hi (by omega)
      rw [e, Int.toNat_natCast] at this
      exact this he
theorem fair_truths {t : Town} (h : t.OK) (but : Nat → Bool) : fairL t but = truthsL t but := by
  unfold fairL truthsL searchL
  rw [dfs_filter _ _ _ _ rfl, ← groups_eq, List.filter_filter]
  refine List.filter_congr fun p hp => ?_
  rw [← can_eq h but hp, Bool.and_comm]
end Go.Px

namespace Go.Px
open Go.Proofs Go.MapKept
theorem hKI : KeyOK Tryz.prog 3 (IsKey (.int .i64)) := KeyOK.plain (by kernel_rfl)
theorem hKP : KeyOK Tryz.prog 95 (WideKey Tryz.prog 5 95) := KeyOK.wide (m := 5) (by decide) (by kernel_rfl) (by kernel_rfl) (by kernel_rfl)
abbrev pcells (p : List Nat) : List AV := [I (per p 0 : Nat), I (per p 1 : Nat), I (per p 2 : Nat), I (per p 3 : Nat), I (per p 4 : Nat), I (per p 5 : Nat)]
abbrev pval (p : List Nat) : Value := .agg #[.int .i64 (per p 0 : Nat), .int .i64 (per p 1 : Nat), .int .i64 (per p 2 : Nat), .int .i64 (per p 3 : Nat), .int .i64 (per p 4 : Nat), .int .i64 (per p 5 : Nat)]
abbrev scells (b : List Sp) : List AV := [I (spAt b 0).1, I (spAt b 0).2, I (spAt b 1).1, I (spAt b 1).2, I (spAt b 2).1, I (spAt b 2).2, I (spAt b 3).1, I (spAt b 3).2, I (spAt b 4).1, I (spAt b 4).2, I (spAt b 5).1, I (spAt b 5).2]
def GC (b : Book) (k : Value) (v : AV) : Prop := ∃ s : Nat, k = .int .i64 (s : Nat) ∧ v = I (if alikeS b s = true then 1 else 2)
structure PerOK (n : Nat) (p : List Nat) : Prop where
  len : p.length = n
  n6 : n ≤ 6
  lt : ∀ i, per p i < 7
def GK (t : Town) (k : Value) (v : AV) : Prop := ∃ p : List Nat, PerOK t.ms.length p ∧ k = pval p ∧ emptyS (yearsW t p 6) = false ∧ v = .agg (scells (yearsW t p 6))
structure MS (t : Town) where
  c : List (Value × AV)
  k : List (Value × AV)
  hc : MOK (GC t.ear) c
  hk : MOK (GK t) k
def MS.new (t : Town) : MS t := ⟨[], [], MOK.nil _, MOK.nil _⟩
abbrev MS.heap {t : Town} (m : MS t) (g1 g2 : Nat) : Heap := [(g1, .map m.c), (g2, .map m.k)]
abbrev tp (t : Town) (but : Int) (g1 g2 : Nat) : AV := .pi (t.enc ++ [I but, .mo g1, .mo g2])
theorem GC.key {b : Book} {k : Value} {v : AV} (h : GC b k v) : IsKey (.int .i64) k := by
  obtain ⟨s, rfl, _⟩ := h; rfl
theorem wf_small {n : Nat} (h : n < 7) : (Lit.int .i64 (n : Nat)).wf = true := wf_of (by omega) (by omega)
theorem wideP {n : Nat} {p : List Nat} (h : PerOK n p) : WideKey Tryz.prog 5 95 (pval p) := by
  have e6 : Tryz.prog.cellsOf 95 = 6 := by kernel_rfl
  have e3 : Tryz.prog.cellsOf 3 = 1 := by kernel_rfl
  refine ⟨?_, [.int .i64 (per p 0 : Nat), .int .i64 (per p 1 : Nat), .int .i64 (per p 2 : Nat), .int .i64 (per p 3 : Nat), .int .i64 (per p 4 : Nat), .int .i64 (per p 5 : Nat)], ?_⟩
  · simp [Value.formed, Tryz.underlying95, e6]
  · simp [Value.cells, Program.keyLits, Tryz.underlying95, Tryz.underlying3, e6, e3, wf_small (h.lt 0), wf_small (h.lt 1), wf_small (h.lt 2), wf_small (h.lt 3), wf_small (h.lt 4), wf_small (h.lt 5), List.range_succ]
theorem pval_inj {n : Nat} {p q : List Nat} (h6 : n ≤ 6) (hp : p.length = n) (hq : q.length = n) (e : pval p = pval q) : p = q := by
  simp only [pval, Value.agg.injEq, Array.mk.injEq, List.cons.injEq, Value.int.injEq, true_and, Int.natCast_inj, and_true] at e
  obtain ⟨e0, e1, e2, e3, e4, e5⟩ := e
  apply List.ext_getElem?
  intro k
  by_cases hk : k < n
  · rw [get_per (p := p) (by omega), get_per (p := q) (by omega)]
    match k with
    | 0 => rw [e0]
    | 1 => rw [e1]
    | 2 => rw [e2]
    | 3 => rw [e3]
    | 4 => rw [e4]
    | 5 => rw [e5]
    | k + 6 => omega
  · rw [List.getElem?_eq_none (by omega), List.getElem?_eq_none (by omega)]
theorem GK.key {t : Town} {k : Value} {v : AV} (h : GK t k v) : WideKey Tryz.prog 5 95 k := by
  obtain ⟨p, hp, rfl, _⟩ := h
  exact wideP hp
theorem alike_ev {t : Town} (h : t.OK) (but : Int) (g1 g2 : Nat) (s : Nat) (hs : s < 32) (m : MS t) :
    EvR Tryz.prog 137 [tp t but g1 g2, I (s : Nat)] (m.heap g1 g2) (fun r Ho => r = B (alikeS t.ear s) ∧ ∃ m' : MS t, Ho = m'.heap g1 g2) := by
  obtain ⟨o, ho⟩ := mat_ex m.c (.int .i64 (s : Nat))
  have hln : ((t.ear.ss.map Spelling.enc).length : Int) = t.ear.ss.length := by simp
  have h5 := h.ear.ss5
  have isk : IsKey (.int .i64) (.int .i64 (s : Nat)) := rfl
  have hcom := ecommon_ev t.ear h.wf (by omega) (numsF (s : Nat) t.ear.ss.length)
  have hnum : Ev Tryz.prog 79 [I (s : Nat), I (((t.ear.ss.map Spelling.enc).length : Nat) : Int)] (ints (numsF (s : Nat) t.ear.ss.length)) := by
    rw [hln]
    exact Ev.freeze (pnumbers_ev (s : Nat) t.ear.ss.length (by omega) (by omega) (by omega))
  have hal : alikeS t.ear s = decide ((commonR t.ear (numsF (s : Nat) t.ear.ss.length)).2 = 0) := rfl
  generalize (commonR t.ear (numsF (s : Nat) t.ear.ss.length)).1 = c1 at hcom
  generalize (commonR t.ear (numsF (s : Nat) t.ear.ss.length)).2 = c2 at hcom hal
  refine EvR.intro fn137 ?_
  refine LWp.sx (gs := []) (hs := []) rfl trivial ?_
  refine LWp.cutX (Y := MS t × Nat) (fun y => MAt y.1.c (.int .i64 (s : Nat)) (some (y.2, I (if alikeS t.ear s = true then 1 else 2)))) (fun _ => el [(0, tp t but g1 g2), (1, I (s : Nat))]) (fun y => y.1.heap g1 g2) (fun _ => []) ?_ ?_
  · refine LWp.seq (LWp.ops ?_)
    refine WOps.xn (gs := []) (hs := []) 5 rfl rfl trivial ?_
    refine WOps.cons (Op1.lookupO (n := 0) hKI zeroI rfl rfl rfl isk (fun e he => (m.hc.ok e he).key) ho ?_)
    rcases mat_good ho m.hc with rfl | ⟨j, p, rfl, s', hs', rfl⟩
    · refine WOps.xd (gs := []) (hs := []) rfl trivial ?_
      refine LWp.ite (b := true) rfl (fun _ => ?_) (fun h => by cases h)
      refine LWp.seq (LWp.ops ?_)
      refine WOps.xn (gs := []) (hs := []) 5 rfl rfl trivial ?_
      refine WOps.cons (Op1.mapup (n := 0) hKI rfl rfl rfl isk (fun e he => (m.hc.ok e he).key) ho rfl rfl ?_)
      refine WOps.nil ?_
      have w1 : MOK (fun a b => a = .int .i64 (s : Nat) ∨ GC t.ear a b) (mput m.c (.int .i64 (s : Nat)) (I 2) none) := MOK.put ho ((m.hc.weak (.int .i64 (s : Nat))).weak _) (.inl rfl)
      have a1 := mput_at (v := I 2) ho
      generalize hes : mput m.c (.int .i64 (s : Nat)) (I 2) none = es at w1 a1
      refine LWp.ent (Ent.trans (Ent.ofH (H' := [(g1, .map es), (g2, .map m.k)]) (by rw [← hes]; rfl)) (Ent.el (l := [(0, tp t but g1 g2), (1, I (s : Nat))]) ⟨rfl, rfl, trivial⟩)) ?_
      refine LWp.sd (gs := []) (hs := [.ret (ints (numsF (s : Nat) t.ear.ss.length)), .ret (.tup [ints c1, I c2])]) hmix rfl (by kernel_rfl) ⟨hnum, hcom, trivial⟩ ?_
      refine LWp.sx (gs := []) (hs := []) rfl trivial ?_
      by_cases hc : c2 = 0
      · refine LWp.ite (b := true) (by show B _ = B _; exact congrArg B (by rw [hc]; rfl)) (fun _ => ?_) (fun h => by cases h)
        rw [decide_eq_true hc] at hal
        refine LWp.ops ?_
        refine WOps.xn (gs := []) (hs := []) 5 rfl rfl trivial ?_
        have hks : ∀ e ∈ es, IsKey (.int .i64) e.1 := fun e he => (w1.ok e he).elim (fun e => by rw [e]; rfl) GC.key
        refine WOps.cons (Op1.mapup (n := 0) hKI rfl rfl rfl isk hks a1 rfl rfl ?_)
        refine WOps.nil ?_
        have w2 : MOK (GC t.ear) (mput es (.int .i64 (s : Nat)) (I 1) (some (mpos m.c none, I 2))) := MOK.put a1 w1 ⟨s, rfl, by rw [hal]; rfl⟩
        refine ⟨(⟨_, m.k, w2, m.hk⟩, mpos es (some (mpos m.c none, I 2))), ?_, Ent.trans (Ent.ofH rfl) (Ent.el ⟨rfl, rfl, trivial⟩)⟩
        rw [hal]
        exact mput_at (v := I 1) a1
      · refine LWp.ite (b := false) (by show B _ = B _; exact congrArg B (by rw [beq_eq_false_iff_ne]; exact hc)) (fun h => by cases h) (fun _ => LWp.skip ?_)
        rw [decide_eq_false hc] at hal
        have w2 : MOK (GC t.ear) es := ⟨w1.nd, fun e he => by
          rcases w1.ok e he with hk | hg
          · obtain ⟨k', p'⟩ := e
            simp only at hk
            subst hk
            refine ⟨s, rfl, ?_⟩
            cases a1 with
            | some hj =>
              obtain ⟨i, hi⟩ := List.getElem?_of_mem he
              have b1 : (es.map (·.1))[i]? = some (.int .i64 (s : Nat)) := by rw [List.getElem?_map, hi]; rfl
              have b2 : (es.map (·.1))[mpos m.c none]? = some (.int .i64 (s : Nat)) := by rw [List.getElem?_map, hj]; rfl
              have := (List.getElem?_inj (List.getElem?_eq_some_iff.1 b1).1 w1.nd).1 (b1.trans b2.symm)
              rw [this] at hi
              rw [hi] at hj
              rw [hal]
              cases hj; rfl
          · exact hg⟩
        refine ⟨(⟨es, m.k, w2, m.hk⟩, mpos m.c none), ?_, Ent.trans (Ent.ofH rfl) (Ent.el ⟨rfl, rfl, trivial⟩)⟩
        show MAt es _ _
        rw [hal]
        exact a1
    · have e : s' = s := by
        simp only [Value.int.injEq, true_and, Int.natCast_inj] at hs'
        exact hs'.symm
      subst e
      refine WOps.xd (gs := []) (hs := []) rfl trivial ?_
      refine LWp.ite (b := false) ?_ (fun h => by cases h) (fun _ => LWp.skip ?_)
      · show B _ = B _
        refine congrArg B ?_
        split <;> rfl
      exact ⟨(m, j), ho, Ent.trans (Ent.ofH rfl) (Ent.el ⟨rfl, rfl, trivial⟩)⟩
  · rintro ⟨m', j⟩ ho'
    refine LWp.seq (LWp.ops ?_)
    refine WOps.xn (gs := []) (hs := []) 5 rfl rfl trivial ?_
    refine WOps.cons (Op1.lookupO (n := 0) hKI zeroI rfl rfl rfl isk (fun e he => (m'.hc.ok e he).key) ho' ?_)
    refine WOps.xd (gs := []) (hs := []) rfl trivial ?_
    refine LWp.ret ⟨.inr rfl, m'.heap g1 g2, B (alikeS t.ear s), m'.heap g1 g2, rfl, .one (.tmp ?_ rfl), ⟨rfl, m', rfl⟩, List.Sublist.refl _⟩
    show B _ = B _
    refine congrArg B ?_
    cases alikeS t.ear s <;> rfl
end Go.Px

namespace Go.Px
open Go.Proofs Go.MapKept
def ruleB (t : Town) (a b : Nat) : Nat → Bool
  | 0 => !alikeS t.ear (2 ^ (t.m a).sp.toNat ||| 2 ^ (t.m b).sp.toNat)
  | 1 => decide ((t.m a).v ≠ (t.m b).v ∧ (t.m a).v ≠ -1 ∧ (t.m b).v ≠ -1)
  | 2 => decide (max (t.m a).lo (t.m b).lo > min (t.m a).hi (t.m b).hi)
  | 3 => decide ((t.m a).par = b ∨ (t.m b).par = a)
  | _ => false
theorem whyF_rule (t : Town) (a b : Nat) : whyF t a b = if ruleB t a b 0 = true then 1 else if ruleB t a b 1 = true then 2 else if ruleB t a b 2 = true then 3 else if ruleB t a b 3 = true then 4 else 0 := by
  unfold whyF ruleB
  simp only [decide_eq_true_eq, Bool.not_eq_true']
abbrev MRes (t : Town) (g1 g2 : Nat) (res : AV) (r : AV) (Ho : Heap) : Prop := r = res ∧ ∃ m' : MS t, Ho = m'.heap g1 g2
section
variable {t : Town} (h : t.OK) (but : Int) (g1 g2 : Nat) {a b : Nat} (ha : a < t.ms.length) (hb : b < t.ms.length)
include h ha hb
theorem rules1_ev (m : MS t) : EvR Tryz.prog 139 [tp t but g1 g2, I (a : Nat), I (b : Nat)] (m.heap g1 g2) (MRes t g1 g2 (B (ruleB t a b 0))) := by
  obtain ⟨x, hx⟩ := ex_get ha
  obtain ⟨y, hy⟩ := ex_get hb
  have ox := h.men a x hx
  have oy := h.men b y hy
  have h5 := h.ear.ss5
  have px : (1 : Int) * 2 ^ x.sp.toNat < 32 := by
    have := ox.sp0
    have := ox.sp1
    have h2 : (2 : Nat) ^ x.sp.toNat < 2 ^ 5 := Nat.pow_lt_pow_right (by omega) (by omega)
    have h3 : (2 : Int) ^ x.sp.toNat = ((2 ^ x.sp.toNat : Nat) : Int) := by simp
    omega
  have py : (1 : Int) * 2 ^ y.sp.toNat < 32 := by
    have := oy.sp0
    have := oy.sp1
    have h2 : (2 : Nat) ^ y.sp.toNat < 2 ^ 5 := Nat.pow_lt_pow_right (by omega) (by omega)
    have h3 : (2 : Int) ^ y.sp.toNat = ((2 ^ y.sp.toNat : Nat) : Int) := by simp
    omega
  have px0 : 0 ≤ (1 : Int) * 2 ^ x.sp.toNat := by have : (0 : Int) < 2 ^ x.sp.toNat := Int.pow_pos (by omega); omega
  have py0 : 0 ≤ (1 : Int) * 2 ^ y.sp.toNat := by have : (0 : Int) < 2 ^ y.sp.toNat := Int.pow_pos (by omega); omega
  have hs : 2 ^ x.sp.toNat ||| 2 ^ y.sp.toNat < 32 := by
    have h1 := one_pow x.sp.toNat
    have h2 := one_pow y.sp.toNat
    exact Nat.or_lt_two_pow (n := 5) (by omega) (by omega)
  have hal := alike_ev h but g1 g2 _ hs m
  have hr : ruleB t a b 0 = !alikeS t.ear (2 ^ x.sp.toNat ||| 2 ^ y.sp.toNat) := by simp only [ruleB, Town.m_get hx, Town.m_get hy]
  rw [← one_pow x.sp.toNat, ← one_pow y.sp.toNat] at hal
  rw [← one_pow x.sp.toNat, ← one_pow y.sp.toNat] at hr
  have sx0 := ox.sp0
  have sx1 := ox.sp1
  have sy0 := oy.sp0
  have sy1 := oy.sp1
  refine EvR.intro fn139 ?_
  refine LWp.sx (gs := []) (hs := []) rfl trivial ?_
  refine LWp.seq (LWp.d (gs := []) (hs := [.cells x.enc, .cells y.enc]) hmix rfl (by kernel_rfl) ⟨⟨by omega, by simp [hx]⟩, ⟨by omega, by omega, by omega, by omega⟩, ⟨by omega, by simp [hy]⟩, ⟨by omega, by omega, by omega, by omega⟩, ⟨⟨px0, by omega⟩, py0, by omega⟩, trivial⟩ ?_)
  refine WOps.cons (Op1.callR (Hin := m.heap g1 g2) (H0 := []) hal rfl rfl (SubL.refl _) (by simp) ?_)
  rintro res Hout ⟨rfl, m', rfl⟩
  refine WOps.xd (gs := []) (hs := []) rfl trivial ?_
  refine LWp.ret ⟨.inr rfl, m'.heap g1 g2, B (ruleB t a b 0), m'.heap g1 g2, by rw [List.append_nil]; rfl, .one (.tmp ?_ rfl), ⟨rfl, m', rfl⟩, List.Sublist.refl _⟩
  show B _ = B _
  rw [hr]
end
section
variable {t : Town} (but : Int) (g1 g2 : Nat) {a b : Nat} (ha : a < t.ms.length) (hb : b < t.ms.length)
include ha hb
theorem rules2_ev : Ev Tryz.prog 140 [tp t but g1 g2, I (a : Nat), I (b : Nat)] (B (ruleB t a b 1)) := by
  obtain ⟨x, hx⟩ := ex_get ha
  obtain ⟨y, hy⟩ := ex_get hb
  have hr : ruleB t a b 1 = decide (x.v ≠ y.v ∧ x.v ≠ -1 ∧ y.v ≠ -1) := by simp only [ruleB, Town.m_get hx, Town.m_get hy]
  refine Ev.intro fn140 ?_
  refine LWp.sx (gs := []) (hs := []) rfl trivial ?_
  refine LWp.sd (gs := []) (hs := [.cells x.enc, .cells y.enc]) hmix rfl (by kernel_rfl) ⟨⟨by omega, by simp [hx]⟩, ⟨by omega, by simp [hy]⟩, trivial⟩ ?_
  rw [hr]
  by_cases h1 : x.v = y.v
  · refine LWp.sx (gs := [(30, false), (34, false)]) (hs := []) rfl (by simp [h1]) ?_
    refine LWp.ret (retT (.inr rfl) (.one (.tmp ?_ rfl)))
    show B _ = B _
    simp [h1]
  · by_cases h2 : x.v = -1
    · refine LWp.sx (gs := [(30, true), (34, false)]) (hs := []) rfl (by simp [h2]; omega) ?_
      refine LWp.ret (retT (.inr rfl) (.one (.tmp ?_ rfl)))
      show B _ = B _
      simp [h2]
    · refine LWp.sx (gs := [(30, true), (34, true)]) (hs := []) rfl (by simp [h1, h2]) ?_
      refine LWp.ret (retT (.inr rfl) (.one (.tmp ?_ rfl)))
      show B _ = B _
      refine congrArg B ?_
      rw [Bool.eq_iff_iff]; simp [h1, h2]
theorem rules3_ev : Ev Tryz.prog 141 [tp t but g1 g2, I (a : Nat), I (b : Nat)] (B (ruleB t a b 2)) := by
  obtain ⟨x, hx⟩ := ex_get ha
  obtain ⟨y, hy⟩ := ex_get hb
  have hr : ruleB t a b 2 = decide (max x.lo y.lo > min x.hi y.hi) := by simp only [ruleB, Town.m_get hx, Town.m_get hy]
  refine Ev.intro fn141 ?_
  refine LWp.sx (gs := []) (hs := []) rfl trivial ?_
  refine LWp.sd (gs := []) (hs := [.cells x.enc, .cells y.enc, .lin, .lin]) hmix rfl (by kernel_rfl) (by (repeat' (with_reducible apply And.intro)); (all_goals first | (with_reducible exact trivial) | (with_reducible rfl) | (with_reducible assumption) | ((with_reducible apply isB); first | exact rfl | exact beq_self_eq_true _) | omega | ((first | rfl | (simp [hx]; done) | (simp [hy]; done) | decide)))) ?_
  refine LWp.ent (Ent.trans (Ent.freezeLbox (t := 7) rfl) (Ent.freezeLbox (t := 8) rfl)) ?_
  refine LWp.sx (gs := []) (hs := []) rfl trivial ?_
  rw [hr]
  refine LWp.ret (retT (.inr rfl) (.one (.tmp ?_ rfl)))
  rfl
theorem rules4_ev : Ev Tryz.prog 142 [tp t but g1 g2, I (a : Nat), I (b : Nat)] (B (ruleB t a b 3)) := by
  obtain ⟨x, hx⟩ := ex_get ha
  obtain ⟨y, hy⟩ := ex_get hb
  have hr : ruleB t a b 3 = decide (x.par = b ∨ y.par = a) := by simp only [ruleB, Town.m_get hx, Town.m_get hy]
  refine Ev.intro fn142 ?_
  refine LWp.sx (gs := []) (hs := []) rfl trivial ?_
  rw [hr]
  by_cases h1 : x.par = b
  · refine LWp.sx (gs := [(18, true)]) (hs := [.cells x.enc]) rfl (by simp [h1, hx]) ?_
    refine LWp.ret (retT (.inr rfl) (.one (.tmp ?_ rfl)))
    show B _ = B _
    simp [h1]
  · refine LWp.sx (gs := [(18, false)]) (hs := [.cells x.enc, .cells y.enc]) rfl (by simp [h1, hx, hy]) ?_
    refine LWp.ret (retT (.inr rfl) (.one (.tmp ?_ rfl)))
    show B _ = B _
    refine congrArg B ?_
    rw [Bool.eq_iff_iff]; simp [h1]
end
abbrev rulesE : List (List AV) := [[I 1, .fn (.func 139) [] []], [I 2, .fn (.func 140) [] []], [I 3, .fn (.func 141) [] []], [I 4, .fn (.func 142) [] []]]
theorem rules_ev : Ev Tryz.prog 115 [] (.sl 2 rulesE) := by
  refine Ev.intro fn115 ?_
  refine LWp.sx (gs := []) (hs := []) rfl trivial ?_
  refine LWp.sx (gs := []) (hs := [.ice]) rfl ⟨rfl, trivial⟩ ?_
  refine LWp.ret (retT (.inr rfl) (.one (.tmp ?_ rfl)))
  rfl
end Go.Px

namespace Go.Px
open Go.Proofs Go.MapKept
theorem retM {P : Program} {t : Town} {g1 g2 : Nat} {u : Nat} {env : Env} {p res : AV} {m : MS t} (h : env u = p) (hp : p.isLin = false) (e : p = res) : retR P [.tmp u] (MRes t g1 g2 res) .ret env (m.heap g1 g2) [] :=
  ⟨.inr rfl, m.heap g1 g2, p, m.heap g1 g2, rfl, .one (.tmp h hp), ⟨e, m, rfl⟩, List.Sublist.refl _⟩
theorem why_ev {t : Town} (h : t.OK) (but : Int) (g1 g2 : Nat) {a b : Nat} (ha : a < t.ms.length) (hb : b < t.ms.length) (m : MS t) :
    EvR Tryz.prog 76 [tp t but g1 g2, I (a : Nat), I (b : Nat)] (m.heap g1 g2) (MRes t g1 g2 (I (whyF t a b))) := by
  have hE : ∀ m : MS t, EvR Tryz.prog 139 [tp t but g1 g2, I (a : Nat), I (b : Nat)] (m.heap g1 g2) (MRes t g1 g2 (B (ruleB t a b 0))) := fun m => rules1_ev h but g1 g2 ha hb m
  have pure2 : ∀ {f : Nat} {v : AV} (m : MS t), Ev Tryz.prog f [tp t but g1 g2, I (a : Nat), I (b : Nat)] v → EvR Tryz.prog f [tp t but g1 g2, I (a : Nat), I (b : Nat)] (m.heap g1 g2) (MRes t g1 g2 v) :=
    fun m e => (e.toR (m.heap g1 g2)).mono fun _ _ ⟨h1, h2⟩ => ⟨h1, m, h2⟩
  refine EvR.intro fn76 ?_
  refine LWp.sx (gs := []) (hs := []) rfl trivial ?_
  refine LWp.seq (LWp.seq ?_)
  refine LWp.x (gs := []) (hs := [.ret (.sl 2 rulesE)]) rfl ⟨rules_ev, trivial⟩ ?_
  refine LWp.blockT (fun _ : MS t => ∀ j, j < 4 → ruleB t a b j = false) (fun _ => el []) (fun m => m.heap g1 g2) (fun _ => []) ?_ ?_
  · refine LWp.loopN (X := Nat × MS t) (fun x => x.1 ≤ 4 ∧ ∀ j, j < x.1 → ruleB t a b j = false) (fun x => el [(0, tp t but g1 g2), (1, I (a : Nat)), (2, I (b : Nat)), (9, .sl 2 rulesE), (10, I 4), (11, I x.1)]) (fun x => x.2.heap g1 g2) (fun _ => []) (fun x => 4 - x.1) (0, m) ⟨by simp, by intro j hj; simp at hj⟩
      (Ent.el ⟨rfl, rfl, rfl, rfl, rfl, rfl, trivial⟩) ?_
    rintro ⟨k, m⟩ ⟨hk, hp⟩
    simp only at hk hp ⊢
    refine LWp.sx (gs := []) (hs := []) rfl trivial ?_
    refine LWp.seq (LWp.ite rfl (fun hc => ?_) (fun hc => ?_))
    · simp only [decide_eq_true_eq] at hc
      refine LWp.skip (LWp.seq (LWp.block ?_))
      have hk4 : k = 0 ∨ k = 1 ∨ k = 2 ∨ k = 3 := by omega
      rcases hk4 with rfl | rfl | rfl | rfl
      · refine LWp.sx (gs := []) (hs := [.cells [I 1, .fn (.func 139) [] []], .lin]) rfl ⟨⟨by omega, rfl⟩, rfl, ⟨rfl, rfl, rfl, by decide⟩, trivial⟩ ?_
        refine LWp.ent (Ent.freezeLbox (t := 8) rfl) ?_
        refine LWp.seq (LWp.ops ?_)
        refine WOps.xn (gs := []) (hs := []) 5 rfl rfl trivial ?_
        refine WOps.cons (Op1.callvR (Hin := m.heap g1 g2) (H0 := []) rfl (by exact hE m) rfl rfl (SubL.refl _) (by simp) ?_)
        rintro res Hout ⟨rfl, m', rfl⟩
        refine WOps.nil ?_
        refine LWp.ite (b := ruleB t a b 0) rfl (fun hb => ?_) (fun hb => ?_)
        · refine LWp.ent (Ent.ofH (H' := m'.heap g1 g2) (by simp)) ?_
          refine LWp.sx (gs := []) (hs := []) rfl trivial ?_
          refine LWp.ret (retM (t := t) (g1 := g1) (g2 := g2) (m := m') rfl rfl ?_)
          show I _ = I _
          rw [whyF_rule]
          simp [hp, hb]
        · refine LWp.skip ?_
          refine LWp.x (gs := []) (hs := []) rfl ⟨by omega, trivial⟩ ?_
          refine ⟨(0 + 1, m'), ⟨by simp only; omega, fun j hj => ?_⟩, by simp only; omega, Ent.trans (Ent.ofH (H' := m'.heap g1 g2) (by simp)) (Ent.el ⟨rfl, rfl, rfl, rfl, rfl, rfl, trivial⟩)⟩
          simp only at hj
          by_cases e : j = 0
          · rw [e]; exact hb
          · exact hp j (by omega)

      · refine LWp.sx (gs := []) (hs := [.cells [I 2, .fn (.func 140) [] []], .lin]) rfl ⟨⟨by omega, rfl⟩, rfl, ⟨rfl, rfl, rfl, by decide⟩, trivial⟩ ?_
        refine LWp.ent (Ent.freezeLbox (t := 8) rfl) ?_
        refine LWp.seq (LWp.ops ?_)
        refine WOps.xn (gs := []) (hs := []) 5 rfl rfl trivial ?_
        refine WOps.cons (Op1.callvR (Hin := m.heap g1 g2) (H0 := []) rfl (by exact pure2 m (rules2_ev but g1 g2 ha hb)) rfl rfl (SubL.refl _) (by simp) ?_)
        rintro res Hout ⟨rfl, m', rfl⟩
        refine WOps.nil ?_
        refine LWp.ite (b := ruleB t a b 1) rfl (fun hb => ?_) (fun hb => ?_)
        · refine LWp.ent (Ent.ofH (H' := m'.heap g1 g2) (by simp)) ?_
          refine LWp.sx (gs := []) (hs := []) rfl trivial ?_
          refine LWp.ret (retM (t := t) (g1 := g1) (g2 := g2) (m := m') rfl rfl ?_)
          show I _ = I _
          rw [whyF_rule]
          simp [hp, hb]
        · refine LWp.skip ?_
          refine LWp.x (gs := []) (hs := []) rfl ⟨by omega, trivial⟩ ?_
          refine ⟨(1 + 1, m'), ⟨by simp only; omega, fun j hj => ?_⟩, by simp only; omega, Ent.trans (Ent.ofH (H' := m'.heap g1 g2) (by simp)) (Ent.el ⟨rfl, rfl, rfl, rfl, rfl, rfl, trivial⟩)⟩
          simp only at hj
          by_cases e : j = 1
          · rw [e]; exact hb
          · exact hp j (by omega)

      · refine LWp.sx (gs := []) (hs := [.cells [I 3, .fn (.func 141) [] []], .lin]) rfl ⟨⟨by omega, rfl⟩, rfl, ⟨rfl, rfl, rfl, by decide⟩, trivial⟩ ?_
        refine LWp.ent (Ent.freezeLbox (t := 8) rfl) ?_
        refine LWp.seq (LWp.ops ?_)
        refine WOps.xn (gs := []) (hs := []) 5 rfl rfl trivial ?_
        refine WOps.cons (Op1.callvR (Hin := m.heap g1 g2) (H0 := []) rfl (by exact pure2 m (rules3_ev but g1 g2 ha hb)) rfl rfl (SubL.refl _) (by simp) ?_)
        rintro res Hout ⟨rfl, m', rfl⟩
        refine WOps.nil ?_
        refine LWp.ite (b := ruleB t a b 2) rfl (fun hb => ?_) (fun hb => ?_)
        · refine LWp.ent (Ent.ofH (H' := m'.heap g1 g2) (by simp)) ?_
          refine LWp.sx (gs := []) (hs := []) rfl trivial ?_
          refine LWp.ret (retM (t := t) (g1 := g1) (g2 := g2) (m := m') rfl rfl ?_)
          show I _ = I _
          rw [whyF_rule]
          simp [hp, hb]
        · refine LWp.skip ?_
          refine LWp.x (gs := []) (hs := []) rfl ⟨by omega, trivial⟩ ?_
          refine ⟨(2 + 1, m'), ⟨by simp only; omega, fun j hj => ?_⟩, by simp only; omega, Ent.trans (Ent.ofH (H' := m'.heap g1 g2) (by simp)) (Ent.el ⟨rfl, rfl, rfl, rfl, rfl, rfl, trivial⟩)⟩
          simp only at hj
          by_cases e : j = 2
          · rw [e]; exact hb
          · exact hp j (by omega)

      · refine LWp.sx (gs := []) (hs := [.cells [I 4, .fn (.func 142) [] []], .lin]) rfl ⟨⟨by omega, rfl⟩, rfl, ⟨rfl, rfl, rfl, by decide⟩, trivial⟩ ?_
        refine LWp.ent (Ent.freezeLbox (t := 8) rfl) ?_
        refine LWp.seq (LWp.ops ?_)
        refine WOps.xn (gs := []) (hs := []) 5 rfl rfl trivial ?_
        refine WOps.cons (Op1.callvR (Hin := m.heap g1 g2) (H0 := []) rfl (by exact pure2 m (rules4_ev but g1 g2 ha hb)) rfl rfl (SubL.refl _) (by simp) ?_)
        rintro res Hout ⟨rfl, m', rfl⟩
        refine WOps.nil ?_
        refine LWp.ite (b := ruleB t a b 3) rfl (fun hb => ?_) (fun hb => ?_)
        · refine LWp.ent (Ent.ofH (H' := m'.heap g1 g2) (by simp)) ?_
          refine LWp.sx (gs := []) (hs := []) rfl trivial ?_
          refine LWp.ret (retM (t := t) (g1 := g1) (g2 := g2) (m := m') rfl rfl ?_)
          show I _ = I _
          rw [whyF_rule]
          simp [hp, hb]
        · refine LWp.skip ?_
          refine LWp.x (gs := []) (hs := []) rfl ⟨by omega, trivial⟩ ?_
          refine ⟨(3 + 1, m'), ⟨by simp only; omega, fun j hj => ?_⟩, by simp only; omega, Ent.trans (Ent.ofH (H' := m'.heap g1 g2) (by simp)) (Ent.el ⟨rfl, rfl, rfl, rfl, rfl, rfl, trivial⟩)⟩
          simp only at hj
          by_cases e : j = 3
          · rw [e]; exact hb
          · exact hp j (by omega)

    · simp only [decide_eq_false_iff_not] at hc
      have : k = 4 := by omega
      subst this
      exact LWp.exit ⟨m, hp, Ent.el trivial⟩
  · intro m' hp
    refine LWp.sx (gs := []) (hs := []) rfl trivial ?_
    refine LWp.ret (retM (t := t) (g1 := g1) (g2 := g2) (m := m') rfl rfl ?_)
    show I _ = I _
    rw [whyF_rule]
    simp [hp]
end Go.Px

namespace Go.Px
open Go.Proofs Go.MapKept
theorem pre_pc (p : List Nat) {k : Nat} (h : k < 6) : [I (per p k : Nat)] <+: (pcells p).drop (k * 1) := by
  match k, h with
  | 0, _ => exact ⟨_, rfl⟩
  | 1, _ => exact ⟨_, rfl⟩
  | 2, _ => exact ⟨_, rfl⟩
  | 3, _ => exact ⟨_, rfl⟩
  | 4, _ => exact ⟨_, rfl⟩
  | 5, _ => exact ⟨_, rfl⟩
def butF (but : Int) (i : Nat) : Bool := givesB but i
theorem butF_zero {but : Int} {i : Nat} : (((((but / 2 ^ ((i : Nat) : Int).toNat).toNat &&& (1 : Int).toNat : Nat) : Int)) == 0) = !butF but i := by
  unfold butF givesB
  generalize (but / 2 ^ ((i : Nat) : Int).toNat).toNat = n
  have : n &&& (1 : Int).toNat = n % 2 := Nat.and_one_is_mod n
  rw [this, Bool.eq_iff_iff]
  simp only [beq_iff_eq, Bool.not_eq_true', beq_eq_false_iff_ne]
  omega
def tieAtB (t : Town) (but : Nat → Bool) (p : List Nat) (i : Nat) : Bool := but i || (match t.ties[i]? with | some x => tieB p x | none => true)
theorem tiedF_all (t : Town) (but : Nat → Bool) (p : List Nat) : tiedF t but p = (List.range t.ties.length).all (tieAtB t but p) := rfl
theorem tieAt_some {t : Town} {but : Nat → Bool} {p : List Nat} {i : Nat} {x : Tie} (h : t.ties[i]? = some x) : tieAtB t but p i = (but i || tieB p x) := by
  unfold tieAtB; rw [h]
theorem wfI {n : Int} (h0 : 0 ≤ n) (h1 : n < 64) : (Lit.int .i64 n).wf = true := wf_of h0 h1
abbrev tval (x : Tie) : Value := .agg #[.int .i64 x.a, .int .i64 x.b, .bool x.same]
theorem wideTie {x : Tie} (a0 : 0 ≤ x.a) (a1 : x.a < 64) (b0 : 0 ≤ x.b) (b1 : x.b < 64) : WideKey Tryz.prog 5 63 (tval x) := by
  have e6 : Tryz.prog.cellsOf 63 = 3 := by kernel_rfl
  have e3 : Tryz.prog.cellsOf 3 = 1 := by kernel_rfl
  have e4 : Tryz.prog.cellsOf 4 = 1 := by kernel_rfl
  have hb : (Lit.bool x.same).wf = true := rfl
  refine ⟨?_, [.int .i64 x.a, .int .i64 x.b, .bool x.same], ?_⟩
  · simp [Value.formed, Tryz.underlying63, e6]
  · simp [Value.cells, Program.keyLits, Tryz.underlying63, Tryz.underlying3, Tryz.underlying4, e6, e3, e4, wfI a0 a1, wfI b0 b1]
theorem tval_eq {x y : Tie} : tval x = tval y ↔ x = y := by
  constructor
  · intro h
    simp only [tval, Value.agg.injEq, Array.mk.injEq, List.cons.injEq, Value.int.injEq, Value.bool.injEq, true_and, and_true] at h
    obtain ⟨h1, h2, h3⟩ := h
    cases x; cases y
    simp only at h1 h2 h3
    subst h1 h2 h3
    rfl
  · rintro rfl; rfl
theorem op_eqTie {d : Nat} {a b : Operand} {env : Env} {H : Heap} {x y : Tie} (ha : evO env a = .agg x.enc) (hb : evO env b = .agg y.enc) (wx : WideKey Tryz.prog 5 63 (tval x)) (wy : WideKey Tryz.prog 5 63 (tval y)) :
    ∀ (r : Option Nat) (N : Nat) (D : List Nat), Q1 Tryz.prog r N (.eqT false 63 a b) (some d) env H D [(d, B (decide (x = y)))] := by
  intro r N D
  exact Op1.eqT (m := 5) (DD := 5) (by decide) (by kernel_rfl) (by kernel_rfl) (by kernel_rfl) (by kernel_rfl) (u := tval x) (v := tval y) (by rw [ha]; rfl) (by rw [hb]; rfl) wx wy (decide (x = y)) (by rw [decide_eq_true_iff]; exact tval_eq.symm) ⟨rfl, rfl, rfl⟩
set_option maxHeartbeats 2000000 in
theorem tied_ev {t : Town} (h : t.OK) (but : Int) (h0 : 0 ≤ but) (h1 : but < 9223372036854775808) (g1 g2 : Nat) (p : List Nat) : Ev Tryz.prog 108 [tp t but g1 g2, .agg (pcells p)] (B (tiedF t (butF but) p)) := by
  have hln : ((t.ties.map Tie.enc).length : Int) = t.ties.length := by simp
  have ht4 := h.ties4
  have hm6 := h.ms6
  have hq : ∀ i : Nat, 0 ≤ but / 2 ^ ((i : Nat) : Int).toNat ∧ but / 2 ^ ((i : Nat) : Int).toNat ≤ but := fun i => ⟨Int.ediv_nonneg h0 (Int.le_of_lt (Int.pow_pos (by omega))), Int.ediv_le_self _ h0⟩
  have hU : Tryz.prog.underlying 4 = some .bool := by kernel_rfl
  refine Ev.intro fn108 ?_
  refine LWp.sx (gs := []) (hs := [.ice]) rfl ⟨⟨rfl, rfl⟩, trivial⟩ ?_
  refine LWp.seq (LWp.seq ?_)
  refine LWp.x (gs := []) (hs := []) rfl trivial ?_
  refine LWp.blockT (fun _ : Unit => tiedF t (butF but) p = true) (fun _ => el []) (fun _ => []) (fun _ => []) ?_ ?_
  · refine LWp.loopN (fun k : Nat => k ≤ t.ties.length ∧ ∀ j, j < k → tieAtB t (butF but) p j = true) (fun k => el [(0, tp t but g1 g2), (3, .pi (pcells p)), (11, tiesV t.ties), (12, I t.ties.length), (13, I k)]) (fun _ => []) (fun _ => []) (fun k => t.ties.length - k) 0 ⟨by omega, by intro j hj; omega⟩
      (Ent.el ⟨rfl, rfl, rfl, by show I _ = I _; rw [hln], rfl, trivial⟩) ?_
    rintro k ⟨hk, hp⟩
    refine LWp.sx (gs := []) (hs := []) rfl trivial ?_
    refine LWp.seq (LWp.ite rfl (fun hc => ?_) (fun hc => ?_))
    · simp only [decide_eq_true_eq, Int.ofNat_lt] at hc
      obtain ⟨x, hx⟩ := ex_get hc
      obtain ⟨a0, a1, b0, b1, hab⟩ := h.tie x (List.mem_of_getElem? hx)
      have hat := tieAt_some (but := butF but) (p := p) hx
      refine LWp.skip (LWp.seq (LWp.block ?_))
      refine LWp.sx (gs := []) (hs := [.cells x.enc, .lin]) rfl ⟨⟨by omega, by simp [hx]⟩, rfl, ⟨rfl, rfl, rfl, by decide⟩, trivial⟩ ?_
      refine LWp.ent (Ent.freezeLbox (t := 6) rfl) ?_
      have next : tieAtB t (butF but) p k = true → ∀ j, j < k + 1 → tieAtB t (butF but) p j = true := by
        intro he j hj
        by_cases e : j = k
        · rw [e]; exact he
        · exact hp j (by omega)
      refine LWp.seq (LWp.cutX (fun sk : Bool => sk = true → tieAtB t (butF but) p k = true) (fun sk => el [(0, tp t but g1 g2), (3, .pi (pcells p)), (5, I (k : Nat)), (6, .pi x.enc), (11, tiesV t.ties), (12, I t.ties.length), (13, I k), (43, B sk)]) (fun _ => []) (fun _ => []) ?_ ?_)
      · cases k with
        | zero =>
          refine LWp.dd (gs := [(20, false), (33, false)]) (hs := []) hmix rfl (by kernel_rfl) (by (repeat' (with_reducible apply And.intro)); (all_goals first | (with_reducible exact trivial) | (with_reducible rfl) | (with_reducible assumption) | ((with_reducible apply isB); first | exact rfl | exact beq_self_eq_true _) | omega | ((rfl)))) ?_
          exact ⟨false, (fun h => by cases h), Ent.el ⟨rfl, rfl, rfl, rfl, rfl, rfl, rfl, rfl, trivial⟩⟩
        | succ j =>
          obtain ⟨y, hy⟩ := ex_get (l := t.ties) (k := j) (by omega)
          obtain ⟨c0, c1, d0, d1, _⟩ := h.tie y (List.mem_of_getElem? hy)
          have ej : ((j + 1 : Nat) : Int) - 1 = j := by omega
          have hgt : decide (((j + 1 : Nat) : Int) > 0) = true := decide_eq_true (by omega)
          have hy' : (t.ties.map Tie.enc)[(((j + 1 : Nat) : Int) - 1).toNat]? = some y.enc := by rw [ej]; simp [hy]
          have hq1 : 0 ≤ but / 2 ^ (((j + 1 : Nat) : Int) - 1).toNat := by rw [ej]; exact (hq j).1
          have hq2 : but / 2 ^ (((j + 1 : Nat) : Int) - 1).toNat < 9223372036854775808 := by rw [ej]; have := hq j; omega
          have wx := wideTie a0 (by omega) b0 (by omega)
          have wy := wideTie c0 (by omega) d0 (by omega)
          by_cases hxy : x = y
          · have hxy' := decide_eq_true hxy
            refine LWp.dd (gs := [(20, true), (33, true)]) (hs := [.cells y.enc, .op (B (decide (x = y)))]) hmix rfl (by kernel_rfl) (by (repeat' (with_reducible apply And.intro)); (all_goals first | (with_reducible exact trivial) | (with_reducible rfl) | (with_reducible assumption) | ((with_reducible apply isB); first | exact rfl | exact beq_self_eq_true _) | omega | ((exact op_eqTie rfl rfl wx wy)))) ?_
            refine ⟨!butF but j, fun hb => ?_, Ent.el ⟨rfl, rfl, rfl, rfl, rfl, rfl, rfl, ?_, trivial⟩⟩
            · have hp1 := hp j (by omega)
              rw [tieAt_some hy] at hp1
              rw [hat, hxy]
              have : butF but j = false := by simpa using hb
              rw [this, Bool.false_or] at hp1
              rw [hp1, Bool.or_true]
            · show B (((((but / 2 ^ (((j + 1 : Nat) : Int) - 1).toNat).toNat &&& (1 : Int).toNat : Nat) : Int)) == 0) = B _
              rw [ej]
              exact congrArg B butF_zero
          · have hxy' := decide_eq_false hxy
            refine LWp.dd (gs := [(20, true), (33, false)]) (hs := [.cells y.enc, .op (B (decide (x = y)))]) hmix rfl (by kernel_rfl) (by (repeat' (with_reducible apply And.intro)); (all_goals first | (with_reducible exact trivial) | (with_reducible rfl) | (with_reducible assumption) | ((with_reducible apply isB); first | exact rfl | exact beq_self_eq_true _) | omega | ((exact op_eqTie rfl rfl wx wy)))) ?_
            exact ⟨false, (fun h => by cases h), Ent.el ⟨rfl, rfl, rfl, rfl, rfl, rfl, rfl, rfl, trivial⟩⟩
      · intro sk hsk
        refine LWp.ite (b := sk) rfl (fun hb => ?_) (fun _ => LWp.skip ?_)
        · refine LWp.exit ?_
          refine LWp.x (gs := []) (hs := []) rfl ⟨by omega, trivial⟩ ?_
          exact ⟨k + 1, ⟨hc, next (hsk hb)⟩, by omega, Ent.el ⟨rfl, rfl, rfl, rfl, rfl, trivial⟩⟩
        · have hk1 : 0 ≤ but / 2 ^ ((k : Nat) : Int).toNat := (hq k).1
          have hk2 : but / 2 ^ ((k : Nat) : Int).toNat < 9223372036854775808 := by have := hq k; omega
          have hz := butF_zero (but := but) (i := k)
          refine LWp.cutX (fun _ : Unit => True) (fun _ => el [(0, tp t but g1 g2), (3, .pi (pcells p)), (11, tiesV t.ties), (12, I t.ties.length), (13, I k), (65, B (!tieAtB t (butF but) p k))]) (fun _ => []) (fun _ => []) ?_ ?_
          · cases hb : butF but k with
            | true =>
              have hz0 : (((((but / 2 ^ ((k : Nat) : Int).toNat).toNat &&& (1 : Int).toNat : Nat) : Int)) == 0) = false := by rw [hz, hb]; rfl
              refine LWp.dd (gs := [(52, false)]) (hs := []) hmix rfl (by kernel_rfl) (by (repeat' (with_reducible apply And.intro)); (all_goals first | (with_reducible exact trivial) | (with_reducible rfl) | (with_reducible assumption) | ((with_reducible apply isB); first | exact rfl | exact beq_self_eq_true _) | omega | ((rfl)))) ?_
              refine ⟨(), trivial, Ent.el ⟨rfl, rfl, rfl, rfl, rfl, ?_, trivial⟩⟩
              show B false = B _
              rw [hat, hb]; rfl
            | false =>
              have hz0 : (((((but / 2 ^ ((k : Nat) : Int).toNat).toNat &&& (1 : Int).toNat : Nat) : Int)) == 0) = true := by rw [hz, hb]; rfl
              have ea := pre_pc p (k := x.a.toNat) (by omega)
              have eb := pre_pc p (k := x.b.toNat) (by omega)
              refine LWp.dd (gs := [(52, true)]) (hs := [.pre [I (per p x.a.toNat : Nat)], .pre [I (per p x.b.toNat : Nat)]]) hmix rfl (by kernel_rfl) (by (repeat' (with_reducible apply And.intro)); (all_goals first | (with_reducible exact trivial) | (with_reducible rfl) | (with_reducible assumption) | ((with_reducible apply isB); first | exact rfl | exact beq_self_eq_true _) | omega | ((rfl)))) ?_
              refine ⟨(), trivial, Ent.el ⟨rfl, rfl, rfl, rfl, rfl, ?_, trivial⟩⟩
              show B ((((per p x.a.toNat : Nat) : Int) == ((per p x.b.toNat : Nat) : Int)) != x.same) = B _
              rw [hat, hb]
              refine congrArg B ?_
              unfold tieB
              rw [show (((per p x.a.toNat : Nat) : Int) == ((per p x.b.toNat : Nat) : Int)) = (per p x.a.toNat == per p x.b.toNat) by rw [Bool.eq_iff_iff, beq_iff_eq, beq_iff_eq]; omega]
              cases (per p x.a.toNat == per p x.b.toNat) <;> cases x.same <;> rfl
          intro _ _
          refine LWp.ite rfl (fun hb => ?_) (fun hb => LWp.skip ?_)
          · have hb' : tieAtB t (butF but) p k = false := by simpa using hb
            refine LWp.sx (gs := []) (hs := []) rfl trivial ?_
            refine LWp.ret (retT (.inr rfl) (.one (.tmp ?_ rfl)))
            show B false = B _
            refine congrArg B ?_
            symm
            rw [tiedF_all, List.all_eq_false]
            exact ⟨k, List.mem_range.2 hc, by rw [hb']; decide⟩
          · have hb' : tieAtB t (butF but) p k = true := by simpa using hb
            refine LWp.x (gs := []) (hs := []) rfl ⟨by omega, trivial⟩ ?_
            exact ⟨k + 1, ⟨hc, next hb'⟩, by omega, Ent.el ⟨rfl, rfl, rfl, rfl, rfl, trivial⟩⟩
    · simp only [decide_eq_false_iff_not, Int.ofNat_lt] at hc
      refine LWp.exit ⟨(), ?_, Ent.el trivial⟩
      rw [tiedF_all, List.all_eq_true]
      intro j hj
      exact hp j (by have := List.mem_range.1 hj; omega)
  · intro _ hT
    refine LWp.sx (gs := []) (hs := []) rfl trivial ?_
    refine LWp.ret (retT (.inr rfl) (.one (.tmp ?_ rfl)))
    show B _ = B _
    rw [hT]
end Go.Px

namespace Go.Px
open Go.Proofs Go.MapKept
abbrev setc (f : Nat → Nat) : List AV := [I (f 0 : Nat), I (f 1 : Nat), I (f 2 : Nat), I (f 3 : Nat), I (f 4 : Nat), I (f 5 : Nat)]
theorem setc_get (f : Nat → Nat) {k : Nat} (h : k < 6) : loadAV none ((setc f).drop (0 + k * 1)) = some (I (f k : Nat)) := by
  match k, h with
  | 0, _ => rfl
  | 1, _ => rfl
  | 2, _ => rfl
  | 3, _ => rfl
  | 4, _ => rfl
  | 5, _ => rfl
theorem setc_pre (f : Nat → Nat) {k : Nat} (h : k < 6) : [I (f k : Nat)] <+: (setc f).drop (k * 1) := by
  match k, h with
  | 0, _ => exact ⟨_, rfl⟩
  | 1, _ => exact ⟨_, rfl⟩
  | 2, _ => exact ⟨_, rfl⟩
  | 3, _ => exact ⟨_, rfl⟩
  | 4, _ => exact ⟨_, rfl⟩
  | 5, _ => exact ⟨_, rfl⟩
theorem setc_field (f : Nat → Nat) {k : Nat} (h : k < 6) : fieldAV none (k * 1) (setc f) = some (I (f k : Nat)) := by
  match k, h with
  | 0, _ => rfl
  | 1, _ => rfl
  | 2, _ => rfl
  | 3, _ => rfl
  | 4, _ => rfl
  | 5, _ => rfl
theorem setc_set (f : Nat → Nat) (v : Nat) {k : Nat} (h : k < 6) : setSeg (setc f) (0 + k * 1) [I (v : Nat)] = setc (fun j => if j = k then v else f j) := by
  match k, h with
  | 0, _ => rfl
  | 1, _ => rfl
  | 2, _ => rfl
  | 3, _ => rfl
  | 4, _ => rfl
  | 5, _ => rfl
theorem named_ev {t : Town} (h : t.OK) (but : Int) (g1 g2 : Nat) {p : List Nat} (hp6 : ∀ i, per p i < 6) (m : MS t) :
    EvR Tryz.prog 107 [tp t but g1 g2, .agg (pcells p)] (m.heap g1 g2) (MRes t g1 g2 (B (namedF t p))) := by
  have hln : ((t.ms.map Men.enc).length : Int) = t.ms.length := by simp
  have hm6 := h.ms6
  have h5 := h.ear.ss5
  refine EvR.intro fn107 ?_
  refine LWp.sx (gs := []) (hs := [.ice]) rfl ⟨⟨rfl, rfl⟩, trivial⟩ ?_
  refine LWp.sx (gs := []) (hs := [.lin]) rfl ⟨rfl, trivial⟩ ?_
  refine LWp.shareB (t := 5) rfl fun b5 => ?_
  refine LWp.seq (LWp.seq ?_)
  refine LWp.x (gs := []) (hs := []) rfl trivial ?_
  refine LWp.blockT (fun _ : Unit => True) (fun _ => el [(0, tp t but g1 g2), (5, .po b5 0)]) (fun _ => (b5, .cells 95 (setc (setP t p t.ms.length))) :: m.heap g1 g2) (fun _ => []) ?_ ?_
  · refine LWp.loopN (fun k : Nat => k ≤ t.ms.length) (fun k => el [(0, tp t but g1 g2), (3, .pi (pcells p)), (5, .po b5 0), (14, mensV t.ms), (15, I t.ms.length), (16, I k)]) (fun k => (b5, .cells 95 (setc (setP t p k))) :: m.heap g1 g2) (fun _ => []) (fun k => t.ms.length - k) 0 (by omega)
      (Ent.trans (Ent.ofH rfl) (Ent.el ⟨rfl, rfl, rfl, rfl, by show I _ = I _; rw [hln], rfl, trivial⟩)) ?_
    intro k hk
    refine LWp.sx (gs := []) (hs := []) rfl trivial ?_
    refine LWp.seq (LWp.ite rfl (fun hc => ?_) (fun hc => ?_))
    · simp only [decide_eq_true_eq, Int.ofNat_lt] at hc
      obtain ⟨x, hx⟩ := ex_get hc
      have ox := h.men k x hx
      have s0 := ox.sp0
      have s1 := ox.sp1
      refine LWp.skip (LWp.seq (LWp.block ?_))
      refine LWp.sx (gs := []) (hs := [.cells x.enc, .lin]) rfl ⟨⟨by omega, by simp [hx]⟩, rfl, ⟨rfl, rfl, rfl, by decide⟩, trivial⟩ ?_
      refine LWp.ent (Ent.freezeLbox (t := 7) rfl) ?_
      refine LWp.ent (Ent.el (l := [(0, tp t but g1 g2), (3, .pi (pcells p)), (5, .po b5 0), (6, I (k : Nat)), (7, .pi x.enc), (14, mensV t.ms), (15, I t.ms.length), (16, I k)]) ⟨rfl, rfl, rfl, rfl, rfl, rfl, rfl, rfl, trivial⟩) ?_
      have pk := hp6 k
      have hlt := setP_lt h p (per p k) k (by omega)
      have px : (1 : Int) * 2 ^ x.sp.toNat < 32 := by
        have h2 : (2 : Nat) ^ x.sp.toNat < 2 ^ 5 := Nat.pow_lt_pow_right (by omega) (by omega)
        have h3 : (2 : Int) ^ x.sp.toNat = ((2 ^ x.sp.toNat : Nat) : Int) := by simp
        omega
      have px0 : 0 ≤ (1 : Int) * 2 ^ x.sp.toNat := by have : (0 : Int) < 2 ^ x.sp.toNat := Int.pow_pos (by omega); omega
      refine LWp.d (gs := []) (hs := [.pre [I (per p k : Nat)], .atv 0 (I (setP t p k (per p k) : Nat))]) hmix rfl (by kernel_rfl) ⟨⟨⟨by omega, by omega⟩, setc_pre (per p) (by omega)⟩, ⟨by omega, by omega⟩, ⟨rfl, setc_get (setP t p k) pk⟩, ⟨by omega, by omega, by omega, by omega⟩, ⟨⟨by omega, by omega⟩, by omega, by omega⟩, ⟨by omega, by omega⟩, trivial⟩ ?_
      refine WOps.hd (gs := []) (hs := [.stO 0]) rfl ⟨⟨rfl, rfl, rfl, rfl, ?_⟩, trivial⟩ ?_
      · show 0 + ((per p k : Nat) : Int).toNat * 1 + 1 ≤ 6
        omega
      refine LWp.x (gs := []) (hs := []) rfl ⟨by omega, trivial⟩ ?_
      refine ⟨k + 1, hc, by omega, Ent.trans (Ent.ofH ?_) (Ent.el ⟨rfl, rfl, rfl, rfl, rfl, rfl, trivial⟩)⟩
      show (b5, HObj.cells 95 (setSeg (setc (setP t p k)) (0 + (per p k) * 1) [I (((setP t p k (per p k) : Nat) : Int).toNat ||| ((1 : Int) * 2 ^ x.sp.toNat).toNat : Nat)])) :: m.heap g1 g2 = _
      rw [setc_set _ _ pk, one_pow]
      have e : (fun j => if j = per p k then ((setP t p k (per p k) : Nat) : Int).toNat ||| 2 ^ x.sp.toNat else setP t p k j) = setP t p (k + 1) := by
        funext j
        rw [setP_succ, Town.m_get hx, Int.toNat_natCast]
        by_cases ej : j = per p k
        · rw [if_pos ej, if_pos ej.symm, ej]
        · rw [if_neg ej, if_neg (fun e => ej e.symm)]
      rw [e]
    · simp only [decide_eq_false_iff_not, Int.ofNat_lt] at hc
      have e : k = t.ms.length := by omega
      subst e
      exact LWp.exit ⟨(), trivial, Ent.el ⟨rfl, rfl, trivial⟩⟩
  · intro _ _
    have hall : namedF t p = (List.range 6).all fun w => setP t p t.ms.length w == 0 || alikeS t.ear (setP t p t.ms.length w) := rfl
    have hlt : ∀ w, setP t p t.ms.length w < 32 := fun w => setP_lt h p w _ (Nat.le_refl _)
    generalize setP t p t.ms.length = f at hall hlt
    refine LWp.seq (LWp.seq ?_)
    refine LWp.x (gs := []) (hs := [.at 0]) rfl ⟨rfl, trivial⟩ ?_
    refine LWp.blockT (fun _ : MS t => namedF t p = true) (fun _ => el []) (fun m => m.heap g1 g2) (fun _ => []) ?_ ?_
    · refine LWp.loopN (X := Nat × MS t) (fun x => x.1 ≤ 6 ∧ ∀ w, w < x.1 → (f w == 0 || alikeS t.ear (f w)) = true) (fun x => el [(0, tp t but g1 g2), (32, .agg (setc f)), (33, I x.1)]) (fun x => x.2.heap g1 g2) (fun _ => []) (fun x => 6 - x.1) (0, m) ⟨by simp, by intro w hw; simp at hw⟩
        (Ent.trans (Ent.dropH 0) (Ent.el ⟨rfl, rfl, rfl, trivial⟩)) ?_
      rintro ⟨k, m⟩ ⟨hk, hp⟩
      simp only at hk hp ⊢
      refine LWp.sx (gs := []) (hs := []) rfl trivial ?_
      refine LWp.seq (LWp.ite rfl (fun hc => ?_) (fun hc => ?_))
      · simp only [decide_eq_true_eq] at hc
        have hk6 : k < 6 := by omega
        refine LWp.skip (LWp.seq (LWp.block ?_))
        refine LWp.sx (gs := []) (hs := [.idx (I (f k : Nat))]) rfl ⟨⟨⟨by omega, by omega⟩, setc_field f hk6⟩, trivial⟩ ?_
        refine LWp.cutX (fun m' : MS t => True) (fun _ => el [(0, tp t but g1 g2), (32, .agg (setc f)), (33, I k), (43, B (!(f k == 0 || alikeS t.ear (f k))))]) (fun m' => m'.heap g1 g2) (fun _ => []) ?_ ?_
        · by_cases h0 : f k = 0
          · have hz : (((f k : Nat) : Int) != 0) = false := by rw [h0]; rfl
            refine LWp.x (gs := [(38, false)]) (hs := []) rfl (by (repeat' (with_reducible apply And.intro)); (all_goals first | (with_reducible exact trivial) | (with_reducible rfl) | (with_reducible assumption) | ((with_reducible apply isB); first | exact rfl | exact beq_self_eq_true _) | omega | ((rfl)))) ?_
            refine ⟨m, trivial, Ent.el ⟨rfl, rfl, rfl, ?_, trivial⟩⟩
            show B false = B _
            rw [h0]; rfl
          · have hz : (((f k : Nat) : Int) != 0) = true := by rw [bne_iff_ne]; omega
            have hz2 : (f k == 0) = false := by rw [beq_eq_false_iff_ne]; exact h0
            refine LWp.ops ?_
            refine WOps.xn (gs := [(38, true)]) (hs := []) 5 rfl rfl (by (repeat' (with_reducible apply And.intro)); (all_goals first | (with_reducible exact trivial) | (with_reducible rfl) | (with_reducible assumption) | ((with_reducible apply isB); first | exact rfl | exact beq_self_eq_true _) | omega | ((rfl)))) ?_
            refine WOps.yes (congrArg B hz) (Op1.callR (Hin := m.heap g1 g2) (H0 := []) (alike_ev h but g1 g2 (f k) (hlt k) m) rfl rfl (SubL.refl _) (by simp) ?_)
            rintro res Hout ⟨rfl, m', rfl⟩
            refine WOps.xd (gs := [(38, true)]) (hs := []) rfl (by (repeat' (with_reducible apply And.intro)); (all_goals first | (with_reducible exact trivial) | (with_reducible rfl) | (with_reducible assumption) | ((with_reducible apply isB); first | exact rfl | exact beq_self_eq_true _) | omega | ((rfl)))) ?_
            refine ⟨m', trivial, Ent.trans (Ent.ofH (by simp)) (Ent.el ⟨rfl, rfl, rfl, ?_, trivial⟩)⟩
            show B _ = B _
            rw [hz2, Bool.false_or]
        intro m' _
        refine LWp.ite rfl (fun hb => ?_) (fun hb => LWp.skip ?_)
        · refine LWp.sx (gs := []) (hs := []) rfl trivial ?_
          refine LWp.ret (retM (t := t) (g1 := g1) (g2 := g2) (m := m') rfl rfl ?_)
          show B false = B _
          refine congrArg B ?_
          symm
          rw [hall, List.all_eq_false]
          refine ⟨k, List.mem_range.2 (by omega), ?_⟩
          simpa using hb
        · refine LWp.x (gs := []) (hs := []) rfl ⟨by omega, trivial⟩ ?_
          refine ⟨(k + 1, m'), ⟨by simp only; omega, fun w hw => ?_⟩, by simp only; omega, Ent.el ⟨rfl, rfl, rfl, trivial⟩⟩
          simp only at hw
          by_cases e : w = k
          · rw [e]; rw [Bool.not_eq_false'] at hb; exact hb
          · exact hp w (by omega)
      · simp only [decide_eq_false_iff_not] at hc
        refine LWp.exit ⟨m, ?_, Ent.el trivial⟩
        rw [hall, List.all_eq_true]
        intro w hw
        exact hp w (by have := List.mem_range.1 hw; omega)
    · intro m' hT
      refine LWp.sx (gs := []) (hs := []) rfl trivial ?_
      refine LWp.ret (retM (t := t) (g1 := g1) (g2 := g2) (m := m') rfl rfl ?_)
      show B true = B _
      rw [hT]
end Go.Px

namespace Go.Px
open Go.Proofs Go.MapKept
def ofF (t : Town) (p : List Nat) (k who : Nat) : Nat := (List.range k).foldl (fun s i => if (t.m i).par ≠ -1 ∧ per p i = who then per p (t.m i).par.toNat + 1 else s) 0
theorem ofF_succ (t : Town) (p : List Nat) (k who : Nat) : ofF t p (k + 1) who = if (t.m k).par ≠ -1 ∧ per p k = who then per p (t.m k).par.toNat + 1 else ofF t p k who := by
  unfold ofF
  rw [List.range_succ, List.foldl_append]; rfl
def kinAt (t : Town) (p : List Nat) (i : Nat) : Prop := (t.m i).par ≠ -1 → per p (t.m i).par.toNat ≠ per p i ∧ ∀ k, k < i → (t.m k).par ≠ -1 → per p k = per p i → per p (t.m i).par.toNat = per p (t.m k).par.toNat
theorem ofF_spec (t : Town) (p : List Nat) (who : Nat) : ∀ k, (∀ i, i < k → kinAt t p i) → (∀ i, i < k → (t.m i).par ≠ -1 → per p i = who → ofF t p k who = per p (t.m i).par.toNat + 1) ∧ (ofF t p k who ≠ 0 → ∃ i, i < k ∧ (t.m i).par ≠ -1 ∧ per p i = who)
  | 0, _ => ⟨fun i hi => by omega, fun h => absurd rfl h⟩
  | k + 1, hk => by
    obtain ⟨i1, i2⟩ := ofF_spec t p who k (fun i hi => hk i (by omega))
    rw [ofF_succ]
    by_cases hc : (t.m k).par ≠ -1 ∧ per p k = who
    · rw [if_pos hc]
      refine ⟨fun i hi h1 h2 => ?_, fun _ => ⟨k, by omega, hc⟩⟩
      by_cases e : i = k
      · rw [e]
      · have := (hk k (by omega) hc.1).2 i (by omega) h1 (by rw [h2, hc.2])
        omega
    · rw [if_neg hc]
      refine ⟨fun i hi h1 h2 => ?_, fun h => ?_⟩
      · have e : i ≠ k := fun e => hc ⟨by rw [← e]; exact h1, by rw [← e]; exact h2⟩
        exact i1 i (by omega) h1 h2
      · obtain ⟨i, hi, h1, h2⟩ := i2 h
        exact ⟨i, by omega, h1, h2⟩
theorem ofF_lt (t : Town) {p : List Nat} (hp : ∀ i, per p i < 6) (k who : Nat) : ofF t p k who < 7 := by
  induction k with
  | zero => show (0 : Nat) < 7; omega
  | succ k ih =>
    rw [ofF_succ]
    split
    · have := hp (t.m k).par.toNat
      omega
    · exact ih
theorem kin_step {t : Town} {p : List Nat} {k : Nat} (hk : ∀ i, i < k → kinAt t p i) (hp : (t.m k).par ≠ -1) :
    kinAt t p k ↔ ¬ (per p k = per p (t.m k).par.toNat ∨ (ofF t p k (per p k) ≠ 0 ∧ ofF t p k (per p k) ≠ per p (t.m k).par.toNat + 1)) := by
  obtain ⟨h1, h2⟩ := ofF_spec t p (per p k) k hk
  constructor
  · intro h
    obtain ⟨g1, g2⟩ := h hp
    rintro (e | ⟨e1, e2⟩)
    · exact g1 e.symm
    · obtain ⟨i, hi, hpi, hei⟩ := h2 e1
      have := h1 i hi hpi hei
      have := g2 i hi hpi hei
      omega
  · intro h _
    refine ⟨fun e => h (.inl e.symm), fun j hj hpj hej => ?_⟩
    have e1 := h1 j hj hpj hej
    have e2 : ¬ (ofF t p k (per p k) ≠ 0 ∧ ofF t p k (per p k) ≠ per p (t.m k).par.toNat + 1) := fun e => h (.inr e)
    omega
theorem kinB_at {t : Town} {p : List Nat} : kinB t p = true ↔ ∀ i, i < t.ms.length → kinAt t p i := kinB_iff
theorem fathered_ev {t : Town} (h : t.OK) (but : Int) (g1 g2 : Nat) {p : List Nat} (hp6 : ∀ i, per p i < 6) : Ev Tryz.prog 136 [tp t but g1 g2, .agg (pcells p)] (B (kinB t p)) := by
  have hln : ((t.ms.map Men.enc).length : Int) = t.ms.length := by simp
  have hm6 := h.ms6
  refine Ev.intro fn136 ?_
  refine LWp.sx (gs := []) (hs := [.ice]) rfl ⟨⟨rfl, rfl⟩, trivial⟩ ?_
  refine LWp.sx (gs := []) (hs := [.lin]) rfl ⟨rfl, trivial⟩ ?_
  refine LWp.shareB (t := 5) rfl fun b5 => ?_
  refine LWp.seq (LWp.seq ?_)
  refine LWp.x (gs := []) (hs := []) rfl trivial ?_
  refine LWp.blockT (fun _ : Unit => kinB t p = true) (fun _ => el []) (fun _ => []) (fun _ => []) ?_ ?_
  · refine LWp.loopN (fun k : Nat => k ≤ t.ms.length ∧ ∀ i, i < k → kinAt t p i) (fun k => el [(0, tp t but g1 g2), (3, .pi (pcells p)), (5, .po b5 0), (14, mensV t.ms), (15, I t.ms.length), (16, I k)]) (fun k => [(b5, .cells 95 (setc (ofF t p k)))]) (fun _ => []) (fun k => t.ms.length - k) 0 ⟨by omega, by intro i hi; omega⟩
      (Ent.trans (Ent.ofH rfl) (Ent.el ⟨rfl, rfl, rfl, rfl, by show I _ = I _; rw [hln], rfl, trivial⟩)) ?_
    rintro k ⟨hk, hp⟩
    refine LWp.sx (gs := []) (hs := []) rfl trivial ?_
    refine LWp.seq (LWp.ite rfl (fun hc => ?_) (fun hc => ?_))
    · simp only [decide_eq_true_eq, Int.ofNat_lt] at hc
      obtain ⟨x, hx⟩ := ex_get hc
      have ox := h.men k x hx
      have q0 := ox.par0
      have q1 := ox.par1
      have emk := Town.m_get hx
      refine LWp.skip (LWp.seq (LWp.block ?_))
      refine LWp.sx (gs := []) (hs := [.cells x.enc, .lin]) rfl ⟨⟨by omega, by simp [hx]⟩, rfl, ⟨rfl, rfl, rfl, by decide⟩, trivial⟩ ?_
      refine LWp.ent (Ent.freezeLbox (t := 7) rfl) ?_
      refine LWp.ent (Ent.el (l := [(0, tp t but g1 g2), (3, .pi (pcells p)), (5, .po b5 0), (6, I (k : Nat)), (7, .pi x.enc), (14, mensV t.ms), (15, I t.ms.length), (16, I k)]) ⟨rfl, rfl, rfl, rfl, rfl, rfl, rfl, rfl, trivial⟩) ?_
      have next : kinAt t p k → ∀ i, i < k + 1 → kinAt t p i := by
        intro he j hj
        by_cases e : j = k
        · rw [e]; exact he
        · exact hp j (by omega)
      refine LWp.seq (LWp.seq ?_)
      refine LWp.x (gs := []) (hs := []) rfl trivial ?_
      refine LWp.ite rfl (fun hb => ?_) (fun hb => LWp.skip ?_)
      · have hb : (x.par == -1) = true := hb
        rw [beq_iff_eq] at hb
        refine LWp.exit ?_
        refine LWp.x (gs := []) (hs := []) rfl ⟨by omega, trivial⟩ ?_
        refine ⟨k + 1, ⟨hc, next (fun hne => absurd (by rw [emk]; exact hb) hne)⟩, by omega, Ent.trans (Ent.ofH ?_) (Ent.el ⟨rfl, rfl, rfl, rfl, rfl, rfl, trivial⟩)⟩
        have e : ofF t p (k + 1) = ofF t p k := by
          funext w
          rw [ofF_succ, if_neg (fun hh => hh.1 (by rw [emk]; exact hb))]
        rw [e]
      · have hb : (x.par == -1) = false := hb
        rw [beq_eq_false_iff_ne] at hb
        have hpk : (t.m k).par ≠ -1 := by rw [emk]; exact hb
        have kst := kin_step hp hpk
        have p1 := hp6 k
        have p2 := hp6 x.par.toNat
        have olt := ofF_lt t hp6 k (per p k)
        have e1 := setc_pre (per p) (k := k) (by omega)
        have e2 := setc_pre (per p) (k := x.par.toNat) (by omega)
        have e3 := setc_get (ofF t p k) p1
        rw [emk] at kst
        have osucc : ofF t p (k + 1) = fun j => if j = per p k then per p x.par.toNat + 1 else ofF t p k j := by
          funext w
          rw [ofF_succ, emk]
          by_cases ew : w = per p k
          · rw [if_pos ⟨hb, ew.symm⟩, if_pos ew]
          · rw [if_neg (fun hh => ew hh.2.symm), if_neg ew]
        generalize per p x.par.toNat = v2 at *
        generalize hv1 : per p k = v1 at *
        generalize hov : ofF t p k v1 = ov at *
        refine LWp.sd (gs := []) (hs := [.pre [I (v1 : Nat)], .pre [I (v2 : Nat)]]) hmix rfl (by kernel_rfl) (by (repeat' (with_reducible apply And.intro)); (all_goals first | (with_reducible exact trivial) | (with_reducible rfl) | (with_reducible assumption) | ((with_reducible apply isB); first | exact rfl | exact beq_self_eq_true _) | omega | ((first | exact e1 | exact e2)))) ?_
        refine LWp.ent (Ent.el (l := [(0, tp t but g1 g2), (3, .pi (pcells p)), (5, .po b5 0), (8, I (v1 : Nat)), (9, I (v2 : Nat)), (14, mensV t.ms), (15, I t.ms.length), (16, I k)]) ⟨rfl, rfl, rfl, rfl, rfl, rfl, rfl, rfl, trivial⟩) ?_
        refine LWp.seq (LWp.cutX (fun _ : Unit => True) (fun _ => el [(0, tp t but g1 g2), (3, .pi (pcells p)), (5, .po b5 0), (8, I (v1 : Nat)), (9, I (v2 : Nat)), (14, mensV t.ms), (15, I t.ms.length), (16, I k), (47, B (decide (v1 = v2 ∨ (ov ≠ 0 ∧ ov ≠ v2 + 1))))]) (fun _ => [(b5, .cells 95 (setc (ofF t p k)))]) (fun _ => []) ?_ ?_)
        · by_cases c1 : v1 = v2
          · have z1 : (((v1 : Nat) : Int) == ((v2 : Nat) : Int)) = true := by rw [beq_iff_eq]; omega
            refine LWp.x (gs := [(34, true)]) (hs := []) rfl (by (repeat' (with_reducible apply And.intro)); (all_goals first | (with_reducible exact trivial) | (with_reducible rfl) | (with_reducible assumption) | ((with_reducible apply isB); first | exact rfl | exact beq_self_eq_true _) | omega | ((rfl)))) ?_
            refine ⟨(), trivial, Ent.el ⟨rfl, rfl, rfl, rfl, rfl, rfl, rfl, rfl, ?_, trivial⟩⟩
            show B true = B _
            simp [c1]
          · have z1 : (((v1 : Nat) : Int) == ((v2 : Nat) : Int)) = false := by rw [beq_eq_false_iff_ne]; omega
            by_cases c2 : ov = 0
            · have z2 : (((ov : Nat) : Int) != 0) = false := by rw [c2]; rfl
              refine LWp.x (gs := [(34, false), (39, false)]) (hs := [.atv 0 (I (ov : Nat))]) rfl (by (repeat' (with_reducible apply And.intro)); (all_goals first | (with_reducible exact trivial) | (with_reducible rfl) | (with_reducible assumption) | ((with_reducible apply isB); first | exact rfl | exact beq_self_eq_true _) | omega | ((exact e3)))) ?_
              refine ⟨(), trivial, Ent.el ⟨rfl, rfl, rfl, rfl, rfl, rfl, rfl, rfl, ?_, trivial⟩⟩
              show B false = B _
              simp [c1, c2]
            · have z2 : (((ov : Nat) : Int) != 0) = true := by rw [bne_iff_ne]; omega
              refine LWp.x (gs := [(34, false), (39, true)]) (hs := [.atv 0 (I (ov : Nat)), .atv 0 (I (ov : Nat))]) rfl (by (repeat' (with_reducible apply And.intro)); (all_goals first | (with_reducible exact trivial) | (with_reducible rfl) | (with_reducible assumption) | ((with_reducible apply isB); first | exact rfl | exact beq_self_eq_true _) | omega | ((exact e3)))) ?_
              refine ⟨(), trivial, Ent.el ⟨rfl, rfl, rfl, rfl, rfl, rfl, rfl, rfl, ?_, trivial⟩⟩
              show B (((ov : Nat) : Int) != ((v2 : Nat) : Int) + 1) = B _
              refine congrArg B ?_
              rw [Bool.eq_iff_iff, bne_iff_ne, decide_eq_true_iff]
              omega
        intro _ _
        refine LWp.ite rfl (fun hd => ?_) (fun hd => LWp.skip ?_)
        · rw [decide_eq_true_iff] at hd
          refine LWp.sx (gs := []) (hs := []) rfl trivial ?_
          refine LWp.ret (retT (.inr rfl) (.one (.tmp ?_ rfl)))
          show B false = B _
          refine congrArg B ?_
          symm
          rw [Bool.eq_false_iff]
          intro hT
          exact kst.1 (kinB_at.1 hT k hc) hd
        · rw [decide_eq_false_iff_not] at hd
          refine LWp.hx (gs := []) (hs := [.stO 0]) rfl ⟨⟨by omega, by omega⟩, ⟨by omega, by omega⟩, ⟨rfl, rfl, rfl, rfl, ?_⟩, trivial⟩ ?_
          · show 0 + ((v1 : Nat) : Int).toNat * 1 + 1 ≤ 6
            omega
          refine LWp.x (gs := []) (hs := []) rfl ⟨by omega, trivial⟩ ?_
          refine ⟨k + 1, ⟨hc, next (kst.2 hd)⟩, by omega, Ent.trans (Ent.ofH ?_) (Ent.el ⟨rfl, rfl, rfl, rfl, rfl, rfl, trivial⟩)⟩
          show [(b5, HObj.cells 95 (setSeg (setc (ofF t p k)) (0 + v1 * 1) [I ((v2 + 1 : Nat) : Int)]))] = _
          rw [setc_set _ _ p1, osucc]
    · simp only [decide_eq_false_iff_not, Int.ofNat_lt] at hc
      have e : k = t.ms.length := by omega
      subst e
      exact LWp.exit ⟨(), kinB_at.2 hp, Ent.trans (Ent.dropH 0) (Ent.el trivial)⟩
  · intro _ hT
    refine LWp.sx (gs := []) (hs := []) rfl trivial ?_
    refine LWp.ret (retT (.inr rfl) (.one (.tmp ?_ rfl)))
    show B _ = B _
    rw [hT]
end Go.Px

