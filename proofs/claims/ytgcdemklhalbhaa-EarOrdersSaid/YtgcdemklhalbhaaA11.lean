/- Part 11 of the proof of the statements of this seat (a logic of pure contracts, the functions lowered, their contracts, the statements). No conditions. -/
import Derived.Test.YtgcdemklhalbhaaA10
namespace Go.Px
open Go.Proofs

/-- The keys that all of a set of spellings can be. -/
def keysIn (es : Kn) (set : Int) : List (List Int) := (es.filter fun e => selB set e.2).map (·.1)
def stepG (p : List Int × Nat) (h : List Int) : List Int × Nat := (if p.2 = 0 ∨ hbefore h p.1 = true then h else p.1, p.2 + 1)
theorem foldF_G (set : Int) : ∀ (es : Kn) (p : List Int × Nat), es.foldl (stepF set) p = (keysIn es set).foldl stepG p
  | [], p => rfl
  | e :: es, p => by
    simp only [List.foldl_cons]
    have hst : stepF set p e = if selB set e.2 = true then (if p.2 = 0 ∨ hbefore e.1 p.1 = true then e.1 else p.1, p.2 + 1) else p := rfl
    rw [foldF_G set es, hst]
    unfold keysIn
    by_cases h : selB set e.2 = true
    · rw [if_pos h, List.filter_cons_of_pos (by simpa using h)]; rfl
    · rw [if_neg h, List.filter_cons_of_neg (by simpa using h)]
theorem foldG_spec : ∀ (K : List (List Int)) (b : List Int) (m : Nat), m ≠ 0 → (∀ h ∈ b :: K, HOK h) →
    (K.foldl stepG (b, m)).2 = m + K.length ∧ (K.foldl stepG (b, m)).1 ∈ b :: K ∧ ∀ h ∈ b :: K, hbefore h (K.foldl stepG (b, m)).1 = false
  | [], b, m, hm, hk => by
    refine ⟨rfl, by simp, ?_⟩
    intro h hh
    simp only [List.mem_singleton] at hh
    subst hh
    cases hb : hbefore h h with
    | false => exact hb
    | true => rw [hbefore_iff (hk h (by simp)) (hk h (by simp)), lessL_refl] at hb; simp at hb
  | h :: K, b, m, hm, hk => by
    simp only [List.foldl_cons]
    have hst : stepG (b, m) h = (if hbefore h b = true then h else b, m + 1) := by simp [stepG, hm]
    rw [hst]
    have hh := hk h (by simp)
    have hb := hk b (by simp)
    obtain ⟨i1, i2, i3⟩ := foldG_spec K (if hbefore h b = true then h else b) (m + 1) (by omega) (by
      intro x hx
      rcases List.mem_cons.1 hx with rfl | hx
      · split; exact hh; exact hb
      · exact hk x (by simp [hx]))
    generalize K.foldl stepG (if hbefore h b = true then h else b, m + 1) = r at i1 i2 i3
    have hr : HOK r.1 := by
      rcases List.mem_cons.1 i2 with h2 | h2
      · rw [h2]; split; exact hh; exact hb
      · exact hk _ (by simp [h2])
    refine ⟨by rw [i1]; simp; omega, ?_, ?_⟩
    · rcases List.mem_cons.1 i2 with h2 | h2
      · rw [h2]; split <;> simp
      · simp [h2]
    · intro x hx
      simp only [List.mem_cons] at hx
      by_cases hc : hbefore h b = true
      · rw [if_pos hc] at i3
        rcases hx with rfl | rfl | hx
        · cases hq : hbefore x r.1 with
          | false => rfl
          | true =>
            have := hbefore_trans hh hb hr hc hq
            rw [i3 h (by simp)] at this; cases this
        · exact i3 _ (by simp)
        · exact i3 _ (by simp [hx])
      · rw [if_neg hc] at i3
        rcases hx with rfl | rfl | hx
        · exact i3 _ (by simp)
        · cases hq : hbefore x r.1 with
          | false => rfl
          | true =>
            by_cases e : x = b
            · subst e; rw [i3 x (by simp)] at hq; cases hq
            · have h2 := hbefore_total hh hb e (by simpa using hc)
              have := hbefore_trans hb hh hr h2 hq
              rw [i3 b (by simp)] at this; cases this
        · exact i3 _ (by simp [hx])
theorem firstK_spec {es : Kn} (hk : KOK es) (set : Int) : (firstK es set).2 = (keysIn es set).length ∧ (keysIn es set = [] → (firstK es set).1 = []) ∧
    (keysIn es set ≠ [] → (firstK es set).1 ∈ keysIn es set ∧ ∀ h ∈ keysIn es set, hbefore h (firstK es set).1 = false) := by
  unfold firstK
  rw [foldF_G]
  have hok : ∀ h ∈ keysIn es set, HOK h := by
    intro h hh
    obtain ⟨e, he, rfl⟩ := List.mem_map.1 hh
    exact (hk e (List.mem_filter.1 he).1).1
  cases hK : keysIn es set with
  | nil => exact ⟨rfl, fun _ => rfl, fun h => absurd rfl h⟩
  | cons h K =>
    rw [hK] at hok
    simp only [List.foldl_cons]
    have hst : stepG ([], 0) h = (h, 1) := by simp [stepG]
    rw [hst]
    obtain ⟨i1, i2, i3⟩ := foldG_spec K h 1 (by omega) hok
    refine ⟨?_, ?_, fun _ => ⟨i2, i3⟩⟩
    · rw [i1]; simp; omega
    · intro h; cases h

theorem idxF_eq {α : Type} (p : α → Bool) : ∀ {l : List α} {k : Int} {i : Nat} {x : α}, l[i]? = some x → p x = true → (∀ j y, j < i → l[j]? = some y → p y = false) → idxF p l k = k + i
  | [], _, _, _, h, _, _ => by simp at h
  | y :: l, k, 0, x, h, hp, _ => by
    simp only [List.getElem?_cons_zero, Option.some.injEq] at h
    subst h
    simp [idxF, hp]
  | y :: l, k, i + 1, x, h, hp, hm => by
    have h0 := hm 0 y (by omega) (by simp)
    simp only [idxF, h0, Bool.false_eq_true, if_false]
    rw [idxF_eq p (l := l) (k := k + 1) (i := i) (x := x) (by simpa using h) hp (fun j z hj hz => hm (j + 1) z (by omega) (by simpa using hz))]
    omega
theorem idxF_none {α : Type} (p : α → Bool) : ∀ {l : List α} {k : Int}, (∀ y ∈ l, p y = false) → idxF p l k = -1
  | [], _, _ => rfl
  | y :: l, k, h => by
    simp only [idxF, h y (by simp), Bool.false_eq_true, if_false]
    exact idxF_none p (fun z hz => h z (by simp [hz]))

/-- Marks of the codes of some sound strings. -/
theorem marks_count {p : Nat → Bool} {K : List (List Int)} (hn : K.Nodup) (h4 : ∀ h ∈ K, H4 h ∧ h.length ≤ 5) (hp : ∀ c, c < 3125 → (p c = true ↔ ∃ h ∈ K, codeN h = c)) : (markL p).countP id = K.length := by
  have hlt : ∀ h ∈ K, codeN h < 3125 := by
    intro h hh
    have h1 := codeN_lt (h4 h hh).1
    have h2 : 5 ^ h.length ≤ 5 ^ 5 := Nat.pow_le_pow_right (by omega) (h4 h hh).2
    omega
  have e1 : (markL p).countP id = ((List.range 3125).filter p).length := by
    unfold markL
    rw [List.countP_map, List.countP_eq_length_filter]; rfl
  have e2 : ((List.range 3125).filter p).Perm (K.map codeN) := by
    refine (List.perm_ext_iff_of_nodup ?_ ?_).2 ?_
    · exact (List.nodup_range).filter _
    · rw [List.Nodup, List.pairwise_map]
      exact List.Pairwise.imp_of_mem (fun {a b} ha hb hne e => hne (codeN_inj (h4 a ha).1 (h4 b hb).1 e)) hn
    · intro c
      rw [List.mem_filter, List.mem_range, List.mem_map]
      constructor
      · rintro ⟨h1, h2⟩; exact (hp c h1).1 h2
      · rintro ⟨h, hh, rfl⟩; exact ⟨hlt h hh, (hp _ (hlt h hh)).2 ⟨h, hh, rfl⟩⟩
  rw [e1, e2.length_eq, List.length_map]
theorem marks_least {p : Nat → Bool} {K : List (List Int)} (h4 : ∀ h ∈ K, H4 h ∧ h.length ≤ 5) (hp : ∀ c, c < 3125 → (p c = true ↔ ∃ h ∈ K, codeN h = c)) {best : List Int} (hb : K ≠ [] → best ∈ K ∧ ∀ h ∈ K, hbefore h best = false) :
    idxF id (markL p) 0 = if K = [] then -1 else (codeN best : Int) := by
  by_cases hK : K = []
  · rw [if_pos hK]
    refine idxF_none _ ?_
    intro y hy
    obtain ⟨c, hc, rfl⟩ := List.mem_map.1 hy
    cases hpc : p c with
    | false => rfl
    | true =>
      obtain ⟨h, hh, _⟩ := (hp c (List.mem_range.1 hc)).1 hpc
      rw [hK] at hh; cases hh
  · rw [if_neg hK]
    obtain ⟨h1, h2⟩ := hb hK
    obtain ⟨b4, b5⟩ := h4 best h1
    have hlt : codeN best < 3125 := by
      have g1 := codeN_lt b4
      have g2 : 5 ^ best.length ≤ 5 ^ 5 := Nat.pow_le_pow_right (by omega) b5
      omega
    rw [idxF_eq id (i := codeN best) (x := true) ?_ rfl ?_, Int.zero_add]
    · rw [markL_get p hlt, (hp _ hlt).2 ⟨best, h1, rfl⟩]
    · intro j y hj hy
      rw [markL_get p (by omega)] at hy
      cases hy
      cases hpj : p j with
      | false => rfl
      | true =>
        obtain ⟨h, hh, e⟩ := (hp j (by omega)).1 hpj
        obtain ⟨c4, c5⟩ := h4 h hh
        have := (before_code c4 b4 c5 b5).2 (by omega)
        rw [h2 h hh] at this; cases this

theorem hearS_ok {b : Book} (V : Valid b) {k : Nat} {h : List Int} (hh : h ∈ hearS b k) : H4 h ∧ h.length ≤ 5 := by
  unfold hearS at hh
  cases hs : b.ss[k]? with
  | none => rw [hs] at hh; cases hh
  | some s =>
    rw [hs] at hh
    simp only at hh
    have n1 := V.n1
    have n4 := V.n4
    have sp := V.sp s (List.mem_of_getElem? hs)
    obtain ⟨a, ha, _⟩ := sp.ha
    have hl : (spLetters b s).length = s.t.length := by simp only [spLetters, ha, List.length_map]
    have h1 := hearL_len _ _ _ _ hh
    have h2 := sp.t5
    exact ⟨hearL_H4 (by omega) _ _ _ hh H4_nil, by simp at h1; omega⟩
theorem strS_iff {b : Book} (V : Valid b) (j : Int) (c : Nat) : strS b j c = true ↔ ∃ h ∈ hearS b j.toNat, codeN h = c := by
  unfold strS hearS
  have n1 := V.n1
  have n4 := V.n4
  cases b.ss[j.toNat]? with
  | none => simp
  | some s => exact strP_iff (by omega) _ _
theorem setN_bit : ∀ (l : List Int) (s k : Nat), (setN l s).testBit k = true ↔ s.testBit k = true ∨ ∃ j ∈ l, j.toNat = k
  | [], s, k => by simp [setN]
  | n :: l, s, k => by
    simp only [setN]
    rw [setN_bit l _ k, testBit_or_pow]
    simp only [Bool.or_eq_true, decide_eq_true_eq, List.mem_cons, exists_eq_or_imp]
    exact or_assoc
theorem selB_iff (s u : Nat) : selB (s : Int) u = true ↔ ∀ k, s.testBit k = true → u.testBit k = true := by
  unfold selB
  rw [beq_iff_eq, Int.toNat_natCast, Int.natCast_inj]
  constructor
  · intro h k hk
    rw [← h, Nat.testBit_and, Bool.and_eq_true] at hk
    exact hk.1
  · intro h
    apply Nat.eq_of_testBit_eq
    intro k
    rw [Nat.testBit_and]
    cases hs : s.testBit k with
    | false => simp
    | true => rw [h k hs]; rfl
theorem keysIn_iff {b : Book} {l : List Int} (hl : l ≠ []) (h : List Int) : h ∈ keysIn (knownOf b) (setN l 0 : Nat) ↔ ∀ j ∈ l, h ∈ hearS b j.toNat := by
  unfold keysIn
  rw [List.mem_map]
  constructor
  · rintro ⟨e, he, rfl⟩ j hj
    obtain ⟨h1, h2⟩ := List.mem_filter.1 he
    rw [selB_iff] at h2
    exact (known_key h1 _).1 (h2 _ ((setN_bit l 0 _).2 (.inr ⟨j, hj, rfl⟩)))
  · intro hall
    obtain ⟨j0, hj0⟩ := List.exists_mem_of_ne_nil l hl
    obtain ⟨u, hu⟩ := known_has (hall j0 hj0)
    refine ⟨(h, u), List.mem_filter.2 ⟨hu, ?_⟩, rfl⟩
    rw [selB_iff]
    intro k hk
    rcases (setN_bit l 0 k).1 hk with hk | ⟨j, hj, rfl⟩
    · simp at hk
    · exact (known_key hu _).2 (hall j hj)
theorem keysIn_nd (b : Book) (set : Int) : (keysIn (knownOf b) set).Nodup := (known_nd b).sublist ((List.filter_sublist).map _)

section
variable {b : Book} (V : Valid b) {l : List Int} (hl : l ≠ [])
include V hl
theorem keys_ok : ∀ h ∈ keysIn (knownOf b) (setN l 0 : Nat), H4 h ∧ h.length ≤ 5 := by
  intro h hh
  obtain ⟨j0, hj0⟩ := List.exists_mem_of_ne_nil l hl
  exact hearS_ok V ((keysIn_iff hl h).1 hh j0 hj0)
theorem shP_keys (c : Nat) : shP b l c = true ↔ ∃ h ∈ keysIn (knownOf b) (setN l 0 : Nat), codeN h = c := by
  have e : l.isEmpty = false := by simpa using hl
  simp only [shP, e, Bool.not_false, Bool.true_and, List.all_eq_true]
  constructor
  · intro hall
    obtain ⟨j0, hj0⟩ := List.exists_mem_of_ne_nil l hl
    obtain ⟨h, hh, hc⟩ := (strS_iff V j0 c).1 (hall j0 hj0)
    refine ⟨h, (keysIn_iff hl h).2 (fun j hj => ?_), hc⟩
    obtain ⟨g, hg, hgc⟩ := (strS_iff V j c).1 (hall j hj)
    have := codeN_inj (hearS_ok V hh).1 (hearS_ok V hg).1 (hc.trans hgc.symm)
    rw [this]; exact hg
  · rintro ⟨h, hh, hc⟩ j hj
    exact (strS_iff V j c).2 ⟨h, (keysIn_iff hl h).1 hh j hj, hc⟩
theorem many_shared (hk : KOK (knownOf b)) : (markL (shP b l)).countP id = (firstK (knownOf b) (setN l 0 : Nat)).2 := by
  rw [marks_count (keysIn_nd b _) (keys_ok V hl) (fun c _ => shP_keys V hl c), (firstK_spec hk _).1]
theorem least_shared (hk : KOK (knownOf b)) : idxF id (markL (shP b l)) 0 = if (firstK (knownOf b) (setN l 0 : Nat)).2 = 0 then -1 else (codeN (firstK (knownOf b) (setN l 0 : Nat)).1 : Int) := by
  obtain ⟨h1, h2, h3⟩ := firstK_spec hk (setN l 0 : Nat)
  rw [marks_least (keys_ok V hl) (fun c _ => shP_keys V hl c) h3, h1]
  simp only [List.length_eq_zero_iff]
theorem first_ok (hk : KOK (knownOf b)) : H4 (firstK (knownOf b) (setN l 0 : Nat)).1 ∧ (firstK (knownOf b) (setN l 0 : Nat)).1.length ≤ 5 := by
  obtain ⟨h1, h2, h3⟩ := firstK_spec hk (setN l 0 : Nat)
  by_cases hK : keysIn (knownOf b) (setN l 0 : Nat) = []
  · rw [h2 hK]; exact ⟨H4_nil, by simp⟩
  · exact keys_ok V hl _ (h3 hK).1
end
theorem shP_one (b : Book) (i : Int) : shP b [i] = strS b i := by funext c; simp [shP]
theorem setN_one (i : Int) : setN [i] 0 = 2 ^ i.toNat := by simp [setN]
theorem pow_cast (k : Nat) : ((2 ^ k : Nat) : Int) = (2 : Int) ^ k := by simp
end Go.Px

