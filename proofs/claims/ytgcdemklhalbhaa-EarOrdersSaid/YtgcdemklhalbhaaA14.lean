/- Part 14 of the proof of the statements of this seat (a logic of pure contracts, the functions lowered, their contracts, the statements). No conditions. -/
import Derived.Test.YtgcdemklhalbhaaA13
namespace Go.Px
open Go.Proofs

def Inc (c : List Nat) : Prop := c.Pairwise (· < ·)
theorem inc_snoc {d : List Nat} {v : Nat} : Inc (d ++ [v]) ↔ Inc d ∧ ∀ x ∈ d, x < v := by
  unfold Inc
  rw [List.pairwise_append]
  simp
theorem loC_iff {d : List Nat} (h : Inc d) (v : Nat) : loC d ≤ v ↔ ∀ x ∈ d, x < v := by
  rcases List.eq_nil_or_concat d with rfl | ⟨e, u, rfl⟩
  · simp [loC]
  · rw [List.concat_eq_append] at *
    have hu := (inc_snoc.1 h).2
    unfold loC
    rw [List.getLast?_append]
    simp only [List.getLast?_singleton]
    constructor
    · intro hv x hx
      rcases List.mem_append.1 hx with hx | hx
      · have := hu x hx; simp at hv; omega
      · simp only [List.mem_singleton] at hx; simp at hv; omega
    · intro hall
      have := hall u (by simp)
      simp; omega
theorem chN_iff (n : Nat) : ∀ (m : Nat) (c : List Nat), c ∈ chN n m ↔ c.length = m ∧ Inc c ∧ ∀ v ∈ c, v < n
  | 0, c => by
    simp only [chN, List.mem_singleton]
    constructor
    · rintro rfl; exact ⟨rfl, List.Pairwise.nil, by simp⟩
    · rintro ⟨h, _, _⟩; exact List.length_eq_zero_iff.1 h
  | m + 1, c => by
    simp only [chN, List.mem_flatMap, nextC, List.mem_map, List.mem_range'_1]
    constructor
    · rintro ⟨d, hd, v, ⟨h1, h2⟩, rfl⟩
      obtain ⟨g1, g2, g3⟩ := (chN_iff n m d).1 hd
      refine ⟨by simp [g1], inc_snoc.2 ⟨g2, (loC_iff g2 v).1 h1⟩, ?_⟩
      intro u hu
      rcases List.mem_append.1 hu with hu | hu
      · exact g3 u hu
      · simp only [List.mem_singleton] at hu; omega
    · rintro ⟨h1, h2, h3⟩
      rcases List.eq_nil_or_concat c with rfl | ⟨d, v, rfl⟩
      · simp at h1
      · rw [List.concat_eq_append] at *
        obtain ⟨g1, g2⟩ := inc_snoc.1 h2
        have hv := h3 v (by simp)
        have hlo := (loC_iff g1 v).2 g2
        exact ⟨d, (chN_iff n m d).2 ⟨by simpa using h1, g1, fun u hu => h3 u (by simp [hu])⟩, v, ⟨hlo, by omega⟩, rfl⟩
theorem lessL_prefix : ∀ (a x y : List Int), lessL (a ++ x) (a ++ y) = lessL x y
  | [], _, _ => rfl
  | v :: a, x, y => by simp [lessL, lessL_prefix a x y]
theorem lessL_app : ∀ {a b : List Int} (x y : List Int), a.length = b.length → lessL a b = true → lessL (a ++ x) (b ++ y) = true
  | [], [], _, _, _, h => by simp [lessL] at h
  | u :: a, v :: b, x, y, hl, h => by
    simp only [List.cons_append, lessL] at h ⊢
    by_cases e : u = v
    · rw [if_pos e] at h ⊢; exact lessL_app x y (by simpa using hl) h
    · rw [if_neg e] at h ⊢; exact h
theorem natI_append (a b : List Nat) : natI (a ++ b) = natI a ++ natI b := List.map_append
theorem chN_sorted (n : Nat) : ∀ m, (chN n m).Pairwise (fun a b => lessL (natI a) (natI b) = true)
  | 0 => by simp [chN]
  | m + 1 => by
    simp only [chN]
    rw [List.pairwise_flatMap]
    constructor
    · intro c hc
      unfold nextC
      rw [List.pairwise_map]
      refine List.Pairwise.imp ?_ List.pairwise_lt_range'
      intro u v huv
      rw [natI_append, natI_append, lessL_prefix]
      have h1 : ¬ ((u : Int) = v) := by omega
      simp [natI, lessL, h1]; omega
    · refine List.Pairwise.imp_of_mem ?_ (chN_sorted n m)
      intro a b ha hb hab x hx y hy
      obtain ⟨u, _, rfl⟩ := List.mem_map.1 hx
      obtain ⟨v, _, rfl⟩ := List.mem_map.1 hy
      rw [natI_append, natI_append]
      exact lessL_app _ _ (by simp [chN_len n m a ha, chN_len n m b hb]) hab

/-- The spellings that cannot be a sound string. -/
def cN (n u : Nat) : List Nat := (List.range n).filter fun k => !u.testBit k
theorem cN_mem {n u k : Nat} : k ∈ cN n u ↔ k < n ∧ u.testBit k = false := by simp [cN]
theorem cN_inc (n u : Nat) : Inc (cN n u) := List.Pairwise.filter _ List.pairwise_lt_range
theorem compl_bit {n u k : Nat} (hn : n ≤ 5) (hk : k < n) : (compl n u).testBit k = !u.testBit k := by
  unfold compl
  have h1 : 2 ^ n - 1 < 2 ^ 64 := by
    have : 2 ^ n ≤ 2 ^ 5 := Nat.pow_le_pow_right (by omega) hn
    omega
  have e : (BitVec.ofNat 64 (2 ^ n - 1) &&& ~~~BitVec.ofNat 64 u).toNat.testBit k = (BitVec.ofNat 64 (2 ^ n - 1) &&& ~~~BitVec.ofNat 64 u).getLsbD k := rfl
  rw [e]
  simp only [BitVec.getLsbD_and, BitVec.getLsbD_not, BitVec.getLsbD_ofNat]
  have h64 : k < 64 := by omega
  simp [h64, Nat.testBit_two_pow_sub_one, hk]
theorem numsF_eq {s : Nat} {n : Nat} {p : Nat → Bool} (h : ∀ k, k < n → s.testBit k = p k) : numsF (s : Int) n = natI ((List.range n).filter p) := by
  unfold numsF
  show List.map _ _ = List.map _ _
  congr 1
  apply List.filter_congr
  intro k hk
  rw [gives_bit _ _ (by omega), Int.toNat_natCast]
  exact h k (List.mem_range.1 hk)
theorem oddL_eq {n u : Nat} (hn : n ≤ 5) : oddL n u = natI (cN n u) := by
  unfold oddL cN
  exact numsF_eq (fun k hk => compl_bit hn hk)
theorem full_eq {n : Nat} : numsF ((2 : Int) ^ n - 1) n = natI (List.range n) := by
  have h0 : 0 < 2 ^ n := Nat.pow_pos (by omega)
  have e : (2 : Int) ^ n - 1 = ((2 ^ n - 1 : Nat) : Int) := by rw [← pow_cast]; omega
  rw [e, numsF_eq (p := fun _ => true) (fun k hk => by rw [Nat.testBit_two_pow_sub_one]; simp [hk])]
  rw [List.filter_eq_self.2 (by simp)]
theorem minL_fold {α : Type} (f : α → List Int) : ∀ (es : List α) (b : List Int), ((es.foldl (fun best e => minL best (f e)) b = b ∨ ∃ e ∈ es, es.foldl (fun best e => minL best (f e)) b = f e) ∧
    fewerL b (es.foldl (fun best e => minL best (f e)) b) = false ∧ ∀ e ∈ es, fewerL (f e) (es.foldl (fun best e => minL best (f e)) b) = false)
  | [], b => ⟨.inl rfl, fewerL_irrefl b, by simp⟩
  | e :: es, b => by
    simp only [List.foldl_cons]
    obtain ⟨h1, h2, h3⟩ := minL_fold f es (minL b (f e))
    generalize es.foldl (fun best e => minL best (f e)) (minL b (f e)) = r at h1 h2 h3
    unfold minL at h1 h2
    by_cases hc : fewerL (f e) b = true
    · rw [if_pos hc] at h1 h2
      refine ⟨?_, ?_, ?_⟩
      · rcases h1 with h1 | ⟨x, hx, h1⟩
        · exact .inr ⟨e, by simp, h1⟩
        · exact .inr ⟨x, by simp [hx], h1⟩
      · cases hq : fewerL b r with
        | false => rfl
        | true => rw [fewerL_trans hc hq] at h2; cases h2
      · intro x hx
        rcases List.mem_cons.1 hx with rfl | hx
        · exact h2
        · exact h3 x hx
    · rw [if_neg hc] at h1 h2
      refine ⟨?_, h2, ?_⟩
      · rcases h1 with h1 | ⟨x, hx, h1⟩
        · exact .inl h1
        · exact .inr ⟨x, by simp [hx], h1⟩
      · intro x hx
        rcases List.mem_cons.1 hx with rfl | hx
        · cases hq : fewerL (f x) r with
          | false => rfl
          | true =>
            by_cases e2 : f x = b
            · rw [e2, h2] at hq; cases hq
            · have := fewerL_total e2 (by simpa using hc)
              rw [fewerL_trans this hq] at h2; cases h2
        · exact h3 x hx

/-- Whether without some spellings all others have a sound string in common. -/
def oddG (b : Book) (c : List Nat) : Bool := decide (0 ≤ idxF id (markL (shP b (othersL b.ss.length (natI c)))) 0)
theorem others_mem {n : Nat} {c : List Nat} {j : Int} : j ∈ othersL n (natI c) ↔ ∃ k : Nat, j = k ∧ k < n ∧ k ∉ c := by
  unfold othersL
  simp only [List.mem_map, List.mem_filter, List.mem_range, Bool.not_eq_true', List.any_eq_false, beq_iff_eq]
  constructor
  · rintro ⟨k, ⟨h1, h2⟩, rfl⟩
    exact ⟨k, rfl, h1, fun h => h2 k ⟨k, h, rfl⟩ rfl⟩
  · rintro ⟨k, rfl, h1, h2⟩
    refine ⟨k, ⟨h1, ?_⟩, rfl⟩
    rintro x ⟨a, ha, rfl⟩ e
    have : a = k := by omega
    subst this; exact h2 ha
theorem others_ne {n : Nat} {c : List Nat} (hl : c.length < n) : othersL n (natI c) ≠ [] := by
  intro e
  have hall : ∀ k, k < n → k ∈ c := by
    intro k hk
    apply Decidable.byContradiction
    intro hn
    have : ((k : Nat) : Int) ∈ othersL n (natI c) := others_mem.2 ⟨k, rfl, hk, hn⟩
    rw [e] at this; cases this
  have := List.Nodup.length_le_of_subset (l₁ := List.range n) (l₂ := c) List.nodup_range (fun k hk => hall k (List.mem_range.1 hk))
  simp at this; omega
theorem oddG_iff {b : Book} (V : Valid b) (hk : KOK (knownOf b)) {c : List Nat} (hl : c.length < b.ss.length) : oddG b c = true ↔ ∃ h, ∀ k, k < b.ss.length → k ∉ c → h ∈ hearS b k := by
  have hne := others_ne hl
  unfold oddG
  rw [decide_eq_true_iff, least_shared V hne hk]
  obtain ⟨h1, h2, h3⟩ := firstK_spec hk (setN (othersL b.ss.length (natI c)) 0 : Nat)
  have hm := keysIn_iff (b := b) hne
  rw [h1]
  generalize keysIn (knownOf b) (setN (othersL b.ss.length (natI c)) 0 : Nat) = K at *
  constructor
  · intro h
    by_cases hK : K.length = 0
    · rw [if_pos hK] at h; omega
    · have hK' : K ≠ [] := fun e => hK (by rw [e]; rfl)
      obtain ⟨g, hg⟩ := List.exists_mem_of_ne_nil _ hK'
      refine ⟨g, fun k hk1 hk2 => ?_⟩
      have := (hm g).1 hg k (others_mem.2 ⟨k, rfl, hk1, hk2⟩)
      simpa using this
  · rintro ⟨g, hg⟩
    have hgm : g ∈ K := (hm g).2 (by
      intro j hj
      obtain ⟨k, rfl, h4, h5⟩ := others_mem.1 hj
      simpa using hg k h4 h5)
    have hK : ¬ K.length = 0 := by
      intro e
      rw [List.length_eq_zero_iff.1 e] at hgm; cases hgm
    rw [if_neg hK]; omega

theorem inc_nodup {c : List Nat} (h : Inc c) : c.Nodup := List.Pairwise.imp (fun h => Nat.ne_of_lt h) h
theorem inc_eq {c d : List Nat} (hc : Inc c) (hd : Inc d) (hs : ∀ x ∈ c, x ∈ d) (hl : d.length ≤ c.length) : c = d := by
  have hp : c.Perm d := by
    refine (List.perm_ext_iff_of_nodup (inc_nodup hc) (inc_nodup hd)).2 (fun x => ⟨hs x, fun hx => ?_⟩)
    apply Decidable.byContradiction
    intro hn
    have h1 : (x :: c).Nodup := List.nodup_cons.2 ⟨hn, inc_nodup hc⟩
    have := List.Nodup.length_le_of_subset (l₂ := d) h1 (fun y hy => by
      rcases List.mem_cons.1 hy with rfl | hy
      · exact hx
      · exact hs y hy)
    simp at this; omega
  exact List.Perm.eq_of_pairwise (le := (· < ·)) (fun a b _ _ h1 h2 => absurd h1 (by omega)) hc hd hp
theorem natI_len (c : List Nat) : (natI c).length = c.length := List.length_map _

section
variable {b : Book} (V : Valid b) (hk : KOK (knownOf b)) (hn : 1 ≤ b.ss.length)
include V hk hn
/-- What Odd returns, and that nothing is less. -/
theorem odd_spec : ∃ u h, (h, u) ∈ knownOf b ∧ oddK (knownOf b) b.ss.length = natI (cN b.ss.length u) ∧ (cN b.ss.length u).length < b.ss.length ∧ ∀ g v, (g, v) ∈ knownOf b → fewerL (natI (cN b.ss.length v)) (natI (cN b.ss.length u)) = false := by
  have _h := hk
  have h5 := V.ss5
  obtain ⟨h1, h2, h3⟩ := minL_fold (fun e : List Int × Nat => oddL b.ss.length e.2) (knownOf b) (numsF ((2 : Int) ^ b.ss.length - 1) b.ss.length)
  have e0 : (knownOf b).foldl (fun best e => minL best (oddL b.ss.length e.2)) (numsF ((2 : Int) ^ b.ss.length - 1) b.ss.length) = oddK (knownOf b) b.ss.length := rfl
  rw [e0] at h1 h2 h3
  have hne := hearS_ne V (k := 0) (by omega)
  obtain ⟨g0, hg0⟩ := List.exists_mem_of_ne_nil _ hne
  obtain ⟨u0, hu0⟩ := known_has hg0
  have hb0 := (known_key hu0 0).2 hg0
  have hlen0 : (cN b.ss.length u0).length < b.ss.length := by
    have hss : ∀ x ∈ 0 :: cN b.ss.length u0, x ∈ List.range b.ss.length := by
      intro x hx
      rcases List.mem_cons.1 hx with rfl | hx
      · exact List.mem_range.2 (by omega)
      · exact List.mem_range.2 (cN_mem.1 hx).1
    have hnd : (0 :: cN b.ss.length u0).Nodup := List.nodup_cons.2 ⟨(fun h => by have := (cN_mem.1 h).2; rw [hb0] at this; cases this), inc_nodup (cN_inc _ _)⟩
    have := List.Nodup.length_le_of_subset hnd hss
    simp at this; omega
  have h30 := h3 _ hu0
  rw [oddL_eq h5] at h30
  have hrl : (oddK (knownOf b) b.ss.length).length ≤ (cN b.ss.length u0).length := by
    apply Decidable.byContradiction
    intro hlt
    have : fewerL (natI (cN b.ss.length u0)) (oddK (knownOf b) b.ss.length) = true := by
      unfold fewerL
      rw [natI_len, if_neg (by omega), decide_eq_true_iff]; omega
    rw [this] at h30; cases h30
  rcases h1 with h1 | ⟨e, he, h1⟩
  · rw [h1, full_eq, natI_len] at hrl
    simp at hrl; omega
  · have h1 : oddK (knownOf b) b.ss.length = oddL b.ss.length e.2 := h1
    rw [oddL_eq h5] at h1
    refine ⟨e.2, e.1, he, h1, ?_, ?_⟩
    · rw [h1, natI_len] at hrl; omega
    · intro g v hv
      have := h3 _ hv
      rw [h1, oddL_eq h5] at this; exact this
theorem odd_less {m : Nat} {c : List Nat} (hm : m < b.ss.length) (hc : c ∈ chN b.ss.length m) (hg : oddG b c = true) : ∃ h u, (h, u) ∈ knownOf b ∧ ∀ x ∈ cN b.ss.length u, x ∈ c := by
  have _h := hn
  obtain ⟨c1, c2, c3⟩ := (chN_iff _ _ _).1 hc
  obtain ⟨h, hh⟩ := (oddG_iff V hk (by omega)).1 hg
  have hne := others_ne (n := b.ss.length) (c := c) (by omega)
  obtain ⟨j, hj⟩ := List.exists_mem_of_ne_nil _ hne
  obtain ⟨k, rfl, k1, k2⟩ := others_mem.1 hj
  obtain ⟨u, hu⟩ := known_has (hh k k1 k2)
  refine ⟨h, u, hu, ?_⟩
  intro x hx
  obtain ⟨x1, x2⟩ := cN_mem.1 hx
  apply Decidable.byContradiction
  intro hn
  rw [(known_key hu x).2 (hh x x1 hn)] at x2; cases x2
theorem odd_exists : ∃ c, c ∈ chN b.ss.length c.length ∧ c.length < b.ss.length ∧ oddG b c = true ∧ oddK (knownOf b) b.ss.length = natI c := by
  obtain ⟨u, h, hu, h1, h2, _⟩ := odd_spec V hk hn
  refine ⟨cN b.ss.length u, (chN_iff _ _ _).2 ⟨rfl, cN_inc _ _, fun v hv => (cN_mem.1 hv).1⟩, h2, ?_, h1⟩
  rw [oddG_iff V hk h2]
  refine ⟨h, fun k hk1 hk2 => ?_⟩
  rw [← known_key hu]
  cases hb : u.testBit k with
  | true => rfl
  | false => exact absurd (cN_mem.2 ⟨hk1, hb⟩) hk2
theorem odd_plain {m i : Nat} {c : List Nat} (hm : m < b.ss.length) (hi : (chN b.ss.length m)[i]? = some c) (hg : oddG b c = true) (hm0 : ∀ m', m' < m → ∀ c' ∈ chN b.ss.length m', oddG b c' = false)
    (hi0 : ∀ j c', j < i → (chN b.ss.length m)[j]? = some c' → oddG b c' = false) : oddK (knownOf b) b.ss.length = natI c := by
  obtain ⟨u, h, hu, h1, h2, h3⟩ := odd_spec V hk hn
  have hM : cN b.ss.length u ∈ chN b.ss.length (cN b.ss.length u).length := (chN_iff _ _ _).2 ⟨rfl, cN_inc _ _, fun v hv => (cN_mem.1 hv).1⟩
  have hGM : oddG b (cN b.ss.length u) = true := by
    rw [oddG_iff V hk h2]
    refine ⟨h, fun k hk1 hk2 => ?_⟩
    rw [← known_key hu]
    cases hb : u.testBit k with
    | true => rfl
    | false => exact absurd (cN_mem.2 ⟨hk1, hb⟩) hk2
  have hcm := List.mem_of_getElem? hi
  obtain ⟨c1, c2, c3⟩ := (chN_iff _ _ _).1 hcm
  obtain ⟨g, v, hv, hsub⟩ := odd_less V hk hn hm hcm hg
  have hvl : (cN b.ss.length v).length ≤ c.length := List.Nodup.length_le_of_subset (inc_nodup (cN_inc _ _)) hsub
  have h3v := h3 g v hv
  rw [h1]
  rcases Nat.lt_trichotomy (cN b.ss.length u).length m with hlt | heq | hgt
  · have := hm0 _ hlt _ hM
    rw [hGM] at this; cases this
  · rw [heq] at hM
    by_cases hvm : (cN b.ss.length v).length = m
    · have hcv : cN b.ss.length v = c := inc_eq (cN_inc _ _) c2 hsub (by omega)
      rw [hcv] at h3v
      unfold fewerL at h3v
      rw [natI_len, natI_len, if_pos (by omega)] at h3v
      obtain ⟨i', hi'⟩ := List.mem_iff_getElem?.1 hM
      rcases Nat.lt_trichotomy i' i with hl | rfl | hl
      · have := hi0 i' _ hl hi'
        rw [hGM] at this; cases this
      · rw [hi] at hi'; cases hi'; rfl
      · have hs := List.pairwise_iff_getElem.1 (chN_sorted b.ss.length m)
        obtain ⟨p1, p2⟩ := List.getElem?_eq_some_iff.1 hi
        obtain ⟨q1, q2⟩ := List.getElem?_eq_some_iff.1 hi'
        have := hs i i' p1 q1 hl
        rw [p2, q2, h3v] at this; cases this
    · have : fewerL (natI (cN b.ss.length v)) (natI (cN b.ss.length u)) = true := by
        unfold fewerL
        rw [natI_len, natI_len, if_neg (by omega), decide_eq_true_iff]; omega
      rw [this] at h3v; cases h3v
  · have : fewerL (natI (cN b.ss.length v)) (natI (cN b.ss.length u)) = true := by
      unfold fewerL
      rw [natI_len, natI_len, if_neg (by omega), decide_eq_true_iff]; omega
    rw [this] at h3v; cases h3v
end

theorem rodd_ev (b : Book) (hw : b.wf) : Ev Try.prog 32 [.agg b.enc] (.tup [ints (oddR b).1, I (oddR b).2]) := by
  have hln : (b.ss.map Spelling.enc).length = b.ss.length := by simp
  refine Ev.intro fn32 ?_
  refine LWp.sx (gs := []) (hs := [.ice]) rfl ⟨⟨rfl, rfl⟩, trivial⟩ ?_
  have hidx := indices_ev b hw [] 0 (by omega) (by omega)
  rw [enterE_nil] at hidx
  refine LWp.sx (gs := []) (hs := [.retS [.agg b.enc, ints [], I 0] (I (check b).2.2)]) rfl ⟨⟨hidx, .cons (.nilSl (.refl _))⟩, trivial⟩ ?_
  refine LWp.seq (LWp.seq ?_)
  refine LWp.x (gs := []) (hs := []) rfl trivial ?_
  refine LWp.ite rfl (fun h => ?_) (fun h => ?_)
  · simp only [bne_iff_ne, ne_eq] at h
    have e : oddR b = ([], (check b).2.2) := by simp only [oddR, h, if_false]
    rw [e]
    refine LWp.sx (gs := []) (hs := []) rfl trivial ?_
    refine LWp.ent (Ent.nilSl (t := 2) 1 rfl) ?_
    refine LWp.ret (retT (.inr rfl) (.many (by decide) ⟨.tmp ?_ rfl, .tmp ?_ rfl, trivial⟩))
    · rfl
    · rfl
  simp only [bne_eq_false_iff_eq] at h
  have V := valid_iff.1 h
  obtain ⟨hk, _⟩ := knownOf_ok hw h
  have h5 := V.ss5
  have e : oddR b = (oddK (knownOf b) b.ss.length, 0) := by simp only [oddR, h, if_true]
  rw [e]
  refine LWp.skip (LWp.seq (LWp.seq ?_))
  refine LWp.x (gs := []) (hs := []) rfl trivial ?_
  refine LWp.blockT (fun _ : Unit => oddK (knownOf b) b.ss.length = []) (fun _ => el []) (fun _ => []) (fun _ => []) ?_ ?_
  · refine LWp.loopN (fun m : Nat => m ≤ b.ss.length ∧ ∀ m', m' < m → ∀ c ∈ chN b.ss.length m', oddG b c = false) (fun m => el [(1, .pi b.enc), (5, I m)]) (fun _ => []) (fun _ => []) (fun m => b.ss.length - m) 0 ⟨by omega, by omega⟩
      (Ent.el ⟨rfl, rfl, trivial⟩) ?_
    rintro m ⟨hm, hm0⟩
    refine LWp.seq (LWp.seq ?_)
    refine LWp.x (gs := []) (hs := []) rfl trivial ?_
    refine LWp.ite rfl (fun hc => ?_) (fun hc => ?_)
    · simp only [List.length_map, decide_eq_true_eq, Int.ofNat_lt] at hc
      have hcl := chN_len b.ss.length m
      have hsz : (chN b.ss.length m).length ≤ 3125 := by
        have h1 := chN_size b.ss.length m
        have h2 : b.ss.length ^ m ≤ 5 ^ m := Nat.pow_le_pow_left h5 m
        have h3 : 5 ^ m ≤ 5 ^ 5 := Nat.pow_le_pow_right (by omega) (by omega)
        omega
      have hcho := choices_ev b.ss.length m (by omega) (by omega)
      refine LWp.skip ?_
      refine LWp.blockX (fun _ : Unit => ∀ c ∈ chN b.ss.length m, oddG b c = false) (fun _ => el [(1, .pi b.enc), (5, I m)]) (fun _ => []) (fun _ => []) ?_ ?_
      · refine LWp.sx (gs := []) (hs := [.ret (lists (chN b.ss.length m))]) rfl ⟨by rw [hln]; exact hcho, trivial⟩ ?_
        refine LWp.seq ?_
        refine LWp.x (gs := []) (hs := []) rfl trivial ?_
        refine LWp.block ?_
        refine LWp.loopN (fun i : Nat => i ≤ (chN b.ss.length m).length ∧ ∀ j c', j < i → (chN b.ss.length m)[j]? = some c' → oddG b c' = false) (fun i => el [(1, .pi b.enc), (5, I m), (6, lists (chN b.ss.length m)), (7, I i)]) (fun _ => []) (fun _ => []) (fun i => (chN b.ss.length m).length - i) 0 ⟨by omega, by omega⟩
          (Ent.el ⟨rfl, rfl, rfl, rfl, trivial⟩) ?_
        rintro i ⟨hi, hi0⟩
        refine LWp.seq (LWp.seq ?_)
        refine LWp.x (gs := []) (hs := []) rfl trivial ?_
        refine LWp.ite rfl (fun hd => ?_) (fun hd => ?_)
        · simp only [List.length_map, decide_eq_true_eq, Int.ofNat_lt] at hd
          obtain ⟨c, hx⟩ := ex_get hd
          have hot := others_ev b (by omega) (natI c)
          have hsh := shared_ev V (othersL b.ss.length (natI c)) (fun j hj => by
            obtain ⟨k, rfl, k1, _⟩ := others_mem.1 hj; omega)
          refine LWp.skip (LWp.seq (LWp.block ?_))
          refine LWp.seq ?_
          refine LWp.dd (gs := []) (hs := [.cells [ints (natI c)], .ret (ints (othersL b.ss.length (natI c))), .ret (bools (markL (shP b (othersL b.ss.length (natI c))))), .ret (I (idxF id (markL (shP b (othersL b.ss.length (natI c)))) 0))]) hmix rfl (by kernel_rfl) ⟨⟨by omega, by simp [hx]⟩, hot, hsh, least_ev _, trivial⟩ ?_
          refine LWp.ite (b := oddG b c) rfl (fun hg => ?_) (fun hg => ?_)
          · have hpl := odd_plain V hk (by omega) hc hx hg hm0 hi0
            rw [hpl]
            refine LWp.sx (gs := []) (hs := [.cells [ints (natI c)]]) rfl ⟨⟨by omega, by simp [hx]⟩, trivial⟩ ?_
            refine LWp.ret (retT (.inr rfl) (.many (by decide) ⟨.tmp ?_ rfl, .tmp ?_ rfl, trivial⟩))
            · rfl
            · rfl
          · refine LWp.skip ?_
            refine LWp.x (gs := []) (hs := []) rfl ⟨by omega, trivial⟩ ?_
            refine ⟨i + 1, ⟨hd, ?_⟩, by omega, Ent.el ⟨rfl, rfl, rfl, rfl, trivial⟩⟩
            intro j c' hj hc'
            by_cases ej : j = i
            · subst ej; rw [hx] at hc'; cases hc'; exact hg
            · exact hi0 j c' (by omega) hc'
        · simp only [List.length_map, decide_eq_false_iff_not, Int.ofNat_lt] at hd
          refine LWp.exit ⟨(), ?_, Ent.el ⟨rfl, rfl, trivial⟩⟩
          intro c hcm
          obtain ⟨j, hj⟩ := List.mem_iff_getElem?.1 hcm
          exact hi0 j c (by have := (List.getElem?_eq_some_iff.1 hj).1; omega) hj
      · intro _ hall
        refine LWp.x (gs := []) (hs := []) rfl ⟨by omega, trivial⟩ ?_
        refine ⟨m + 1, ⟨hc, ?_⟩, by omega, Ent.el ⟨rfl, rfl, trivial⟩⟩
        intro m' hm' c hcm
        by_cases em : m' = m
        · subst em; exact hall c hcm
        · exact hm0 m' (by omega) c hcm
    · simp only [List.length_map, decide_eq_false_iff_not, Int.ofNat_lt] at hc
      refine LWp.exit ⟨(), ?_, Ent.el trivial⟩
      by_cases hn : 1 ≤ b.ss.length
      · obtain ⟨c, c1, c2, c3, _⟩ := odd_exists V hk hn
        have := hm0 c.length (by omega) c c1
        rw [c3] at this; cases this
      · have hnil : b.ss = [] := List.length_eq_zero_iff.1 (by omega)
        have e1 : knownOf b = [] := by simp [knownOf, spsOf, hnil, knownF]
        rw [e1, hnil]; rfl
  · intro _ hz
    rw [hz]
    refine LWp.sx (gs := []) (hs := []) rfl trivial ?_
    refine LWp.ent (Ent.nilSl (t := 2) 1 rfl) ?_
    refine LWp.ret (retT (.inr rfl) (.many (by decide) ⟨.tmp ?_ rfl, .tmp ?_ rfl, trivial⟩))
    · rfl
    · rfl
end Go.Px

