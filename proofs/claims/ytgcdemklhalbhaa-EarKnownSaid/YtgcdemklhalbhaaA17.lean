/- Part 17 of the proof of the statements of this seat (a logic of pure contracts, the functions lowered, their contracts, the statements). No conditions. -/
import Derived.Test.YtgcdemklhalbhaaA16
namespace Go.Px
open Go.Proofs

/-- How far letters can be heard. -/
def doneK (ls : List Letter) (hd : List Int) (ks : List Nat) : List Nat := (lets ls ks).foldl (fun done x => fur x hd done) [0]
theorem doneK_snoc (ls : List Letter) (hd : List Int) (ks : List Nat) (k : Nat) : doneK ls hd (ks ++ [k]) = fur (atK ls k) hd (doneK ls hd ks) := by
  simp [doneK, lets, List.foldl_append]
theorem doneK_mem (ls : List Letter) (hd : List Int) (ks : List Nat) (b : Nat) : b ∈ doneK ls hd ks ↔ Path hd (lets ls ks) 0 b := by
  have key : ∀ (js : List Nat) (b : Nat), b ∈ doneK ls hd js.reverse ↔ Path hd (lets ls js.reverse) 0 b := by
    intro js
    induction js with
    | nil => intro b; simp [doneK, lets, Path, eq_comm]
    | cons j js ih =>
      intro b
      rw [List.reverse_cons, doneK_snoc, fur_mem]
      have e : lets ls (js.reverse ++ [j]) = lets ls js.reverse ++ [atK ls j] := by simp [lets]
      rw [e, path_snoc]
      simp only [ih]
  have := key ks.reverse b
  rwa [List.reverse_reverse] at this
theorem doneK_bound (ls : List Letter) (hd : List Int) : ∀ ks : List Nat, (doneK ls hd ks).length ≤ 2 ^ ks.length ∧ ∀ b ∈ doneK ls hd ks, b ≤ ks.length := by
  have key : ∀ js : List Nat, (doneK ls hd js.reverse).length ≤ 2 ^ js.length ∧ ∀ b ∈ doneK ls hd js.reverse, b ≤ js.length := by
    intro js
    induction js with
    | nil => simp [doneK, lets]
    | cons j js ih =>
      rw [List.reverse_cons, doneK_snoc]
      refine ⟨?_, ?_⟩
      · have := fur_len (atK ls j) hd (doneK ls hd js.reverse)
        rw [List.length_cons, Nat.pow_succ]
        have := ih.1
        omega
      · intro b hb
        obtain ⟨n, hn, hs⟩ := fur_mem.1 hb
        have := ih.2 n hn
        rw [List.length_cons]
        rcases hs with ⟨_, rfl⟩ | ⟨_, _, rfl⟩ <;> omega
  intro ks
  have := key ks.reverse
  rwa [List.reverse_reverse, List.length_reverse] at this

def goodK (ls : List Letter) (hd : List Int) (ks : List Nat) : Bool := !(doneK ls hd ks).isEmpty
/-- One letter more. -/
def extK (ls : List Letter) (hd : List Int) (ks : List Nat) : List (List Nat) := ((List.range ls.length).map fun k => ks ++ [k]).filter (goodK ls hd)
def txK (ls : List Letter) (hd : List Int) : Nat → List (List Nat)
  | 0 => [[]]
  | m + 1 => (txK ls hd m).flatMap (extK ls hd)
theorem extK_len (ls : List Letter) (hd : List Int) (ks : List Nat) : (extK ls hd ks).length ≤ ls.length := by
  unfold extK
  exact Nat.le_trans (List.length_filter_le _ _) (by simp)
theorem txK_size (ls : List Letter) (hd : List Int) : ∀ m, (txK ls hd m).length ≤ ls.length ^ m
  | 0 => by simp [txK]
  | m + 1 => by
    have h1 := txK_size ls hd m
    have h2 := length_flatMap_le (f := extK ls hd) (l := txK ls hd m) (fun c _ => extK_len ls hd c)
    have h3 := Nat.mul_le_mul_right ls.length h1
    rw [Nat.pow_succ]
    simp only [txK]
    omega
theorem txK_iff (ls : List Letter) (hd : List Int) : ∀ (m : Nat) (ks : List Nat), ks ∈ txK ls hd m ↔ InK ls.length m ks ∧ goodK ls hd ks = true
  | 0, ks => by
    simp only [txK, List.mem_singleton]
    constructor
    · rintro rfl; exact ⟨⟨rfl, by simp⟩, rfl⟩
    · rintro ⟨h, _⟩; exact List.length_eq_zero_iff.1 h.1
  | m + 1, ks => by
    simp only [txK, List.mem_flatMap, extK, List.mem_filter, List.mem_map, List.mem_range]
    constructor
    · rintro ⟨js, hj, ⟨k, hk, rfl⟩, hg⟩
      obtain ⟨⟨h1, h2⟩, _⟩ := (txK_iff ls hd m js).1 hj
      refine ⟨⟨by simp [h1], ?_⟩, hg⟩
      intro x hx
      rcases List.mem_append.1 hx with hx | hx
      · exact h2 x hx
      · simp only [List.mem_singleton] at hx; omega
    · rintro ⟨⟨h1, h2⟩, hg⟩
      rcases List.eq_nil_or_concat ks with rfl | ⟨js, k, rfl⟩
      · simp at h1
      · rw [List.concat_eq_append] at *
        refine ⟨js, (txK_iff ls hd m js).2 ⟨⟨by simpa using h1, fun x hx => h2 x (by simp [hx])⟩, ?_⟩, ⟨k, h2 k (by simp), rfl⟩, hg⟩
        unfold goodK at hg ⊢
        rw [doneK_snoc] at hg
        cases hd' : doneK ls hd js with
        | nil => rw [hd'] at hg; simp [fur] at hg
        | cons _ _ => rfl
theorem txK_sorted (ls : List Letter) (hd : List Int) : ∀ m, (txK ls hd m).Pairwise (fun a b => lessN a b = true)
  | 0 => by simp [txK]
  | m + 1 => by
    simp only [txK]
    rw [List.pairwise_flatMap]
    constructor
    · intro c hc
      unfold extK
      refine List.Pairwise.filter _ ?_
      rw [List.pairwise_map]
      refine List.Pairwise.imp ?_ List.pairwise_lt_range
      intro u v huv
      show lessL (natI (c ++ [u])) (natI (c ++ [v])) = true
      rw [natI_append, natI_append, lessL_prefix]
      have h1 : ¬ ((u : Int) = v) := by omega
      simp [natI, lessL, h1]; omega
    · refine List.Pairwise.imp_of_mem ?_ (txK_sorted ls hd m)
      intro a b ha hb hab x hx y hy
      obtain ⟨u, _, rfl⟩ := List.mem_map.1 (List.mem_filter.1 hx).1
      obtain ⟨v, _, rfl⟩ := List.mem_map.1 (List.mem_filter.1 hy).1
      show lessL (natI (a ++ [u])) (natI (b ++ [v])) = true
      rw [natI_append, natI_append]
      exact lessL_app _ _ (by simp [((txK_iff ls hd m a).1 ha).1.1, ((txK_iff ls hd m b).1 hb).1.1]) hab

/-- The first of the texts that are heard so. -/
theorem spell_found {ls : List Letter} (D : LsD ls) (hd : List Int) {m i : Nat} {ks : List Nat} (hi : (txK ls hd m)[i]? = some ks) (hg : hasN (doneK ls hd ks) hd.length = true)
    (h0 : ∀ j js, j < i → (txK ls hd m)[j]? = some js → hasN (doneK ls hd js) hd.length = false) : wr ls hd m 0 = some (bytesK ls ks) := by
  have hL : LeastK ls.length m (fun js => Path hd (lets ls js) 0 hd.length) ks := by
    have hm := (txK_iff ls hd m ks).1 (List.mem_of_getElem? hi)
    refine ⟨hm.1, (doneK_mem _ _ _ _).1 (hasN_iff.1 hg), ?_⟩
    intro js hj hp
    have hp' := (doneK_mem _ _ _ _).2 hp
    have hjm : js ∈ txK ls hd m := (txK_iff ls hd m js).2 ⟨hj, by
      unfold goodK
      cases hd' : doneK ls hd js with
      | nil => rw [hd'] at hp'; cases hp'
      | cons _ _ => rfl⟩
    obtain ⟨i', hi'⟩ := List.mem_iff_getElem?.1 hjm
    rcases Nat.lt_trichotomy i' i with hl | rfl | hl
    · have := h0 i' js hl hi'
      rw [hasN_iff.2 hp'] at this; cases this
    · rw [hi] at hi'; cases hi'; exact .inl rfl
    · have hs := List.pairwise_iff_getElem.1 (txK_sorted ls hd m)
      obtain ⟨p1, p2⟩ := List.getElem?_eq_some_iff.1 hi
      obtain ⟨q1, q2⟩ := List.getElem?_eq_some_iff.1 hi'
      have := hs i i' p1 q1 hl
      rw [p2, q2] at this
      exact .inr this
  have hw := wr_least D hd m 0
  cases hr : wr ls hd m 0 with
  | none => rw [hr] at hw; exact absurd hL.2.1 (hw ks hL.1)
  | some t =>
    rw [hr] at hw
    obtain ⟨js, h1, h2⟩ := hw
    rw [h1, LeastK.unique h2 hL]
theorem spell_none {ls : List Letter} (D : LsD ls) (hd : List Int) {m : Nat} (h0 : ∀ js ∈ txK ls hd m, hasN (doneK ls hd js) hd.length = false) : wr ls hd m 0 = none := by
  have hw := wr_least D hd m 0
  cases hr : wr ls hd m 0 with
  | none => rfl
  | some t =>
    rw [hr] at hw
    obtain ⟨js, h1, h2, h3, h4⟩ := hw
    have hp' := (doneK_mem _ _ _ _).2 h3
    have hjm : js ∈ txK ls hd m := (txK_iff ls hd m js).2 ⟨h2, by
      unfold goodK
      cases hd' : doneK ls hd js with
      | nil => rw [hd'] at hp'; cases hp'
      | cons _ _ => rfl⟩
    have := h0 js hjm
    rw [hasN_iff.2 hp'] at this; cases this

abbrev encR (ls : List Letter) (hd : List Int) (ks : List Nat) : List AV := [Str (bytesK ls ks), ints (natI (doneK ls hd ks))]
theorem bytesK_snoc (ls : List Letter) (ks : List Nat) (k : Nat) : bytesK ls (ks ++ [k]) = bytesK ls ks ++ [byteK ls k] := by simp [bytesK]

theorem rspell_ev (b : Book) (hw : b.wf) (hs : b.al.length ≤ 9223372036854775807) (i : Int) (l : List Int) : Ev Try.prog 36 [.agg b.enc, I i, ints l] (.tup [Str (spellR b i l).1, I (spellR b i l).2]) := by
  have hln : ((b.al.map Alph.enc).length : Int) = b.al.length := by simp
  refine Ev.intro fn36 ?_
  refine LWp.sx (gs := []) (hs := [.ice]) rfl ⟨⟨rfl, rfl⟩, trivial⟩ ?_
  have hr : (if enterE b b.al.length [i] = 0 then hearE b.n l else enterE b b.al.length [i]) = spellE b i l := rfl
  have hhe := hears_ev b l (enterE b b.al.length [i]) (fun h => by have := check_n (enterE_check h).1; omega)
  rw [hr] at hhe
  refine LWp.sd (gs := []) (hs := [.ice, .ret (I (enterE b b.al.length [i])), .ret (I (spellE b i l))]) hmix rfl (by kernel_rfl) ⟨rfl, by rw [hln]; exact indices_ev b hw [i] _ (by omega) (by omega), hhe, trivial⟩ ?_
  refine LWp.seq (LWp.seq ?_)
  refine LWp.x (gs := []) (hs := []) rfl trivial ?_
  refine LWp.ite rfl (fun h => ?_) (fun h => ?_)
  · simp only [bne_iff_ne, ne_eq] at h
    have e : spellR b i l = ([], spellE b i l) := by simp only [spellR, h, if_false]
    rw [e]
    refine LWp.sx (gs := []) (hs := []) rfl trivial ?_
    refine LWp.ret (retT (.inr rfl) (.many (by decide) ⟨.tmp ?_ rfl, .tmp ?_ rfl, trivial⟩))
    · rfl
    · rfl
  simp only [bne_eq_false_iff_eq] at h
  have hen : enterE b b.al.length [i] = 0 := by
    apply Decidable.byContradiction
    intro hne
    rw [spellE, if_neg hne] at h
    exact hne h
  have hhr : hearE b.n l = 0 := by rw [spellE, if_pos hen] at h; exact h
  obtain ⟨hv, hb⟩ := enterE_check hen
  have V := valid_iff.1 hv
  have n1 := V.n1
  have n4 := V.n4
  obtain ⟨l4, l5⟩ := hearE_H4 n4 hhr
  have hok := l4.ok l5
  simp only [beyondB, List.any_cons, List.any_nil, Bool.or_false, Bool.or_eq_false_iff, decide_eq_false_iff_not] at hb
  have hlt : i.toNat < b.al.length := by omega
  obtain ⟨a, ha⟩ := ex_get hlt
  have AO := V.alph a (List.mem_of_getElem? ha)
  have hls := AO.ls (by omega)
  have l6 := AO.l6
  have D : LsD a.ls := ⟨fun x hx => ⟨(AO.let_ x hx).1, (AO.let_ x hx).2.1⟩, AO.nd⟩
  have hlo : lettersOf b i = a.ls := by simp only [lettersOf, ha]
  have hR : spellR b i l = (match spellT a.ls l with | some t => (t, 0) | none => ([], 9)) := by
    unfold spellR
    rw [if_pos h, hlo]
    cases spellT a.ls l <;> rfl
  have hsz : ∀ m, m ≤ 5 → (txK a.ls l m).length ≤ 7776 := by
    intro m hm
    have h1 := txK_size a.ls l m
    have h2 : a.ls.length ^ m ≤ 6 ^ m := Nat.pow_le_pow_left l6 m
    have h3 : 6 ^ m ≤ 6 ^ 5 := Nat.pow_le_pow_right (by omega) hm
    omega
  refine LWp.skip ?_
  refine LWp.sx (gs := []) (hs := [.cells a.enc]) rfl ⟨⟨by omega, by simp [ha]⟩, trivial⟩ ?_
  refine LWp.sx (gs := []) (hs := [.ice, .ice]) rfl ⟨rfl, rfl, trivial⟩ ?_
  refine LWp.seq (LWp.seq ?_)
  refine LWp.x (gs := []) (hs := []) rfl trivial ?_
  refine LWp.blockT (fun _ : Unit => spellT a.ls l = none) (fun _ => el []) (fun _ => []) (fun _ => []) ?_ ?_
  · refine LWp.loopN (fun j : Nat => j ≤ 5 ∧ spellT a.ls l = (List.range' (j + 1) (5 - j)).findSome? fun m => wr a.ls l m 0) (fun j => el [(2, ints l), (9, letters a.ls), (10, .sl 2 ((txK a.ls l j).map (encR a.ls l))), (11, I (j + 1 : Nat))]) (fun _ => []) (fun _ => []) (fun j => 5 - j) 0 ⟨by omega, rfl⟩
      (Ent.el ⟨rfl, rfl, rfl, rfl, trivial⟩) ?_
    rintro j ⟨hj, hi⟩
    refine LWp.seq (LWp.seq ?_)
    refine LWp.x (gs := []) (hs := []) rfl trivial ?_
    refine LWp.ite rfl (fun hc => ?_) (fun hc => ?_)
    · simp only [decide_eq_true_eq] at hc
      have hj5 : j < 5 := by omega
      rw [show 5 - j = (5 - (j + 1)) + 1 by omega, List.range'_succ, List.findSome?_cons] at hi
      have hmem := txK_iff a.ls l j
      have hs0 := hsz j (by omega)
      have hs1 := hsz (j + 1) (by omega)
      have htx : txK a.ls l (j + 1) = (txK a.ls l j).flatMap (extK a.ls l) := rfl
      refine LWp.skip ?_
      refine LWp.blockX (fun _ : Unit => wr a.ls l (j + 1) 0 = none) (fun _ => el [(2, ints l), (9, letters a.ls), (10, .sl 2 ((txK a.ls l (j + 1)).map (encR a.ls l))), (11, I (j + 1 : Nat))]) (fun _ => []) (fun _ => []) ?_ ?_
      · refine LWp.sx (gs := []) (hs := []) rfl trivial ?_
        refine LWp.ent (Ent.nilLin (t := 12) 127 2 rfl) ?_
        refine LWp.seq (LWp.seq ?_)
        refine LWp.x (gs := []) (hs := []) rfl trivial ?_
        refine LWp.blockT (fun _ : Unit => True) (fun _ => el [(2, ints l), (9, letters a.ls), (11, I (j + 1 : Nat)), (12, .lin 127 2 ((txK a.ls l (j + 1)).map (encR a.ls l)))]) (fun _ => []) (fun _ => []) ?_ ?_
        · rw [htx] at hs1 ⊢
          generalize txK a.ls l j = C at hmem hs0 hs1
          refine LWp.loopN (fun k : Nat => k ≤ C.length) (fun k => el [(2, ints l), (9, letters a.ls), (10, .sl 2 (C.map (encR a.ls l))), (11, I (j + 1 : Nat)), (12, .lin 127 2 (((C.take k).flatMap (extK a.ls l)).map (encR a.ls l))), (13, I k)]) (fun _ => []) (fun _ => []) (fun k => C.length - k) 0 (by omega)
            (Ent.el ⟨rfl, rfl, rfl, rfl, rfl, rfl, trivial⟩) ?_
          intro k hk
          refine LWp.seq (LWp.seq ?_)
          refine LWp.x (gs := []) (hs := []) rfl trivial ?_
          refine LWp.ite rfl (fun hd => ?_) (fun hd => ?_)
          · simp only [List.length_map, decide_eq_true_eq, Int.ofNat_lt] at hd
            obtain ⟨ks, hx⟩ := ex_get hd
            have hkm := (hmem ks).1 (List.mem_of_getElem? hx)
            have hkl := hkm.1.1
            have hst : (C.take (k + 1)).flatMap (extK a.ls l) = (C.take k).flatMap (extK a.ls l) ++ extK a.ls l ks := by
              rw [List.take_add_one, hx, List.flatMap_append]; simp
            have hle : ((C.take k).flatMap (extK a.ls l)).length + (extK a.ls l ks).length ≤ 7776 := by
              have h1 : C.flatMap (extK a.ls l) = (C.take (k + 1)).flatMap (extK a.ls l) ++ (C.drop (k + 1)).flatMap (extK a.ls l) := by
                rw [← List.flatMap_append, List.take_append_drop]
              have h2 := congrArg List.length h1
              rw [List.length_append, hst, List.length_append] at h2
              omega
            generalize (C.take k).flatMap (extK a.ls l) = A at hst hle
            obtain ⟨db1, db2⟩ := doneK_bound a.ls l ks
            have hp2 : 2 ^ ks.length ≤ 2 ^ 5 := Nat.pow_le_pow_right (by omega) (by omega)
            have hbl : (bytesK a.ls ks).length = j := by simp [bytesK, hkl]
            refine LWp.skip ?_
            refine LWp.blockX (fun _ : Unit => True) (fun _ => el [(2, ints l), (9, letters a.ls), (10, .sl 2 (C.map (encR a.ls l))), (11, I (j + 1 : Nat)), (12, .lin 127 2 ((A ++ extK a.ls l ks).map (encR a.ls l))), (13, I k)]) (fun _ => []) (fun _ => []) ?_ ?_
            · refine LWp.seq ?_
              refine LWp.x (gs := []) (hs := []) rfl trivial ?_
              refine LWp.block ?_
              refine LWp.loopN (fun v : Nat => v ≤ a.ls.length) (fun v => el [(2, ints l), (9, letters a.ls), (10, .sl 2 (C.map (encR a.ls l))), (11, I (j + 1 : Nat)), (12, .lin 127 2 ((A ++ ((List.range v).map fun k => ks ++ [k]).filter (goodK a.ls l)).map (encR a.ls l))), (13, I k), (14, I v)]) (fun _ => []) (fun _ => []) (fun v => a.ls.length - v) 0 (by omega)
                (Ent.el ⟨rfl, rfl, rfl, rfl, by simp; rfl, rfl, rfl, trivial⟩) ?_
              intro v hv
              refine LWp.seq (LWp.seq ?_)
              refine LWp.x (gs := []) (hs := []) rfl trivial ?_
              refine LWp.ite rfl (fun he => ?_) (fun he => ?_)
              · simp only [List.length_map, decide_eq_true_eq, Int.ofNat_lt] at he
                have hgx := atK_get he
                obtain ⟨c0, c1, s0, s1⟩ := hls.2 _ (List.mem_of_getElem? hgx)
                have hrl : (((List.range v).map fun k => ks ++ [k]).filter (goodK a.ls l)).length ≤ 6 := Nat.le_trans (List.length_filter_le _ _) (by simp; omega)
                have hst2 : ((List.range (v + 1)).map fun k => ks ++ [k]).filter (goodK a.ls l) = ((List.range v).map fun k => ks ++ [k]).filter (goodK a.ls l) ++ (if goodK a.ls l (ks ++ [v]) = true then [ks ++ [v]] else []) := by
                  rw [List.range_succ, List.map_append, List.filter_append]
                  congr 1
                  cases hg : goodK a.ls l (ks ++ [v]) <;> simp [hg]
                generalize ((List.range v).map fun k => ks ++ [k]).filter (goodK a.ls l) = R at hrl hst2 ⊢
                have hds := doneK_snoc a.ls l ks v
                have hfu := further_ev (atK a.ls v) s0 s1 (doneK a.ls l ks) (by omega) (fun n hn => by have := db2 n hn; omega) l hok
                rw [← hds] at hfu
                refine LWp.skip (LWp.seq (LWp.block ?_))
                refine LWp.sd (gs := []) (hs := [.cells (atK a.ls v).enc, .cells (encR a.ls l ks), .ret (ints (natI (doneK a.ls l (ks ++ [v]))))]) hmix rfl (by kernel_rfl) ⟨⟨by omega, by simp [hgx]⟩, ⟨by omega, get_map hx⟩, hfu, trivial⟩ ?_
                refine LWp.seq ?_
                refine LWp.x (gs := []) (hs := []) rfl trivial ?_
                refine LWp.ite rfl (fun hg => ?_) (fun hg => ?_)
                · simp only [List.length_map, gt_iff_lt, decide_eq_true_eq] at hg
                  have hgd : goodK a.ls l (ks ++ [v]) = true := by
                    unfold goodK
                    cases hq : doneK a.ls l (ks ++ [v]) with
                    | nil => rw [hq] at hg; simp at hg
                    | cons _ _ => rfl
                  rw [hgd] at hst2
                  have hwr : IntKind.i32.wrap (atK a.ls v).c = (atK a.ls v).c := by
                    have h : ∀ k : Fin 26, IntKind.i32.wrap (97 + (k.1 : Int)) = 97 + (k.1 : Int) := by decide +kernel
                    have := h ⟨((atK a.ls v).c - 97).toNat, by omega⟩
                    have e1 : (97 : Int) + (((atK a.ls v).c - 97).toNat : Int) = (atK a.ls v).c := by omega
                    rw [e1] at this; exact this
                  refine LWp.dd (gs := []) (hs := [.cells (encR a.ls l ks), .cells (atK a.ls v).enc, .op (Str [byteK a.ls v]), .ice]) hmix rfl (by kernel_rfl) ⟨⟨by omega, get_map hx⟩, ⟨by omega, by simp [hgx]⟩, hwr, op_rune rfl c0 c1, by show (bytesK a.ls ks).length + 1 ≤ _; omega, rfl, ⟨by simp [chunk]; omega, by simp [chunk]; omega⟩, trivial⟩ ?_
                  refine LWp.x (gs := []) (hs := []) rfl ⟨by omega, trivial⟩ ?_
                  refine ⟨v + 1, he, by omega, Ent.el ⟨rfl, rfl, rfl, rfl, ?_, rfl, rfl, trivial⟩⟩
                  rw [hst2, ← List.append_assoc, List.map_append (l₁ := A ++ R)]
                  show _ = AV.lin 127 2 (_ ++ [[Str (bytesK a.ls (ks ++ [v])), ints (natI (doneK a.ls l (ks ++ [v])))]])
                  have e2 := str_append (bytesK a.ls ks) [byteK a.ls v]
                  rw [← bytesK_snoc] at e2
                  have e3 : Str (bytesK a.ls (ks ++ [v])) = AV.v (.string (⟨(bytesK a.ls ks).toArray⟩ ++ ⟨[byteK a.ls v].toArray⟩)) := congrArg (fun s => AV.v (.string s)) e2.symm
                  rw [e3]; rfl
                · simp only [List.length_map, gt_iff_lt, decide_eq_false_iff_not] at hg
                  have hgd : goodK a.ls l (ks ++ [v]) = false := by
                    unfold goodK
                    cases hq : doneK a.ls l (ks ++ [v]) with
                    | nil => rfl
                    | cons _ _ => rw [hq] at hg; simp at hg
                  rw [hgd] at hst2
                  refine LWp.skip ?_
                  refine LWp.x (gs := []) (hs := []) rfl ⟨by omega, trivial⟩ ?_
                  refine ⟨v + 1, he, by omega, Ent.el ⟨rfl, rfl, rfl, rfl, ?_, rfl, rfl, trivial⟩⟩
                  rw [hst2, if_neg (by simp), List.append_nil]; rfl
              · simp only [List.length_map, decide_eq_false_iff_not, Int.ofNat_lt] at he
                have : v = a.ls.length := by omega
                subst this
                exact LWp.exit ⟨(), trivial, Ent.el ⟨rfl, rfl, rfl, rfl, rfl, rfl, trivial⟩⟩
            · intro _ _
              refine LWp.x (gs := []) (hs := []) rfl ⟨by omega, trivial⟩ ?_
              refine ⟨k + 1, hd, by omega, Ent.el ⟨rfl, rfl, rfl, rfl, ?_, rfl, trivial⟩⟩
              rw [hst]; rfl
          · simp only [List.length_map, decide_eq_false_iff_not, Int.ofNat_lt] at hd
            refine LWp.exit ⟨(), trivial, Ent.el ⟨rfl, rfl, rfl, ?_, trivial⟩⟩
            have e : C.take k = C := List.take_of_length_le (by omega)
            rw [e]; rfl
        · intro _ _
          refine LWp.ent (Ent.freezeLin (t := 12) rfl) ?_
          have hN := spell_none D l (m := j + 1)
          have hF := fun i ks => spell_found D l (m := j + 1) (i := i) (ks := ks)
          generalize txK a.ls l (j + 1) = C at hs1 hN hF ⊢
          refine LWp.seq (LWp.seq ?_)
          refine LWp.x (gs := []) (hs := []) rfl trivial ?_
          refine LWp.blockT (fun _ : Unit => wr a.ls l (j + 1) 0 = none) (fun _ => el [(2, ints l), (9, letters a.ls), (11, I (j + 1 : Nat)), (12, .sl 2 (C.map (encR a.ls l)))]) (fun _ => []) (fun _ => []) ?_ ?_
          · refine LWp.loopN (fun k : Nat => k ≤ C.length ∧ ∀ j' js, j' < k → C[j']? = some js → hasN (doneK a.ls l js) l.length = false) (fun k => el [(2, ints l), (9, letters a.ls), (11, I (j + 1 : Nat)), (12, .sl 2 (C.map (encR a.ls l))), (16, I k)]) (fun _ => []) (fun _ => []) (fun k => C.length - k) 0 ⟨by omega, by omega⟩
              (Ent.el ⟨rfl, rfl, rfl, rfl, rfl, trivial⟩) ?_
            rintro k ⟨hk, hk0⟩
            refine LWp.seq (LWp.seq ?_)
            refine LWp.x (gs := []) (hs := []) rfl trivial ?_
            refine LWp.ite rfl (fun hd => ?_) (fun hd => ?_)
            · simp only [List.length_map, decide_eq_true_eq, Int.ofNat_lt] at hd
              obtain ⟨ks, hx⟩ := ex_get hd
              have hha := has_ev (natI (doneK a.ls l ks)) ((l.map fun x => [I x]).length : Int)
              have hlm : (l.map fun x => [I x]).length = l.length := by simp
              refine LWp.skip (LWp.seq (LWp.block (LWp.seq ?_)))
              refine LWp.x (gs := []) (hs := [.cells (encR a.ls l ks), .ret (B ((natI (doneK a.ls l ks)).any (· == ((l.map fun x => [I x]).length : Int))))]) rfl ⟨⟨by omega, get_map hx⟩, hha, trivial⟩ ?_
              refine LWp.ite rfl (fun hg => ?_) (fun hg => ?_)
              · rw [hlm] at hg
                have hw := hF k ks hx hg hk0
                rw [hw] at hi
                have hR' : spellR b i l = (bytesK a.ls ks, 0) := by rw [hR, hi]
                rw [hR']
                refine LWp.sx (gs := []) (hs := [.cells (encR a.ls l ks)]) rfl ⟨⟨by omega, get_map hx⟩, trivial⟩ ?_
                refine LWp.ret (retT (.inr rfl) (.many (by decide) ⟨.tmp ?_ rfl, .tmp ?_ rfl, trivial⟩))
                · rfl
                · rfl
              · rw [hlm] at hg
                refine LWp.skip ?_
                refine LWp.x (gs := []) (hs := []) rfl ⟨by omega, trivial⟩ ?_
                refine ⟨k + 1, ⟨hd, ?_⟩, by omega, Ent.el ⟨rfl, rfl, rfl, rfl, rfl, trivial⟩⟩
                intro j' js hj' hjs
                by_cases ej : j' = k
                · subst ej; rw [hx] at hjs; cases hjs; exact hg
                · exact hk0 j' js (by omega) hjs
            · simp only [List.length_map, decide_eq_false_iff_not, Int.ofNat_lt] at hd
              refine LWp.exit ⟨(), hN (fun js hjm => ?_), Ent.el ⟨rfl, rfl, rfl, rfl, trivial⟩⟩
              obtain ⟨j', hj'⟩ := List.mem_iff_getElem?.1 hjm
              exact hk0 j' js (by have := (List.getElem?_eq_some_iff.1 hj').1; omega) hj'
          · intro _ hn
            refine LWp.x (gs := []) (hs := []) rfl trivial ?_
            exact ⟨(), hn, Ent.el ⟨rfl, rfl, rfl, rfl, trivial⟩⟩
      · intro _ hn
        rw [hn] at hi
        refine LWp.x (gs := []) (hs := []) rfl ⟨by omega, trivial⟩ ?_
        exact ⟨j + 1, ⟨by omega, hi⟩, by omega, Ent.el ⟨rfl, rfl, rfl, rfl, trivial⟩⟩
    · simp only [decide_eq_false_iff_not] at hc
      have : j = 5 := by omega
      subst this
      exact LWp.exit ⟨(), hi, Ent.el trivial⟩
  · intro _ hn
    have hR' : spellR b i l = ([], 9) := by rw [hR, hn]
    rw [hR']
    refine LWp.sx (gs := []) (hs := []) rfl trivial ?_
    refine LWp.ret (retT (.inr rfl) (.many (by decide) ⟨.tmp ?_ rfl, .tmp ?_ rfl, trivial⟩))
    · rfl
    · rfl
end Go.Px

