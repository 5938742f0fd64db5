/- Part 3 of the proof of the statement PersonTrue (contracts of the functions that it alone wants). No conditions. -/
import Derived.Test.YtcioapljmakidaaGreatBTrue2
namespace Go.Px
open Go.Proofs
theorem markL_len (p : Nat → Bool) : (markL p).length = 3125 := by simp [markL]
abbrev markE (p : Nat → Bool) : List (List AV) := (markL p).map fun x => [B x]
theorem markE_get (p : Nat → Bool) {c : Nat} (h : c < 3125) : (markE p)[c]? = some [B (p c)] := by
  show ((markL p).map _)[c]? = _
  rw [List.getElem?_map, markL_get p h]; rfl
theorem markE_len (p : Nat → Bool) : (markE p).length = 3125 := by
  show ((markL p).map _).length = _
  rw [List.length_map, markL_len]
theorem markL_set (p : Nat → Bool) {m : Nat} (h : m < 3125) (v : Bool) : (markL p).set m v = markL (fun c => if c = m then v else p c) := by
  apply List.ext_getElem?
  intro i
  rw [List.getElem?_set]
  by_cases hi : i < 3125
  · by_cases e : m = i
    · subst e; rw [if_pos rfl, if_pos (by rw [markL_len]; exact h), markL_get _ h, if_pos rfl]
    · rw [if_neg e, markL_get _ hi, markL_get _ hi, if_neg (fun e' => e e'.symm)]
  · have h1 : ∀ q, (markL q)[i]? = none := fun q => List.getElem?_eq_none (by rw [markL_len]; omega)
    rw [h1, h1]
    split
    · split
      · rename_i e _; omega
      · rfl
    · rfl
theorem markE_set (p : Nat → Bool) {m : Nat} (h : m < 3125) (v : Bool) : (markE p).set m (setSeg [B (p m)] 0 (cellsAV (B v))) = markE (fun c => if c = m then v else p c) := by
  show ((markL p).map _).set m _ = (markL _).map _
  rw [← markL_set p h v, List.map_set]; rfl
theorem markE_congr {p q : Nat → Bool} (h : ∀ c, c < 3125 → p c = q c) : markE p = markE q := by
  have : markL p = markL q := by
    unfold markL
    exact List.map_congr_left (fun c hc => h c (List.mem_range.1 hc))
  show (markL p).map _ = (markL q).map _
  rw [this]
theorem replicate_range {α : Type} (x : α) : ∀ n : Nat, List.replicate n x = (List.range n).map (fun _ => x)
  | 0 => rfl
  | n + 1 => by rw [List.replicate_succ', List.range_succ, List.map_append, replicate_range x n]; rfl
theorem mark_zero (n : Nat) : List.replicate n ([Value.bool false].map AV.v) = ((List.range n).map (fun _ => false)).map (fun x => [B x]) := by
  rw [List.map_map, replicate_range]; rfl
theorem markE_zero : List.replicate 3125 ([Value.bool false].map AV.v) = markE (fun _ => false) := mark_zero 3125
def partP (n : Nat) (x : Letter) (p : Nat → Bool) (k : Nat) : Nat → Bool := fun c => (p c && x.q && decide (c < k)) || (decide (0 < c) && decide ((c - 1) % 5 < n) && givesB x.s (((c - 1) % 5 : Nat) : Int) && p ((c - 1) / 5) && decide ((c - 1) / 5 < k))
def partJ (n : Nat) (x : Letter) (p : Nat → Bool) (k j : Nat) : Nat → Bool := fun c => partP n x p k c || (decide (c = k) && x.q) || (decide (0 < c) && decide ((c - 1) / 5 = k) && decide ((c - 1) % 5 < j) && givesB x.s (((c - 1) % 5 : Nat) : Int))
theorem partP_zero (n : Nat) (x : Letter) (p : Nat → Bool) : partP n x p 0 = fun _ => false := by
  funext c; simp [partP]
theorem bool_no : ∀ pc q a b z p5 a5 b5 : Bool, (pc && b) = false → (p5 && b5) = false → ((pc && q && (a || b)) || (z && p5 && (a5 || b5))) = ((pc && q && a) || (z && p5 && a5)) := by decide
theorem bool_yes : ∀ pc q a b z p5 a5 b5 : Bool, (pc && b) = b → (p5 && b5) = b5 → ((pc && q && (a || b)) || (z && p5 && (a5 || b5))) = (((pc && q && a) || (z && p5 && a5)) || (b && q) || (z && b5)) := by decide
theorem dec_succ (c k : Nat) : decide (c < k + 1) = (decide (c < k) || decide (c = k)) := by
  rw [Bool.eq_iff_iff]; simp; omega
theorem partP_no {n : Nat} {x : Letter} {p : Nat → Bool} {k : Nat} (h : p k = false) : partP n x p (k + 1) = partP n x p k := by
  funext c
  simp only [partP, dec_succ]
  refine bool_no _ _ _ _ _ _ _ _ ?_ ?_
  · by_cases e : c = k
    · rw [e, h]; rfl
    · simp [e]
  · by_cases e : (c - 1) / 5 = k
    · rw [e, h]; rfl
    · simp [e]
theorem partP_yes {n : Nat} {x : Letter} {p : Nat → Bool} {k : Nat} (h : p k = true) : partP n x p (k + 1) = partJ n x p k n := by
  funext c
  have e0 : (decide (0 < c) && decide ((c - 1) / 5 = k) && decide ((c - 1) % 5 < n) && givesB x.s (((c - 1) % 5 : Nat) : Int)) = (decide (0 < c) && decide ((c - 1) % 5 < n) && givesB x.s (((c - 1) % 5 : Nat) : Int) && decide ((c - 1) / 5 = k)) := by
    generalize decide (0 < c) = a1
    generalize decide ((c - 1) / 5 = k) = a2
    generalize decide ((c - 1) % 5 < n) = a3
    generalize givesB x.s (((c - 1) % 5 : Nat) : Int) = a4
    cases a1 <;> cases a2 <;> cases a3 <;> cases a4 <;> rfl
  simp only [partP, partJ, dec_succ, e0]
  refine bool_yes _ _ _ _ _ _ _ _ ?_ ?_
  · by_cases e : c = k
    · rw [e, h]; simp
    · simp [e]
  · by_cases e : (c - 1) / 5 = k
    · rw [e, h]; simp
    · simp [e]
theorem partP_all {n : Nat} {x : Letter} {p : Nat → Bool} {c : Nat} (h : c < 3125) : partP n x p 3125 c = stepP n x p c := by
  have h2 : (c - 1) / 5 < 3125 := by omega
  simp [partP, stepP, h, h2]
theorem stepP_lt {n : Nat} (hn : n ≤ 4) {x : Letter} {p : Nat → Bool} {m : Nat} (h : ∀ c, p c = true → c < 5 ^ m) : ∀ c, stepP n x p c = true → c < 5 ^ (m + 1) := by
  intro c hc
  rw [Nat.pow_succ]
  simp only [stepP, Bool.or_eq_true, Bool.and_eq_true, decide_eq_true_eq] at hc
  rcases hc with ⟨h1, _⟩ | ⟨⟨⟨h1, h2⟩, _⟩, h3⟩
  · have := h c h1; omega
  · have := h _ h3
    omega
theorem strP_lt {n : Nat} (hn : n ≤ 4) (xs : List Letter) : ∀ c, strP n xs c = true → c < 5 ^ xs.length := by
  have key : ∀ (ys : List Letter) (c : Nat), strP n ys.reverse c = true → c < 5 ^ ys.length := by
    intro ys
    induction ys with
    | nil => intro c h; simp [strP] at h; simp [h]
    | cons y ys ih =>
      intro c h
      rw [List.reverse_cons, strP_snoc] at h
      exact stepP_lt hn ih c h
  have := key xs.reverse
  rw [List.reverse_reverse, List.length_reverse] at this
  exact this
theorem strings_lin_ev (b : Book) (hn0 : 0 ≤ b.n) (hn4 : b.n ≤ 4) (s : Spelling) (a : Alph) (ha0 : 0 ≤ s.a) (ha : b.al[s.a.toNat]? = some a) (hl : LsOK a.ls) (ht5 : s.t.length ≤ 5) (hin : ∀ c ∈ s.t, 0 ≤ indexC a.ls c.toNat) :
    Ev Tryz.prog 117 [.agg b.enc, .agg s.enc] (.lin 4 1 (markE (strP b.n.toNat (s.t.map fun c => letAt a.ls c.toNat)))) := by
  generalize hxs : (s.t.map fun c => letAt a.ls c.toNat) = xs
  have hxl : xs.length = s.t.length := by rw [← hxs]; simp
  refine Ev.intro fn117 ?_
  refine LWp.sx (gs := []) (hs := [.ice, .ice]) rfl ⟨⟨rfl, rfl⟩, ⟨rfl, rfl⟩, trivial⟩ ?_
  refine LWp.seq (LWp.ops (WOps.cons (Op1.mslice 3125 rfl rfl rfl rfl (by omega) (by omega) rfl (fun b5 => ?_))))
  rw [List.length_replicate, markE_zero]
  refine WOps.hd (gs := []) (hs := []) rfl trivial ?_
  refine LWp.seq ?_
  refine LWp.hx (gs := []) (hs := [.stE 0 0 0 [B false]]) rfl ⟨⟨by omega, by omega⟩, ⟨rfl, rfl, markE_get _ (by omega), rfl, rfl, rfl, by omega⟩, trivial⟩ ?_
  refine LWp.ent (Ent.ofH (H' := [(b5, .arr 4 1 3125 (markE (strP b.n.toNat (xs.take 0))))]) ?_) ?_
  · have e1 : (markE (fun _ => false)).set 0 (setSeg [B false] 0 (cellsAV (B true))) = markE (strP b.n.toNat (xs.take 0)) := by
      have := markE_set (fun _ => false) (m := 0) (by omega) true
      rw [this]
      refine markE_congr (fun c _ => ?_)
      by_cases e : c = 0 <;> simp [strP, e]
    show [(b5, HObj.arr 4 1 3125 ((markE (fun _ => false)).set 0 (setSeg [B false] 0 (cellsAV (B true)))))] = _
    rw [e1]
  refine LWp.seq (LWp.seq ?_)
  refine LWp.x (gs := []) (hs := []) rfl trivial ?_
  refine LWp.blockT (fun _ : Nat => True) (fun b5 => el [(5, .so b5 3125 3125)]) (fun b5 => [(b5, .arr 4 1 3125 (markE (strP b.n.toNat xs)))]) (fun _ => []) ?_ ?_
  · refine LWp.loopN (X := Nat × Nat) (fun x => x.1 ≤ s.t.length) (fun x => el [(2, .pi b.enc), (3, .pi s.enc), (5, .so x.2 3125 3125), (6, I x.1)]) (fun x => [(x.2, .arr 4 1 3125 (markE (strP b.n.toNat (xs.take x.1))))]) (fun _ => []) (fun x => s.t.length - x.1) (0, b5) (by simp)
      (Ent.el ⟨rfl, rfl, rfl, rfl, trivial⟩) ?_
    rintro ⟨i, b5⟩ hi
    simp only at hi ⊢
    refine LWp.seq (LWp.seq ?_)
    refine LWp.x (gs := []) (hs := []) rfl trivial ?_
    refine LWp.ite rfl (fun hc => ?_) (fun hc => ?_)
    · simp only [decide_eq_true_eq] at hc
      have hc' : i < s.t.length := by have : ((i : Int) < (s.t.length : Int)) := hc; omega
      obtain ⟨c, hx⟩ := ex_get hc'
      have hidx := hin c (List.mem_of_getElem? hx)
      obtain ⟨_, x, hgx, _⟩ := idxF_lt _ a.ls 0 (by omega) hidx
      rw [Int.sub_zero] at hgx
      have hgx : a.ls[(indexC a.ls c.toNat).toNat]? = some x := hgx
      have hxx : xs[i]? = some x := by
        rw [← hxs, List.getElem?_map, hx]
        simp only [Option.map_some, letAt, hgx]; rfl
      obtain ⟨_, _, s0, s1⟩ := hl.2 x (List.mem_of_getElem? hgx)
      have hpl : ∀ d, strP b.n.toNat (xs.take i) d = true → d < 625 := by
        intro d hd
        have h1 := strP_lt (n := b.n.toNat) (by omega) (xs.take i) d hd
        have h2 : (xs.take i).length = i := by rw [List.length_take]; omega
        rw [h2] at h1
        have h3 : 5 ^ i ≤ 5 ^ 4 := Nat.pow_le_pow_right (by omega) (by omega)
        omega
      have hsn : strP b.n.toNat (xs.take (i + 1)) = stepP b.n.toNat x (strP b.n.toNat (xs.take i)) := by
        rw [List.take_add_one, hxx]
        exact strP_snoc _ _ _
      generalize hp : strP b.n.toNat (xs.take i) = p at hpl hsn
      refine LWp.skip ?_
      refine LWp.blockX (fun _ : Nat => True) (fun b9 => el [(2, .pi b.enc), (3, .pi s.enc), (5, .so b9 3125 3125), (6, I i)]) (fun b9 => [(b9, .arr 4 1 3125 (markE (strP b.n.toNat (xs.take (i + 1)))))]) (fun _ => []) ?_ ?_
      · refine LWp.sx (gs := []) (hs := [.cells a.enc, .lin]) rfl ⟨⟨ha0, by simp [ha]⟩, rfl, ⟨rfl, rfl, rfl, by decide⟩, trivial⟩ ?_
        refine LWp.ent (Ent.freezeLbox (t := 7) rfl) ?_
        refine LWp.sd (gs := []) (hs := [.byte c, .ret (I (indexC a.ls c.toNat)), .cells x.enc, .lin]) hmix rfl (by kernel_rfl) ⟨⟨by omega, by simpa using hx⟩, rletter_ev a c.toNat hl.1, ⟨hidx, by simp [hgx]⟩, rfl, ⟨rfl, rfl, rfl, by decide⟩, trivial⟩ ?_
        refine LWp.ent (Ent.freezeLbox (t := 8) rfl) ?_
        refine LWp.seq (LWp.ops (WOps.cons (Op1.mslice 3125 rfl rfl rfl rfl (by omega) (by omega) rfl (fun b9 => ?_))))
        rw [List.length_replicate, markE_zero]
        refine WOps.hd (gs := []) (hs := []) rfl trivial ?_
        refine LWp.seq (LWp.seq ?_)
        refine LWp.x (gs := []) (hs := []) rfl trivial ?_
        refine LWp.blockT (fun _ : Unit => True) (fun _ => el [(2, .pi b.enc), (3, .pi s.enc), (6, I i), (9, .so b9 3125 3125)]) (fun _ => [(b9, .arr 4 1 3125 (markE (partP b.n.toNat x p 3125)))]) (fun _ => []) ?_ ?_
        · refine LWp.loopN (fun k : Nat => k ≤ 3125) (fun k => el [(2, .pi b.enc), (3, .pi s.enc), (5, .so b5 3125 3125), (6, I i), (8, .pi x.enc), (9, .so b9 3125 3125), (10, I k)]) (fun k => [(b9, .arr 4 1 3125 (markE (partP b.n.toNat x p k))), (b5, .arr 4 1 3125 (markE p))]) (fun _ => []) (fun k => 3125 - k) 0 (by omega)
            (Ent.trans (Ent.ofH (by rw [partP_zero])) (Ent.el ⟨rfl, rfl, rfl, rfl, rfl, rfl, rfl, trivial⟩)) ?_
          intro k hk
          refine LWp.seq (LWp.seq ?_)
          refine LWp.x (gs := []) (hs := []) rfl trivial ?_
          refine LWp.ite rfl (fun hd => ?_) (fun hd => ?_)
          · simp only [decide_eq_true_eq] at hd
            have hk' : k < 3125 := by omega
            refine LWp.skip ?_
            refine LWp.blockX (fun _ : Unit => True) (fun _ => el [(2, .pi b.enc), (3, .pi s.enc), (5, .so b5 3125 3125), (6, I i), (8, .pi x.enc), (9, .so b9 3125 3125), (10, I k)]) (fun _ => [(b9, .arr 4 1 3125 (markE (partP b.n.toNat x p (k + 1)))), (b5, .arr 4 1 3125 (markE p))]) (fun _ => []) ?_ ?_
            · refine LWp.seq (LWp.seq ?_)
              refine LWp.x (gs := []) (hs := [.elt 1 k 0 [B (p k)]]) rfl ⟨⟨by omega, by omega⟩, ⟨rfl, rfl, markE_get p hk'⟩, trivial⟩ ?_
              refine LWp.ite rfl (fun he => ?_) (fun he => ?_)
              · simp only [Bool.not_eq_true'] at he
                refine LWp.exit ⟨(), trivial, Ent.trans (Ent.ofH ?_) (Ent.el ⟨rfl, rfl, rfl, rfl, rfl, rfl, rfl, trivial⟩)⟩
                rw [partP_no he]
              · simp only [Bool.not_eq_false'] at he
                have hk6 := hpl k he
                have hsu := partP_yes (n := b.n.toNat) (x := x) he
                refine LWp.skip ?_
                refine LWp.cutX (fun _ : Unit => True) (fun _ => el [(2, .pi b.enc), (3, .pi s.enc), (5, .so b5 3125 3125), (6, I i), (8, .pi x.enc), (9, .so b9 3125 3125), (10, I k)]) (fun _ => [(b9, .arr 4 1 3125 (markE (partJ b.n.toNat x p k 0))), (b5, .arr 4 1 3125 (markE p))]) (fun _ => []) ?_ ?_
                · have hfin : ∀ v : Bool, v = (partP b.n.toNat x p k k || x.q) → (markE (partP b.n.toNat x p k)).set k (setSeg [B (partP b.n.toNat x p k k)] 0 (cellsAV (B v))) = markE (partJ b.n.toNat x p k 0) := by
                    intro v hv
                    rw [markE_set _ hk' v]
                    refine markE_congr (fun d _ => ?_)
                    by_cases e : d = k
                    · subst e; simp [partJ, hv]
                    · simp [partJ, e]
                  cases hq : partP b.n.toNat x p k k with
                  | true =>
                    rw [hq] at hfin
                    refine LWp.hx (gs := [(54, true)]) (hs := [.elt 0 k 0 [B true], .stE 0 k 0 [B true]]) rfl ⟨⟨by omega, by omega⟩, ⟨rfl, rfl, by rw [markE_get _ hk', hq]⟩, rfl, rfl, rfl, ⟨by omega, by omega⟩, ⟨rfl, rfl, by rw [markE_get _ hk', hq], rfl, rfl, rfl, by omega⟩, trivial⟩ ?_
                    refine ⟨(), trivial, Ent.trans (Ent.ofH ?_) (Ent.el ⟨rfl, rfl, rfl, rfl, rfl, rfl, rfl, trivial⟩)⟩
                    show [(b9, HObj.arr 4 1 3125 ((markE (partP b.n.toNat x p k)).set k (setSeg [B true] 0 (cellsAV (B true))))), _] = _
                    rw [hfin true (by simp)]
                  | false =>
                    rw [hq] at hfin
                    refine LWp.hx (gs := [(54, false)]) (hs := [.elt 0 k 0 [B false], .stE 0 k 0 [B false]]) rfl ⟨⟨by omega, by omega⟩, ⟨rfl, rfl, by rw [markE_get _ hk', hq]⟩, rfl, rfl, rfl, ⟨by omega, by omega⟩, ⟨rfl, rfl, by rw [markE_get _ hk', hq], rfl, rfl, rfl, by omega⟩, trivial⟩ ?_
                    refine ⟨(), trivial, Ent.trans (Ent.ofH ?_) (Ent.el ⟨rfl, rfl, rfl, rfl, rfl, rfl, rfl, trivial⟩)⟩
                    show [(b9, HObj.arr 4 1 3125 ((markE (partP b.n.toNat x p k)).set k (setSeg [B false] 0 (cellsAV (B x.q))))), _] = _
                    rw [hfin x.q (by simp)]
                intro _ _
                refine LWp.seq ?_
                refine LWp.x (gs := []) (hs := []) rfl trivial ?_
                refine LWp.block ?_
                refine LWp.loopN (fun j : Nat => j ≤ b.n.toNat) (fun j => el [(2, .pi b.enc), (3, .pi s.enc), (5, .so b5 3125 3125), (6, I i), (8, .pi x.enc), (9, .so b9 3125 3125), (10, I k), (11, I j)]) (fun j => [(b9, .arr 4 1 3125 (markE (partJ b.n.toNat x p k j))), (b5, .arr 4 1 3125 (markE p))]) (fun _ => []) (fun j => b.n.toNat - j) 0 (by omega)
                  (Ent.el ⟨rfl, rfl, rfl, rfl, rfl, rfl, rfl, rfl, trivial⟩) ?_
                intro j hj
                refine LWp.seq (LWp.seq ?_)
                refine LWp.x (gs := []) (hs := []) rfl trivial ?_
                refine LWp.ite rfl (fun hf => ?_) (fun hf => ?_)
                · simp only [decide_eq_true_eq] at hf
                  have hj' : j < b.n.toNat := by omega
                  refine LWp.skip (LWp.seq (LWp.block (LWp.seq ?_)))
                  refine LWp.x (gs := []) (hs := [.ret (B (bitI x.s j))]) rfl ⟨bit_ev x.s j s0 (by omega) (by omega), trivial⟩ ?_
                  refine LWp.ite rfl (fun hg => ?_) (fun hg => ?_)
                  · rw [bit_gives _ _ s0] at hg
                    have hm : ((k : Int) * 5 + j + 1).toNat = k * 5 + j + 1 := by omega
                    refine LWp.hx (gs := []) (hs := [.stE 0 (k * 5 + j + 1) 0 [B (partJ b.n.toNat x p k j (k * 5 + j + 1))]]) rfl ⟨by omega, by omega, by omega, ⟨by omega, by omega⟩, ⟨rfl, by rw [hm]; rfl, markE_get _ (by omega), rfl, rfl, rfl, by omega⟩, trivial⟩ ?_
                    refine LWp.x (gs := []) (hs := []) rfl ⟨by omega, trivial⟩ ?_
                    refine ⟨j + 1, hj', by omega, Ent.trans (Ent.ofH ?_) (Ent.el ⟨rfl, rfl, rfl, rfl, rfl, rfl, rfl, rfl, trivial⟩)⟩
                    show [(b9, HObj.arr 4 1 3125 ((markE (partJ b.n.toNat x p k j)).set (k * 5 + j + 1) (setSeg [B (partJ b.n.toNat x p k j (k * 5 + j + 1))] 0 (cellsAV (B true))))), _] = _
                    rw [markE_set _ (by omega) true]
                    refine congrArg (fun q => [(b9, HObj.arr 4 1 3125 q), (b5, HObj.arr 4 1 3125 (markE p))]) (markE_congr (fun d _ => ?_))
                    by_cases e : d = k * 5 + j + 1
                    · subst e
                      have e1 : (k * 5 + j + 1 - 1) / 5 = k := by omega
                      have e2 : (k * 5 + j + 1 - 1) % 5 = j := by omega
                      simp only [if_true, partJ, e1, e2, hg]; simp
                    · rw [if_neg e]
                      simp only [partJ]
                      congr 1
                      by_cases e1 : (d - 1) / 5 = k
                      · by_cases e3 : 0 < d
                        · have e2 : decide ((d - 1) % 5 < j + 1) = decide ((d - 1) % 5 < j) := by rw [Bool.eq_iff_iff]; simp; omega
                          rw [e2]
                        · simp [e3]
                      · simp [e1]
                  · rw [bit_gives _ _ s0] at hg
                    refine LWp.skip ?_
                    refine LWp.x (gs := []) (hs := []) rfl ⟨by omega, trivial⟩ ?_
                    refine ⟨j + 1, hj', by omega, Ent.trans (Ent.ofH ?_) (Ent.el ⟨rfl, rfl, rfl, rfl, rfl, rfl, rfl, rfl, trivial⟩)⟩
                    refine congrArg (fun q => [(b9, HObj.arr 4 1 3125 q), (b5, HObj.arr 4 1 3125 (markE p))]) (markE_congr (fun d _ => ?_))
                    simp only [partJ]
                    congr 1
                    by_cases e2 : (d - 1) % 5 = j
                    · rw [e2, hg]; simp
                    · have : decide ((d - 1) % 5 < j + 1) = decide ((d - 1) % 5 < j) := by rw [Bool.eq_iff_iff]; simp; omega
                      rw [this]
                · simp only [decide_eq_false_iff_not] at hf
                  have : j = b.n.toNat := by omega
                  subst this
                  refine LWp.exit ⟨(), trivial, Ent.trans (Ent.ofH ?_) (Ent.el ⟨rfl, rfl, rfl, rfl, rfl, rfl, rfl, trivial⟩)⟩
                  rw [hsu]
            · intro _ _
              refine LWp.x (gs := []) (hs := []) rfl ⟨by omega, trivial⟩ ?_
              exact ⟨k + 1, hk', by omega, Ent.el ⟨rfl, rfl, rfl, rfl, rfl, rfl, rfl, trivial⟩⟩
          · simp only [decide_eq_false_iff_not] at hd
            have : k = 3125 := by omega
            subst this
            exact LWp.exit ⟨(), trivial, Ent.trans (Ent.dropH 1) (Ent.el ⟨rfl, rfl, rfl, rfl, trivial⟩)⟩
        · intro _ _
          refine LWp.x (gs := []) (hs := []) rfl trivial ?_
          refine ⟨b9, trivial, Ent.trans (Ent.ofH ?_) (Ent.el ⟨rfl, rfl, rfl, rfl, trivial⟩)⟩
          rw [hsn]
          exact congrArg (fun q => [(b9, HObj.arr 4 1 3125 q)]) (markE_congr (fun d hd => partP_all hd))
      · intro b9 _
        refine LWp.x (gs := []) (hs := []) rfl ⟨by omega, trivial⟩ ?_
        exact ⟨(i + 1, b9), hc', by simp only; omega, Ent.el ⟨rfl, rfl, rfl, rfl, trivial⟩⟩
    · simp only [decide_eq_false_iff_not] at hc
      have hc' : ¬ i < s.t.length := by have : ¬ ((i : Int) < (s.t.length : Int)) := hc; omega
      refine LWp.exit ⟨b5, trivial, Ent.trans (Ent.ofH ?_) (Ent.el ⟨rfl, trivial⟩)⟩
      rw [List.take_of_length_le (by omega)]
  · intro b5 _
    refine LWp.sx (gs := []) (hs := []) rfl trivial ?_
    refine LWp.ent (Ent.unshare (i := 0) (t := 4) (es := markE (strP b.n.toNat xs)) (b := b5) (cap := 3125) (kk := 1) (T := 4) ?_ rfl) ?_
    · rw [markE_len]; rfl
    exact LWp.ret (retT (.inr rfl) (.lin (upd_same _ _ _) rfl))
theorem strS_ev {b : Book} (V : Valid b) {j : Int} {s : Spelling} (hs : b.ss[j.toNat]? = some s) : Ev Tryz.prog 117 [.agg b.enc, .agg s.enc] (.lin 4 1 (markE (strS b j))) := by
  have sp := V.sp s (List.mem_of_getElem? hs)
  obtain ⟨a, ha, hc⟩ := sp.ha
  have n1 := V.n1
  have n4 := V.n4
  have := strings_lin_ev b (by omega) n4 s a sp.a0 ha ((V.alph a (List.mem_of_getElem? ha)).ls (by omega)) sp.t5 hc
  have e : strS b j = strP b.n.toNat (s.t.map fun c => letAt a.ls c.toNat) := by simp only [strS, hs, spLetters, ha]
  rw [e]; exact this
def andM (q r : Nat → Bool) (k : Nat) : Nat → Bool := fun c => if c < k then q c && r c else q c
theorem shP_snoc (b : Book) (l : List Int) (j : Int) : shP b (l ++ [j]) = fun c => strS b j c && (decide (l.length = 0) || shP b l c) := by
  funext c
  cases l with
  | nil => simp [shP]
  | cons i l => simp [shP, Bool.and_comm, Bool.and_left_comm]
theorem shared_ev {b : Book} (V : Valid b) (l : List Int) (hl : ∀ j ∈ l, 0 ≤ j ∧ j < b.ss.length) : Ev Tryz.prog 85 [.agg b.enc, ints l] (bools (markL (shP b l))) := by
  refine Ev.freeze (T := 4) ?_
  refine Ev.intro fn85 ?_
  refine LWp.slLen 1 rfl fun hll => ?_
  simp only [List.length_map] at hll
  refine LWp.sx (gs := []) (hs := [.ice]) rfl ⟨⟨rfl, rfl⟩, trivial⟩ ?_
  refine LWp.seq (LWp.ops (WOps.cons (Op1.mslice 3125 rfl rfl rfl rfl (by omega) (by omega) rfl (fun b5 => ?_))))
  rw [List.length_replicate, markE_zero]
  refine WOps.hd (gs := []) (hs := []) rfl trivial ?_
  refine LWp.seq (LWp.seq ?_)
  refine LWp.x (gs := []) (hs := []) rfl trivial ?_
  refine LWp.blockT (fun _ : Nat × Nat => True) (fun x => el [(5, .so x.1 3125 x.2)]) (fun x => [(x.1, .arr 4 1 x.2 (markE (shP b l)))]) (fun _ => []) ?_ ?_
  · refine LWp.loopN (X := Nat × Nat × Nat) (fun x => x.1 ≤ l.length) (fun x => el [(1, ints l), (2, .pi b.enc), (5, .so x.2.1 3125 x.2.2), (6, I x.1)]) (fun x => [(x.2.1, .arr 4 1 x.2.2 (markE (shP b (l.take x.1))))]) (fun _ => []) (fun x => l.length - x.1) (0, b5, 3125) (by simp)
      (Ent.trans (Ent.ofH ?_) (Ent.el ⟨rfl, rfl, rfl, rfl, trivial⟩)) ?_
    · have e : shP b (l.take 0) = fun _ => false := by funext c; simp [shP]
      rw [e]
    rintro ⟨i, b5, cap5⟩ hi
    simp only at hi ⊢
    refine LWp.seq (LWp.seq ?_)
    refine LWp.x (gs := []) (hs := []) rfl trivial ?_
    refine LWp.ite rfl (fun hc => ?_) (fun hc => ?_)
    · simp only [List.length_map, decide_eq_true_eq, Int.ofNat_lt] at hc
      obtain ⟨j, hj⟩ := ex_get hc
      obtain ⟨j0, j1⟩ := hl j (List.mem_of_getElem? hj)
      have hjl : j.toNat < b.ss.length := by omega
      obtain ⟨s, hs⟩ := ex_get hjl
      have hsn : shP b (l.take (i + 1)) = fun c => strS b j c && (decide (i = 0) || shP b (l.take i) c) := by
        rw [List.take_add_one, hj]
        show shP b (l.take i ++ [j]) = _
        rw [shP_snoc, List.length_take, Nat.min_eq_left hi]
      generalize hp : shP b (l.take i) = p at hsn
      refine LWp.skip ?_
      refine LWp.blockX (fun _ : Nat × Nat => True) (fun x => el [(1, ints l), (2, .pi b.enc), (5, .so x.1 3125 x.2), (6, I i)]) (fun x => [(x.1, .arr 4 1 x.2 (markE (shP b (l.take (i + 1)))))]) (fun _ => []) ?_ ?_
      · refine LWp.sd (gs := []) (hs := [.cells [I j], .cells s.enc, .ret (.lin 4 1 (markE (strS b j)))]) hmix rfl (by kernel_rfl) ⟨⟨by omega, by simp [hj]⟩, ⟨j0, by simp [hs]⟩, strS_ev V hs, trivial⟩ ?_
        generalize strS b j = q at hsn
        refine LWp.share (t := 7) rfl (fun h => ?_) (fun b9 cap9 => ?_)
        · have := markE_len q
          rw [h] at this; simp at this
        rw [markE_len]
        refine LWp.seq (LWp.seq ?_)
        refine LWp.x (gs := []) (hs := []) rfl trivial ?_
        refine LWp.blockT (fun _ : Unit => True) (fun _ => el [(1, ints l), (2, .pi b.enc), (6, I i), (7, .so b9 3125 cap9)]) (fun _ => [(b9, .arr 4 1 cap9 (markE (shP b (l.take (i + 1)))))]) (fun _ => []) ?_ ?_
        · refine LWp.loopN (fun k : Nat => k ≤ 3125) (fun k => el [(1, ints l), (2, .pi b.enc), (5, .so b5 3125 cap5), (6, I i), (7, .so b9 3125 cap9), (8, I k)]) (fun k => [(b9, .arr 4 1 cap9 (markE (andM q (fun c => decide (i = 0) || p c) k))), (b5, .arr 4 1 cap5 (markE p))]) (fun _ => []) (fun k => 3125 - k) 0 (by omega)
            (Ent.trans (Ent.ofH ?_) (Ent.el ⟨rfl, rfl, rfl, rfl, rfl, rfl, trivial⟩)) ?_
          · have e : andM q (fun c => decide (i = 0) || p c) 0 = q := by funext c; simp [andM]
            rw [e]
          intro k hk
          refine LWp.seq (LWp.seq ?_)
          refine LWp.x (gs := []) (hs := []) rfl trivial ?_
          refine LWp.ite rfl (fun hd => ?_) (fun hd => ?_)
          · simp only [decide_eq_true_eq] at hd
            have hk' : k < 3125 := by omega
            refine LWp.skip ?_
            refine LWp.blockX (fun _ : Unit => True) (fun _ => el [(1, ints l), (2, .pi b.enc), (5, .so b5 3125 cap5), (6, I i), (7, .so b9 3125 cap9), (8, I k)]) (fun _ => [(b9, .arr 4 1 cap9 (markE (andM q (fun c => decide (i = 0) || p c) (k + 1)))), (b5, .arr 4 1 cap5 (markE p))]) (fun _ => []) ?_ ?_
            · generalize hr : (fun c => decide (i = 0) || p c) = r
              have hak : andM q r k k = q k := by simp [andM]
              have hfin : ∀ v : Bool, v = (q k && r k) → (markE (andM q r k)).set k (setSeg [B (andM q r k k)] 0 (cellsAV (B v))) = markE (andM q r (k + 1)) := by
                intro v hv
                rw [markE_set _ hk' v]
                refine markE_congr (fun d _ => ?_)
                by_cases e : d = k
                · subst e; simp [andM, hv]
                · have e2 : (d < k + 1) ↔ (d < k) := by omega
                  simp [andM, e, e2]
              rw [hak] at hfin
              have hg : (markE (andM q r k))[k]? = some [B (q k)] := by rw [markE_get _ hk', hak]
              cases hq : q k with
              | false =>
                rw [hq] at hfin hg
                refine LWp.hx (gs := [(36, false)]) (hs := [.elt 0 k 0 [B false], .stE 0 k 0 [B false]]) rfl ⟨⟨by omega, by omega⟩, ⟨rfl, rfl, hg⟩, rfl, rfl, rfl, rfl, rfl, ⟨by omega, by omega⟩, ⟨rfl, rfl, hg, rfl, rfl, rfl, by omega⟩, trivial⟩ ?_
                refine ⟨(), trivial, Ent.trans (Ent.ofH ?_) (Ent.el ⟨rfl, rfl, rfl, rfl, rfl, rfl, trivial⟩)⟩
                show [(b9, HObj.arr 4 1 cap9 ((markE (andM q r k)).set k (setSeg [B false] 0 (cellsAV (B false))))), _] = _
                rw [hfin false (by simp)]
              | true =>
                rw [hq] at hfin hg
                by_cases hi0 : i = 0
                · have h39 : ((i : Int) == 0) = true := by simp [hi0]
                  refine LWp.hx (gs := [(36, true), (39, true)]) (hs := [.elt 0 k 0 [B true], .stE 0 k 0 [B true]]) rfl ⟨⟨by omega, by omega⟩, ⟨rfl, rfl, hg⟩, rfl, rfl, rfl, h39, h39, h39, h39, ⟨rfl, h39⟩, rfl, ⟨by omega, by omega⟩, ⟨rfl, rfl, hg, rfl, rfl, rfl, by omega⟩, trivial⟩ ?_
                  refine ⟨(), trivial, Ent.trans (Ent.ofH ?_) (Ent.el ⟨rfl, rfl, rfl, rfl, rfl, rfl, trivial⟩)⟩
                  show [(b9, HObj.arr 4 1 cap9 ((markE (andM q r k)).set k (setSeg [B true] 0 (cellsAV (B true))))), _] = _
                  rw [hfin true (by rw [← hr]; simp [hi0])]
                · have hpk := markE_get p hk'
                  have h39 : ((i : Int) == 0) = false := by simp [hi0]
                  refine LWp.hx (gs := [(36, true), (39, false)]) (hs := [.elt 0 k 0 [B true], .elt 1 k 0 [B (p k)], .stE 0 k 0 [B true]]) rfl ⟨⟨by omega, by omega⟩, ⟨rfl, rfl, hg⟩, rfl, rfl, rfl, h39, h39, ⟨h39, by omega, by omega⟩, ⟨h39, rfl, rfl, hpk⟩, ⟨rfl, h39⟩, rfl, ⟨by omega, by omega⟩, ⟨rfl, rfl, hg, rfl, rfl, rfl, by omega⟩, trivial⟩ ?_
                  refine ⟨(), trivial, Ent.trans (Ent.ofH ?_) (Ent.el ⟨rfl, rfl, rfl, rfl, rfl, rfl, trivial⟩)⟩
                  show [(b9, HObj.arr 4 1 cap9 ((markE (andM q r k)).set k (setSeg [B true] 0 (cellsAV (B (p k)))))), _] = _
                  rw [hfin (p k) (by rw [← hr]; simp [hi0])]
            · intro _ _
              refine LWp.x (gs := []) (hs := []) rfl ⟨by omega, trivial⟩ ?_
              exact ⟨k + 1, hk', by omega, Ent.el ⟨rfl, rfl, rfl, rfl, rfl, rfl, trivial⟩⟩
          · simp only [decide_eq_false_iff_not] at hd
            have : k = 3125 := by omega
            subst this
            refine LWp.exit ⟨(), trivial, Ent.trans (Ent.dropH 1) (Ent.trans (Ent.ofH ?_) (Ent.el ⟨rfl, rfl, rfl, rfl, trivial⟩))⟩
            rw [hsn]
            refine congrArg (fun q => [(b9, HObj.arr 4 1 cap9 q)]) (markE_congr (fun d hd => ?_))
            simp [andM, hd]
        · intro _ _
          refine LWp.x (gs := []) (hs := []) rfl trivial ?_
          exact ⟨(b9, cap9), trivial, Ent.el ⟨rfl, rfl, rfl, rfl, trivial⟩⟩
      · rintro ⟨b9, cap9⟩ _
        refine LWp.x (gs := []) (hs := []) rfl ⟨by omega, trivial⟩ ?_
        exact ⟨(i + 1, b9, cap9), hc, by simp only; omega, Ent.el ⟨rfl, rfl, rfl, rfl, trivial⟩⟩
    · simp only [List.length_map, decide_eq_false_iff_not, Int.ofNat_lt] at hc
      refine LWp.exit ⟨(b5, cap5), trivial, Ent.trans (Ent.ofH ?_) (Ent.el ⟨rfl, trivial⟩)⟩
      rw [List.take_of_length_le (by omega)]
  · rintro ⟨b5, cap5⟩ _
    refine LWp.sx (gs := []) (hs := []) rfl trivial ?_
    refine LWp.ent (Ent.unshare (i := 0) (t := 4) (es := markE (shP b l)) (b := b5) (cap := cap5) (kk := 1) (T := 4) ?_ rfl) ?_
    · rw [markE_len]; rfl
    exact LWp.ret (retT (.inr rfl) (.lin (upd_same _ _ _) rfl))
end Go.Px

namespace Go.Px
open Go.Proofs
abbrev lists (l : List (List Nat)) : AV := .sl 1 (l.map fun c => [ints (natI c)])
end Go.Px

namespace Go.Px
open Go.Proofs Go.MapKept
theorem beyond_two (lo hi a b : Int) : beyondB lo hi [a, b] = (beyondB lo hi [a] || beyondB lo hi [b]) := by
  unfold beyondB; simp
def endsE (s : Sp) (a b : Int) : Int := if beyondB a b [s.1, s.2] = true then 7 else if s.2 < s.1 then 2 else 0
theorem ends_ev (s : Sp) (a b : Int) : Ev Tryz.prog 104 [.agg (sp2 s), I a, I b] (I (endsE s a b)) := by
  have e1 := in_ev s.1 a b
  have e2 := in_ev s.2 a b
  rw [inB_of] at e1 e2
  have hE : endsE s a b = if (beyondB a b [s.1] || beyondB a b [s.2]) = true then 7 else if s.2 < s.1 then 2 else 0 := by unfold endsE; rw [beyond_two]
  generalize beyondB a b [s.1] = c1 at e1 hE
  generalize beyondB a b [s.2] = c2 at e2 hE
  refine Ev.intro fn104 ?_
  refine LWp.sx (gs := []) (hs := [.ice]) rfl ⟨⟨rfl, rfl⟩, trivial⟩ ?_
  refine LWp.seq (LWp.cutX (fun _ : Unit => True) (fun _ => el [(3, .pi (sp2 s)), (20, B (c1 || c2))]) (fun _ => []) (fun _ => []) ?_ ?_)
  · cases c1 with
    | true =>
      refine LWp.x (gs := [(13, true)]) (hs := [.ret (B (!true))]) rfl (by (repeat' (with_reducible apply And.intro)); (all_goals first | (with_reducible exact trivial) | (with_reducible rfl) | (with_reducible assumption) | ((with_reducible apply isB); first | exact rfl | exact beq_self_eq_true _) | omega | ((first | exact e1)))) ?_
      exact ⟨(), trivial, Ent.el ⟨rfl, rfl, trivial⟩⟩
    | false =>
      refine LWp.x (gs := [(13, false)]) (hs := [.ret (B (!false)), .ret (B (!c2))]) rfl (by (repeat' (with_reducible apply And.intro)); (all_goals first | (with_reducible exact trivial) | (with_reducible rfl) | (with_reducible assumption) | ((with_reducible apply isB); first | exact rfl | exact beq_self_eq_true _) | omega | ((first | exact e1 | exact e2)))) ?_
      refine ⟨(), trivial, Ent.el ⟨rfl, ?_, trivial⟩⟩
      show B (!!c2) = B _
      rw [Bool.not_not]; rfl
  intro _ _
  refine LWp.ite rfl (fun hb => ?_) (fun hb => LWp.skip ?_)
  · rw [if_pos hb] at hE
    rw [hE]
    refine LWp.sx (gs := []) (hs := []) rfl trivial ?_
    refine LWp.ret (retT (.inr rfl) (.one (.tmp ?_ rfl)))
    rfl
  rw [if_neg (by simp [hb])] at hE
  refine LWp.seq (LWp.seq ?_)
  refine LWp.x (gs := []) (hs := []) rfl trivial ?_
  refine LWp.ite rfl (fun hd => ?_) (fun hd => LWp.skip ?_)
  · rw [if_pos (of_decide_eq_true hd)] at hE
    rw [hE]
    refine LWp.sx (gs := []) (hs := []) rfl trivial ?_
    refine LWp.ret (retT (.inr rfl) (.one (.tmp ?_ rfl)))
    rfl
  · rw [if_neg (of_decide_eq_false hd)] at hE
    rw [hE]
    refine LWp.sx (gs := []) (hs := []) rfl trivial ?_
    refine LWp.ret (retT (.inr rfl) (.one (.tmp ?_ rfl)))
    rfl
theorem rmention_ev (t : Town) (x : Men) (at_ : Int) (hv0 : -9223372036854775807 ≤ t.vil) (hv1 : t.vil ≤ 9223372036854775807) (hms : t.ms.length ≤ 1000) (hss : t.ear.ss.length ≤ 1000) : Ev Tryz.prog 57 [.agg t.enc, .agg x.enc, I at_] (I (menE t x at_)) := by
  have hsl : (t.ear.ss.map Spelling.enc).length = t.ear.ss.length := List.length_map _
  have hml : (t.ms.map Men.enc).length = t.ms.length := List.length_map _
  have b1 := in_ev x.sp 0 (((t.ear.ss.map Spelling.enc).length : Int) - 1)
  have b2 := in_ev x.v (-1) (t.vil - 1)
  have b3 := in_ev x.par (-1) (((t.ms.map Men.enc).length : Int) - 1)
  have b4 := ends_ev (x.lo, x.hi) 0 199
  rw [inB_of] at b1 b2 b3
  have hE : menE t x at_ = if ((beyondB 0 (((t.ear.ss.map Spelling.enc).length : Int) - 1) [x.sp] || beyondB (-1) (t.vil - 1) [x.v]) || beyondB (-1) (((t.ms.map Men.enc).length : Int) - 1) [x.par]) = true then 4
      else if endsE (x.lo, x.hi) 0 199 ≠ 0 then endsE (x.lo, x.hi) 0 199 else if x.par = at_ then 2 else 0 := by
    rw [hsl, hml]
    unfold menE endsE
    split
    · rfl
    · simp only
      split
      · simp
      · by_cases h1 : x.hi < x.lo
        · simp [h1]
        · simp [h1]
  generalize beyondB 0 (((t.ear.ss.map Spelling.enc).length : Int) - 1) [x.sp] = c1 at b1 hE
  generalize beyondB (-1) (t.vil - 1) [x.v] = c2 at b2 hE
  generalize beyondB (-1) (((t.ms.map Men.enc).length : Int) - 1) [x.par] = c3 at b3 hE
  generalize endsE (x.lo, x.hi) 0 199 = e4 at b4 hE
  refine Ev.intro fn57 ?_
  refine LWp.sx (gs := []) (hs := [.ice, .ice]) rfl ⟨⟨rfl, rfl⟩, ⟨rfl, rfl⟩, trivial⟩ ?_
  refine LWp.seq (LWp.cutX (fun _ : Unit => True) (fun _ => el [(2, I at_), (3, .pi t.enc), (4, .pi x.enc), (35, B ((c1 || c2) || c3))]) (fun _ => []) (fun _ => []) ?_ ?_)
  · cases c1 with
    | true =>
      refine LWp.x (gs := [(17, true), (26, true)]) (hs := [.ret (B (!true))]) rfl (by (repeat' (with_reducible apply And.intro)); (all_goals first | (with_reducible exact trivial) | (with_reducible rfl) | (with_reducible assumption) | ((with_reducible apply isB); first | exact rfl | exact beq_self_eq_true _) | omega | ((first | exact b1)))) ?_
      exact ⟨(), trivial, Ent.el ⟨rfl, rfl, rfl, rfl, trivial⟩⟩
    | false =>
      cases c2 with
      | true =>
        refine LWp.x (gs := [(17, false), (26, true)]) (hs := [.ret (B (!false)), .ret (B (!true))]) rfl (by (repeat' (with_reducible apply And.intro)); (all_goals first | (with_reducible exact trivial) | (with_reducible rfl) | (with_reducible assumption) | ((with_reducible apply isB); first | exact rfl | exact beq_self_eq_true _) | omega | ((first | exact b1 | exact b2)))) ?_
        exact ⟨(), trivial, Ent.el ⟨rfl, rfl, rfl, rfl, trivial⟩⟩
      | false =>
        refine LWp.x (gs := [(17, false), (26, false)]) (hs := [.ret (B (!false)), .ret (B (!false)), .ret (B (!c3))]) rfl (by (repeat' (with_reducible apply And.intro)); (all_goals first | (with_reducible exact trivial) | (with_reducible rfl) | (with_reducible assumption) | ((with_reducible apply isB); first | exact rfl | exact beq_self_eq_true _) | omega | ((first | exact b1 | exact b2 | exact b3)))) ?_
        refine ⟨(), trivial, Ent.el ⟨rfl, rfl, rfl, ?_, trivial⟩⟩
        show B (!!c3) = B _
        rw [Bool.not_not]; rfl
  intro _ _
  refine LWp.ite rfl (fun hb => ?_) (fun hb => LWp.skip ?_)
  · rw [if_pos hb] at hE
    rw [hE]
    refine LWp.sx (gs := []) (hs := []) rfl trivial ?_
    refine LWp.ret (retT (.inr rfl) (.one (.tmp ?_ rfl)))
    rfl
  rw [if_neg (by rw [hb]; decide)] at hE
  refine LWp.sx (gs := []) (hs := [.ret (I e4)]) rfl ⟨b4, trivial⟩ ?_
  by_cases h4 : e4 = 0
  · rw [if_neg (by simp [h4])] at hE
    have hz : (e4 == 0) = true := by rw [h4]; rfl
    refine LWp.seq (LWp.seq ?_)
    refine LWp.x (gs := [(41, true)]) (hs := []) rfl (by (repeat' (with_reducible apply And.intro)); (all_goals first | (with_reducible exact trivial) | (with_reducible rfl) | (with_reducible assumption) | ((with_reducible apply isB); first | exact rfl | exact beq_self_eq_true _) | omega | ((rfl)))) ?_
    by_cases h5 : x.par = at_
    · rw [if_pos h5] at hE
      rw [hE]
      refine LWp.ite (b := true) (by show B _ = B _; exact congrArg B (by rw [beq_iff_eq]; exact h5)) (fun _ => ?_) (fun h => by cases h)
      refine LWp.x (gs := []) (hs := []) rfl trivial ?_
      refine LWp.sx (gs := []) (hs := []) rfl trivial ?_
      refine LWp.ret (retT (.inr rfl) (.one (.tmp ?_ rfl)))
      rfl
    · rw [if_neg h5] at hE
      rw [hE]
      refine LWp.ite (b := false) (by show B _ = B _; exact congrArg B (by rw [beq_eq_false_iff_ne]; exact h5)) (fun h => by cases h) (fun _ => LWp.skip ?_)
      refine LWp.sx (gs := []) (hs := []) rfl trivial ?_
      refine LWp.ret (retT (.inr rfl) (.one (.tmp ?_ rfl)))
      show I _ = I _
      rw [h4]
  · rw [if_pos h4] at hE
    rw [hE]
    have hz : (e4 == 0) = false := by rw [beq_eq_false_iff_ne]; exact h4
    refine LWp.seq (LWp.seq ?_)
    refine LWp.x (gs := [(41, false)]) (hs := []) rfl (by (repeat' (with_reducible apply And.intro)); (all_goals first | (with_reducible exact trivial) | (with_reducible rfl) | (with_reducible assumption) | ((with_reducible apply isB); first | exact rfl | exact beq_self_eq_true _) | omega | ((rfl)))) ?_
    refine LWp.ite (b := false) rfl (fun h => by cases h) (fun _ => LWp.skip ?_)
    refine LWp.sx (gs := []) (hs := []) rfl trivial ?_
    refine LWp.ret (retT (.inr rfl) (.one (.tmp ?_ rfl)))
    rfl
end Go.Px

namespace Go.Px
open Go.Proofs Go.MapKept
theorem failF_here {f : Nat → Int} {m k : Nat} (hk : k < m) (h : failF f m 0 = failF f (m - k) k) (hf : f k ≠ 0) : failF f m 0 = ((k : Int), f k) := by
  obtain ⟨d, hd⟩ : ∃ d, m - k = d + 1 := ⟨m - k - 1, by omega⟩
  rw [h, hd, failF, if_neg hf]
theorem failF_on {f : Nat → Int} {m k : Nat} (hk : k < m) (h : failF f m 0 = failF f (m - k) k) (hf : f k = 0) : failF f m 0 = failF f (m - (k + 1)) (k + 1) := by
  obtain ⟨d, hd⟩ : ∃ d, m - k = d + 1 := ⟨m - k - 1, by omega⟩
  rw [h, hd, failF, if_pos hf]
  congr 1
  omega
theorem failF_end {f : Nat → Int} {m : Nat} (h : failF f m 0 = failF f (m - m) m) : failF f m 0 = (0, 0) := by
  rw [h, Nat.sub_self]; rfl
theorem rpcheck_ev (t : Town) (hw : t.wf) : Ev Tryz.prog 16 [.agg t.enc] (.tup [I (checkT t).1, I (checkT t).2.1, I (checkT t).2.2]) := by
  have ec := rcheck_ev t.ear hw.ear
  have hml : ((t.ms.map Men.enc).length : Int) = t.ms.length := by simp
  have htl : ((t.ties.map Tie.enc).length : Int) = t.ties.length := by simp
  have eb := in_ev t.vil 1 4
  rw [inB_of] at eb
  have res : ∀ {Q : Post} {env : Env} {H : Heap} {x y r : Int}, (∀ env H, retP Tryz.prog [.tmp 2, .tmp 3, .tmp 4] (.tup [I (checkT t).1, I (checkT t).2.1, I (checkT t).2.2]) .ret env H [] → Q .ret env H []) → checkT t = (x, y, r) → env 2 = I x → env 3 = I y → env 4 = I r → Q .ret env H [] := by
    intro Q env H x y r hQ h h2 h3 h4
    refine hQ _ _ ?_
    rw [h]
    exact retT (.inr rfl) (.many (by decide) ⟨.tmp h2 rfl, .tmp h3 rfl, .tmp h4 rfl, trivial⟩)
  have hC : checkT t = if (check t.ear).2.2 ≠ 0 then (1, 0, (check t.ear).2.2) else if beyondB 1 4 [t.vil] = true then (2, 0, 7)
      else if 5 < t.ms.length then (3, 0, 3)
      else if (failF (menAt t) t.ms.length 0).2 ≠ 0 then (3, (failF (menAt t) t.ms.length 0).1, (failF (menAt t) t.ms.length 0).2)
      else if 4 < t.ties.length then (4, 0, 3)
      else if (failF (tieAt t) t.ties.length 0).2 ≠ 0 then (4, (failF (tieAt t) t.ties.length 0).1, (failF (tieAt t) t.ties.length 0).2)
      else (0, 0, 0) := rfl
  have hss5 : (check t.ear).2.2 = 0 → t.ear.ss.length ≤ 5 := fun h => (valid_iff.1 h).ss5
  have hbv : beyondB 1 4 [t.vil] = false → 1 ≤ t.vil ∧ t.vil ≤ 4 := by
    intro h
    have h' : ¬ beyondB 1 4 [t.vil] = true := by rw [h]; decide
    rw [beyond1_iff, Decidable.not_not] at h'
    exact h'
  generalize (check t.ear).1 = c1 at ec
  generalize (check t.ear).2.1 = c2 at ec
  generalize (check t.ear).2.2 = c3 at ec hC hss5
  generalize beyondB 1 4 [t.vil] = bv at eb hC hbv
  refine Ev.intro fn16 ?_
  refine LWp.sx (gs := []) (hs := [.ice]) rfl ⟨⟨rfl, rfl⟩, trivial⟩ ?_
  refine LWp.sx (gs := []) (hs := [.ret (.tup [I c1, I c2, I c3])]) rfl ⟨ec, trivial⟩ ?_
  refine LWp.seq (LWp.seq ?_)
  refine LWp.x (gs := []) (hs := []) rfl trivial ?_
  by_cases h : c3 = 0
  case neg =>
    rw [if_pos h] at hC
    refine LWp.ite (b := true) (by show B _ = B _; exact congrArg B (by rw [bne_iff_ne]; exact h)) (fun _ => ?_) (fun h => by cases h)
    refine LWp.sx (gs := []) (hs := []) rfl trivial ?_
    exact LWp.ret (res (fun _ _ h => h) hC rfl rfl rfl)
  rw [if_neg (by simp [h])] at hC
  refine LWp.ite (b := false) (by show B _ = B _; exact congrArg B (by rw [h]; rfl)) (fun h => by cases h) (fun _ => LWp.skip ?_)
  refine LWp.seq (LWp.seq ?_)
  refine LWp.x (gs := []) (hs := [.ret (B (!bv))]) rfl ⟨eb, trivial⟩ ?_
  cases bv with
  | true =>
    rw [if_pos rfl] at hC
    refine LWp.ite (b := true) rfl (fun _ => ?_) (fun h => by cases h)
    refine LWp.sx (gs := []) (hs := []) rfl trivial ?_
    exact LWp.ret (res (fun _ _ h => h) hC rfl rfl rfl)
  | false =>
  rw [if_neg (by decide)] at hC
  refine LWp.ite (b := false) rfl (fun h => by cases h) (fun _ => LWp.skip ?_)
  refine LWp.seq (LWp.seq ?_)
  refine LWp.x (gs := []) (hs := []) rfl trivial ?_
  by_cases h5 : 5 < t.ms.length
  · rw [if_pos h5] at hC
    refine LWp.ite (b := true) (by show B _ = B _; exact congrArg B (decide_eq_true (by omega))) (fun _ => ?_) (fun h => by cases h)
    refine LWp.sx (gs := []) (hs := []) rfl trivial ?_
    exact LWp.ret (res (fun _ _ h => h) hC rfl rfl rfl)
  rw [if_neg h5] at hC
  refine LWp.ite (b := false) (by show B _ = B _; exact congrArg B (decide_eq_false (by omega))) (fun h => by cases h) (fun _ => LWp.skip ?_)
  have hss : t.ear.ss.length ≤ 1000 := by have := hss5 h; omega
  have hms : t.ms.length ≤ 1000 := by omega
  have hvil := hbv rfl
  refine LWp.seq (LWp.seq ?_)
  refine LWp.x (gs := []) (hs := []) rfl trivial ?_
  refine LWp.blockT (fun _ : Unit => failF (menAt t) t.ms.length 0 = (0, 0)) (fun _ => el [(1, .pi t.enc)]) (fun _ => []) (fun _ => []) ?_ ?_
  · refine LWp.loopN (fun k : Nat => k ≤ t.ms.length ∧ failF (menAt t) t.ms.length 0 = failF (menAt t) (t.ms.length - k) k) (fun k => el [(1, .pi t.enc), (8, I k)]) (fun _ => []) (fun _ => []) (fun k => t.ms.length - k) 0 ⟨by omega, rfl⟩ (Ent.el ⟨rfl, rfl, trivial⟩) ?_
    rintro k ⟨hk, hi⟩
    refine LWp.seq (LWp.seq ?_)
    refine LWp.x (gs := []) (hs := []) rfl trivial ?_
    refine LWp.ite rfl (fun hc => ?_) (fun hc => ?_)
    · simp only [decide_eq_true_eq] at hc
      have hkl : k < t.ms.length := by omega
      obtain ⟨x, hx⟩ := ex_get hkl
      have em : menAt t k = menE t x k := by unfold menAt; rw [hx]
      have erm := rmention_ev t x k (by omega) (by omega) hms hss
      rw [← em] at erm
      have h1 := failF_here hkl hi
      have h2 := failF_on hkl hi
      generalize menAt t k = e at erm h1 h2
      refine LWp.skip (LWp.seq (LWp.block ?_))
      refine LWp.sd (gs := []) (hs := [.cells x.enc, .ret (I e)]) hmix rfl (by kernel_rfl) (by (repeat' (with_reducible apply And.intro)); (all_goals first | (with_reducible exact trivial) | (with_reducible rfl) | (with_reducible assumption) | ((with_reducible apply isB); first | exact rfl | exact beq_self_eq_true _) | omega | ((first | (simp [hx]; done) | exact erm)))) ?_
      refine LWp.sx (gs := []) (hs := []) rfl trivial ?_
      by_cases he : e = 0
      · refine LWp.ite (b := false) (by show B _ = B _; exact congrArg B (by rw [he]; rfl)) (fun h => by cases h) (fun _ => LWp.skip ?_)
        refine LWp.x (gs := []) (hs := []) rfl ⟨by omega, trivial⟩ ?_
        exact ⟨k + 1, ⟨by omega, h2 he⟩, by omega, Ent.el ⟨rfl, rfl, trivial⟩⟩
      · refine LWp.ite (b := true) (by show B _ = B _; exact congrArg B (by rw [bne_iff_ne]; exact he)) (fun _ => ?_) (fun h => by cases h)
        refine LWp.sx (gs := []) (hs := []) rfl trivial ?_
        rw [h1 he, if_pos he] at hC
        exact LWp.ret (res (fun _ _ h => h) hC rfl rfl rfl)
    · simp only [decide_eq_false_iff_not] at hc
      have e : k = t.ms.length := by omega
      subst e
      exact LWp.exit ⟨(), failF_end hi, Ent.el ⟨rfl, trivial⟩⟩
  intro _ hM
  rw [hM, if_neg (by simp)] at hC
  refine LWp.seq (LWp.seq ?_)
  refine LWp.x (gs := []) (hs := []) rfl trivial ?_
  by_cases h4 : 4 < t.ties.length
  · rw [if_pos h4] at hC
    refine LWp.ite (b := true) (by show B _ = B _; exact congrArg B (decide_eq_true (by omega))) (fun _ => ?_) (fun h => by cases h)
    refine LWp.sx (gs := []) (hs := []) rfl trivial ?_
    exact LWp.ret (res (fun _ _ h => h) hC rfl rfl rfl)
  rw [if_neg h4] at hC
  refine LWp.ite (b := false) (by show B _ = B _; exact congrArg B (decide_eq_false (by omega))) (fun h => by cases h) (fun _ => LWp.skip ?_)
  refine LWp.seq (LWp.seq ?_)
  refine LWp.x (gs := []) (hs := []) rfl trivial ?_
  refine LWp.blockT (fun _ : Unit => failF (tieAt t) t.ties.length 0 = (0, 0)) (fun _ => el []) (fun _ => []) (fun _ => []) ?_ ?_
  · refine LWp.loopN (fun k : Nat => k ≤ t.ties.length ∧ failF (tieAt t) t.ties.length 0 = failF (tieAt t) (t.ties.length - k) k) (fun k => el [(1, .pi t.enc), (9, I k)]) (fun _ => []) (fun _ => []) (fun k => t.ties.length - k) 0 ⟨by omega, rfl⟩ (Ent.el ⟨rfl, rfl, trivial⟩) ?_
    rintro k ⟨hk, hi⟩
    refine LWp.seq (LWp.seq ?_)
    refine LWp.x (gs := []) (hs := []) rfl trivial ?_
    refine LWp.ite rfl (fun hc => ?_) (fun hc => ?_)
    · simp only [decide_eq_true_eq] at hc
      have hkl : k < t.ties.length := by omega
      obtain ⟨x, hx⟩ := ex_get hkl
      have ea := in_ev x.a 0 (((t.ms.map Men.enc).length : Int) - 1)
      have eb := in_ev x.b 0 (((t.ms.map Men.enc).length : Int) - 1)
      rw [inB_of] at ea eb
      have em : tieAt t k = if (beyondB 0 (((t.ms.map Men.enc).length : Int) - 1) [x.a] || beyondB 0 (((t.ms.map Men.enc).length : Int) - 1) [x.b]) = true then 4 else if x.a = x.b then 2 else 0 := by
        unfold tieAt
        rw [hx, hml]
        show tieE t x = _
        unfold tieE
        rw [beyond_two]
      have h1 := failF_here hkl hi
      have h2 := failF_on hkl hi
      generalize beyondB 0 (((t.ms.map Men.enc).length : Int) - 1) [x.a] = c1 at ea em
      generalize beyondB 0 (((t.ms.map Men.enc).length : Int) - 1) [x.b] = c2 at eb em
      refine LWp.skip (LWp.seq (LWp.block ?_))
      refine LWp.sx (gs := []) (hs := [.cells x.enc, .lin]) rfl ⟨⟨by omega, by simp [hx]⟩, rfl, ⟨rfl, rfl, rfl, by decide⟩, trivial⟩ ?_
      refine LWp.ent (Ent.freezeLbox (t := 10) rfl) ?_
      refine LWp.seq (LWp.cutX (fun _ : Unit => True) (fun _ => el [(1, .pi t.enc), (9, I k), (10, .pi x.enc), (81, B (c1 || c2))]) (fun _ => []) (fun _ => []) ?_ ?_)
      · cases c1 with
        | true =>
          refine LWp.x (gs := [(72, true)]) (hs := [.ret (B (!true))]) rfl (by (repeat' (with_reducible apply And.intro)); (all_goals first | (with_reducible exact trivial) | (with_reducible rfl) | (with_reducible assumption) | ((with_reducible apply isB); first | exact rfl | exact beq_self_eq_true _) | omega | ((first | exact ea)))) ?_
          exact ⟨(), trivial, Ent.el ⟨rfl, rfl, rfl, rfl, trivial⟩⟩
        | false =>
          refine LWp.x (gs := [(72, false)]) (hs := [.ret (B (!false)), .ret (B (!c2))]) rfl (by (repeat' (with_reducible apply And.intro)); (all_goals first | (with_reducible exact trivial) | (with_reducible rfl) | (with_reducible assumption) | ((with_reducible apply isB); first | exact rfl | exact beq_self_eq_true _) | omega | ((first | exact ea | exact eb)))) ?_
          refine ⟨(), trivial, Ent.el ⟨rfl, rfl, rfl, ?_, trivial⟩⟩
          show B (!!c2) = B _
          rw [Bool.not_not]; rfl
      intro _ _
      refine LWp.ite rfl (fun hb => ?_) (fun hb => LWp.skip ?_)
      · rw [if_pos hb] at em
        refine LWp.sx (gs := []) (hs := []) rfl trivial ?_
        rw [h1 (by rw [em]; decide), em, if_pos (show (4 : Int) ≠ 0 by decide)] at hC
        exact LWp.ret (res (fun _ _ h => h) hC rfl rfl rfl)
      rw [if_neg (by rw [hb]; decide)] at em
      refine LWp.sx (gs := []) (hs := []) rfl trivial ?_
      by_cases hab : x.a = x.b
      · rw [if_pos hab] at em
        refine LWp.ite (b := true) (by show B _ = B _; exact congrArg B (by rw [beq_iff_eq]; exact hab)) (fun _ => ?_) (fun h => by cases h)
        refine LWp.sx (gs := []) (hs := []) rfl trivial ?_
        rw [h1 (by rw [em]; decide), em, if_pos (show (2 : Int) ≠ 0 by decide)] at hC
        exact LWp.ret (res (fun _ _ h => h) hC rfl rfl rfl)
      · rw [if_neg hab] at em
        refine LWp.ite (b := false) (by show B _ = B _; exact congrArg B (by rw [beq_eq_false_iff_ne]; exact hab)) (fun h => by cases h) (fun _ => LWp.skip ?_)
        refine LWp.x (gs := []) (hs := []) rfl ⟨by omega, trivial⟩ ?_
        exact ⟨k + 1, ⟨by omega, h2 em⟩, by omega, Ent.el ⟨rfl, rfl, trivial⟩⟩
    · simp only [decide_eq_false_iff_not] at hc
      have e : k = t.ties.length := by omega
      subst e
      exact LWp.exit ⟨(), failF_end hi, Ent.el trivial⟩
  intro _ hT
  rw [hT, if_neg (by simp)] at hC
  refine LWp.sx (gs := []) (hs := []) rfl trivial ?_
  exact LWp.ret (res (fun _ _ h => h) hC rfl rfl rfl)
end Go.Px

namespace Go.Px
open Go.Proofs Go.MapKept
theorem ints_get (p : List Nat) {k : Nat} (h : k < p.length) : ((natI p).map fun x => [I x])[k]? = some [I ((per p k : Nat) : Int)] := by
  rw [List.getElem?_map]
  unfold natI
  rw [List.getElem?_map, get_per h]; rfl
theorem take_succ_per (p : List Nat) {k : Nat} (h : k < p.length) : p.take (k + 1) = p.take k ++ [per p k] := by
  rw [List.take_add_one, get_per h]; rfl
theorem cnt_take_le {p : List Nat} (h : ∀ i, per p i ≤ 1000) : ∀ k, k ≤ p.length → cnt (p.take k) ≤ 1001
  | 0, _ => by show 0 ≤ 1001; omega
  | k + 1, hk => by
    rw [take_succ_per p (by omega), cnt_snoc]
    have := cnt_take_le h k (by omega)
    have := h k
    omega
theorem rcount3_ev {p : List Nat} (h : Small p) : Ev Tryz.prog 37 [ints (natI p)] (I (cnt p : Nat)) := by
  have hl := h.len
  have hln : (((natI p).map fun x => [I x]).length : Int) = p.length := by simp [natI]
  refine Ev.intro fn37 ?_
  refine LWp.sx (gs := []) (hs := []) rfl trivial ?_
  refine LWp.sx (gs := []) (hs := []) rfl trivial ?_
  refine LWp.seq (LWp.seq ?_)
  refine LWp.x (gs := []) (hs := []) rfl trivial ?_
  refine LWp.blockT (fun _ : Unit => True) (fun _ => el [(3, I (cnt p : Nat))]) (fun _ => []) (fun _ => []) ?_ ?_
  · refine LWp.loopN (fun k : Nat => k ≤ p.length) (fun k => el [(0, ints (natI p)), (3, I (cnt (p.take k) : Nat)), (4, I k)]) (fun _ => []) (fun _ => []) (fun k => p.length - k) 0 (by omega) (Ent.el ⟨rfl, rfl, rfl, trivial⟩) ?_
    intro k hk
    refine LWp.seq (LWp.seq ?_)
    refine LWp.x (gs := []) (hs := []) rfl trivial ?_
    refine LWp.ite rfl (fun hc => ?_) (fun hc => ?_)
    · simp only [decide_eq_true_eq] at hc
      have hkl : k < p.length := by omega
      have hg := ints_get p hkl
      have hc1 := cnt_take_le h.lt k hk
      have hp := h.lt k
      have hs := cnt_snoc (p.take k) (per p k)
      rw [← take_succ_per p hkl] at hs
      refine LWp.skip (LWp.seq (LWp.block ?_))
      refine LWp.x (gs := []) (hs := [.cells [I (per p k : Nat)]]) rfl ⟨⟨by omega, hg⟩, ⟨by omega, by omega⟩, trivial⟩ ?_
      refine LWp.x (gs := []) (hs := []) rfl ⟨by omega, trivial⟩ ?_
      refine ⟨k + 1, by omega, by omega, Ent.el ⟨rfl, ?_, rfl, trivial⟩⟩
      show I (max ((cnt (p.take k) : Nat) : Int) (((per p k : Nat) : Int) + 1)) = I _
      rw [hs]
      refine congrArg I ?_
      omega
    · simp only [decide_eq_false_iff_not] at hc
      have e : k = p.length := by omega
      subst e
      rw [List.take_length]
      exact LWp.exit ⟨(), trivial, Ent.el ⟨rfl, trivial⟩⟩
  · intro _ _
    refine LWp.sx (gs := []) (hs := []) rfl trivial ?_
    refine LWp.ret (retT (.inr rfl) (.one (.tmp ?_ rfl)))
    rfl
end Go.Px

namespace Go.Px
open Go.Proofs Go.MapKept
theorem small_of {n : Nat} (h6 : n ≤ 6) {p : List Nat} (hg : Grp n p) : Small p := by
  obtain ⟨_, hp6⟩ := perOK_of h6 hg
  exact ⟨by rw [hg.len]; omega, fun i => by have := hp6 i; omega⟩
theorem groups_ev (n : Nat) (hn : n ≤ 6) : Ev Tryz.prog 83 [I (n : Nat)] (lists (groupsN n)) := by
  refine Ev.freeze (T := 34) ?_
  refine Ev.intro fn83 ?_
  refine LWp.sx (gs := []) (hs := []) rfl trivial ?_
  refine LWp.sx (gs := []) (hs := [.lin]) rfl ⟨rfl, trivial⟩ ?_
  refine LWp.ent (Ent.linSub (t := 3) [[ints []]] rfl ⟨⟨.nil 1, trivial⟩, trivial⟩) ?_
  refine LWp.seq (LWp.seq ?_)
  refine LWp.x (gs := []) (hs := []) rfl trivial ?_
  refine LWp.blockT (fun _ : Unit => True) (fun _ => el [(3, .lin 34 1 ((groupsN n).map fun c => [ints (natI c)]))]) (fun _ => []) (fun _ => []) ?_ ?_
  · refine LWp.loopN (fun i : Nat => i ≤ n) (fun i => el [(0, I n), (3, .lin 34 1 ((groupsN i).map fun c => [ints (natI c)])), (4, I i)]) (fun _ => []) (fun _ => []) (fun i => n - i) 0 (by omega)
      (Ent.el ⟨rfl, rfl, rfl, trivial⟩) ?_
    intro i hi
    refine LWp.seq (LWp.seq ?_)
    refine LWp.x (gs := []) (hs := []) rfl trivial ?_
    refine LWp.ite rfl (fun hc => ?_) (fun hc => ?_)
    · simp only [decide_eq_true_eq, Int.ofNat_lt] at hc
      have hlC : ∀ c ∈ groupsN i, Grp i c := fun c h => groups_grp h
      have hsC := groups_len (n := i) (by omega)
      have hsC1 := groups_len (n := i + 1) (by omega)
      have hnx : groupsN (i + 1) = (groupsN i).flatMap nextG := rfl
      generalize groupsN i = C at hlC hsC hnx
      refine LWp.skip ?_
      refine LWp.ent (Ent.freezeLin (t := 3) rfl) ?_
      refine LWp.blockX (fun _ : Unit => True) (fun _ => el [(0, I n), (3, .lin 34 1 ((groupsN (i + 1)).map fun c => [ints (natI c)])), (4, I i)]) (fun _ => []) (fun _ => []) ?_ ?_
      · refine LWp.sx (gs := []) (hs := []) rfl trivial ?_
        refine LWp.ent (Ent.nilLin (t := 5) 34 1 rfl) ?_
        refine LWp.seq (LWp.seq ?_)
        refine LWp.x (gs := []) (hs := []) rfl trivial ?_
        refine LWp.blockT (fun _ : Unit => True) (fun _ => el [(0, I n), (4, I i), (5, .lin 34 1 ((C.flatMap nextG).map fun c => [ints (natI c)]))]) (fun _ => []) (fun _ => []) ?_ ?_
        · refine LWp.loopN (fun k : Nat => k ≤ C.length) (fun k => el [(0, I n), (3, lists C), (4, I i), (5, .lin 34 1 (((C.take k).flatMap nextG).map fun c => [ints (natI c)])), (6, I k)]) (fun _ => []) (fun _ => []) (fun k => C.length - k) 0 (by omega)
            (Ent.el ⟨rfl, rfl, rfl, rfl, rfl, trivial⟩) ?_
          intro k hk
          refine LWp.seq (LWp.seq ?_)
          refine LWp.x (gs := []) (hs := []) rfl trivial ?_
          refine LWp.ite rfl (fun hd => ?_) (fun hd => ?_)
          · simp only [List.length_map, decide_eq_true_eq, Int.ofNat_lt] at hd
            obtain ⟨c, hx⟩ := ex_get hd
            have hgc := hlC c (List.mem_of_getElem? hx)
            have hcl := hgc.len
            have hcle := hgc.le
            have hsm := small_of (by omega) hgc
            have hcount := rcount3_ev hsm
            have hst : (C.take (k + 1)).flatMap nextG = (C.take k).flatMap nextG ++ nextG c := by
              rw [List.take_add_one, hx, List.flatMap_append]; simp
            have hle : ((C.take k).flatMap nextG).length + (nextG c).length ≤ 1000 := by
              have h1 : C.flatMap nextG = (C.take (k + 1)).flatMap nextG ++ (C.drop (k + 1)).flatMap nextG := by
                rw [← List.flatMap_append, List.take_append_drop]
              have h2 := congrArg List.length h1
              rw [← hnx, List.length_append, hst, List.length_append] at h2
              omega
            have hnl : (nextG c).length = cnt c + 1 := by simp [nextG]
            generalize (C.take k).flatMap nextG = A at hst hle
            refine LWp.skip ?_
            refine LWp.blockX (fun _ : Unit => True) (fun _ => el [(0, I n), (3, lists C), (4, I i), (5, .lin 34 1 ((A ++ nextG c).map fun c => [ints (natI c)])), (6, I k)]) (fun _ => []) (fun _ => []) ?_ ?_
            · refine LWp.sx (gs := []) (hs := []) rfl trivial ?_
              refine LWp.block ?_
              refine LWp.loopN (fun v : Nat => v ≤ cnt c + 1) (fun v => el [(0, I n), (3, lists C), (4, I i), (5, .lin 34 1 ((A ++ (List.range v).map fun u => c ++ [u]).map fun c => [ints (natI c)])), (6, I k), (7, I v)]) (fun _ => []) (fun _ => []) (fun v => cnt c + 1 - v) 0 (by omega)
                (Ent.el ⟨rfl, rfl, rfl, by simp; rfl, rfl, rfl, trivial⟩) ?_
              intro v hv
              refine LWp.seq (LWp.seq ?_)
              refine LWp.x (gs := []) (hs := [.cells [ints (natI c)], .ret (I (cnt c : Nat))]) rfl ⟨⟨by omega, by simp [hx]⟩, hcount, trivial⟩ ?_
              refine LWp.ite rfl (fun he => ?_) (fun he => ?_)
              · simp only [decide_eq_true_eq] at he
                have hrl : ((List.range v).map fun u => c ++ [u]).length = v := by simp
                have hst2 : (List.range (v + 1)).map (fun u => c ++ [u]) = (List.range v).map (fun u => c ++ [u]) ++ [c ++ [v]] := by
                  rw [List.range_succ, List.map_append]; rfl
                generalize (List.range v).map (fun u => c ++ [u]) = R at hrl hst2 ⊢
                refine LWp.skip (LWp.seq (LWp.block (LWp.ops ?_)))
                refine WOps.xn (gs := []) (hs := [.lin, .cells [ints (natI c)], .ice]) 10 rfl rfl ⟨rfl, ⟨by omega, by simp [hx]⟩, ⟨by simp [chunk, natI]; omega, by simp [chunk, natI]; omega⟩, rfl, ⟨by simp [chunk, natI]; omega, by simp [chunk, natI]; omega⟩, trivial⟩ ?_
                refine WOps.ent (Ent.freezeLin (t := 38) rfl) ?_
                refine WOps.xd (gs := []) (hs := [.ice]) rfl ⟨rfl, ⟨by simp [chunk]; omega, by simp [chunk]; omega⟩, trivial⟩ ?_
                refine LWp.x (gs := []) (hs := []) rfl ⟨by omega, trivial⟩ ?_
                refine ⟨v + 1, by omega, by omega, Ent.el ⟨rfl, rfl, rfl, ?_, rfl, rfl, trivial⟩⟩
                show AV.lin _ _ _ = _
                have e : [ints (natI (c ++ [v]))] = [AV.sl 1 ((natI c).map (fun x => [I x]) ++ [[I v]])] := by simp [natI]
                rw [hst2, ← List.append_assoc, List.map_append (l₁ := A ++ R)]
                show _ = AV.lin 34 1 (_ ++ [[ints (natI (c ++ [v]))]])
                rw [e]; rfl
              · simp only [decide_eq_false_iff_not] at he
                have : v = cnt c + 1 := by omega
                subst this
                exact LWp.exit ⟨(), trivial, Ent.el ⟨rfl, rfl, rfl, rfl, rfl, trivial⟩⟩
            · intro _ _
              refine LWp.x (gs := []) (hs := []) rfl ⟨by omega, trivial⟩ ?_
              refine ⟨k + 1, hd, by omega, Ent.el ⟨rfl, rfl, rfl, ?_, rfl, trivial⟩⟩
              rw [hst]; rfl
          · simp only [List.length_map, decide_eq_false_iff_not, Int.ofNat_lt] at hd
            refine LWp.exit ⟨(), trivial, Ent.el ⟨rfl, rfl, ?_, trivial⟩⟩
            have e : C.take k = C := List.take_of_length_le (by omega)
            rw [e]; rfl
        · intro _ _
          refine LWp.x (gs := []) (hs := []) rfl trivial ?_
          exact ⟨(), trivial, Ent.el ⟨rfl, by rw [hnx]; rfl, rfl, trivial⟩⟩
      · intro _ _
        refine LWp.x (gs := []) (hs := []) rfl ⟨by omega, trivial⟩ ?_
        exact ⟨i + 1, hc, by omega, Ent.el ⟨rfl, rfl, rfl, trivial⟩⟩
    · simp only [decide_eq_false_iff_not, Int.ofNat_lt] at hc
      have : i = n := by omega
      subst this
      exact LWp.exit ⟨(), trivial, Ent.el ⟨rfl, trivial⟩⟩
  · intro _ _
    refine LWp.sx (gs := []) (hs := []) rfl trivial ?_
    exact LWp.ret (retT (.inr rfl) (.lin rfl rfl))
end Go.Px

namespace Go.Px
open Go.Proofs Go.MapKept
theorem years_at {t : Town} (h : t.OK) {p : List Nat} (hg : Grp t.ms.length p) (hk : Kin1 t p) {w : Nat} (hw : w < cnt p) : spAt (yearsW t p 6) w = spAt (yearsW t p (cnt p)) w := by
  have hle := hg.le
  have h6 := h.ms6
  rw [yearsW_pad h hg hk (by omega)]
  refine spAt_app _ ?_
  have := (yearsW_sub h hg hk (Nat.le_refl (cnt p))).1
  rw [this, born0_len]
  exact hw
end Go.Px

namespace Go.Px
open Go.Proofs Go.MapKept
theorem tru_iff {t : Town} {but : Nat → Bool} {p : List Nat} : p ∈ truthsL t but ↔ p ∈ groupsN t.ms.length ∧ Tru t but p := by
  unfold truthsL
  rw [List.mem_filter]
  refine and_congr_right fun hp => ?_
  unfold canR
  simp only [Bool.and_eq_true, List.all_eq_true, List.mem_range, Bool.not_eq_true']
  exact ⟨fun h => ⟨groups_grp hp, h.2.1, h.2.2, h.1.2, h.1.1⟩, fun h => ⟨⟨h.named, h.tied⟩, h.kin, h.yrs⟩⟩
theorem Tru.kin1 {t : Town} {but : Nat → Bool} {p : List Nat} (h : Tru t but p) : Kin1 t p := fun i hi hpi => (kinB_iff.1 h.kin i hi hpi).1
theorem Tru.year {t : Town} (hO : t.OK) {but : Nat → Bool} {p : List Nat} (h : Tru t but p) {w : Nat} (hw : w < cnt p) :
    (bornAt t p t.ms.length w).1 ≤ (spAt (yearsW t p (cnt p)) w).1 ∧ (spAt (yearsW t p (cnt p)) w).1 ≤ (spAt (yearsW t p (cnt p)) w).2 ∧ (spAt (yearsW t p (cnt p)) w).2 ≤ (bornAt t p t.ms.length w).2 := by
  have hs := yearsW_sub hO h.grp h.kin1 (Nat.le_refl (cnt p))
  have hl : (yearsW t p (cnt p)).length = cnt p := by rw [hs.1, born0_len]
  have hn := not_empty_at h.yrs (k := w) (by omega)
  have h2 := hs.2 w
  rw [born0_get t p hw] at h2
  exact ⟨h2.1, hn, h2.2⟩
theorem hull_go (g : List Nat → Sp) : ∀ (l : List (List Nat)) (s : Sp), (l.foldl (fun (x : Sp × Bool) p => (widerF x.1 (g p) x.2, false)) (s, false)).1.1 ≤ s.1 ∧ s.2 ≤ (l.foldl (fun (x : Sp × Bool) p => (widerF x.1 (g p) x.2, false)) (s, false)).1.2 ∧
    (∀ p ∈ l, (l.foldl (fun (x : Sp × Bool) p => (widerF x.1 (g p) x.2, false)) (s, false)).1.1 ≤ (g p).1 ∧ (g p).2 ≤ (l.foldl (fun (x : Sp × Bool) p => (widerF x.1 (g p) x.2, false)) (s, false)).1.2) ∧
    ((l.foldl (fun (x : Sp × Bool) p => (widerF x.1 (g p) x.2, false)) (s, false)).1.1 = s.1 ∨ ∃ p ∈ l, (l.foldl (fun (x : Sp × Bool) p => (widerF x.1 (g p) x.2, false)) (s, false)).1.1 = (g p).1) ∧
    ((l.foldl (fun (x : Sp × Bool) p => (widerF x.1 (g p) x.2, false)) (s, false)).1.2 = s.2 ∨ ∃ p ∈ l, (l.foldl (fun (x : Sp × Bool) p => (widerF x.1 (g p) x.2, false)) (s, false)).1.2 = (g p).2)
  | [], s => ⟨Int.le_refl _, Int.le_refl _, by simp, .inl rfl, .inl rfl⟩
  | q :: l, s => by
    rw [List.foldl_cons]
    have e : widerF s (g q) false = (min s.1 (g q).1, max s.2 (g q).2) := rfl
    rw [e]
    obtain ⟨h1, h2, h3, h4, h5⟩ := hull_go g l (min s.1 (g q).1, max s.2 (g q).2)
    generalize (l.foldl (fun (x : Sp × Bool) p => (widerF x.1 (g p) x.2, false)) ((min s.1 (g q).1, max s.2 (g q).2), false)).1 = r at *
    simp only at h1 h2 h4 h5
    refine ⟨Int.le_trans h1 (Int.min_le_left _ _), Int.le_trans (Int.le_max_left _ _) h2, ?_, ?_, ?_⟩
    · intro p hp
      rcases List.mem_cons.1 hp with rfl | hp
      · exact ⟨Int.le_trans h1 (Int.min_le_right _ _), Int.le_trans (Int.le_max_right _ _) h2⟩
      · exact h3 p hp
    · rcases h4 with h4 | ⟨p, hp, h4⟩
      · by_cases c : s.1 ≤ (g q).1
        · left; rw [h4, Int.min_eq_left c]
        · right; exact ⟨q, by simp, by rw [h4, Int.min_eq_right (by clear h5; omega)]⟩
      · right; exact ⟨p, by simp [hp], h4⟩
    · rcases h5 with h5 | ⟨p, hp, h5⟩
      · by_cases c : (g q).2 ≤ s.2
        · left; rw [h5, Int.max_eq_left c]
        · right; exact ⟨q, by simp, by rw [h5, Int.max_eq_right (by clear h4; omega)]⟩
      · right; exact ⟨p, by simp [hp], h5⟩
theorem hull_spec (g : List Nat → Sp) {l : List (List Nat)} (hl : l ≠ []) : (∀ p ∈ l, (hullF g l).1 ≤ (g p).1 ∧ (g p).2 ≤ (hullF g l).2) ∧ (∃ p ∈ l, (hullF g l).1 = (g p).1) ∧ ∃ p ∈ l, (hullF g l).2 = (g p).2 := by
  cases l with
  | nil => exact absurd rfl hl
  | cons q l =>
    have e : hullF g (q :: l) = (l.foldl (fun (x : Sp × Bool) p => (widerF x.1 (g p) x.2, false)) (g q, false)).1 := rfl
    rw [e]
    obtain ⟨h1, h2, h3, h4, h5⟩ := hull_go g l (g q)
    refine ⟨?_, ?_, ?_⟩
    · intro p hp
      rcases List.mem_cons.1 hp with rfl | hp
      · exact ⟨h1, h2⟩
      · exact h3 p hp
    · rcases h4 with h4 | ⟨p, hp, h4⟩
      · exact ⟨q, by simp, h4⟩
      · exact ⟨p, by simp [hp], h4⟩
    · rcases h5 with h5 | ⟨p, hp, h5⟩
      · exact ⟨q, by simp, h5⟩
      · exact ⟨p, by simp [hp], h5⟩
end Go.Px

namespace Go.Px
open Go.Proofs
open Go.ChangeShapes Go.WideShapes Go.ChangeAt Go.RowKit
def bytesSh : Sh := .sl (.int .u8)
theorem fits_u8 (a : AV) (h : FitA (.int .u8) a) : ∃ i : Int, 0 ≤ i ∧ i ≤ 255 ∧ a = U i := by
  simp only [FitA, Fits] at h
  obtain ⟨n, h, hn⟩ := h
  simp only [List.cons.injEq, and_true] at h
  have := bounds_u8 hn
  exact ⟨n, by omega, by omega, h⟩
theorem fits_byte (l : List AV) (h : Fits (.int .u8) l) : ∃ a : UInt8, True ∧ l = [U a.toNat] := by
  simp only [Fits] at h
  obtain ⟨n, rfl, hn⟩ := h
  have := bounds_u8 hn
  refine ⟨n.toNat.toUInt8, trivial, ?_⟩
  have e : n.toNat.toUInt8.toNat = n.toNat % 256 := rfl
  rw [e, show ((n.toNat % 256 : Nat) : Int) = n by omega]
theorem fits_bytes (a : AV) (h : FitA bytesSh a) : ∃ x : List UInt8, a = bytes x := by
  simp only [bytesSh, FitA, Fits.eq_4] at h
  obtain ⟨es, h, _, hes⟩ := h
  simp only [List.cons.injEq, and_true] at h
  obtain ⟨x, _, rfl⟩ := fits_list fits_byte hes
  exact ⟨x, h⟩
end Go.Px

namespace Go.Px
open Go.Proofs Go.MapKept
theorem yrRound_none : ∀ (ks : List (Nat × Nat)) (b : List Sp) (m : Bool), (∀ k ∈ ks, k.1 < b.length ∧ k.2 < b.length) → (yrRound ks (b, m)).2 = false → m = false ∧ ∀ k ∈ ks, yrMore b k.1 k.2 = false
  | [], b, m, _, h => ⟨h, fun k hk => by cases hk⟩
  | (a, c) :: ks, b, m, h, e => by
    obtain ⟨ha, hc⟩ := h (a, c) (by simp)
    simp only [yrRound] at e
    obtain ⟨i1, i2⟩ := yrRound_none ks (yrStep b a c) (m || yrMore b a c) (fun k hk => by rw [yrStep_len]; exact h k (by simp [hk])) e
    rw [Bool.or_eq_false_iff] at i1
    rw [(yrStep_sub ha hc).2 i1.2] at i2
    refine ⟨i1.1, fun k hk => ?_⟩
    rcases List.mem_cons.1 hk with rfl | hk
    · exact i1.2
    · exact i2 k hk
theorem yearsB_fix {ks : List (Nat × Nat)} : ∀ (n : Nat) (b : List Sp), width b < n → (∀ k ∈ ks, k.1 < b.length ∧ k.2 < b.length ∧ k.1 ≠ k.2) → emptyS (yearsB ks b) = false → ∀ k ∈ ks, yrMore (yearsB ks b) k.1 k.2 = false
  | 0, _, h, _, _ => by omega
  | n + 1, b, hn, hk, he => by
    have hk2 : ∀ k ∈ ks, k.1 < b.length ∧ k.2 < b.length := fun k h => ⟨(hk k h).1, (hk k h).2.1⟩
    cases hb : emptyS b with
    | true => rw [yearsB_empty hb, hb] at he; cases he
    | false =>
      cases hm : (yrRound ks (b, false)).2 with
      | false =>
        rw [yearsB_done hb hm, ((yrRound_sub ks b false hk2).2 hm).1]
        exact (yrRound_none ks b false hk2 hm).2
      | true =>
        rw [yearsB_more hk hb hm] at he ⊢
        cases hr : emptyS (yrRound ks (b, false)).1 with
        | true => rw [yearsB_empty hr, hr] at he; cases he
        | false =>
          have := width_round hk hm hr
          exact yearsB_fix n _ (by omega) (fun k h => by rw [yrRound_len]; exact hk k h) he
theorem yrMore_iff {b : List Sp} {a c : Nat} : yrMore b a c = false ↔ older (spAt b a) (spAt b c) = spAt b a ∧ younger (spAt b a) (spAt b c) = spAt b c := by
  unfold yrMore
  rw [Bool.or_eq_false_iff, decide_eq_false_iff_not, decide_eq_false_iff_not, Classical.not_not, Classical.not_not]
theorem yrMore_bd {b : List Sp} {a c : Nat} : yrMore b a c = false ↔ (spAt b c).1 - 60 ≤ (spAt b a).1 ∧ (spAt b a).2 ≤ (spAt b c).2 - 15 ∧ (spAt b a).1 + 15 ≤ (spAt b c).1 ∧ (spAt b c).2 ≤ (spAt b a).2 + 60 := by
  rw [yrMore_iff, Prod.ext_iff, Prod.ext_iff]
  simp only [older, younger]
  omega
theorem yrStep_keep {F b : List Sp} (h : SubB F b) {a c : Nat} (ha : a < b.length) (hc : c < b.length) (hm : yrMore F a c = false) : SubB F (yrStep b a c) := by
  rw [yrMore_bd] at hm
  refine ⟨by rw [yrStep_len]; exact h.1, fun k => ?_⟩
  unfold yrStep
  rw [spAt_set _ _ _ _ (by simpa using hc), spAt_set _ _ _ _ ha]
  have h1 := h.2 a
  have h2 := h.2 c
  have h3 := h.2 k
  simp only [SubS1] at h1 h2 h3 ⊢
  by_cases e1 : c = k
  · rw [if_pos e1]
    subst e1
    simp only [younger]
    omega
  · rw [if_neg e1]
    by_cases e2 : a = k
    · rw [if_pos e2]
      subst e2
      simp only [older]
      omega
    · rw [if_neg e2]; exact h3
theorem yrRound_keep {F : List Sp} : ∀ (ks : List (Nat × Nat)) (b : List Sp) (m : Bool), SubB F b → (∀ k ∈ ks, k.1 < b.length ∧ k.2 < b.length ∧ yrMore F k.1 k.2 = false) → SubB F (yrRound ks (b, m)).1
  | [], b, m, h, _ => h
  | (a, c) :: ks, b, m, h, g => by
    obtain ⟨ha, hc, hm⟩ := g (a, c) (by simp)
    simp only [yrRound]
    exact yrRound_keep ks _ _ (yrStep_keep h ha hc hm) (fun k hk => by rw [yrStep_len]; exact g k (by simp [hk]))
theorem yrLoop_keep {F : List Sp} {ks : List (Nat × Nat)} : ∀ (f : Nat) (b : List Sp), SubB F b → (∀ k ∈ ks, k.1 < b.length ∧ k.2 < b.length ∧ yrMore F k.1 k.2 = false) → SubB F (yrLoop ks f b)
  | 0, b, h, _ => h
  | f + 1, b, h, g => by
    simp only [yrLoop]
    have h2 := yrRound_keep ks b false h g
    split
    · exact h
    · split
      · exact yrLoop_keep f _ h2 (fun k hk => by rw [yrRound_len]; exact g k hk)
      · exact h2
structure Yrs (t : Town) (p : List Nat) (F : Nat → Sp) : Prop where
  ne : ∀ w, w < cnt p → (F w).1 ≤ (F w).2
  sub : ∀ i, i < t.ms.length → (t.m i).lo ≤ (F (per p i)).1 ∧ (F (per p i)).2 ≤ (t.m i).hi
  fix : ∀ i, i < t.ms.length → (t.m i).par ≠ -1 → (F (per p i)).1 - 60 ≤ (F (per p (t.m i).par.toNat)).1 ∧ (F (per p (t.m i).par.toNat)).2 ≤ (F (per p i)).2 - 15 ∧ (F (per p (t.m i).par.toNat)).1 + 15 ≤ (F (per p i)).1 ∧ (F (per p i)).2 ≤ (F (per p (t.m i).par.toNat)).2 + 60
structure Fine (t : Town) (but : Nat → Bool) (p : List Nat) : Prop where
  kin : ∀ i, i < t.ms.length → (t.m i).par ≠ -1 → per p (t.m i).par.toNat ≠ per p i ∧ ∀ k, k < t.ms.length → (t.m k).par ≠ -1 → per p k = per p i → per p (t.m i).par.toNat = per p (t.m k).par.toNat
  snd : ∀ w, w < cnt p → Sounds t p w
  vil : ∀ i, i < t.ms.length → ∀ j, j < t.ms.length → per p i = per p j → Vil (t.m i).v (t.m j).v
  tie : ∀ i x, t.ties[i]? = some x → but i = false → tieB p x = true
  yrs : ∃ F, Yrs t p F
theorem tied_iff {t : Town} {but : Nat → Bool} {p : List Nat} : tiedF t but p = true ↔ ∀ i x, t.ties[i]? = some x → but i = false → tieB p x = true := by
  unfold tiedF
  rw [List.all_eq_true]
  constructor
  · intro h i x hx hb
    have := h i (List.mem_range.2 (List.getElem?_eq_some_iff.1 hx).1)
    rw [hx, hb] at this
    simpa using this
  · intro h i hi
    obtain ⟨x, hx⟩ := ex_get (List.mem_range.1 hi)
    rw [hx]
    cases hb : but i with
    | true => rfl
    | false => simpa using h i x hx hb
theorem m_some {t : Town} {i : Nat} (hi : i < t.ms.length) : t.ms[i]? = some (t.m i) := by
  obtain ⟨x, hx⟩ := ex_get hi
  rw [Town.m_get hx, hx]
theorem kid_mem {t : Town} {p : List Nat} {i : Nat} (hi : i < t.ms.length) (hp : (t.m i).par ≠ -1) : (per p (t.m i).par.toNat, per p i) ∈ kids t.ms p := kids_mem.2 ⟨i, t.m i, m_some hi, hp, rfl, rfl⟩
theorem tru_fix {t : Town} (hO : t.OK) {but : Nat → Bool} {p : List Nat} (h : Tru t but p) {i : Nat} (hi : i < t.ms.length) (hp : (t.m i).par ≠ -1) : yrMore (yearsW t p (cnt p)) (per p (t.m i).par.toNat) (per p i) = false := by
  have hk := kids_ok hO h.grp h.kin1 (Nat.le_refl (cnt p))
  have hy := h.yrs
  have hm := kid_mem (p := p) hi hp
  generalize per p (t.m i).par.toNat = a at hm ⊢
  generalize per p i = c at hm ⊢
  have e : yearsW t p (cnt p) = yearsB (kids t.ms p) (born0 t p (cnt p)) := rfl
  rw [e] at hy ⊢
  exact yearsB_fix _ _ (Nat.lt_succ_self _) hk hy (a, c) hm
theorem tru_yrs {t : Town} (hO : t.OK) {but : Nat → Bool} {p : List Nat} (h : Tru t but p) : Yrs t p (fun w => spAt (yearsW t p (cnt p)) w) := by
  have h1 := fun w (hw : w < cnt p) => h.year hO hw
  have h2 := fun i hi hp => tru_fix hO h (i := i) hi hp
  generalize yearsW t p (cnt p) = y at h1 h2
  refine ⟨fun w hw => (h1 w hw).2.1, fun i hi => ?_, fun i hi hp => yrMore_bd.1 (h2 i hi hp)⟩
  have h3 := bornAt_le t p (per p i) t.ms.length i hi rfl
  have h4 := h1 _ (h.grp.lt i hi)
  exact ⟨Int.le_trans h3.1 h4.1, Int.le_trans h4.2.2 h3.2⟩
theorem tru_fine {t : Town} (hO : t.OK) {but : Nat → Bool} {p : List Nat} (h : Tru t but p) : Fine t but p where
  kin := by
    intro i hi hp
    obtain ⟨h1, h2⟩ := kinB_iff.1 h.kin i hi hp
    refine ⟨h1, fun k hk hpk e => ?_⟩
    by_cases c : k < i
    · exact h2 k c hpk e
    · by_cases c2 : k = i
      · rw [c2]
      · exact ((kinB_iff.1 h.kin k hk hpk).2 i (by omega) hp e.symm).symm
  snd := fun w hw => ((namedR_iff hO h.grp.len (h.grp.on w hw)).1 (h.named w hw)).1
  vil := fun i hi j hj e => ((namedR_iff hO h.grp.len ⟨i, hi, rfl⟩).1 (h.named (per p i) (h.grp.lt i hi))).2 i hi rfl j hj e.symm
  tie := tied_iff.1 h.tied
  yrs := ⟨_, tru_yrs hO h⟩
def spL (n : Nat) (F : Nat → Sp) : List Sp := (List.range n).map F
theorem spL_at (n : Nat) (F : Nat → Sp) {k : Nat} (h : k < n) : spAt (spL n F) k = F k := by
  unfold spAt spL
  rw [List.getElem?_map, List.getElem?_range h]; rfl
theorem spL_len (n : Nat) (F : Nat → Sp) : (spL n F).length = n := by simp [spL]
theorem yrs_in_born {t : Town} {p : List Nat} {F : Nat → Sp} {w : Nat} (h0 : 0 ≤ (F w).1) (h1 : (F w).2 ≤ 199) : ∀ k, k ≤ t.ms.length → (∀ i, i < k → per p i = w → (t.m i).lo ≤ (F w).1 ∧ (F w).2 ≤ (t.m i).hi) → SubS1 (F w) (bornAt t p k w)
  | 0, _, _ => ⟨h0, h1⟩
  | k + 1, hk, h => by
    rw [bornAt_succ]
    obtain ⟨i1, i2⟩ := yrs_in_born h0 h1 k (by omega) (fun i hi => h i (by omega))
    split
    · rename_i e
      have := h k (by omega) e
      simp only [SubS1]
      omega
    · exact ⟨i1, i2⟩
theorem yrs_keep {t : Town} (hO : t.OK) {p : List Nat} (hg : Grp t.ms.length p) {F : Nat → Sp} (h : Yrs t p F) (hk1 : Kin1 t p) : SubB (spL (cnt p) F) (yearsW t p (cnt p)) := by
  refine yrLoop_keep _ _ ⟨by rw [spL_len, born0_len], fun k => ?_⟩ ?_
  · by_cases hk : k < cnt p
    · rw [spL_at _ _ hk, born0_get t p hk]
      obtain ⟨i, hi, he⟩ := hg.on k hk
      have s := h.sub i hi
      rw [he] at s
      have hm := hO.at hi
      have m1 := hm.lo0
      have m2 := hm.hi1
      refine yrs_in_born (by omega) (by omega) _ (Nat.le_refl _) (fun j hj e => ?_)
      have := h.sub j hj
      rw [e] at this; exact this
    · unfold spAt
      rw [List.getElem?_eq_none (by rw [spL_len]; omega), List.getElem?_eq_none (by rw [born0_len]; omega)]
      exact ⟨Int.le_refl _, Int.le_refl _⟩
  · rintro ⟨a, c⟩ hm
    obtain ⟨h1, h2, _⟩ := kids_ok hO hg hk1 (Nat.le_refl _) _ hm
    obtain ⟨i, x, hx, hp, rfl, rfl⟩ := kids_mem.1 hm
    have hi := (List.getElem?_eq_some_iff.1 hx).1
    have em := Town.m_get hx
    rw [born0_len] at h1 h2
    refine ⟨by rw [born0_len]; exact h1, by rw [born0_len]; exact h2, yrMore_bd.2 ?_⟩
    have f := h.fix i hi (by rw [em]; exact hp)
    rw [em] at f
    rw [spL_at _ _ h1, spL_at _ _ h2]
    exact f
theorem spL_ne {n : Nat} {F : Nat → Sp} (h : ∀ w, w < n → (F w).1 ≤ (F w).2) : emptyS (spL n F) = false := by
  unfold emptyS spL
  rw [List.any_eq_false]
  intro x hx
  obtain ⟨w, hw, rfl⟩ := List.mem_map.1 hx
  have := h w (List.mem_range.1 hw)
  rw [decide_eq_true_eq]
  omega
theorem fine_tru {t : Town} (hO : t.OK) {but : Nat → Bool} {p : List Nat} (hg : Grp t.ms.length p) (h : Fine t but p) : Tru t but p where
  grp := hg
  kin := kinB_iff.2 fun i hi hp => ⟨(h.kin i hi hp).1, fun k hk hpk e => (h.kin i hi hp).2 k (by omega) hpk e⟩
  yrs := by
    obtain ⟨F, hF⟩ := h.yrs
    have := yrs_keep hO hg hF (fun i hi hp => (h.kin i hi hp).1)
    cases he : emptyS (yearsW t p (cnt p)) with
    | false => rfl
    | true =>
      have := emptyS_sub this he
      rw [spL_ne hF.ne] at this
      cases this
  tied := tied_iff.2 h.tie
  named := fun w hw => (namedR_iff hO hg.len (hg.on w hw)).2 ⟨h.snd w hw, fun i hi he j hj hf => h.vil i hi j hj (by rw [he, hf])⟩
theorem truth_iff {t : Town} (hO : t.OK) {but : Nat → Bool} {p : List Nat} : p ∈ truthsL t but ↔ p ∈ groupsN t.ms.length ∧ Fine t but p := by
  rw [tru_iff]
  exact ⟨fun ⟨h1, h2⟩ => ⟨h1, tru_fine hO h2⟩, fun ⟨h1, h2⟩ => ⟨h1, fine_tru hO (groups_grp h1) h2⟩⟩
end Go.Px

namespace Go.Px
open Go.Proofs Go.MapKept
theorem lvalid3_ev (t : Town) (hw : t.wf) : Ev Tryz.prog 33 [.agg t.enc] (B (townE t == 0)) := by
  have e := rpcheck_ev t hw
  refine Ev.intro fn33 ?_
  refine LWp.sx (gs := []) (hs := [.ice]) rfl ⟨⟨rfl, rfl⟩, trivial⟩ ?_
  refine LWp.sx (gs := []) (hs := [.ret (.tup [I (checkT t).1, I (checkT t).2.1, I (checkT t).2.2])]) rfl ⟨e, trivial⟩ ?_
  refine LWp.sx (gs := []) (hs := []) rfl trivial ?_
  refine LWp.ret (retT (.inr rfl) (.one (.tmp ?_ rfl)))
  rfl
theorem twoE_ok {t : Town} {a b : Nat} (ha : a < t.ms.length) (hb : b < t.ms.length) (h : a ≠ b) : twoE t (a : Nat) (b : Nat) = 0 := twoE_zero.2 ⟨⟨by omega, by omega⟩, ⟨by omega, by omega⟩, by omega⟩
theorem ent_some {t : Town} (h : someE t (townE t) = 0) {e : Int} (he : e = 0) : someE t (entE t e) = 0 := someE_zero.2 ⟨entE_zero.2 ⟨(someE_zero.1 h).1, he⟩, (someE_zero.1 h).2⟩
abbrev cntP (t : Town) (a b : Nat) : Nat := (truthsL t noBut).countP (oneP a b)
theorem same_ok {t : Town} (h : someE t (townE t) = 0) {a b : Nat} (ha : a < t.ms.length) (hb : b < t.ms.length) (hab : a ≠ b) : sameT t (a : Nat) (b : Nat) = (settleI (cntP t a b : Nat) ((truthsL t noBut).length : Nat), 0) := by
  unfold sameT
  rw [if_pos (ent_some h (twoE_ok ha hb hab))]
theorem oneP_iff {a b : Nat} {p : List Nat} : oneP (a : Nat) (b : Nat) p = true ↔ per p a = per p b := by
  unfold oneP
  rw [beq_iff_eq, Int.toNat_natCast, Int.toNat_natCast]
theorem settle_must {c n : Nat} : settleI (c : Nat) (n : Nat) = 1 ↔ c = n := by
  unfold settleI
  split
  · exact ⟨fun _ => by omega, fun _ => rfl⟩
  · split
    · exact ⟨fun h => by omega, fun h => by omega⟩
    · exact ⟨fun h => by omega, fun h => by omega⟩
theorem settle_never {c n : Nat} (hn : 0 < n) : settleI (c : Nat) (n : Nat) = 2 ↔ c = 0 := by
  unfold settleI
  split
  · exact ⟨fun h => by omega, fun h => by omega⟩
  · split
    · exact ⟨fun _ => by omega, fun _ => rfl⟩
    · exact ⟨fun h => by omega, fun h => by omega⟩
theorem some_pos {t : Town} (h : someE t (townE t) = 0) : 0 < (truthsL t noBut).length := List.length_pos_iff.2 (someE_zero.1 h).2
theorem same_must {t : Town} (h : someE t (townE t) = 0) {a b : Nat} (ha : a < t.ms.length) (hb : b < t.ms.length) (hab : a ≠ b) : (sameT t (a : Nat) (b : Nat)).1 = 1 ↔ ∀ p ∈ truthsL t noBut, per p a = per p b := by
  rw [same_ok h ha hb hab]
  show settleI _ _ = 1 ↔ _
  rw [settle_must]
  show List.countP _ _ = _ ↔ _
  rw [List.countP_eq_length]
  exact forall_congr' fun p => imp_congr_right fun _ => oneP_iff
theorem same_never {t : Town} (h : someE t (townE t) = 0) {a b : Nat} (ha : a < t.ms.length) (hb : b < t.ms.length) (hab : a ≠ b) : (sameT t (a : Nat) (b : Nat)).1 = 2 ↔ ∀ p ∈ truthsL t noBut, per p a ≠ per p b := by
  rw [same_ok h ha hb hab]
  show settleI _ _ = 2 ↔ _
  rw [settle_never (some_pos h)]
  show List.countP _ _ = _ ↔ _
  rw [List.countP_eq_zero]
  exact forall_congr' fun p => imp_congr_right fun _ => not_congr oneP_iff
theorem persons_in {t : Town} (_hw : t.wf) (h : someE t (townE t) = 0) : (personsT t).2 = 0 ∧ (personsT t).1.1 ≤ (personsT t).1.2 ∧ (personsT t).1.2 ≤ t.ms.length ∧ 0 ≤ (personsT t).1.1 ∧ (1 ≤ t.ms.length → 1 ≤ (personsT t).1.1) ∧
    ∀ p ∈ truthsL t noBut, (personsT t).1.1 ≤ cnt p ∧ (cnt p : Int) ≤ (personsT t).1.2 := by
  obtain ⟨h0, hne⟩ := someE_zero.1 h
  unfold personsT
  rw [if_pos h]
  obtain ⟨h1, ⟨p, hp, e1⟩, ⟨q, hq, e2⟩⟩ := hull_spec (fun p => (((cnt p : Nat) : Int), ((cnt p : Nat) : Int))) hne
  have gp := (tru_iff.1 hp).2.grp
  have gq := (tru_iff.1 hq).2.grp
  have l1 := gp.le
  have l2 := gq.le
  have h1p := h1 p hp
  simp only at e1 e2 h1p ⊢
  refine ⟨trivial, by omega, by omega, by omega, fun hn => ?_, fun r hr => h1 r hr⟩
  have := gp.lt 0 (by omega)
  omega
theorem born_ok {t : Town} (hO : t.OK) (h : someE t (townE t) = 0) {i : Nat} (hi : i < t.ms.length) : (bornT t (i : Nat)).2 = 0 ∧
    (∀ p ∈ truthsL t noBut, (bornT t (i : Nat)).1.1 ≤ (spAt (yearsW t p (cnt p)) (per p i)).1 ∧ (spAt (yearsW t p (cnt p)) (per p i)).2 ≤ (bornT t (i : Nat)).1.2) ∧
    (∃ p ∈ truthsL t noBut, (bornT t (i : Nat)).1.1 = (spAt (yearsW t p (cnt p)) (per p i)).1) ∧ ∃ p ∈ truthsL t noBut, (bornT t (i : Nat)).1.2 = (spAt (yearsW t p (cnt p)) (per p i)).2 := by
  unfold bornT
  rw [if_pos (ent_some h (oneE_zero.2 ⟨by omega, by omega⟩)), Int.toNat_natCast]
  have key : ∀ p ∈ truthsL t noBut, spAt (yearsW t p 6) (per p i) = spAt (yearsW t p (cnt p)) (per p i) := by
    intro p hp
    have hT := (tru_iff.1 hp).2
    exact years_at hO hT.grp hT.kin1 (hT.grp.lt i hi)
  obtain ⟨h1, ⟨p, hp, e1⟩, ⟨q, hq, e2⟩⟩ := hull_spec (fun p => spAt (yearsW t p 6) (per p i)) (someE_zero.1 h).2
  refine ⟨rfl, fun r hr => ?_, ⟨p, hp, ?_⟩, ⟨q, hq, ?_⟩⟩
  · have := h1 r hr
    simp only [key r hr] at this
    exact this
  · rw [← key p hp]; exact e1
  · rw [← key q hq]; exact e2
end Go.Px

namespace Go.Px
open Go.Proofs Go.MapKept
abbrev linI (l : List Int) : AV := .lin 3 1 (l.map fun x => [I x])
theorem lin_snoc (l : List Int) (v : Int) : AV.lin 3 1 (l.map (fun x => [I x]) ++ [[I v]]) = linI (l ++ [v]) := by rw [linI, List.map_append]; rfl
end Go.Px

namespace Go.Px
open Go.Proofs Go.MapKept
theorem first_any (t : Town) : (someE t (townE t) = 0 ∧ ∃ l n, firstT t = (l, n, 0)) ∨ (someE t (townE t) ≠ 0 ∧ firstT t = ([], 0, someE t (townE t)) ∧ (townE t = 0 → someE t (townE t) = 8)) := by
  by_cases h : someE t (townE t) = 0
  · left
    unfold firstT
    rw [if_pos h]
    exact ⟨h, _, _, rfl⟩
  · right
    refine ⟨h, by unfold firstT; rw [if_neg h], fun h0 => ?_⟩
    have e : (truthsL t noBut).isEmpty = true := by
      cases hE : (truthsL t noBut).isEmpty with
      | true => rfl
      | false => exact absurd (someE_zero.2 ⟨h0, by intro e; rw [e] at hE; cases hE⟩) h
    unfold someE
    rw [if_neg (by simp [h0]), if_pos e]
end Go.Px

namespace Go.Px
open Go.Proofs Go.MapKept
abbrev mAt (l : List Men) (i : Nat) : Men := (l[i]?).getD ⟨0, 0, 0, 0, 0⟩
def yearF (w : Nat) (x : List UInt8) : Int := if x.length = 0 then 0 else ((((x[w % x.length]?).getD 0).toNat % 200 : Nat) : Int)
theorem yearF_in (w : Nat) (x : List UInt8) : 0 ≤ yearF w x ∧ yearF w x ≤ 199 := by
  unfold yearF
  split <;> omega
def befK (p : List Nat) (out : List Men) (i k : Nat) : List Int := (List.range k).foldl (fun a j => if per p j = per p i then a ++ [(mAt out j).sp] else a) []
def vilK (p : List Nat) (out : List Men) (i : Nat) (v : Int) (k : Nat) : Int := (List.range k).foldl (fun a j => if per p j = per p i ∧ a ≠ -1 then max a (mAt out j).v else a) v
def fine0 (p : List Nat) (x : List UInt8) (i : Nat) (par : Int) : Bool := decide (per p par.toNat ≠ per p i) && (decide (15 ≤ yearF (per p i) x - yearF (per p par.toNat) x) && decide (yearF (per p i) x - yearF (per p par.toNat) x ≤ 60))
def fineJ (p : List Nat) (out : List Men) (i : Nat) (par : Int) (j : Nat) : Bool := decide (per p j ≠ per p i) || decide ((mAt out j).par = -1) || decide (per p (mAt out j).par.toNat = per p par.toNat)
def fineK (p : List Nat) (x : List UInt8) (out : List Men) (i : Nat) (par : Int) (k : Nat) : Bool := (List.range k).foldl (fun a j => a && fineJ p out i par j) (fine0 p x i par)
def spG (t : Town) (p : List Nat) (out : List Men) (i : Nat) : Int := if befK p out i i ≠ [] ∧ sharedG t.ear (befK p out i i ++ [(t.m i).sp]) = false then (befK p out i i).headD 0 else (t.m i).sp
def parG (t : Town) (p : List Nat) (x : List UInt8) (out : List Men) (i : Nat) : Int := if (t.m i).par ≠ -1 ∧ fineK p x out i (t.m i).par i = false then -1 else (t.m i).par
def toldM (t : Town) (p : List Nat) (x : List UInt8) (out : List Men) (i : Nat) : Men :=
  ⟨spG t p out i, vilK p out i (t.m i).v i, min (t.m i).lo (yearF (per p i) x), max (t.m i).hi (yearF (per p i) x), parG t p x out i⟩
def toldL (t : Town) (p : List Nat) (x : List UInt8) : Nat → List Men
  | 0 => []
  | i + 1 => toldL t p x i ++ [toldM t p x (toldL t p x i) i]
def lastV (p : List Nat) (l : List Men) (w k : Nat) : Int := (List.range k).foldl (fun a j => if per p j = w ∧ (mAt l j).v ≠ -1 then (mAt l j).v else a) (-1)
def vilM (p : List Nat) (l : List Men) (i : Nat) : Men := { mAt l i with v := if (mAt l i).v = -1 then -1 else lastV p l (per p i) l.length }
def vilL (p : List Nat) (l : List Men) : List Men := (List.range l.length).map (vilM p l)
def tieT (p : List Nat) (y : Tie) : Tie := { y with same := per p y.a.toNat == per p y.b.toNat }
def toldT (t : Town) (p : List Nat) (x : List UInt8) : Town := { t with ms := vilL p (toldL t p x t.ms.length), ties := t.ties.map (tieT p) }
theorem befK_succ (p : List Nat) (out : List Men) (i k : Nat) : befK p out i (k + 1) = if per p k = per p i then befK p out i k ++ [(mAt out k).sp] else befK p out i k := by
  unfold befK
  rw [List.range_succ, List.foldl_append]; rfl
theorem vilK_succ (p : List Nat) (out : List Men) (i : Nat) (v : Int) (k : Nat) : vilK p out i v (k + 1) = if per p k = per p i ∧ vilK p out i v k ≠ -1 then max (vilK p out i v k) (mAt out k).v else vilK p out i v k := by
  unfold vilK
  rw [List.range_succ, List.foldl_append]; rfl
theorem fineK_succ (p : List Nat) (x : List UInt8) (out : List Men) (i : Nat) (par : Int) (k : Nat) : fineK p x out i par (k + 1) = (fineK p x out i par k && fineJ p out i par k) := by
  unfold fineK
  rw [List.range_succ, List.foldl_append]; rfl
theorem lastV_succ (p : List Nat) (l : List Men) (w k : Nat) : lastV p l w (k + 1) = if per p k = w ∧ (mAt l k).v ≠ -1 then (mAt l k).v else lastV p l w k := by
  unfold lastV
  rw [List.range_succ, List.foldl_append]; rfl
theorem toldL_len (t : Town) (p : List Nat) (x : List UInt8) : ∀ n, (toldL t p x n).length = n
  | 0 => rfl
  | n + 1 => by rw [toldL, List.length_append, toldL_len t p x n]; rfl
theorem toldL_keep (t : Town) (p : List Nat) (x : List UInt8) {i : Nat} : ∀ {n : Nat}, i < n → mAt (toldL t p x n) i = toldM t p x (toldL t p x i) i
  | 0, h => by omega
  | n + 1, h => by
    unfold mAt
    rw [toldL]
    by_cases e : i < n
    · rw [List.getElem?_append_left (by rw [toldL_len]; exact e)]
      exact toldL_keep t p x e
    · have : i = n := by omega
      subst this
      rw [List.getElem?_append_right (by rw [toldL_len]; omega), toldL_len, Nat.sub_self]; rfl
theorem bef_congr {p : List Nat} {a b : List Men} {i : Nat} : ∀ k, (∀ j, j < k → mAt a j = mAt b j) → befK p a i k = befK p b i k
  | 0, _ => rfl
  | k + 1, h => by rw [befK_succ, befK_succ, bef_congr k (fun j hj => h j (by omega)), h k (by omega)]
theorem vil_congr {p : List Nat} {a b : List Men} {i : Nat} {v : Int} : ∀ k, (∀ j, j < k → mAt a j = mAt b j) → vilK p a i v k = vilK p b i v k
  | 0, _ => rfl
  | k + 1, h => by rw [vilK_succ, vilK_succ, vil_congr k (fun j hj => h j (by omega)), h k (by omega)]
theorem fine_congr {p : List Nat} {x : List UInt8} {a b : List Men} {i : Nat} {par : Int} : ∀ k, (∀ j, j < k → mAt a j = mAt b j) → fineK p x a i par k = fineK p x b i par k
  | 0, _ => rfl
  | k + 1, h => by
    rw [fineK_succ, fineK_succ, fine_congr k (fun j hj => h j (by omega))]
    unfold fineJ
    rw [h k (by omega)]
theorem told_at (t : Town) (p : List Nat) (x : List UInt8) {n i : Nat} (h : i < n) : mAt (toldL t p x n) i = toldM t p x (toldL t p x n) i := by
  rw [toldL_keep t p x h]
  have hc : ∀ j, j < i → mAt (toldL t p x i) j = mAt (toldL t p x n) j := fun j hj => by rw [toldL_keep t p x hj, toldL_keep t p x (n := n) (by omega)]
  unfold toldM spG parG
  rw [bef_congr i hc, vil_congr i hc, fine_congr i hc]
theorem bef_mem {p : List Nat} {out : List Men} {i : Nat} {s : Int} : ∀ {k : Nat}, s ∈ befK p out i k ↔ ∃ j, j < k ∧ per p j = per p i ∧ s = (mAt out j).sp
  | 0 => by
    constructor
    · intro h; cases h
    · rintro ⟨j, h, _⟩; omega
  | k + 1 => by
    rw [befK_succ]
    have ih := bef_mem (p := p) (out := out) (i := i) (s := s) (k := k)
    by_cases e : per p k = per p i
    · rw [if_pos e, List.mem_append, ih, List.mem_singleton]
      constructor
      · rintro (⟨j, h1, h2, h3⟩ | h)
        · exact ⟨j, by omega, h2, h3⟩
        · exact ⟨k, by omega, e, h⟩
      · rintro ⟨j, h1, h2, h3⟩
        by_cases c : j = k
        · subst c; exact .inr h3
        · exact .inl ⟨j, by omega, h2, h3⟩
    · rw [if_neg e, ih]
      constructor
      · rintro ⟨j, h1, h2, h3⟩; exact ⟨j, by omega, h2, h3⟩
      · rintro ⟨j, h1, h2, h3⟩
        have : j ≠ k := fun c => e (by rw [← c]; exact h2)
        exact ⟨j, by omega, h2, h3⟩
theorem vilK_in {p : List Nat} {out : List Men} {i : Nat} {v m : Int} (h0 : -1 ≤ v) (h1 : v < m) : ∀ k, (∀ j, j < k → -1 ≤ (mAt out j).v ∧ (mAt out j).v < m) → -1 ≤ vilK p out i v k ∧ vilK p out i v k < m
  | 0, _ => ⟨h0, h1⟩
  | k + 1, h => by
    rw [vilK_succ]
    have ih := vilK_in (p := p) (i := i) h0 h1 k (fun j hj => h j (by omega))
    have hk := h k (by omega)
    split
    · omega
    · exact ih
theorem lastV_in {p : List Nat} {l : List Men} {w : Nat} {m : Int} (hm : 0 < m) : ∀ k, (∀ j, j < k → -1 ≤ (mAt l j).v ∧ (mAt l j).v < m) → -1 ≤ lastV p l w k ∧ lastV p l w k < m
  | 0, _ => ⟨(show (-1 : Int) ≤ -1 by decide), (show (-1 : Int) < m by omega)⟩
  | k + 1, h => by
    rw [lastV_succ]
    have ih := lastV_in (p := p) (w := w) hm k (fun j hj => h j (by omega))
    have hk := h k (by omega)
    split
    · exact hk
    · exact ih
theorem fineK_iff {p : List Nat} {x : List UInt8} {out : List Men} {i : Nat} {par : Int} : ∀ {k : Nat}, fineK p x out i par k = true ↔ fine0 p x i par = true ∧ ∀ j, j < k → fineJ p out i par j = true
  | 0 => by
    constructor
    · intro h; exact ⟨h, fun j hj => by omega⟩
    · exact fun h => h.1
  | k + 1 => by
    rw [fineK_succ, Bool.and_eq_true, fineK_iff]
    constructor
    · rintro ⟨⟨h1, h2⟩, h3⟩
      refine ⟨h1, fun j hj => ?_⟩
      by_cases c : j = k
      · subst c; exact h3
      · exact h2 j (by omega)
    · rintro ⟨h1, h2⟩
      exact ⟨⟨h1, fun j hj => h2 j (by omega)⟩, h2 k (by omega)⟩
section
variable {t : Town} {p : List Nat} {x : List UInt8}
theorem told_sp (hO : t.OK) {n : Nat} (hn : n ≤ t.ms.length) : ∀ i, i < n → 0 ≤ (mAt (toldL t p x n) i).sp ∧ (mAt (toldL t p x n) i).sp < t.ear.ss.length := by
  intro i
  induction i using Nat.strongRecOn with
  | ind i ih =>
    intro hi
    rw [told_at t p x hi]
    have o := hO.at (i := i) (by omega)
    show 0 ≤ spG t p (toldL t p x n) i ∧ spG t p (toldL t p x n) i < _
    unfold spG
    split
    · rename_i h
      cases hb : befK p (toldL t p x n) i i with
      | nil => exact absurd hb h.1
      | cons s l =>
        obtain ⟨j, h1, _, h3⟩ := bef_mem.1 (show s ∈ befK p (toldL t p x n) i i by rw [hb]; simp)
        rw [List.headD_cons, h3]
        exact ih j h1 (by omega)
    · exact ⟨o.sp0, o.sp1⟩
theorem told_snd (hO : t.OK) {n : Nat} (hn : n ≤ t.ms.length) (w : Nat) : ∀ k, k ≤ n → ∃ g, ∀ i, i < k → per p i = w → g ∈ hearS t.ear (mAt (toldL t p x n) i).sp.toNat
  | 0, _ => ⟨[], fun i hi => by omega⟩
  | k + 1, hk => by
    obtain ⟨g, hg⟩ := told_snd hO hn w k (by omega)
    by_cases e : per p k = w
    case neg =>
      refine ⟨g, fun i hi he => ?_⟩
      have : i ≠ k := fun c => e (by rw [← c]; exact he)
      exact hg i (by omega) he
    have o := hO.at (i := k) (by omega)
    have esp : (mAt (toldL t p x n) k).sp = spG t p (toldL t p x n) k := by rw [told_at t p x (show k < n by omega)]; rfl
    by_cases h : befK p (toldL t p x n) k k ≠ [] ∧ sharedG t.ear (befK p (toldL t p x n) k k ++ [(t.m k).sp]) = false
    · refine ⟨g, fun i hi he => ?_⟩
      by_cases c : i = k
      · subst c
        rw [esp]
        unfold spG
        rw [if_pos h]
        cases hb : befK p (toldL t p x n) i i with
        | nil => exact absurd hb h.1
        | cons s l =>
          obtain ⟨j, h1, h2, h3⟩ := bef_mem.1 (show s ∈ befK p (toldL t p x n) i i by rw [hb]; simp)
          rw [List.headD_cons, h3]
          exact hg j h1 (by rw [h2, e])
      · exact hg i (by omega) he
    · have esp2 : spG t p (toldL t p x n) k = (t.m k).sp := by unfold spG; rw [if_neg h]
      by_cases hb : befK p (toldL t p x n) k k = []
      · obtain ⟨f, hf⟩ := List.exists_mem_of_ne_nil _ (hearS_ne hO.ear (sp_lt hO (i := k) (by omega)))
        refine ⟨f, fun i hi he => ?_⟩
        by_cases c : i = k
        · subst c
          rw [esp, esp2]; exact hf
        · have : (mAt (toldL t p x n) i).sp ∈ befK p (toldL t p x n) k k := bef_mem.2 ⟨i, by omega, by rw [he, e], rfl⟩
          rw [hb] at this; cases this
      · have hs : sharedG t.ear (befK p (toldL t p x n) k k ++ [(t.m k).sp]) = true := by
          cases hc : sharedG t.ear (befK p (toldL t p x n) k k ++ [(t.m k).sp]) with
          | true => rfl
          | false => exact absurd ⟨hb, hc⟩ h
        obtain ⟨f, hf⟩ := (sharedG_iff hO.ear hO.wf (by simp)).1 hs
        refine ⟨f, fun i hi he => ?_⟩
        by_cases c : i = k
        · subst c
          rw [esp, esp2]
          exact hf _ (by simp)
        · exact hf _ (List.mem_append_left _ (bef_mem.2 ⟨i, by omega, by rw [he, e], rfl⟩))
theorem told_v (hO : t.OK) {n : Nat} (hn : n ≤ t.ms.length) : ∀ i, i < n → -1 ≤ (mAt (toldL t p x n) i).v ∧ (mAt (toldL t p x n) i).v < t.vil := by
  intro i
  induction i using Nat.strongRecOn with
  | ind i ih =>
    intro hi
    rw [told_at t p x hi]
    have o := hO.at (i := i) (by omega)
    exact vilK_in o.v0 o.v1 i (fun j hj => ih j hj (by omega))
theorem vil_len (l : List Men) : (vilL p l).length = l.length := by simp [vilL]
theorem vil_at {l : List Men} {i : Nat} (h : i < l.length) : mAt (vilL p l) i = vilM p l i := by
  unfold mAt vilL
  rw [List.getElem?_map, List.getElem?_range h]; rfl
theorem toldT_len : (toldT t p x).ms.length = t.ms.length := by
  show (vilL p _).length = _
  rw [vil_len, toldL_len]
theorem toldT_m {i : Nat} (h : i < t.ms.length) : (toldT t p x).m i = vilM p (toldL t p x t.ms.length) i := vil_at (by rw [toldL_len]; exact h)
theorem parG_in (out : List Men) (i : Nat) : parG t p x out i = -1 ∨ (parG t p x out i = (t.m i).par ∧ ((t.m i).par ≠ -1 → fineK p x out i (t.m i).par i = true)) := by
  unfold parG
  split
  · exact .inl rfl
  · rename_i h
    refine .inr ⟨rfl, fun hp => ?_⟩
    cases hf : fineK p x out i (t.m i).par i with
    | true => rfl
    | false => exact absurd ⟨hp, hf⟩ h
theorem toldT_OK (hO : t.OK) : (toldT t p x).OK := by
  have hl := toldT_len (t := t) (p := p) (x := x)
  refine ⟨hO.ear, hO.wf, hO.vil0, hO.vil1, by rw [hl]; exact hO.ms6, fun i y hy => ?_, ?_, fun y hy => ?_⟩
  · have hi := (List.getElem?_eq_some_iff.1 hy).1
    rw [hl] at hi
    have e := Town.m_get hy
    rw [toldT_m hi] at e
    subst e
    have o := hO.at hi
    have s := told_sp (p := p) (x := x) hO (Nat.le_refl _) i hi
    have v0 := told_v (p := p) (x := x) hO (Nat.le_refl _)
    have lv := lastV_in (p := p) (l := toldL t p x t.ms.length) (w := per p i) (m := t.vil) (by have := hO.vil0; omega) t.ms.length v0
    have yy := yearF_in (per p i) x
    have em := told_at t p x hi
    have hp := parG_in (t := t) (p := p) (x := x) (toldL t p x t.ms.length) i
    have q1 := o.lo0
    have q2 := o.lh
    have q3 := o.hi1
    have q4 := o.par0
    have q5 := o.par1
    have q6 := o.own
    have eL : (toldL t p x t.ms.length).length = t.ms.length := toldL_len _ _ _ _
    unfold vilM
    rw [eL]
    refine ⟨s.1, s.2, ?_, ?_, ?_, ?_, ?_, ?_, ?_, ?_⟩
    · simp only
      split
      · decide
      · exact lv.1
    · simp only
      split
      · have := hO.vil0
        show (-1 : Int) < t.vil
        omega
      · exact lv.2
    · show -1 ≤ (mAt (toldL t p x t.ms.length) i).par
      rw [em]
      show -1 ≤ parG t p x _ i
      omega
    · show (mAt (toldL t p x t.ms.length) i).par < _
      rw [em, hl]
      show parG t p x _ i < _
      omega
    · show 0 ≤ (mAt (toldL t p x t.ms.length) i).lo
      rw [em]
      show 0 ≤ min _ _
      omega
    · show (mAt (toldL t p x t.ms.length) i).lo ≤ (mAt (toldL t p x t.ms.length) i).hi
      rw [em]
      show min _ _ ≤ max _ _
      omega
    · show (mAt (toldL t p x t.ms.length) i).hi ≤ 199
      rw [em]
      show max _ _ ≤ (199 : Int)
      omega
    · show (mAt (toldL t p x t.ms.length) i).par ≠ _
      rw [em]
      show parG t p x _ i ≠ _
      omega
  · show (t.ties.map (tieT p)).length ≤ 4
    rw [List.length_map]; exact hO.ties4
  · obtain ⟨z, hz, rfl⟩ := List.mem_map.1 hy
    rw [hl]
    exact hO.tie z hz
theorem told_fine (hO : t.OK) (_hg : Grp t.ms.length p) : Fine (toldT t p x) noBut p ∧ Yrs (toldT t p x) p (fun w => (yearF w x, yearF w x)) := by
  have hl := toldT_len (t := t) (p := p) (x := x)
  have em := fun i (hi : i < t.ms.length) => told_at t p x hi
  have hpar : ∀ i, i < t.ms.length → ((toldT t p x).m i).par = parG t p x (toldL t p x t.ms.length) i := by
    intro i hi
    rw [toldT_m hi]
    show (mAt (toldL t p x t.ms.length) i).par = _
    rw [em i hi]; rfl
  have hfine : ∀ i, i < t.ms.length → ((toldT t p x).m i).par ≠ -1 → ((toldT t p x).m i).par = (t.m i).par ∧ fineK p x (toldL t p x t.ms.length) i (t.m i).par i = true := by
    intro i hi hp
    rw [hpar i hi] at hp ⊢
    rcases parG_in (t := t) (p := p) (x := x) (toldL t p x t.ms.length) i with h | ⟨h1, h2⟩
    · exact absurd h hp
    · exact ⟨h1, h2 (by rw [← h1]; exact hp)⟩
  have hY : Yrs (toldT t p x) p (fun w => (yearF w x, yearF w x)) := by
    refine ⟨fun w _ => Int.le_refl _, fun i hi => ?_, fun i hi hp => ?_⟩
    · rw [hl] at hi
      rw [toldT_m hi]
      show (mAt (toldL t p x t.ms.length) i).lo ≤ _ ∧ _ ≤ (mAt (toldL t p x t.ms.length) i).hi
      rw [em i hi]
      show min _ _ ≤ _ ∧ _ ≤ max _ _
      omega
    · rw [hl] at hi
      obtain ⟨e, hf⟩ := hfine i hi hp
      rw [e]
      have h0 := (fineK_iff.1 hf).1
      unfold fine0 at h0
      simp only [Bool.and_eq_true, decide_eq_true_eq] at h0
      simp only
      omega
  refine ⟨⟨fun i hi hp => ?_, fun w hw => ?_, fun i hi j hj e => ?_, fun i y hy _ => ?_, _, hY⟩, hY⟩
  · rw [hl] at hi
    obtain ⟨e, hf⟩ := hfine i hi hp
    obtain ⟨h0, hJ⟩ := fineK_iff.1 hf
    rw [e] at hp ⊢
    unfold fine0 at h0
    simp only [Bool.and_eq_true, decide_eq_true_eq] at h0
    refine ⟨h0.1, fun k hk hpk ek => ?_⟩
    rw [hl] at hk
    have key : ∀ a b, a < b → b < t.ms.length → ((toldT t p x).m a).par ≠ -1 → ((toldT t p x).m b).par ≠ -1 → per p a = per p b → per p ((toldT t p x).m b).par.toNat = per p ((toldT t p x).m a).par.toNat := by
      intro a b hab hb pa pb eab
      obtain ⟨e1, f1⟩ := hfine a (by omega) pa
      obtain ⟨e2, f2⟩ := hfine b hb pb
      have := (fineK_iff.1 f2).2 a hab
      unfold fineJ at this
      have ea : (mAt (toldL t p x t.ms.length) a).par = ((toldT t p x).m a).par := by rw [hpar a (by omega), em a (by omega)]; rfl
      rw [ea] at this
      simp only [Bool.or_eq_true, decide_eq_true_eq] at this
      rw [e2]
      rcases this with (h | h) | h
      · exact absurd eab h
      · exact absurd h pa
      · exact h.symm
    rw [← e]
    have hpi : ((toldT t p x).m i).par ≠ -1 := by rw [e]; exact hp
    by_cases c : k < i
    · exact key k i c hi hpk hpi ek
    · by_cases c2 : k = i
      · rw [c2]
      · exact (key i k (by omega) hk hpi hpk ek.symm).symm
  · obtain ⟨g, hgg⟩ := told_snd (p := p) (x := x) hO (Nat.le_refl _) w t.ms.length (Nat.le_refl _)
    refine ⟨g, fun i hi he => ?_⟩
    rw [hl] at hi
    rw [toldT_m hi]
    exact hgg i hi he
  · rw [hl] at hi hj
    rw [toldT_m hi, toldT_m hj]
    unfold vilM Vil
    rw [e]
    simp only
    split
    · exact .inl rfl
    · split
      · exact .inr (.inl rfl)
      · exact .inr (.inr rfl)
  · have hy2 := List.mem_of_getElem? hy
    obtain ⟨z, hz, rfl⟩ := List.mem_map.1 hy2
    unfold tieB tieT
    simp
end
theorem told_facts {t : Town} (hw : t.wf) (h0 : townE t = 0) {p : List Nat} (hp : p ∈ groupsN t.ms.length) (x : List UInt8) : (toldT t p x).wf ∧ townE (toldT t p x) = 0 ∧ someE (toldT t p x) (townE (toldT t p x)) = 0 ∧ p ∈ truthsL (toldT t p x) noBut ∧ wrongT (toldT t p x) = ([], 0) ∧
    ∀ i, i < t.ms.length → (bornT (toldT t p x) (i : Nat)).2 = 0 ∧ (bornT (toldT t p x) (i : Nat)).1.1 ≤ yearF (per p i) x ∧ yearF (per p i) x ≤ (bornT (toldT t p x) (i : Nat)).1.2 := by
  obtain ⟨hO, h5⟩ := (townE_zero hw).1 h0
  have hg := groups_grp hp
  obtain ⟨hF, hY⟩ := told_fine (x := x) hO hg
  have hO2 := toldT_OK (p := p) (x := x) hO
  have hl := toldT_len (t := t) (p := p) (x := x)
  have v1 := hO2.vil1
  have s5 := hO2.ear.ss5
  have hw2 : (toldT t p x).wf := by
    refine ⟨hw.ear, hw.vil0, hw.vil1, fun y hy => ?_⟩
    obtain ⟨i, hi⟩ := List.getElem?_of_mem hy
    have o := hO2.men i y hi
    have a1 := o.sp0
    have a2 := o.sp1
    have a3 := o.v0
    have a4 := o.v1
    have a5 := o.par0
    have a6 := o.par1
    have a7 := o.lo0
    have a8 := o.lh
    have a9 := o.hi1
    exact ⟨by omega, by omega, by omega, by omega, by omega, by omega, by omega, by omega, by omega, by omega⟩
  have h02 : townE (toldT t p x) = 0 := (townE_zero hw2).2 ⟨hO2, by omega⟩
  have hmem : p ∈ truthsL (toldT t p x) noBut := (truth_iff hO2).2 ⟨by rw [hl]; exact hp, hF⟩
  have hS : someE (toldT t p x) (townE (toldT t p x)) = 0 := someE_zero.2 ⟨h02, List.ne_nil_of_mem hmem⟩
  refine ⟨hw2, h02, hS, hmem, ?_, fun i hi => ?_⟩
  · have hset : setG (toldT t p x) [] = true := by
      unfold setG
      rw [Bool.not_eq_true', List.isEmpty_eq_false_iff]
      exact List.ne_nil_of_mem (show p ∈ truthsL (toldT t p x) (butL []) from hmem)
    obtain ⟨p1, p2⟩ := wrong_plain (t := toldT t p x) (m := 0) (i := 0) (c := []) rfl hset (fun m' hm => by omega) (fun j c' hj => by omega)
    unfold wrongT
    rw [if_pos h02, if_pos p1, p2]; rfl
  · have hi2 : i < (toldT t p x).ms.length := by omega
    obtain ⟨b1, b2, _, _⟩ := born_ok hO2 hS hi2
    have hT := (tru_iff.1 hmem).2
    have hk := yrs_keep hO2 (by rw [hl]; exact hg) hY hT.kin1
    have k2 := hk.2 (per p i)
    rw [spL_at _ _ (hg.lt i hi)] at k2
    have b3 := b2 p hmem
    simp only [SubS1] at k2
    exact ⟨b1, by omega, by omega⟩
end Go.Px

namespace Go.Px
open Go.Proofs Go.MapKept
theorem year_ev (x : List UInt8) (n : Nat) : Ev Tryz.prog 38 [I n, bytes x] (I (yearF n x)) := by
  refine Ev.intro fn38 ?_
  refine LWp.sx (gs := []) (hs := []) rfl trivial ?_
  refine LWp.seq (LWp.seq ?_)
  refine LWp.x (gs := []) (hs := []) rfl trivial ?_
  refine LWp.ite rfl (fun h => ?_) (fun h => LWp.skip ?_)
  · simp only [beq_iff_eq, List.length_map] at h
    have e : x = [] := List.length_eq_zero_iff.1 (by omega)
    subst e
    refine LWp.sx (gs := []) (hs := []) rfl trivial ?_
    refine LWp.ret (retT (.inr rfl) (.one (.tmp ?_ rfl)))
    rfl
  · simp only [beq_eq_false_iff_ne, ne_eq, List.length_map] at h
    have hl : 0 < x.length := by omega
    obtain ⟨c, hc⟩ := ex_get (Nat.mod_lt n hl)
    have em : ((n : Int) % ((x.map fun c => [U c.toNat]).length : Int)).toNat = n % x.length := by simp; omega
    have e0 : (0 : Int) ≤ (n : Int) % ((x.map fun c => [U c.toNat]).length : Int) := Int.emod_nonneg _ (by rw [List.length_map]; omega)
    have hcl := c.toNat_lt
    refine LWp.sx (gs := []) (hs := [.cells [U c.toNat]]) rfl ⟨⟨by omega, by simp; omega⟩, ⟨e0, by rw [em]; simp [hc]⟩, i64_wrap (by omega) (by omega), ⟨by omega, by omega⟩, trivial⟩ ?_
    refine LWp.ret (retT (.inr rfl) (.one (.tmp ?_ rfl)))
    show I _ = I _
    unfold yearF
    rw [if_neg (by omega), hc]
    simp
def anyP (n : Nat) (w : Int) : List Nat := ((groupsN n)[(w % ((groupsN n).length : Int)).toNat]?).getD []
theorem groups_pos : ∀ n, 0 < (groupsN n).length
  | 0 => by show 0 < 1; omega
  | n + 1 => by
    have ih := groups_pos n
    obtain ⟨q, hq⟩ := List.exists_mem_of_ne_nil _ (List.length_pos_iff.1 ih)
    exact List.length_pos_iff.2 (List.ne_nil_of_mem (groups_snoc.2 ⟨q, 0, hq, Nat.zero_le _, rfl⟩))
theorem anyP_get (n : Nat) (w : Int) : (groupsN n)[(w % ((groupsN n).length : Int)).toNat]? = some (anyP n w) := by
  have hp := groups_pos n
  have h1 := Int.emod_lt_of_pos w (b := ((groupsN n).length : Int)) (by omega)
  have h2 := Int.emod_nonneg w (b := ((groupsN n).length : Int)) (by omega)
  obtain ⟨q, hq⟩ := ex_get (l := groupsN n) (k := (w % ((groupsN n).length : Int)).toNat) (by omega)
  unfold anyP
  rw [hq]; rfl
theorem anyP_mem (n : Nat) (w : Int) : anyP n w ∈ groupsN n := List.mem_of_getElem? (anyP_get n w)
theorem any_ev (t : Town) (h6 : t.ms.length ≤ 6) (w : Int) (h0 : 0 ≤ w) (h0' : w ≤ 255) : Ev Tryz.prog 34 [.agg t.enc, U w] (ints (natI (anyP t.ms.length w))) := by
  have hg := groups_ev t.ms.length h6
  have hlnN : (t.ms.map Men.enc).length = t.ms.length := by simp
  have hp := groups_pos t.ms.length
  have hget := anyP_get t.ms.length w
  have h2 := Int.emod_nonneg w (b := ((groupsN t.ms.length).length : Int)) (by omega)
  have hG : Ev Tryz.prog 83 [I ((t.ms.map Men.enc).length : Nat)] (lists (groupsN t.ms.length)) := by rw [hlnN]; exact hg
  generalize anyP t.ms.length w = p at hget
  generalize groupsN t.ms.length = G at *
  have hGl : (G.map fun c => [ints (natI c)]).length = G.length := by simp
  refine Ev.intro fn34 ?_
  refine LWp.sx (gs := []) (hs := [.ice]) rfl ⟨⟨rfl, rfl⟩, trivial⟩ ?_
  refine LWp.sx (gs := []) (hs := [.ret (lists G)]) rfl ⟨hG, trivial⟩ ?_
  refine LWp.sx (gs := []) (hs := [.cells [ints (natI p)]]) rfl ⟨i64_wrap (n := w) (by omega) (by omega), ⟨by omega, by rw [hGl]; omega⟩, ⟨by rw [hGl]; exact h2, by rw [hGl, List.getElem?_map, hget]; rfl⟩, trivial⟩ ?_
  refine LWp.ret (retT (.inr rfl) (.one (.tmp ?_ rfl)))
  rfl
theorem inside_ev (n : Int) (s : Sp) : Ev Tryz.prog 36 [I n, .agg (sp2 s)] (B (decide (s.1 ≤ n) && decide (n ≤ s.2))) := by
  have e := in_ev n s.1 s.2
  refine Ev.intro fn36 ?_
  refine LWp.sx (gs := []) (hs := [.ice]) rfl ⟨⟨rfl, rfl⟩, trivial⟩ ?_
  refine LWp.sx (gs := []) (hs := [.ret (B (decide (s.1 ≤ n) && decide (n ≤ s.2)))]) rfl ⟨e, trivial⟩ ?_
  refine LWp.ret (retT (.inr rfl) (.one (.tmp ?_ rfl)))
  rfl
end Go.Px

