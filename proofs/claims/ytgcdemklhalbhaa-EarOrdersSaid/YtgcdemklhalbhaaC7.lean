/- Part 7 of the proofs of the outright statements of this seat (functions lowered, plain laws, contracts). No conditions. -/
import Derived.Test.YtgcdemklhalbhaaC6
namespace Go.Px
open Go.Proofs

def bitsN (w : Int) (n : Nat) : List Nat := (List.range n).filter fun (k : Nat) => bitI w k
theorem bitsN_succ (w : Int) (n : Nat) : natI (bitsN w (n + 1)) = natI (bitsN w n) ++ if bitI w n = true then [(n : Int)] else [] := by
  unfold bitsN
  rw [List.range_succ, List.filter_append, natI, List.map_append]
  congr 1
  cases hg : bitI w n <;> simp [hg]
theorem bitsN_len (w : Int) (n : Nat) : (bitsN w n).length ≤ n := by
  unfold bitsN
  exact Nat.le_trans (List.length_filter_le _ _) (by simp)
theorem bitsN_inc (w : Int) (n : Nat) : Inc (bitsN w n) := List.Pairwise.filter _ List.pairwise_lt_range
theorem bitsN_lt {w : Int} {n v : Nat} (h : v ∈ bitsN w n) : v < n := List.mem_range.1 (List.mem_filter.1 h).1
theorem ascB_natI : ∀ {c : List Nat} {k : Int}, Inc c → (∀ v ∈ c, k < (v : Int)) → ascB (natI c) k = true
  | [], _, _, _ => rfl
  | x :: c, k, hi, hk => by
    have h1 := hk x (by simp)
    obtain ⟨h2, h3⟩ := List.pairwise_cons.1 hi
    simp only [natI, List.map_cons, ascB, Bool.and_eq_true, decide_eq_true_eq]
    exact ⟨h1, ascB_natI h3 (fun v hv => by have := h2 v hv; omega)⟩
def othN (n : Nat) (c : List Nat) : List Nat := (List.range n).filter fun k => !(natI c).any (· == (k : Int))
theorem othN_eq (n : Nat) (c : List Nat) : othersL n (natI c) = natI (othN n c) := rfl
theorem othN_inc (n : Nat) (c : List Nat) : Inc (othN n c) := List.Pairwise.filter _ List.pairwise_lt_range
theorem othN_mem {n : Nat} {c : List Nat} {k : Nat} : k ∈ othN n c ↔ k < n ∧ k ∉ c := by
  have h := others_mem (n := n) (c := c) (j := (k : Int))
  rw [othN_eq] at h
  constructor
  · intro hk
    obtain ⟨k', e, h1, h2⟩ := h.1 (List.mem_map.2 ⟨k, hk, rfl⟩)
    have : k = k' := by omega
    subst this; exact ⟨h1, h2⟩
  · rintro ⟨h1, h2⟩
    obtain ⟨k', hk, e⟩ := List.mem_map.1 (h.2 ⟨k, rfl, h1, h2⟩)
    have : k' = k := by omega
    subst this; exact hk
theorem common_nil {b : Book} (V : Valid b) : commonR b [] = ([], 2) := by
  unfold commonR
  rw [if_pos (enter_zero V (by simp)), if_neg (by simp [setN])]
/-- What is told of ascending spellings. -/
theorem common_nat {b : Book} (V : Valid b) (hw : b.wf) {c : List Nat} (hc : c ≠ []) (hi : Inc c) (hr : ∀ v ∈ c, v < b.ss.length) :
    (∃ g, (∀ k ∈ c, g ∈ hearS b k) ∧ (∀ h, (∀ k ∈ c, h ∈ hearS b k) → fewerL h g = false) ∧ commonR b (natI c) = (g, 0)) ∨ ((¬ ∃ h, ∀ k ∈ c, h ∈ hearS b k) ∧ commonR b (natI c) = ([], 9)) := by
  have hall : ∀ h, (∀ j ∈ natI c, h ∈ hearS b j.toNat) ↔ ∀ k ∈ c, h ∈ hearS b k := by
    intro h
    constructor
    · intro hh k hk
      simpa using hh k (List.mem_map.2 ⟨k, hk, rfl⟩)
    · intro hh j hj
      obtain ⟨k, hk, rfl⟩ := List.mem_map.1 hj
      simpa using hh k hk
  have hrr : ∀ j ∈ natI c, j < (b.ss.length : Int) := by
    intro j hj
    obtain ⟨k, hk, rfl⟩ := List.mem_map.1 hj
    have := hr k hk
    omega
  rcases common_of V hw (l := natI c) (by simpa [natI] using hc) (ascB_natI hi (fun v _ => by omega)) hrr with ⟨g, h1, h2, h3⟩ | ⟨h1, h2⟩
  · exact .inl ⟨g, (hall g).1 h1, fun h hh => h2 h ((hall h).2 hh), h3⟩
  · exact .inr ⟨fun ⟨h, hh⟩ => h1 ⟨h, (hall h).2 hh⟩, h2⟩

theorem earFewest_ev (b : Book) (hw : b.wf) (hs : b.ss.length ≤ 9223372036854775807) (w : Int) (h0 : 0 ≤ w) (h0' : w ≤ 255) : Ev Try.prog 11 [.agg b.enc, U w] (B true) := by
  refine Ev.intro fn11 ?_
  have eo := eodd_ev b hw hs
  have ev := valid_ev b hw
  have hln : (b.ss.map Spelling.enc).length = b.ss.length := List.length_map _
  by_cases V : Valid b
  · rw [validB_iff.2 V] at ev
    have h5 := V.ss5
    obtain ⟨c, ec, hinc, hlt, hlen, hex, hmin⟩ := odd_of V hw
    rw [ec] at eo
    refine LWp.sx (gs := []) (hs := [.ice]) rfl ⟨⟨rfl, rfl⟩, trivial⟩ ?_
    refine LWp.sx (gs := []) (hs := [.ret (.tup [ints (natI c), I 0])]) rfl ⟨eo, trivial⟩ ?_
    refine LWp.seq (LWp.seq ?_)
    refine LWp.x (gs := []) (hs := [.ret (B true)]) rfl ⟨ev, trivial⟩ ?_
    refine LWp.ite (b := false) rfl (fun h => by cases h) (fun _ => LWp.skip ?_)
    refine LWp.sx (gs := []) (hs := []) rfl trivial ?_
    refine LWp.seq (LWp.seq ?_)
    refine LWp.x (gs := []) (hs := []) rfl trivial ?_
    refine LWp.blockT (fun _ : Unit => True) (fun _ => el [(2, .pi b.enc), (5, ints (natI c)), (6, I 0), (7, ints (natI (bitsN w b.ss.length)))]) (fun _ => []) (fun _ => []) ?_ ?_
    · refine LWp.loopN (fun i : Nat => i ≤ b.ss.length) (fun i => el [(1, U w), (2, .pi b.enc), (5, ints (natI c)), (6, I 0), (7, linI (natI (bitsN w i))), (8, I i)]) (fun _ => []) (fun _ => []) (fun i => b.ss.length - i) 0 (by omega)
        (Ent.trans (Ent.nilLin (t := 7) 3 1 rfl) (Ent.el ⟨rfl, rfl, rfl, rfl, rfl, rfl, trivial⟩)) ?_
      intro i hi
      refine LWp.seq (LWp.seq ?_)
      refine LWp.x (gs := []) (hs := []) rfl trivial ?_
      refine LWp.ite rfl (fun hc => ?_) (fun hc => ?_)
      · simp only [List.length_map, decide_eq_true_eq, Int.ofNat_lt] at hc
        have hsu := bitsN_succ w i
        have hsl := bitsN_len w i
        refine LWp.skip ?_
        refine LWp.blockX (fun _ : Unit => True) (fun _ => el [(1, U w), (2, .pi b.enc), (5, ints (natI c)), (6, I 0), (7, linI (natI (bitsN w (i + 1)))), (8, I i)]) (fun _ => []) (fun _ => []) ?_ ?_
        · rw [hsu]
          rw [← natI_len] at hsl
          generalize natI (bitsN w i) = sm at hsl
          refine LWp.sx (gs := []) (hs := [.ret (B (bitI w i))]) rfl ⟨i64_wrap (n := w) (by omega) (by omega), bit_ev w i h0 (by omega) (by omega), trivial⟩ ?_
          refine LWp.ite rfl (fun hg => ?_) (fun hg => ?_)
          · rw [if_pos hg]
            refine LWp.x (gs := []) (hs := [.ice]) rfl ⟨rfl, ⟨by simp [chunk]; omega, by simp [chunk]; omega⟩, trivial⟩ ?_
            refine ⟨(), trivial, Ent.el ⟨rfl, rfl, rfl, rfl, ?_, rfl, trivial⟩⟩
            exact lin_snoc _ _
          · rw [if_neg (by simp [hg]), List.append_nil]
            exact LWp.skip ⟨(), trivial, Ent.el ⟨rfl, rfl, rfl, rfl, rfl, rfl, trivial⟩⟩
        · intro _ _
          refine LWp.x (gs := []) (hs := []) rfl ⟨by omega, trivial⟩ ?_
          exact ⟨i + 1, by omega, by omega, Ent.el ⟨rfl, rfl, rfl, rfl, rfl, rfl, trivial⟩⟩
      · simp only [List.length_map, decide_eq_false_iff_not, Int.ofNat_lt] at hc
        have e : i = b.ss.length := by omega
        subst e
        exact LWp.exit ⟨(), trivial, Ent.trans (Ent.freezeLin (t := 7) rfl) (Ent.el ⟨rfl, rfl, rfl, rfl, trivial⟩)⟩
    intro _ _
    have hbi := bitsN_inc w b.ss.length
    have hbl := fun v => bitsN_lt (w := w) (n := b.ss.length) (v := v)
    generalize bitsN w b.ss.length = d at hbi hbl
    have er := rising_ev (natI c) b.ss.length
    rw [rising_asc (by intro j hj; obtain ⟨k, hk, rfl⟩ := List.mem_map.1 hj; have := hlt k hk; omega), ascB_natI hinc (fun v _ => by omega)] at er
    refine LWp.seq (LWp.seq ?_)
    refine LWp.cutT (fun _ : Unit => True) (fun _ => el [(2, .pi b.enc), (5, ints (natI c)), (7, ints (natI d)), (69, B false)]) (fun _ => []) (fun _ => []) ?_ (fun _ _ => ?_)
    · have er : Ev Try.prog 42 [ints (natI c), I ((b.ss.map Spelling.enc).length : Nat)] (B true) := by rw [hln]; exact er
      by_cases hz : 1 ≤ b.ss.length
      · have hl := hlen hz
        have g1 : decide (((b.ss.map Spelling.enc).length : Int) > 0) = true := by simp; omega
        refine LWp.x (gs := [(48, false), (56, false), (61, true)]) (hs := [.ret (B true)]) rfl (by (repeat' (with_reducible apply And.intro)); (all_goals try first | (with_reducible exact trivial) | (with_reducible rfl) | (with_reducible assumption) | ((with_reducible apply isB); first | exact rfl | exact beq_self_eq_true _)); exact er) ?_
        refine ⟨(), trivial, Ent.el ⟨rfl, rfl, rfl, ?_, trivial⟩⟩
        show B _ = B _
        congr 2
        rw [List.length_map, List.length_map, List.length_map]
        simp; omega
      · have g1 : decide (((b.ss.map Spelling.enc).length : Int) > 0) = false := decide_eq_false (by rw [hln]; omega)
        refine LWp.x (gs := [(48, false), (56, false), (61, false)]) (hs := [.ret (B true)]) rfl (by (repeat' (with_reducible apply And.intro)); (all_goals try first | (with_reducible exact trivial) | (with_reducible rfl) | (with_reducible assumption) | ((with_reducible apply isB); first | exact rfl | exact beq_self_eq_true _)); exact er) ?_
        exact ⟨(), trivial, Ent.el ⟨rfl, rfl, rfl, rfl, trivial⟩⟩
    refine LWp.ite (b := false) rfl (fun h => by cases h) (fun _ => LWp.skip ?_)
    refine LWp.seq (LWp.seq ?_)
    refine LWp.x (gs := []) (hs := []) rfl trivial ?_
    refine LWp.ite rfl (fun h => ?_) (fun h => LWp.skip ?_)
    · refine LWp.sx (gs := []) (hs := [.ret (B true)]) rfl ⟨awake_ev, trivial⟩ ?_
      refine LWp.ret (retT (.inr rfl) (.one (.tmp ?_ rfl)))
      rfl
    · simp only [beq_eq_false_iff_ne, ne_eq, List.length_map] at h
      have hz : 1 ≤ b.ss.length := by omega
      have hl := hlen hz
      have ho1 := others_ev b (by omega) (natI c)
      have ho2 := others_ev b (by omega) (natI d)
      rw [othN_eq] at ho1 ho2
      have hne : othN b.ss.length c ≠ [] := by
        have := others_ne (n := b.ss.length) (c := c) hl
        rw [othN_eq] at this
        intro e
        rw [e] at this
        exact this rfl
      have hc1 : ∃ g, commonR b (natI (othN b.ss.length c)) = (g, 0) := by
        rcases common_nat V hw hne (othN_inc _ _) (fun v hv => (othN_mem.1 hv).1) with ⟨g, _, _, h3⟩ | ⟨h1, _⟩
        · exact ⟨g, h3⟩
        · obtain ⟨h, hh⟩ := hex
          exact absurd ⟨h, fun k hk => hh k (othN_mem.1 hk).1 (othN_mem.1 hk).2⟩ h1
      have hc2 : ∃ g q, commonR b (natI (othN b.ss.length d)) = (g, q) ∧ (q = 0 → fewerL (natI d) (natI c) = false) := by
        by_cases hn : othN b.ss.length d = []
        · exact ⟨[], 2, by rw [hn]; exact common_nil V, fun h => by cases h⟩
        · rcases common_nat V hw hn (othN_inc _ _) (fun v hv => (othN_mem.1 hv).1) with ⟨g, h1, _, h3⟩ | ⟨_, h2⟩
          · exact ⟨g, 0, h3, fun _ => hmin d hbi hbl ⟨g, fun k hk1 hk2 => h1 k (othN_mem.2 ⟨hk1, hk2⟩)⟩⟩
          · exact ⟨[], 9, h2, fun h => by cases h⟩
      obtain ⟨g1, e1⟩ := hc1
      obtain ⟨g2, q, e2, hq⟩ := hc2
      have ec1 := ecommon_ev b hw hs (natI (othN b.ss.length c))
      have ec2 := ecommon_ev b hw hs (natI (othN b.ss.length d))
      rw [e1] at ec1
      rw [e2] at ec2
      refine LWp.sd (gs := []) (hs := [.ret (ints (natI (othN b.ss.length c))), .ret (.tup [ints g1, I 0])]) hmix rfl (by kernel_rfl) ⟨ho1, ec1, trivial⟩ ?_
      refine LWp.sd (gs := []) (hs := [.ret (ints (natI (othN b.ss.length d))), .ret (.tup [ints g2, I q])]) hmix rfl (by kernel_rfl) ⟨ho2, ec2, trivial⟩ ?_
      by_cases hq0 : q = 0
      · subst hq0
        have hf := fewer_ev (natI d) (natI c)
        rw [hq rfl] at hf
        refine LWp.sx (gs := [(93, true), (96, false), (103, true)]) (hs := [.ret (B false), .ret (B true)]) rfl (by (repeat' (with_reducible apply And.intro)); (all_goals try first | (with_reducible exact trivial) | (with_reducible rfl) | (with_reducible assumption) | ((with_reducible apply isB); first | exact rfl | exact beq_self_eq_true _)); exact hf; exact awake_ev) ?_
        refine LWp.ret (retT (.inr rfl) (.one (.tmp ?_ rfl)))
        rfl
      · have hqt : (q != 0) = true := by simpa using hq0
        refine LWp.sx (gs := [(93, true), (96, true), (103, true)]) (hs := [.ret (B true)]) rfl (by (repeat' (with_reducible apply And.intro)); (all_goals try first | (with_reducible exact trivial) | (with_reducible rfl) | (with_reducible assumption) | ((with_reducible apply isB); first | exact rfl | exact beq_self_eq_true _)); exact awake_ev) ?_
        refine LWp.ret (retT (.inr rfl) (.one (.tmp ?_ rfl)))
        rfl
  · have hv : validB b = false := by
      cases h : validB b with
      | false => rfl
      | true => exact absurd (validB_iff.1 h) V
    rw [hv] at ev
    have hc : (check b).2.2 ≠ 0 := fun e => V (valid_iff.1 e)
    have eb : oddR b = ([], (check b).2.2) := by
      unfold oddR
      rw [if_neg hc]
    rw [eb] at eo
    generalize (check b).2.2 = q at eo hc
    have hqt : (q != 0) = true := by simpa using hc
    refine LWp.sx (gs := []) (hs := [.ice]) rfl ⟨⟨rfl, rfl⟩, trivial⟩ ?_
    refine LWp.sx (gs := []) (hs := [.ret (.tup [ints [], I q])]) rfl ⟨eo, trivial⟩ ?_
    refine LWp.seq (LWp.seq ?_)
    refine LWp.x (gs := []) (hs := [.ret (B false)]) rfl ⟨ev, trivial⟩ ?_
    refine LWp.ite (b := true) rfl (fun _ => ?_) (fun h => by cases h)
    refine LWp.sx (gs := [(23, true), (28, true)]) (hs := [.ret (B true)]) rfl (by (repeat' (with_reducible apply And.intro)); (all_goals try first | (with_reducible exact trivial) | (with_reducible rfl) | (with_reducible assumption) | ((with_reducible apply isB); first | exact rfl | exact beq_self_eq_true _)); exact awake_ev) ?_
    refine LWp.ret (retT (.inr rfl) (.one (.tmp ?_ rfl)))
    rfl
end Go.Px

