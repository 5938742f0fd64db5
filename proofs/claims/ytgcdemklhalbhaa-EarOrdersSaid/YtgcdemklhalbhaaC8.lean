/- Part 8 of the proofs of the outright statements of this seat (functions lowered, plain laws, contracts). No conditions. -/
import Derived.Test.YtgcdemklhalbhaaC7
namespace Go.Px
open Go.Proofs

theorem says_split {n : Nat} : ∀ {xs ys : List Letter} {r : List Int}, Says n (xs ++ ys) r → ∃ r1 r2, r = r1 ++ r2 ∧ Says n xs r1 ∧ Says n ys r2
  | [], ys, r, h => ⟨[], r, rfl, rfl, h⟩
  | x :: xs, ys, r, h => by
    simp only [List.cons_append, Says] at h
    rcases h with ⟨h1, h2⟩ | ⟨k, h1, h2, r', rfl, h3⟩
    · obtain ⟨r1, r2, e, a, b⟩ := says_split h2
      exact ⟨r1, r2, e, .inl ⟨h1, a⟩, b⟩
    · obtain ⟨r1, r2, e, a, b⟩ := says_split h3
      exact ⟨(k : Int) :: r1, r2, by rw [e]; rfl, .inr ⟨k, h1, h2, r1, rfl, a⟩, b⟩
/-- One letter can give no more things than there are sounds, and nothing. -/
theorem says_one {n : Nat} {x : Letter} {K : List (List Int)} (hn : K.Nodup) (h : ∀ r, r ∈ K ↔ Says n [x] r) : K.length ≤ n + 1 := by
  have hs : ∀ r ∈ K, r ∈ [] :: (List.range n).map fun (k : Nat) => [(k : Int)] := by
    intro r hr
    have := (h r).1 hr
    simp only [Says] at this
    rcases this with ⟨_, rfl⟩ | ⟨k, h1, _, r', rfl, rfl⟩
    · simp
    · exact List.mem_cons_of_mem _ (List.mem_map.2 ⟨k, List.mem_range.2 h1, rfl⟩)
  have := List.Nodup.length_le_of_subset hn hs
  simpa using this
theorem extract_one {t : List UInt8} {k : Nat} {c : UInt8} (h : t[k]? = some c) : ByteArray.extract ⟨t.toArray⟩ k (k + 1) = ⟨[c].toArray⟩ := by
  apply ByteArray.ext
  rw [ByteArray.data_extract, List.extract_toArray]
  congr 1
  show (t.drop k).take (k + 1 - k) = [c]
  rw [drop_cons h]
  simp
theorem first_bad {b : Book} (h : ¬ (Valid b ∧ b.ss ≠ [])) : (firstR b 0).2 ≠ 0 := by
  have := count_bad h
  unfold countR at this
  unfold firstR
  split
  · rename_i he
    rw [if_pos he] at this
    exact absurd rfl this
  · rename_i he
    rw [if_neg he] at this
    exact this

theorem earCounted_ev (b : Book) (hw : b.wf) (hs : b.ss.length ≤ 9223372036854775807) (w : Int) (h0 : 0 ≤ w) (h0' : w ≤ 255) : Ev Try.prog 14 [.agg b.enc, U w] (B true) := by
  refine Ev.intro fn14 ?_
  refine LWp.sx (gs := []) (hs := [.ice]) rfl ⟨⟨rfl, rfl⟩, trivial⟩ ?_
  refine LWp.seq (LWp.seq ?_)
  have ev := valid_ev b hw
  have hln : (b.ss.map Spelling.enc).length = b.ss.length := List.length_map _
  refine LWp.cutT (fun _ : Unit => True) (fun _ => el [(1, U w), (2, .pi b.enc), (24, B (!(validB b && decide (1 ≤ b.ss.length))))]) (fun _ => []) (fun _ => []) ?_ (fun _ _ => ?_)
  · generalize validB b = v at ev
    cases v with
    | true =>
      refine LWp.x (gs := [(19, false)]) (hs := [.ret (B true)]) rfl (by (repeat' (with_reducible apply And.intro)); (all_goals try first | (with_reducible exact trivial) | (with_reducible rfl) | (with_reducible assumption) | ((with_reducible apply isB); first | exact rfl | exact beq_self_eq_true _)); exact ev) ?_
      refine ⟨(), trivial, Ent.el ⟨rfl, rfl, ?_, trivial⟩⟩
      show B _ = B _
      rw [List.length_map]
      congr 2
      rw [Bool.eq_iff_iff]; simp
    | false =>
      refine LWp.x (gs := [(19, true)]) (hs := [.ret (B false)]) rfl (by (repeat' (with_reducible apply And.intro)); (all_goals try first | (with_reducible exact trivial) | (with_reducible rfl) | (with_reducible assumption) | ((with_reducible apply isB); first | exact rfl | exact beq_self_eq_true _)); exact ev) ?_
      exact ⟨(), trivial, Ent.el ⟨rfl, rfl, rfl, trivial⟩⟩
  refine LWp.ite rfl (fun h => ?_) (fun h => LWp.skip ?_)
  · have hgo : ¬ (Valid b ∧ b.ss ≠ []) := by
      rintro ⟨h1, h2⟩
      rw [validB_iff.2 h1, decide_eq_true (show 1 ≤ b.ss.length from List.length_pos_iff.2 h2)] at h
      cases h
    have e2 := efirst_ev b hw hs 0
    have hq := first_bad hgo
    generalize (firstR b 0).1 = p1 at e2
    generalize (firstR b 0).2 = q1 at e2 hq
    have hqt : (q1 != 0) = true := by simpa using hq
    refine LWp.sx (gs := []) (hs := [.ret (.tup [ints p1, I q1])]) rfl ⟨e2, trivial⟩ ?_
    refine LWp.sx (gs := [(32, true)]) (hs := [.ret (B true)]) rfl (by (repeat' (with_reducible apply And.intro)); (all_goals try first | (with_reducible exact trivial) | (with_reducible rfl) | (with_reducible assumption) | ((with_reducible apply isB); first | exact rfl | exact beq_self_eq_true _)); exact awake_ev) ?_
    refine LWp.ret (retT (.inr rfl) (.one (.tmp ?_ rfl)))
    rfl
  · have hgo : Valid b ∧ 1 ≤ b.ss.length := by
      simp only [Bool.not_eq_false', Bool.and_eq_true, validB_iff, decide_eq_true_eq] at h
      exact h
    obtain ⟨V, hlen⟩ := hgo
    obtain ⟨i, hi, ei⟩ := w_mod h0 (n := b.ss.length) (by omega)
    obtain ⟨s, hsi⟩ := ex_get hi
    have ms := List.mem_of_getElem? hsi
    have sp := V.sp s ms
    have t5 := sp.t5
    have n1 := V.n1
    have n4 := V.n4
    obtain ⟨a, ha, hca⟩ := sp.ha
    refine LWp.sx (gs := []) (hs := []) rfl ⟨i64_wrap (n := w) (by omega) (by omega), ⟨by omega, by rw [hln]; omega⟩, trivial⟩ ?_
    refine LWp.ent (Ent.el (l := [(2, .pi b.enc), (7, I i)]) ⟨rfl, by show I _ = I _; rw [← ei, List.length_map], trivial⟩) ?_
    refine LWp.sx (gs := []) (hs := [.cells s.enc, .lin]) rfl ⟨⟨by omega, by simp [hsi]⟩, rfl, ⟨rfl, rfl, rfl, by decide⟩, trivial⟩ ?_
    refine LWp.ent (Ent.freezeLbox (t := 8) rfl) ?_
    refine LWp.sx (gs := []) (hs := []) rfl trivial ?_
    refine LWp.seq (LWp.seq ?_)
    refine LWp.x (gs := []) (hs := []) rfl trivial ?_
    have hxs : spLetters b s = s.t.map fun c => letAt a.ls c.toNat := by simp only [spLetters, ha]
    generalize hxe : spLetters b s = xs at hxs
    have hxl : xs.length = s.t.length := by rw [hxs]; simp
    refine LWp.blockT (fun m : Nat => ∃ C : List (List Int), C.length = m ∧ ∀ r, Says b.n.toNat xs r → r ∈ C) (fun m => el [(2, .pi b.enc), (7, I i), (9, I m)]) (fun _ => []) (fun _ => []) ?_ ?_
    · refine LWp.loopN (X := Nat × Nat) (fun x => x.1 ≤ s.t.length ∧ x.2 ≤ 5 ^ x.1 ∧ ∃ C : List (List Int), C.length = x.2 ∧ ∀ r, Says b.n.toNat (xs.take x.1) r → r ∈ C) (fun x => el [(2, .pi b.enc), (7, I i), (8, .pi s.enc), (9, I x.2), (10, I x.1)]) (fun _ => []) (fun _ => []) (fun x => s.t.length - x.1) (0, 1)
        ⟨by simp, by simp, [[]], rfl, fun r hr => by simpa [Says] using hr⟩ (Ent.el ⟨rfl, rfl, rfl, rfl, rfl, trivial⟩) ?_
      rintro ⟨k, m⟩ ⟨hk, hm5, C, hCl, hC⟩
      simp only at hk hm5 hCl hC ⊢
      refine LWp.seq (LWp.seq ?_)
      refine LWp.x (gs := []) (hs := []) rfl trivial ?_
      refine LWp.ite rfl (fun hc => ?_) (fun hc => ?_)
      · have hc : k < s.t.length := by simpa [ByteArray.size] using hc
        obtain ⟨c, hcc⟩ := ex_get hc
        have hcm := List.mem_of_getElem? hcc
        have hci := hca c hcm
        have hxk : xs[k]? = some (letAt a.ls c.toNat) := by rw [hxs, List.getElem?_map, hcc]; rfl
        have sp1 : SpV b ⟨s.a, [c]⟩ := ⟨sp.a0, ⟨a, ha, fun d hd => by simp only [List.mem_singleton] at hd; subst hd; exact hci⟩, by simp, by simp⟩
        have V1 : Valid (b.of [⟨s.a, [c]⟩]) := of_valid V (by intro x hx; simp only [List.mem_singleton] at hx; subst hx; exact sp1) (by simp)
        have w1 : (b.of [⟨s.a, [c]⟩]).wf := of_wf hw (by intro x hx; simp only [List.mem_singleton] at hx; subst hx; exact ⟨(hw.ss s ms).a0, (hw.ss s ms).a1, by simp⟩)
        obtain ⟨K, hKn, hK, eK⟩ := count_of V1 w1 (i := 0) (by show 0 < 1; omega)
        have hK1 : ∀ r, r ∈ K ↔ Says b.n.toNat [letAt a.ls c.toNat] r := by
          intro r
          rw [hK, hearS_iff (b := b.of [⟨s.a, [c]⟩]) (s := ⟨s.a, [c]⟩) rfl]
          have : spLetters (b.of [⟨s.a, [c]⟩]) ⟨s.a, [c]⟩ = [letAt a.ls c.toNat] := by
            show (match b.al[s.a.toNat]? with | none => [] | some a => [c].map fun (c : UInt8) => letAt a.ls c.toNat) = _
            rw [ha]; rfl
          rw [this]; rfl
        have hKl := says_one hKn hK1
        have hKp : 1 ≤ K.length := by
          obtain ⟨g, hg⟩ := List.exists_mem_of_ne_nil _ (hearS_ne V1 (k := 0) (by show 0 < 1; omega))
          exact List.length_pos_iff.2 (List.ne_nil_of_mem ((hK g).2 hg))
        have ec := count_ev (b.of [⟨s.a, [c]⟩]) w1 (by show 1 ≤ _; omega) 0
        have eK : countR (b.of [⟨s.a, [c]⟩]) 0 = ((K.length : Int), 0) := eK
        rw [eK] at ec
        have hmul : m * K.length ≤ 5 ^ (k + 1) := by
          have := Nat.mul_le_mul hm5 (show K.length ≤ 5 by omega)
          rw [Nat.pow_succ]; exact this
        have h55 : 5 ^ (k + 1) ≤ 5 ^ 5 := Nat.pow_le_pow_right (by omega) (by omega)
        refine LWp.skip ?_
        refine LWp.blockX (fun _ : Unit => True) (fun _ => el [(2, .pi b.enc), (7, I i), (8, .pi s.enc), (9, I ((m * K.length : Nat) : Int)), (10, I k)]) (fun _ => []) (fun _ => []) ?_ ?_
        · refine LWp.sx (gs := []) (hs := [.lin]) rfl ⟨rfl, ⟨rfl, rfl, rfl, by decide⟩, trivial⟩ ?_
          refine LWp.shareB (t := 11) rfl (fun b2 => ?_)
          refine LWp.seq (LWp.d (gs := []) (hs := [.ice]) hmix rfl (by kernel_rfl) ⟨⟨by omega, by omega⟩, ⟨⟨by omega, by omega⟩, by simp, by simp [ByteArray.size]; omega⟩, rfl, trivial⟩ ?_)
          refine WOps.hd (gs := []) (hs := [.stO 0]) rfl ⟨⟨rfl, rfl, rfl, rfl, Nat.le_refl 3⟩, trivial⟩ ?_
          refine LWp.ent (Ent.freezeBox (t := 11) (i := 0) rfl rfl) ?_
          refine LWp.ent (Ent.el (l := [(2, .pi b.enc), (7, I i), (8, .pi s.enc), (9, I m), (10, I k), (11, .pi (b.of [⟨s.a, [c]⟩]).enc)]) ⟨rfl, rfl, rfl, rfl, rfl, ?_, trivial⟩) ?_
          · have he := extract_one hcc
            have e1 : ((k : Int) + 1).toNat = k + 1 := by omega
            show AV.pi [I b.n, alphs b.al, .sl 2 [[I s.a, .v (.string (ByteArray.extract ⟨s.t.toArray⟩ ((k : Int).toNat) (((k : Int) + 1).toNat)))]]] = _
            rw [e1, Int.toNat_natCast, he]
            rfl
          refine LWp.sx (gs := []) (hs := [.ret (.tup [I K.length, I 0])]) rfl ⟨ec, trivial⟩ ?_
          refine LWp.seq (LWp.seq ?_)
          have g1 : decide ((K.length : Int) < 1) = false := decide_eq_false (by omega)
          refine LWp.x (gs := [(72, false), (76, false)]) (hs := []) rfl (by (repeat' (with_reducible apply And.intro)); (all_goals try first | (with_reducible exact trivial) | (with_reducible rfl) | (with_reducible assumption) | ((with_reducible apply isB); first | exact rfl | exact beq_self_eq_true _)); exact (by omega); exact (by omega)) ?_
          refine LWp.ite rfl (fun h => ?_) (fun _ => LWp.skip ?_)
          · simp at h; omega
          · refine LWp.x (gs := []) (hs := []) rfl ⟨⟨by have : (0 : Int) ≤ (m : Int) * (K.length : Int) := Int.mul_nonneg (by omega) (by omega); omega, by rw [← Int.natCast_mul]; omega⟩, trivial⟩ ?_
            exact ⟨(), trivial, Ent.el ⟨rfl, rfl, rfl, by show I _ = I _; rw [Int.natCast_mul], rfl, trivial⟩⟩
        · intro _ _
          refine LWp.x (gs := []) (hs := []) rfl ⟨by omega, trivial⟩ ?_
          refine ⟨(k + 1, m * K.length), ⟨by simp only; omega, hmul, C.flatMap fun h => K.map (h ++ ·), ?_, ?_⟩, by simp only; omega, Ent.el ⟨rfl, rfl, rfl, rfl, rfl, trivial⟩⟩
          · simp only [List.length_flatMap, List.length_map, List.map_const', List.sum_replicate_nat]
            rw [hCl]
          · intro r hr
            simp only at hr
            rw [List.take_add_one, hxk] at hr
            obtain ⟨r1, r2, rfl, g1, g2⟩ := says_split hr
            exact List.mem_flatMap.2 ⟨r1, hC r1 g1, List.mem_map.2 ⟨r2, (hK1 r2).2 g2, rfl⟩⟩
      · have hc : ¬ k < s.t.length := by simpa [ByteArray.size] using hc
        refine LWp.exit ⟨m, ⟨C, hCl, fun r hr => hC r ?_⟩, Ent.el ⟨rfl, rfl, rfl, trivial⟩⟩
        rw [List.take_of_length_le (by omega)]; exact hr
    · rintro m ⟨C, hCl, hC⟩
      obtain ⟨K, hKn, hK, eK⟩ := count_of V hw hi
      have ec := count_ev b hw hs i
      rw [eK] at ec
      have hle : K.length ≤ m := by
        rw [← hCl]
        refine List.Nodup.length_le_of_subset hKn (fun r hr => hC r ?_)
        have := (hK r).1 hr
        rwa [hearS_iff hsi, hxe] at this
      have hKp : 1 ≤ K.length := by
        obtain ⟨g, hg⟩ := List.exists_mem_of_ne_nil _ (hearS_ne V hi)
        exact List.length_pos_iff.2 (List.ne_nil_of_mem ((hK g).2 hg))
      refine LWp.sx (gs := []) (hs := [.ret (.tup [I K.length, I 0])]) rfl ⟨ec, trivial⟩ ?_
      have g1 : decide ((K.length : Int) ≥ 1) = true := decide_eq_true (by omega)
      have g2 : decide ((K.length : Int) ≤ (m : Int)) = true := decide_eq_true (by omega)
      refine LWp.sx (gs := [(94, true), (98, true), (103, true)]) (hs := [.ret (B true)]) rfl (by (repeat' (with_reducible apply And.intro)); (all_goals try first | (with_reducible exact trivial) | (with_reducible rfl) | (with_reducible assumption) | ((with_reducible apply isB); first | exact rfl | exact beq_self_eq_true _)); exact awake_ev) ?_
      refine LWp.ret (retT (.inr rfl) (.one (.tmp ?_ rfl)))
      rfl
end Go.Px

