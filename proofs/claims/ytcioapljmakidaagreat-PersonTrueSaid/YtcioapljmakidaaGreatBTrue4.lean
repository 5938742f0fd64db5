/- Part 4 of the proof of the statement PersonTrue (contracts of the functions that it alone wants). No conditions. -/
import Derived.Test.YtcioapljmakidaaGreatBTrue3
namespace Go.Px
open Go.Proofs Go.MapKept
theorem befK_len (p : List Nat) (out : List Men) (i : Nat) : ∀ k, (befK p out i k).length ≤ k
  | 0 => Nat.le_refl 0
  | k + 1 => by
    rw [befK_succ]
    have := befK_len p out i k
    split
    · rw [List.length_append, List.length_singleton]; omega
    · omega
theorem mAt_some {l : List Men} {i : Nat} (h : i < l.length) : l[i]? = some (mAt l i) := by
  obtain ⟨x, hx⟩ := ex_get h
  unfold mAt
  rw [hx]; rfl
theorem mAt_enc {l : List Men} {i : Nat} (h : i < l.length) : (l.map Men.enc)[i]? = some (mAt l i).enc := by
  rw [List.getElem?_map, mAt_some h]; rfl
abbrev townC (t : Town) (a b : AV) : List AV := t.ear.enc ++ [I t.vil, a, b]
def HTold (t : Town) (p : List Nat) (x : List UInt8) (b7 : Nat) : Nat × Nat × Nat → Heap
  | (0, _, _) => [(b7, .cells 29 (townC t (mensV []) (tiesV [])))]
  | (i + 1, bA, cap) => [(bA, .arr 49 5 cap ((toldL t p x (i + 1)).map Men.enc)), (b7, .cells 29 (townC t (.so bA ((toldL t p x (i + 1)).map Men.enc).length cap) (tiesV [])))]
theorem HTold_freeze (t : Town) (p : List Nat) (x : List UInt8) (b7 i bA cap : Nat) (env : Env) (D : List Nat) : Ent env (HTold t p x b7 (i, bA, cap)) D env [(b7, .cells 29 (townC t (mensV (toldL t p x i)) (tiesV [])))] D := by
  cases i with
  | zero => exact Ent.refl _ _ _
  | succ i => exact Ent.freezeArrAt (i := 0) (j := 0) (townC t (mensV (toldL t p x (i + 1))) (tiesV [])) rfl rfl ⟨.inl rfl, .inl rfl, .inl rfl, .inl rfl, .inr ⟨rfl, rfl⟩, .inl rfl, trivial⟩
def vilS (p : List Nat) (L : List Men) (i : Nat) : List Men := (List.range L.length).map fun a => if a < i then vilM p L a else mAt L a
def vilI (p : List Nat) (L : List Men) (i k : Nat) : List Men := (List.range L.length).map fun a => if a < i then vilM p L a else if a = i then { mAt L i with v := if (mAt L i).v = -1 then -1 else lastV p L (per p i) k } else mAt L a
theorem mAt_map {n a : Nat} {f : Nat → Men} (h : a < n) : mAt ((List.range n).map f) a = f a := by
  unfold mAt
  rw [List.getElem?_map, List.getElem?_range h]; rfl
theorem lastV_ne {p : List Nat} {l : List Men} {w j : Nat} (hj : per p j = w ∧ (mAt l j).v ≠ -1) : ∀ k, j < k → lastV p l w k ≠ -1
  | 0, h => by omega
  | k + 1, h => by
    rw [lastV_succ]
    split
    · rename_i h2; exact h2.2
    · rename_i h2
      by_cases e : j = k
      · subst e; exact absurd hj h2
      · exact lastV_ne hj k (by omega)
theorem vilS_0 (p : List Nat) (L : List Men) : vilS p L 0 = L := by
  apply List.ext_getElem?
  intro a
  unfold vilS
  rw [List.getElem?_map]
  by_cases h : a < L.length
  · rw [List.getElem?_range h, mAt_some h]; rfl
  · rw [List.getElem?_eq_none (by simp; omega), List.getElem?_eq_none (by omega)]; rfl
theorem vilS_all (p : List Nat) (L : List Men) : vilS p L L.length = vilL p L := by
  unfold vilS vilL
  refine List.map_congr_left fun a ha => ?_
  rw [if_pos (List.mem_range.1 ha)]
theorem vilI_first (p : List Nat) (L : List Men) (i : Nat) : vilI p L i (i + 1) = vilS p L i := by
  unfold vilI vilS
  refine List.map_congr_left fun a _ => ?_
  by_cases h : a < i
  · rw [if_pos h, if_pos h]
  · rw [if_neg h, if_neg h]
    by_cases e : a = i
    · rw [if_pos e, e]
      by_cases hv : (mAt L i).v = -1
      · rw [if_pos hv, ← hv]
      · rw [if_neg hv, lastV_succ, if_pos ⟨rfl, hv⟩]
    · rw [if_neg e]
theorem vilI_last (p : List Nat) (L : List Men) (i : Nat) : vilI p L i L.length = vilS p L (i + 1) := by
  unfold vilI vilS
  refine List.map_congr_left fun a _ => ?_
  by_cases h : a < i
  · rw [if_pos h, if_pos (by omega)]
  · rw [if_neg h]
    by_cases e : a = i
    · subst e
      rw [if_pos rfl, if_pos (Nat.lt_succ_self _)]; rfl
    · rw [if_neg e, if_neg (by omega)]
theorem vilI_len (p : List Nat) (L : List Men) (i k : Nat) : (vilI p L i k).length = L.length := by simp [vilI]
theorem vilI_step {p : List Nat} {L : List Men} {i k : Nat} (hik : i < k) (hk : k < L.length) : (mAt (vilI p L i k) k) = mAt L k ∧
    ((mAt (vilI p L i k) i).v ≠ -1 ↔ (mAt L i).v ≠ -1) ∧
    vilI p L i (k + 1) = if per p k = per p i ∧ (mAt (vilI p L i k) i).v ≠ -1 ∧ (mAt L k).v ≠ -1 then (vilI p L i k).set i { mAt (vilI p L i k) i with v := (mAt L k).v } else vilI p L i k := by
  have e1 : mAt (vilI p L i k) k = mAt L k := by
    unfold vilI
    rw [mAt_map hk, if_neg (by omega), if_neg (by omega)]
  have e2 : mAt (vilI p L i k) i = { mAt L i with v := if (mAt L i).v = -1 then -1 else lastV p L (per p i) k } := by
    unfold vilI
    rw [mAt_map (by omega), if_neg (by omega), if_pos rfl]
  have e3 : (mAt (vilI p L i k) i).v ≠ -1 ↔ (mAt L i).v ≠ -1 := by
    rw [e2]
    simp only
    constructor
    · intro h hv
      rw [if_pos hv] at h
      exact h rfl
    · intro h
      rw [if_neg h]
      exact lastV_ne ⟨rfl, h⟩ k hik
  refine ⟨e1, e3, ?_⟩
  apply List.ext_getElem?
  intro a
  by_cases ha : a < L.length
  case neg =>
    split
    · rw [List.getElem?_eq_none (by rw [vilI_len]; omega), List.getElem?_eq_none (by rw [List.length_set, vilI_len]; omega)]
    · rw [List.getElem?_eq_none (by rw [vilI_len]; omega), List.getElem?_eq_none (by rw [vilI_len]; omega)]
  have g : ∀ q, (vilI p L i q)[a]? = some (if a < i then vilM p L a else if a = i then { mAt L i with v := if (mAt L i).v = -1 then -1 else lastV p L (per p i) q } else mAt L a) := by
    intro q
    unfold vilI
    rw [List.getElem?_map, List.getElem?_range ha]; rfl
  by_cases hc : per p k = per p i ∧ (mAt L i).v ≠ -1 ∧ (mAt L k).v ≠ -1
  · rw [if_pos ⟨hc.1, e3.2 hc.2.1, hc.2.2⟩, List.getElem?_set, g, g]
    by_cases e : i = a
    · subst e
      rw [if_neg (Nat.lt_irrefl i), if_pos (Eq.refl i), if_pos (Eq.refl i), if_neg hc.2.1, if_pos (by rw [vilI_len]; exact ha), lastV_succ, if_pos ⟨hc.1, hc.2.2⟩, e2]
    · rw [if_neg e]
      by_cases h : a < i
      · rw [if_pos h, if_pos h]
      · rw [if_neg h, if_neg h, if_neg (fun h => e h.symm), if_neg (fun h => e h.symm)]
  · rw [if_neg (fun h => hc ⟨h.1, e3.1 h.2.1, h.2.2⟩), g, g]
    by_cases h : a < i
    · rw [if_pos h, if_pos h]
    · rw [if_neg h, if_neg h]
      by_cases e : a = i
      · rw [if_pos e, if_pos e]
        by_cases hv : (mAt L i).v = -1
        · rw [if_pos hv, if_pos hv]
        · rw [if_neg hv, if_neg hv, lastV_succ, if_neg (fun h => hc ⟨h.1, hv, h.2⟩)]
      · rw [if_neg e, if_neg e]
theorem HTold_pos (t : Town) (p : List Nat) (x : List UInt8) (b7 bA cap : Nat) : ∀ n, 0 < n → HTold t p x b7 (n, bA, cap) = [(bA, .arr 49 5 cap ((toldL t p x n).map Men.enc)), (b7, .cells 29 (townC t (.so bA ((toldL t p x n).map Men.enc).length cap) (tiesV [])))]
  | 0, h => by omega
  | n + 1, _ => rfl
theorem natBeq (m n : Nat) : (((m : Nat) : Int) == ((n : Nat) : Int)) = (m == n) := by
  rw [Bool.eq_iff_iff, beq_iff_eq, beq_iff_eq]
  omega
abbrev E0 (t : Town) (p : List Nat) (x : List UInt8) (b7 : Nat) (r : List (Nat × AV)) : List (Nat × AV) := (1, ints (natI p)) :: (2, bytes x) :: (3, .pi t.enc) :: (6, .lbox 29 [I 0, .v (.slice none 0 0), .v (.slice none 0 0), I 0, .v (.slice none 0 0), .v (.slice none 0 0)]) :: (7, .po b7 0) :: r
abbrev Cm (sp v lo hi par : Int) : HObj := .cells 49 [I sp, I v, I lo, I hi, I par]
set_option maxRecDepth 10000 in
set_option maxHeartbeats 4000000 in
theorem told_ev {t : Town} (hO : t.OK) {p : List Nat} (hg : Grp t.ms.length p) (x : List UInt8) : Ev Tryz.prog 35 [.agg t.enc, ints (natI p), bytes x] (.agg (toldT t p x).enc) := by
  have hln : ((t.ms.map Men.enc).length : Int) = t.ms.length := by simp
  have htl : ((t.ties.map Tie.enc).length : Int) = t.ties.length := by simp
  have hm6 := hO.ms6
  have ht4 := hO.ties4
  have hpl := hg.len
  have hpg : ∀ k, k < t.ms.length → ((natI p).map fun x => [I x])[k]? = some [I (per p k : Nat)] := fun k hk => ints_get p (by omega)
  refine Ev.intro fn35 ?_
  refine LWp.sx (gs := []) (hs := [.ice, .lin]) rfl ⟨⟨rfl, rfl⟩, rfl, trivial⟩ ?_
  refine LWp.sx (gs := []) (hs := [.lin]) rfl ⟨rfl, ⟨rfl, rfl, rfl, Nat.le_refl 6⟩, trivial⟩ ?_
  refine LWp.shareB (t := 7) rfl fun b7 => ?_
  refine LWp.shx (gs := []) (hs := [.stO 0, .stO 0]) rfl ⟨⟨rfl, rfl, rfl, rfl, (show 5 ≤ 6 by omega)⟩, ⟨rfl, rfl, rfl, rfl, (show 6 ≤ 6 by omega)⟩, trivial⟩ ?_
  refine LWp.ent (Ent.cellsSub (j := 0) (townC t (mensV []) (tiesV [])) rfl ⟨SubA.refl _, SubA.refl _, SubA.refl _, SubA.refl _, SubA.nil 5, SubA.nil 3, trivial⟩) ?_
  refine LWp.ent (Ent.trans (Ent.ofH (H' := HTold t p x b7 (0, 0, 0)) rfl) (Ent.el (l := E0 t p x b7 []) ⟨rfl, rfl, rfl, rfl, rfl, trivial⟩)) ?_
  refine LWp.seq (LWp.seq ?_)
  refine LWp.x (gs := []) (hs := []) rfl trivial ?_
  refine LWp.blockT (fun y : Nat × Nat => True) (fun _ => el (E0 t p x b7 [])) (fun y => HTold t p x b7 (t.ms.length, y)) (fun _ => []) ?_ ?_
  · refine LWp.loopN (X := Nat × Nat × Nat) (fun y => y.1 ≤ t.ms.length) (fun y => el (E0 t p x b7 [(8, I y.1)])) (fun y => HTold t p x b7 y) (fun _ => []) (fun y => t.ms.length - y.1) (0, 0, 0) (Nat.zero_le _) (Ent.el ⟨rfl, rfl, rfl, rfl, rfl, rfl, trivial⟩) ?_
    rintro ⟨i, bA, cap⟩ hi
    simp only at hi ⊢
    refine LWp.seq (LWp.seq ?_)
    refine LWp.x (gs := []) (hs := []) rfl trivial ?_
    refine LWp.ite rfl (fun hc => LWp.skip ?_) (fun hc => ?_)
    case refine_2 =>
      rw [hln, decide_eq_false_iff_not] at hc
      have e : i = t.ms.length := by omega
      subst e
      exact LWp.exit ⟨(bA, cap), trivial, Ent.el ⟨rfl, rfl, rfl, rfl, rfl, trivial⟩⟩
    rw [hln, decide_eq_true_eq] at hc
    have hii : i < t.ms.length := by omega
    refine LWp.ent (HTold_freeze t p x b7 i bA cap _ _) ?_
    have eo := toldL_len t p x i
    have eT : toldL t p x (i + 1) = toldL t p x i ++ [toldM t p x (toldL t p x i) i] := rfl
    have oin : ∀ j, j < i → (0 ≤ (mAt (toldL t p x i) j).sp ∧ (mAt (toldL t p x i) j).sp < t.ear.ss.length) ∧ (-1 ≤ (mAt (toldL t p x i) j).par ∧ (mAt (toldL t p x i) j).par < t.ms.length) := by
      intro j hj
      refine ⟨told_sp hO hi j hj, ?_⟩
      have o := hO.at (i := j) (by omega)
      have o1 := o.par0
      have o2 := o.par1
      rw [told_at t p x hj]
      show -1 ≤ parG t p x _ j ∧ parG t p x _ j < _
      have := parG_in (t := t) (p := p) (x := x) (toldL t p x i) j
      omega
    have oenc : ∀ j, j < i → ((toldL t p x i).map Men.enc)[j]? = some (mAt (toldL t p x i) j).enc := fun j hj => mAt_enc (by omega)
    refine LWp.blockX (fun y : Nat × Nat => True) (fun _ => el (E0 t p x b7 [(8, I i)])) (fun y => HTold t p x b7 (i + 1, y)) (fun _ => []) ?_ ?_
    · simp only [HTold, eT]
      have htM : toldM t p x (toldL t p x i) i = ⟨spG t p (toldL t p x i) i, vilK p (toldL t p x i) i (t.m i).v i, min (t.m i).lo (yearF (per p i) x), max (t.m i).hi (yearF (per p i) x), parG t p x (toldL t p x i) i⟩ := rfl
      rw [htM]
      generalize toldL t p x i = o at *
      have hmi := m_some hii
      have om := hO.at hii
      have o1 := om.lo0
      have o2 := om.hi1
      have o3 := om.par0
      have o4 := om.par1
      have o5 := om.sp0
      have o6 := om.sp1
      have hmenc : (t.ms.map Men.enc)[i]? = some (t.m i).enc := by rw [List.getElem?_map, hmi]; rfl
      have hspE : spG t p o i = if befK p o i i ≠ [] ∧ sharedG t.ear (befK p o i i ++ [(t.m i).sp]) = false then (befK p o i i).headD 0 else (t.m i).sp := rfl
      have hpaE : parG t p x o i = if (t.m i).par ≠ -1 ∧ fineK p x o i (t.m i).par i = false then -1 else (t.m i).par := rfl
      generalize t.m i = m at *
      refine LWp.sx (gs := []) (hs := [.cells m.enc, .lin]) rfl ⟨⟨by omega, hmenc⟩, rfl, ⟨rfl, rfl, rfl, by decide⟩, trivial⟩ ?_
      refine LWp.shareB (t := 9) rfl fun b9 => ?_
      refine LWp.ent (Ent.trans (Ent.ofH (H' := [(b9, Cm m.sp m.v m.lo m.hi m.par), (b7, .cells 29 (townC t (mensV o) (tiesV [])))]) rfl) (Ent.el (l := E0 t p x b7 [(8, I i), (9, .po b9 0)]) ⟨rfl, rfl, rfl, rfl, rfl, rfl, rfl, trivial⟩)) ?_
      refine LWp.sx (gs := []) (hs := []) rfl trivial ?_
      refine LWp.ent (Ent.nilLin (t := 10) 3 1 rfl) ?_
      refine LWp.seq (LWp.seq ?_)
      refine LWp.x (gs := []) (hs := []) rfl trivial ?_
      refine LWp.blockT (fun _ : Unit => True) (fun _ => el (E0 t p x b7 [(8, I i), (9, .po b9 0), (10, ints (befK p o i i))])) (fun _ => [(b9, Cm m.sp (vilK p o i m.v i) m.lo m.hi m.par), (b7, .cells 29 (townC t (mensV o) (tiesV [])))]) (fun _ => []) ?_ ?_
      · refine LWp.loopN (fun j : Nat => j ≤ i) (fun j => el (E0 t p x b7 [(8, I i), (9, .po b9 0), (10, linI (befK p o i j)), (11, I j)])) (fun j => [(b9, Cm m.sp (vilK p o i m.v j) m.lo m.hi m.par), (b7, .cells 29 (townC t (mensV o) (tiesV [])))]) (fun _ => []) (fun j => i - j) 0 (by omega) (Ent.el ⟨rfl, rfl, rfl, rfl, rfl, rfl, rfl, rfl, rfl, trivial⟩) ?_
        intro j hj
        refine LWp.seq (LWp.seq ?_)
        refine LWp.x (gs := []) (hs := []) rfl trivial ?_
        refine LWp.ite rfl (fun hc => LWp.skip ?_) (fun hc => ?_)
        case refine_2 =>
          rw [decide_eq_false_iff_not] at hc
          have e : j = i := by omega
          subst e
          exact LWp.exit ⟨(), trivial, Ent.trans (Ent.freezeLin (t := 10) rfl) (Ent.el ⟨rfl, rfl, rfl, rfl, rfl, rfl, rfl, rfl, trivial⟩)⟩
        rw [decide_eq_true_eq] at hc
        have hji : j < i := by omega
        refine LWp.blockX (fun _ : Unit => True) (fun _ => el (E0 t p x b7 [(8, I i), (9, .po b9 0), (10, linI (befK p o i (j + 1))), (11, I j)])) (fun _ => [(b9, Cm m.sp (vilK p o i m.v (j + 1)) m.lo m.hi m.par), (b7, .cells 29 (townC t (mensV o) (tiesV [])))]) (fun _ => []) ?_ ?_
        · rw [befK_succ, vilK_succ]
          refine LWp.seq ?_
          refine LWp.dd (gs := []) (hs := [.cells [I (per p j : Nat)], .cells [I (per p i : Nat)]]) hmix rfl (by kernel_rfl) ⟨⟨by omega, hpg j (by omega)⟩, ⟨by omega, hpg i hii⟩, trivial⟩ ?_
          refine LWp.ite rfl (fun he => ?_) (fun he => ?_)
          · have he2 : per p j = per p i := by have := beq_iff_eq.1 he; omega
            rw [if_pos he2]
            have hoj := oenc j hji
            have hbl := befK_len p o i j
            generalize mAt o j = oj at hoj
            generalize befK p o i j = bf at hbl
            refine LWp.sx (gs := []) (hs := [.at 1, .cells oj.enc, .ice]) rfl ⟨rfl, ⟨by omega, hoj⟩, rfl, ⟨by simp [chunk]; omega, by simp [chunk]; omega⟩, trivial⟩ ?_
            refine LWp.sx (gs := []) (hs := [.at 0]) rfl ⟨rfl, trivial⟩ ?_
            refine LWp.ite rfl (fun hv => ?_) (fun hv => ?_)
            · rw [if_pos ⟨he2, bne_iff_ne.1 hv⟩]
              refine LWp.d (gs := []) (hs := [.at 0, .at 1, .cells oj.enc]) hmix rfl (by kernel_rfl) ⟨rfl, rfl, ⟨by omega, hoj⟩, trivial⟩ ?_
              refine WOps.hd (gs := []) (hs := [.stO 0]) rfl ⟨⟨rfl, rfl, rfl, rfl, (show 2 ≤ 5 by omega)⟩, trivial⟩ ?_
              exact ⟨(), trivial, Ent.el ⟨rfl, rfl, rfl, rfl, rfl, rfl, rfl, lin_snoc _ _, rfl, trivial⟩⟩
            · rw [if_neg (fun h => h.2 (bne_eq_false_iff_eq.1 hv))]
              exact LWp.skip ⟨(), trivial, Ent.el ⟨rfl, rfl, rfl, rfl, rfl, rfl, rfl, lin_snoc _ _, rfl, trivial⟩⟩
          · have he2 : per p j ≠ per p i := by have := beq_eq_false_iff_ne.1 he; omega
            rw [if_neg he2, if_neg (fun h => he2 h.1)]
            exact LWp.skip ⟨(), trivial, Ent.el ⟨rfl, rfl, rfl, rfl, rfl, rfl, rfl, rfl, rfl, trivial⟩⟩
        · intro _ _
          refine LWp.x (gs := []) (hs := []) rfl ⟨by omega, trivial⟩ ?_
          exact ⟨j + 1, by omega, by omega, Ent.el ⟨rfl, rfl, rfl, rfl, rfl, rfl, rfl, rfl, rfl, trivial⟩⟩
      intro _ _
      have hbl := befK_len p o i i
      have hbm : ∀ s ∈ befK p o i i, 0 ≤ s ∧ s < t.ear.ss.length := by
        intro s hs
        obtain ⟨j, h1, _, rfl⟩ := bef_mem.1 hs
        exact (oin j h1).1
      generalize befK p o i i = bf at *
      generalize vilK p o i m.v i = v at *
      refine LWp.cutX (fun _ : Unit => True) (fun _ => el (E0 t p x b7 [(8, I i), (9, .po b9 0)])) (fun _ => [(b9, Cm (spG t p o i) v m.lo m.hi m.par), (b7, .cells 29 (townC t (mensV o) (tiesV [])))]) (fun _ => []) ?_ ?_
      · refine LWp.seq ?_
        cases bf with
        | nil =>
          rw [hspE, if_neg (by simp)]
          refine LWp.dd (gs := [(75, false)]) (hs := []) hmix rfl (by kernel_rfl) (by (repeat' (with_reducible apply And.intro)); (all_goals first | (with_reducible exact trivial) | (with_reducible rfl) | (with_reducible assumption) | ((with_reducible apply isB); first | exact rfl | exact beq_self_eq_true _) | omega | ((rfl)))) ?_
          exact LWp.ite (b := false) rfl (fun h => by cases h) (fun _ => LWp.skip ⟨(), trivial, Ent.el ⟨rfl, rfl, rfl, rfl, rfl, rfl, rfl, trivial⟩⟩)
        | cons s l =>
          have hsh := shared_ev hO.ear ((s :: l) ++ [m.sp]) (by
            intro j hj
            rcases List.mem_append.1 hj with h | h
            · exact hbm j h
            · rw [List.mem_singleton.1 h]; exact ⟨o5, o6⟩)
          have hle := least_ev (markL (shP t.ear ((s :: l) ++ [m.sp])))
          have hG : sharedG t.ear ((s :: l) ++ [m.sp]) = decide (0 ≤ idxF id (markL (shP t.ear ((s :: l) ++ [m.sp]))) 0) := rfl
          rw [hG] at hspE
          generalize markL (shP t.ear ((s :: l) ++ [m.sp])) = M at hsh hle hspE
          have g0 : decide ((((s :: l).map fun x => [I x]).length : Int) > 0) = true := decide_eq_true (by simp only [List.length_map, List.length_cons]; omega)
          refine LWp.d (gs := [(75, true)]) (hs := [.lin, .at 0, .ice]) hmix rfl (by kernel_rfl) (by (repeat' (with_reducible apply And.intro)); (all_goals first | rfl | trivial | exact g0 | (simp [chunk] at hbl ⊢ <;> omega))) ?_
          refine WOps.ent (Ent.trans (Ent.freezeLin (t := 84) rfl) (Ent.el (l := E0 t p x b7 [(8, I i), (9, .po b9 0), (10, ints (s :: l)), (75, B true), (77, .agg t.ear.enc), (84, ints ((s :: l) ++ [m.sp]))]) ⟨rfl, rfl, rfl, rfl, rfl, rfl, rfl, rfl, congrArg B g0, rfl, ?_, trivial⟩)) ?_
          · show AV.sl 1 _ = AV.sl 1 _
            rw [List.map_append]; rfl
          refine WOps.xd (gs := [(75, true)]) (hs := [.ret (bools M), .ret (I (idxF id M 0))]) rfl (by (repeat' (with_reducible apply And.intro)); (all_goals first | rfl | trivial | exact hsh | exact hle)) ?_
          refine LWp.ite rfl (fun hq => ?_) (fun hq => ?_)
          · have hq2 : idxF id M 0 < 0 := of_decide_eq_true hq
            rw [hspE, if_pos ⟨by simp, decide_eq_false (by omega)⟩]
            refine LWp.hx (gs := []) (hs := [.cells [I s], .stO 0]) rfl ⟨⟨by omega, rfl⟩, ⟨rfl, rfl, rfl, rfl, (show 1 ≤ 5 by omega)⟩, trivial⟩ ?_
            exact ⟨(), trivial, Ent.el ⟨rfl, rfl, rfl, rfl, rfl, rfl, rfl, trivial⟩⟩
          · have hq2 : ¬ idxF id M 0 < 0 := of_decide_eq_false hq
            rw [hspE, if_neg (fun h => by have := of_decide_eq_false h.2; omega)]
            exact LWp.skip ⟨(), trivial, Ent.el ⟨rfl, rfl, rfl, rfl, rfl, rfl, rfl, trivial⟩⟩
      intro _ _
      have hye := year_ev x (per p i)
      have hyi := yearF_in (per p i) x
      have hf0 : fine0 p x i m.par = (decide (per p m.par.toNat ≠ per p i) && (decide (15 ≤ yearF (per p i) x - yearF (per p m.par.toNat) x) && decide (yearF (per p i) x - yearF (per p m.par.toNat) x ≤ 60))) := rfl
      generalize spG t p o i = s at *
      generalize yearF (per p i) x = y at *
      refine LWp.sx (gs := []) (hs := [.cells [I (per p i : Nat)], .ret (I y)]) rfl ⟨⟨by omega, hpg i hii⟩, hye, trivial⟩ ?_
      have hsp := lspan_ev (min m.lo y) (max m.hi y)
      refine LWp.shx (gs := []) (hs := [.at 0, .at 0, .ret (.agg [I (min m.lo y), I (max m.hi y)]), .stO 0]) rfl (by (repeat' (with_reducible apply And.intro)); (all_goals first | (with_reducible exact trivial) | (with_reducible rfl) | (with_reducible assumption) | ((with_reducible apply isB); first | exact rfl | exact beq_self_eq_true _) | omega | ((first | exact hsp | rfl | exact (show 4 ≤ 5 by omega))))) ?_
      refine LWp.ent (Ent.trans (Ent.ofH (H' := [(b9, Cm s v (min m.lo y) (max m.hi y) m.par), (b7, .cells 29 (townC t (mensV o) (tiesV [])))]) rfl) (Ent.el (l := E0 t p x b7 [(8, I i), (9, .po b9 0), (12, I y)]) ⟨rfl, rfl, rfl, rfl, rfl, rfl, rfl, rfl, trivial⟩)) ?_
      generalize min m.lo y = lo at *
      generalize max m.hi y = hi2 at *
      refine LWp.cutX (fun _ : Unit => True) (fun _ => el (E0 t p x b7 [(8, I i), (9, .po b9 0)])) (fun _ => [(b9, Cm s v lo hi2 (parG t p x o i)), (b7, .cells 29 (townC t (mensV o) (tiesV [])))]) (fun _ => []) ?_ ?_
      · refine LWp.seq ?_
        refine LWp.x (gs := []) (hs := [.at 0]) rfl ⟨rfl, trivial⟩ ?_
        refine LWp.ite rfl (fun hp => ?_) (fun hp => ?_)
        case refine_2 =>
          rw [hpaE, if_neg (fun h => h.1 (bne_eq_false_iff_eq.1 hp))]
          exact LWp.skip ⟨(), trivial, Ent.el ⟨rfl, rfl, rfl, rfl, rfl, rfl, rfl, trivial⟩⟩
        have hp2 : m.par ≠ -1 := bne_iff_ne.1 hp
        have hyp := year_ev x (per p m.par.toNat)
        have hypi := yearF_in (per p m.par.toNat) x
        generalize yearF (per p m.par.toNat) x = yp at hf0 hyp hypi
        have hgp := hpg m.par.toNat (by omega)
        refine LWp.sx (gs := []) (hs := [.at 0, .cells [I (per p m.par.toNat : Nat)], .ret (I yp)]) rfl ⟨rfl, ⟨by omega, hgp⟩, hyp, ⟨by omega, by omega⟩, trivial⟩ ?_
        refine LWp.cutX (fun _ : Unit => True) (fun _ => el (E0 t p x b7 [(8, I i), (9, .po b9 0), (14, B (fine0 p x i m.par))])) (fun _ => [(b9, Cm s v lo hi2 m.par), (b7, .cells 29 (townC t (mensV o) (tiesV [])))]) (fun _ => []) ?_ ?_
        · have hin := in_ev (y - yp) 15 60
          by_cases hpe : per p m.par.toNat = per p i
          · have hz : (((per p m.par.toNat : Nat) : Int) != ((per p i : Nat) : Int)) = false := by rw [bne_eq_false_iff_eq]; omega
            have hfz : fine0 p x i m.par = false := by rw [hf0, decide_eq_false (fun h => h hpe)]; rfl
            rw [hfz]
            refine LWp.dd (gs := [(133, false)]) (hs := [.at 0, .cells [I (per p m.par.toNat : Nat)], .cells [I (per p i : Nat)]]) hmix rfl (by kernel_rfl) (by (repeat' (with_reducible apply And.intro)); (all_goals first | (with_reducible exact trivial) | (with_reducible rfl) | (with_reducible assumption) | ((with_reducible apply isB); first | exact rfl | exact beq_self_eq_true _) | omega | ((first | exact hgp | exact hpg i hii | ((with_reducible apply isB); exact hz))))) ?_
            exact ⟨(), trivial, Ent.el ⟨rfl, rfl, rfl, rfl, rfl, rfl, rfl, rfl, trivial⟩⟩
          · have hz : (((per p m.par.toNat : Nat) : Int) != ((per p i : Nat) : Int)) = true := by rw [bne_iff_ne]; omega
            have hfz : fine0 p x i m.par = (decide (15 ≤ y - yp) && decide (y - yp ≤ 60)) := by rw [hf0, decide_eq_true hpe, Bool.true_and]
            rw [hfz]
            refine LWp.dd (gs := [(133, true)]) (hs := [.at 0, .cells [I (per p m.par.toNat : Nat)], .cells [I (per p i : Nat)], .ret (B (decide (15 ≤ y - yp) && decide (y - yp ≤ 60)))]) hmix rfl (by kernel_rfl) (by (repeat' (with_reducible apply And.intro)); (all_goals first | (with_reducible exact trivial) | (with_reducible rfl) | (with_reducible assumption) | ((with_reducible apply isB); first | exact rfl | exact beq_self_eq_true _) | omega | ((first | exact hgp | exact hpg i hii | exact hin | ((with_reducible apply isB); exact hz))))) ?_
            exact ⟨(), trivial, Ent.el ⟨rfl, rfl, rfl, rfl, rfl, rfl, rfl, rfl, trivial⟩⟩
        intro _ _
        refine LWp.seq (LWp.seq ?_)
        refine LWp.x (gs := []) (hs := []) rfl trivial ?_
        refine LWp.blockT (fun _ : Unit => True) (fun _ => el (E0 t p x b7 [(8, I i), (9, .po b9 0), (14, B (fineK p x o i m.par i))])) (fun _ => [(b9, Cm s v lo hi2 m.par), (b7, .cells 29 (townC t (mensV o) (tiesV [])))]) (fun _ => []) ?_ ?_
        · refine LWp.loopN (fun j : Nat => j ≤ i) (fun j => el (E0 t p x b7 [(8, I i), (9, .po b9 0), (14, B (fineK p x o i m.par j)), (15, I j)])) (fun j => [(b9, Cm s v lo hi2 m.par), (b7, .cells 29 (townC t (mensV o) (tiesV [])))]) (fun _ => []) (fun j => i - j) 0 (by omega) (Ent.el ⟨rfl, rfl, rfl, rfl, rfl, rfl, rfl, rfl, rfl, trivial⟩) ?_
          intro j hj
          refine LWp.seq (LWp.seq ?_)
          refine LWp.x (gs := []) (hs := []) rfl trivial ?_
          refine LWp.ite rfl (fun hc => LWp.skip ?_) (fun hc => ?_)
          case refine_2 =>
            rw [decide_eq_false_iff_not] at hc
            have e : j = i := by omega
            subst e
            exact LWp.exit ⟨(), trivial, Ent.el ⟨rfl, rfl, rfl, rfl, rfl, rfl, rfl, rfl, trivial⟩⟩
          rw [decide_eq_true_eq] at hc
          have hji : j < i := by omega
          refine LWp.blockX (fun _ : Unit => True) (fun _ => el (E0 t p x b7 [(8, I i), (9, .po b9 0), (14, B (fineK p x o i m.par (j + 1))), (15, I j)])) (fun _ => [(b9, Cm s v lo hi2 m.par), (b7, .cells 29 (townC t (mensV o) (tiesV [])))]) (fun _ => []) ?_ ?_
          · rw [fineK_succ]
            have hoj := oenc j hji
            obtain ⟨_, q0, q1⟩ := oin j hji
            have hJ : fineJ p o i m.par j = (decide (per p j ≠ per p i) || decide ((mAt o j).par = -1) || decide (per p (mAt o j).par.toNat = per p m.par.toNat)) := rfl
            generalize mAt o j = oj at hoj q0 q1 hJ
            generalize fineK p x o i m.par j = F
            have g1 := hpg j (by omega)
            have g2 := hpg i hii
            refine LWp.sx (gs := []) (hs := [.at 1, .cells oj.enc]) rfl ⟨rfl, ⟨by omega, hoj⟩, trivial⟩ ?_
            cases F with
            | false =>
              rw [Bool.false_and]
              refine LWp.dd (gs := [(149, false), (159, true), (163, true)]) (hs := []) hmix rfl (by kernel_rfl) (by (repeat' (with_reducible apply And.intro)); (all_goals first | (with_reducible exact trivial) | (with_reducible rfl) | (with_reducible assumption) | ((with_reducible apply isB); first | exact rfl | exact beq_self_eq_true _) | omega | ((rfl)))) ?_
              exact ⟨(), trivial, Ent.el ⟨rfl, rfl, rfl, rfl, rfl, rfl, rfl, rfl, rfl, trivial⟩⟩
            | true =>
              rw [Bool.true_and]
              by_cases ha : per p j = per p i
              · have z1 : (((per p j : Nat) : Int) != ((per p i : Nat) : Int)) = false := by rw [bne_eq_false_iff_eq]; omega
                by_cases hb : oj.par = -1
                · have z2 : (oj.par == -1) = true := by rw [beq_iff_eq]; exact hb
                  have hJ2 : fineJ p o i m.par j = true := by rw [hJ, decide_eq_true hb, Bool.or_true, Bool.true_or]
                  rw [hJ2]
                  refine LWp.dd (gs := [(149, true), (159, false), (163, true)]) (hs := [.cells [I (per p j : Nat)], .cells [I (per p i : Nat)]]) hmix rfl (by kernel_rfl) (by (repeat' (with_reducible apply And.intro)); (all_goals first | (with_reducible exact trivial) | (with_reducible rfl) | (with_reducible assumption) | ((with_reducible apply isB); first | exact rfl | exact beq_self_eq_true _) | omega | ((first | exact g1 | exact g2 | ((with_reducible apply isB); first | exact z1 | exact z2))))) ?_
                  exact ⟨(), trivial, Ent.el ⟨rfl, rfl, rfl, rfl, rfl, rfl, rfl, rfl, rfl, trivial⟩⟩
                · have z2 : (oj.par == -1) = false := by rw [beq_eq_false_iff_ne]; exact hb
                  have hJ2 : fineJ p o i m.par j = (((per p oj.par.toNat : Nat) : Int) == ((per p m.par.toNat : Nat) : Int)) := by
                    rw [hJ, decide_eq_false (fun h => h ha), decide_eq_false hb, Bool.false_or, Bool.false_or, Bool.eq_iff_iff, decide_eq_true_eq, beq_iff_eq]
                    omega
                  rw [hJ2]
                  have g3 := hpg oj.par.toNat (by omega)
                  refine LWp.dd (gs := [(149, true), (159, false), (163, false)]) (hs := [.cells [I (per p j : Nat)], .cells [I (per p i : Nat)], .cells [I (per p oj.par.toNat : Nat)], .at 0, .cells [I (per p m.par.toNat : Nat)]]) hmix rfl (by kernel_rfl) (by (repeat' (with_reducible apply And.intro)); (all_goals first | (with_reducible exact trivial) | (with_reducible rfl) | (with_reducible assumption) | ((with_reducible apply isB); first | exact rfl | exact beq_self_eq_true _) | omega | ((first | exact g1 | exact g2 | exact g3 | exact hgp | ((with_reducible apply isB); first | exact z1 | exact z2))))) ?_
                  exact ⟨(), trivial, Ent.el ⟨rfl, rfl, rfl, rfl, rfl, rfl, rfl, rfl, rfl, trivial⟩⟩
              · have z1 : (((per p j : Nat) : Int) != ((per p i : Nat) : Int)) = true := by rw [bne_iff_ne]; omega
                have hJ2 : fineJ p o i m.par j = true := by rw [hJ, decide_eq_true ha, Bool.true_or, Bool.true_or]
                rw [hJ2]
                refine LWp.dd (gs := [(149, true), (159, true), (163, true)]) (hs := [.cells [I (per p j : Nat)], .cells [I (per p i : Nat)]]) hmix rfl (by kernel_rfl) (by (repeat' (with_reducible apply And.intro)); (all_goals first | (with_reducible exact trivial) | (with_reducible rfl) | (with_reducible assumption) | ((with_reducible apply isB); first | exact rfl | exact beq_self_eq_true _) | omega | ((first | exact g1 | exact g2 | ((with_reducible apply isB); first | exact z1))))) ?_
                exact ⟨(), trivial, Ent.el ⟨rfl, rfl, rfl, rfl, rfl, rfl, rfl, rfl, rfl, trivial⟩⟩
          · intro _ _
            refine LWp.x (gs := []) (hs := []) rfl ⟨by omega, trivial⟩ ?_
            exact ⟨j + 1, by omega, by omega, Ent.el ⟨rfl, rfl, rfl, rfl, rfl, rfl, rfl, rfl, rfl, trivial⟩⟩
        intro _ _
        refine LWp.seq ?_
        refine LWp.x (gs := []) (hs := []) rfl trivial ?_
        cases hF : fineK p x o i m.par i with
        | true =>
          rw [hpaE, if_neg (fun h => by rw [hF] at h; cases h.2)]
          exact LWp.ite (b := false) rfl (fun h => by cases h) (fun _ => LWp.skip ⟨(), trivial, Ent.el ⟨rfl, rfl, rfl, rfl, rfl, rfl, rfl, trivial⟩⟩)
        | false =>
          rw [hpaE, if_pos ⟨hp2, hF⟩]
          refine LWp.ite (b := true) rfl (fun _ => ?_) (fun h => by cases h)
          refine LWp.hx (gs := []) (hs := [.stO 0]) rfl ⟨⟨rfl, rfl, rfl, rfl, (show 5 ≤ 5 by omega)⟩, trivial⟩ ?_
          exact ⟨(), trivial, Ent.el ⟨rfl, rfl, rfl, rfl, rfl, rfl, rfl, trivial⟩⟩
      intro _ _
      generalize parG t p x o i = pa at *
      refine LWp.d (gs := []) (hs := [.lin, .at 1, .at 0, .ice]) hmix rfl (by kernel_rfl) (by (repeat' (with_reducible apply And.intro)); (all_goals first | rfl | trivial | (simp [chunk] <;> omega))) ?_
      refine WOps.share (t := 185) rfl (fun h => absurd (show ((_ :: _ : List (List AV))) = [] from (List.append_eq_nil_iff.1 h).2) (by simp)) (fun bA2 cap2 => ?_)
      refine WOps.hd (gs := []) (hs := [.stO 2]) rfl ⟨⟨rfl, rfl, rfl, rfl, (show 5 ≤ 6 by omega)⟩, trivial⟩ ?_
      refine ⟨(bA2, cap2), trivial, Ent.trans (Ent.dropH 1) (Ent.trans (Ent.ofH ?_) (Ent.el ⟨rfl, rfl, rfl, rfl, rfl, rfl, trivial⟩))⟩
      simp only [List.map_append, List.map_cons, List.map_nil]
      rfl
    · rintro y _
      refine LWp.x (gs := []) (hs := []) rfl ⟨by omega, trivial⟩ ?_
      exact ⟨(i + 1, y), by simp only; omega, by simp only; omega, Ent.el ⟨rfl, rfl, rfl, rfl, rfl, rfl, trivial⟩⟩
  rintro ⟨bA, cap⟩ _
  have hlL := toldL_len t p x t.ms.length
  have hT : toldT t p x = { t with ms := vilL p (toldL t p x t.ms.length), ties := t.ties.map (tieT p) } := rfl
  rw [hT]
  clear hT
  have hpos := HTold_pos t p x b7 bA cap t.ms.length
  have hfr := HTold_freeze t p x b7 t.ms.length bA cap
  generalize toldL t p x t.ms.length = L at *
  generalize HTold t p x b7 (t.ms.length, bA, cap) = HH at *
  have hLl : ((L.map Men.enc).length : Int) = L.length := by simp
  refine LWp.cutX (fun _ : Unit => True) (fun _ => el (E0 t p x b7 [])) (fun _ => [(b7, .cells 29 (townC t (mensV (vilL p L)) (tiesV [])))]) (fun _ => []) ?_ ?_
  · refine LWp.seq ?_
    by_cases hn : t.ms.length = 0
    · have hL : L = [] := List.length_eq_zero_iff.1 (by omega)
      refine LWp.ent (hfr _ _) ?_
      subst hL
      refine LWp.x (gs := []) (hs := []) rfl trivial ?_
      refine LWp.block ?_
      refine LWp.loopN (fun i : Nat => i = 0) (fun i => el (E0 t p x b7 [(17, I i)])) (fun _ => [(b7, .cells 29 (townC t (mensV []) (tiesV [])))]) (fun _ => []) (fun i => 0) 0 rfl (Ent.el ⟨rfl, rfl, rfl, rfl, rfl, rfl, trivial⟩) ?_
      rintro _ rfl
      refine LWp.seq (LWp.seq ?_)
      refine LWp.x (gs := []) (hs := [.at 0]) rfl ⟨rfl, trivial⟩ ?_
      exact LWp.ite (b := false) rfl (fun h => by cases h) (fun _ => LWp.exit ⟨(), trivial, Ent.el ⟨rfl, rfl, rfl, rfl, rfl, trivial⟩⟩)
    · rw [hpos (by omega)]
      refine LWp.hx (gs := []) (hs := []) rfl trivial ?_
      refine LWp.block ?_
      refine LWp.loopN (fun i : Nat => i ≤ L.length) (fun i => el (E0 t p x b7 [(17, I i)])) (fun i => [(bA, .arr 49 5 cap ((vilS p L i).map Men.enc)), (b7, .cells 29 (townC t (.so bA (L.map Men.enc).length cap) (tiesV [])))]) (fun _ => []) (fun i => L.length - i) 0 (by omega) (by rw [vilS_0]; exact Ent.el ⟨rfl, rfl, rfl, rfl, rfl, rfl, trivial⟩) ?_
      intro i hi
      refine LWp.seq (LWp.seq ?_)
      refine LWp.hx (gs := []) (hs := [.at 1]) rfl ⟨rfl, trivial⟩ ?_
      refine LWp.ite rfl (fun hc => LWp.skip ?_) (fun hc => ?_)
      case refine_2 =>
        rw [hLl, decide_eq_false_iff_not] at hc
        have e : i = L.length := by omega
        subst e
        rw [vilS_all]
        exact LWp.exit ⟨(), trivial, Ent.trans (Ent.freezeArrAt (i := 0) (j := 0) (townC t (mensV (vilL p L)) (tiesV [])) rfl rfl ⟨.inl rfl, .inl rfl, .inl rfl, .inl rfl, .inr ⟨by simp [vilL], rfl⟩, .inl rfl, trivial⟩) (Ent.el ⟨rfl, rfl, rfl, rfl, rfl, trivial⟩)⟩
      rw [hLl, decide_eq_true_eq] at hc
      have hii : i < L.length := by omega
      refine LWp.blockX (fun _ : Unit => True) (fun _ => el (E0 t p x b7 [(17, I i)])) (fun _ => [(bA, .arr 49 5 cap ((vilS p L (i + 1)).map Men.enc)), (b7, .cells 29 (townC t (.so bA (L.map Men.enc).length cap) (tiesV [])))]) (fun _ => []) ?_ ?_
      · refine LWp.shx (gs := []) (hs := []) rfl ⟨by omega, trivial⟩ ?_
        refine LWp.block ?_
        refine LWp.loopN (fun k : Nat => i < k ∧ k ≤ L.length) (fun k => el (E0 t p x b7 [(17, I i), (18, I k)])) (fun k => [(bA, .arr 49 5 cap ((vilI p L i k).map Men.enc)), (b7, .cells 29 (townC t (.so bA (L.map Men.enc).length cap) (tiesV [])))]) (fun _ => []) (fun k => L.length - k) (i + 1) (by omega) (by rw [vilI_first]; exact Ent.el ⟨rfl, rfl, rfl, rfl, rfl, rfl, rfl, trivial⟩) ?_
        rintro k ⟨hik, hk⟩
        refine LWp.seq (LWp.seq ?_)
        refine LWp.hx (gs := []) (hs := [.at 1]) rfl ⟨rfl, trivial⟩ ?_
        refine LWp.ite rfl (fun hc => LWp.skip ?_) (fun hc => ?_)
        case refine_2 =>
          rw [hLl, decide_eq_false_iff_not] at hc
          have e : k = L.length := by omega
          subst e
          rw [vilI_last]
          exact LWp.exit ⟨(), trivial, Ent.el ⟨rfl, rfl, rfl, rfl, rfl, rfl, trivial⟩⟩
        rw [hLl, decide_eq_true_eq] at hc
        have hkk : k < L.length := by omega
        obtain ⟨s1, s2, s3⟩ := vilI_step (p := p) hik hkk
        refine LWp.blockX (fun _ : Unit => True) (fun _ => el (E0 t p x b7 [(17, I i), (18, I k)])) (fun _ => [(bA, .arr 49 5 cap ((vilI p L i (k + 1)).map Men.enc)), (b7, .cells 29 (townC t (.so bA (L.map Men.enc).length cap) (tiesV [])))]) (fun _ => []) ?_ ?_
        · rw [s3]
          have vl := vilI_len p L i k
          generalize vilI p L i k = V at s1 s2 vl
          have gi : (V.map Men.enc)[i]? = some (mAt V i).enc := mAt_enc (by omega)
          have gk : (V.map Men.enc)[k]? = some (mAt V k).enc := mAt_enc (by omega)
          rw [s1] at gk
          generalize mAt V i = mi at gi s2
          generalize mAt L k = mk at gk
          have q1 := hpg i (by omega)
          have q2 := hpg k (by omega)
          have hVl : (V.map Men.enc).length = L.length := by rw [List.length_map]; exact vl
          have hLN : (L.map Men.enc).length = L.length := by simp
          refine LWp.seq ?_
          by_cases c1 : per p k = per p i
          case neg =>
            have z1 : (((per p k : Nat) : Int) == ((per p i : Nat) : Int)) = false := by rw [beq_eq_false_iff_ne]; omega
            rw [if_neg (fun h => c1 h.1)]
            refine LWp.dd (gs := [(212, false), (221, false)]) (hs := [.cells [I (per p k : Nat)], .cells [I (per p i : Nat)]]) hmix rfl (by kernel_rfl) (by (repeat' (with_reducible apply And.intro)); (all_goals first | (with_reducible exact trivial) | (with_reducible rfl) | (with_reducible assumption) | ((with_reducible apply isB); first | exact rfl | exact beq_self_eq_true _) | omega | ((first | exact q1 | exact q2 | ((with_reducible apply isB); exact z1))))) ?_
            exact LWp.ite (b := false) rfl (fun h => by cases h) (fun _ => LWp.skip ⟨(), trivial, Ent.el ⟨rfl, rfl, rfl, rfl, rfl, rfl, rfl, trivial⟩⟩)
          have z1 : (((per p k : Nat) : Int) == ((per p i : Nat) : Int)) = true := by rw [beq_iff_eq]; omega
          by_cases c2 : mi.v = -1
          · have z2 : (mi.v != -1) = false := by rw [bne_eq_false_iff_eq]; exact c2
            rw [if_neg (fun h => h.2.1 c2)]
            refine LWp.dd (gs := [(212, true), (221, false)]) (hs := [.cells [I (per p k : Nat)], .cells [I (per p i : Nat)], .at 1, .elt 0 i 1 mi.enc]) hmix rfl (by kernel_rfl) (by (repeat' (with_reducible apply And.intro)); (all_goals first | (with_reducible exact trivial) | (with_reducible rfl) | (with_reducible assumption) | ((with_reducible apply isB); first | exact rfl | exact beq_self_eq_true _) | omega | ((first | exact q1 | exact q2 | exact gi | (rw [hLN]; omega) | ((with_reducible apply isB); first | exact z1 | exact z2) | (simp; done))))) ?_
            exact LWp.ite (b := false) rfl (fun h => by cases h) (fun _ => LWp.skip ⟨(), trivial, Ent.el ⟨rfl, rfl, rfl, rfl, rfl, rfl, rfl, trivial⟩⟩)
          have z2 : (mi.v != -1) = true := by rw [bne_iff_ne]; exact c2
          refine LWp.dd (gs := [(212, true), (221, true)]) (hs := [.cells [I (per p k : Nat)], .cells [I (per p i : Nat)], .at 1, .elt 0 i 1 mi.enc, .at 1, .elt 0 k 1 mk.enc]) hmix rfl (by kernel_rfl) (by (repeat' (with_reducible apply And.intro)); (all_goals first | (with_reducible exact trivial) | (with_reducible rfl) | (with_reducible assumption) | ((with_reducible apply isB); first | exact rfl | exact beq_self_eq_true _) | omega | ((first | exact q1 | exact q2 | exact gi | exact gk | (rw [hLN]; omega) | ((with_reducible apply isB); first | exact z1 | exact z2) | (simp; done))))) ?_
          refine LWp.ite rfl (fun hv => ?_) (fun hv => ?_)
          · rw [if_pos ⟨c1, c2, bne_iff_ne.1 hv⟩, List.map_set]
            refine LWp.d (gs := []) (hs := [.at 1, .at 1, .elt 0 k 1 mk.enc]) hmix rfl (by kernel_rfl) (by (repeat' (with_reducible apply And.intro)); (all_goals first | rfl | trivial | exact gk | omega | (rw [hLN]; omega) | (simp; done))) ?_
            refine WOps.hd (gs := []) (hs := [.stE 0 i 1 mi.enc]) rfl ⟨⟨rfl, by simp, gi, rfl, rfl, rfl, (show 2 ≤ 5 by omega)⟩, trivial⟩ ?_
            exact ⟨(), trivial, Ent.el ⟨rfl, rfl, rfl, rfl, rfl, rfl, rfl, trivial⟩⟩
          · rw [if_neg (fun h => h.2.2 (bne_eq_false_iff_eq.1 hv))]
            exact LWp.skip ⟨(), trivial, Ent.el ⟨rfl, rfl, rfl, rfl, rfl, rfl, rfl, trivial⟩⟩
        · intro _ _
          refine LWp.hx (gs := []) (hs := []) rfl ⟨by omega, trivial⟩ ?_
          exact ⟨k + 1, by omega, by omega, Ent.el ⟨rfl, rfl, rfl, rfl, rfl, rfl, rfl, trivial⟩⟩
      · intro _ _
        refine LWp.hx (gs := []) (hs := []) rfl ⟨by omega, trivial⟩ ?_
        exact ⟨i + 1, by omega, by omega, Ent.el ⟨rfl, rfl, rfl, rfl, rfl, rfl, trivial⟩⟩
  intro _ _
  generalize vilL p L = V
  refine LWp.seq (LWp.seq ?_)
  refine LWp.x (gs := []) (hs := []) rfl trivial ?_
  refine LWp.blockT (fun _ : Unit => True) (fun _ => el (E0 t p x b7 [])) (fun _ => [(b7, .cells 29 (townC t (mensV V) (tiesV (t.ties.map (tieT p)))))]) (fun _ => []) ?_ ?_
  · refine LWp.loopN (fun j : Nat => j ≤ t.ties.length) (fun j => el (E0 t p x b7 [(19, I j)])) (fun j => [(b7, .cells 29 (townC t (mensV V) (tiesV ((t.ties.take j).map (tieT p)))))]) (fun _ => []) (fun j => t.ties.length - j) 0 (by omega) (Ent.el ⟨rfl, rfl, rfl, rfl, rfl, rfl, trivial⟩) ?_
    intro j hj
    refine LWp.seq (LWp.seq ?_)
    refine LWp.x (gs := []) (hs := []) rfl trivial ?_
    refine LWp.ite rfl (fun hc => LWp.skip ?_) (fun hc => ?_)
    case refine_2 =>
      rw [htl, decide_eq_false_iff_not] at hc
      have e : j = t.ties.length := by omega
      subst e
      rw [List.take_length]
      exact LWp.exit ⟨(), trivial, Ent.el ⟨rfl, rfl, rfl, rfl, rfl, trivial⟩⟩
    rw [htl, decide_eq_true_eq] at hc
    have hjj : j < t.ties.length := by omega
    obtain ⟨y, hy⟩ := ex_get hjj
    obtain ⟨y1, y2, y3, y4, _⟩ := hO.tie y (List.mem_of_getElem? hy)
    have htk : t.ties.take (j + 1) = t.ties.take j ++ [y] := by rw [List.take_add_one, hy]; rfl
    have htkl : ((t.ties.take j).map (tieT p)).length ≤ 4 := by rw [List.length_map, List.length_take]; omega
    refine LWp.blockX (fun _ : Unit => True) (fun _ => el (E0 t p x b7 [(19, I j)])) (fun _ => [(b7, .cells 29 (townC t (mensV V) (tiesV ((t.ties.take (j + 1)).map (tieT p)))))]) (fun _ => []) ?_ ?_
    · rw [htk, List.map_append]
      generalize (t.ties.take j).map (tieT p) = Y at htkl
      refine LWp.sx (gs := []) (hs := [.cells y.enc, .lin]) rfl ⟨⟨by omega, by simp [hy]⟩, rfl, ⟨rfl, rfl, rfl, Nat.le_refl 3⟩, trivial⟩ ?_
      refine LWp.shareB (t := 20) rfl fun b20 => ?_
      refine LWp.seq ?_
      refine LWp.d (gs := []) (hs := [.at 0, .cells [I (per p y.a.toNat : Nat)], .at 0, .cells [I (per p y.b.toNat : Nat)]]) hmix rfl (by kernel_rfl) ⟨rfl, ⟨y1, hpg _ (by omega)⟩, rfl, ⟨y3, hpg _ (by omega)⟩, trivial⟩ ?_
      refine WOps.hd (gs := []) (hs := [.stO 0]) rfl ⟨⟨rfl, rfl, rfl, rfl, (show 3 ≤ 3 by omega)⟩, trivial⟩ ?_
      refine LWp.d (gs := []) (hs := [.lin, .at 1, .at 0, .ice]) hmix rfl (by kernel_rfl) (by (repeat' (with_reducible apply And.intro)); (all_goals first | rfl | trivial | (simp [chunk] at htkl ⊢ <;> omega))) ?_
      refine WOps.ent (Ent.freezeLin (t := 271) rfl) ?_
      refine WOps.hd (gs := []) (hs := [.stO 1]) rfl ⟨⟨rfl, rfl, rfl, rfl, (show 6 ≤ 6 by omega)⟩, trivial⟩ ?_
      refine ⟨(), trivial, Ent.trans (Ent.dropH 0) (Ent.trans (Ent.ofH ?_) (Ent.el ⟨rfl, rfl, rfl, rfl, rfl, rfl, trivial⟩))⟩
      have e1 : (tieT p y).enc = [I y.a, I y.b, B (((per p y.a.toNat : Nat) : Int) == ((per p y.b.toNat : Nat) : Int))] := by rw [natBeq]; rfl
      simp only [tiesV, List.map_append, List.map_cons, List.map_nil, e1]
      rfl
    · intro _ _
      refine LWp.x (gs := []) (hs := []) rfl ⟨by omega, trivial⟩ ?_
      exact ⟨j + 1, by omega, by omega, Ent.el ⟨rfl, rfl, rfl, rfl, rfl, rfl, trivial⟩⟩
  intro _ _
  refine LWp.shx (gs := []) (hs := [.at 0]) rfl ⟨rfl, ⟨rfl, rfl, rfl, Nat.le_refl 6⟩, trivial⟩ ?_
  refine LWp.ent (Ent.freezeLbox (t := 6) rfl) (LWp.ret ⟨.inr rfl, _, rfl, .one (.cellI (n := some 6) (cs := townC t (mensV V) (tiesV (t.ties.map (tieT p)))) (upd_same _ _ _) (by kernel_rfl) rfl)⟩)
end Go.Px

namespace Go.Px
open Go.Proofs Go.MapKept
set_option maxRecDepth 10000 in
set_option maxHeartbeats 2000000 in
theorem personTrue_ev (t : Town) (hw : t.wf) (w : Int) (h0 : 0 ≤ w) (h0' : w ≤ 255) (x : List UInt8) : Ev Tryz.prog 7 [.agg t.enc, U w, bytes x] (B true) := by
  have ev := lvalid3_ev t hw
  refine Ev.intro fn7 ?_
  refine LWp.sx (gs := []) (hs := [.ice]) rfl ⟨⟨rfl, rfl⟩, trivial⟩ ?_
  refine LWp.seq (LWp.seq ?_)
  by_cases hE : townE t = 0
  case neg =>
    rw [show (townE t == 0) = false by rw [beq_eq_false_iff_ne]; exact hE] at ev
    have ef := pfirst_ev t hw
    rcases first_any t with ⟨hS, _⟩ | ⟨hS, hf, _⟩
    · exact absurd (someE_zero.1 hS).1 hE
    rw [hf] at ef
    generalize someE t (townE t) = e at ef hS
    have he : (e != 0) = true := by rw [bne_iff_ne]; exact hS
    refine LWp.x (gs := []) (hs := [.ret (B false)]) rfl ⟨ev, trivial⟩ ?_
    refine LWp.ite (b := true) rfl (fun _ => ?_) (fun h => by cases h)
    refine LWp.sx (gs := []) (hs := [.ret (.tup [ints [], I 0, I e])]) rfl ⟨ef, trivial⟩ ?_
    refine LWp.sx (gs := [(34, true)]) (hs := [.ret (B true)]) rfl (by (repeat' (with_reducible apply And.intro)); (all_goals first | (with_reducible exact trivial) | (with_reducible rfl) | (with_reducible assumption) | ((with_reducible apply isB); first | exact rfl | exact beq_self_eq_true _) | omega | ((first | exact awake3_ev | ((with_reducible apply isB); exact he))))) ?_
    refine LWp.ret (retT (.inr rfl) (.one (.tmp ?_ rfl)))
    rfl
  rw [show (townE t == 0) = true by rw [beq_iff_eq]; exact hE] at ev
  refine LWp.x (gs := []) (hs := [.ret (B true)]) rfl ⟨ev, trivial⟩ ?_
  refine LWp.ite (b := false) rfl (fun h => by cases h) (fun _ => LWp.skip ?_)
  obtain ⟨hO, h5⟩ := (townE_zero hw).1 hE
  have hmem := anyP_mem t.ms.length w
  have ean := any_ev t (by omega) w h0 h0'
  generalize anyP t.ms.length w = p at hmem ean
  have hg := groups_grp hmem
  obtain ⟨wd, d0, dS, dp, dW, dB⟩ := told_facts hw hE hmem x
  have eto := told_ev hO hg x
  have dl := toldT_len (t := t) (p := p) (x := x)
  have hpl := hg.len
  have hpg : ∀ k, k < t.ms.length → ((natI p).map fun x => [I x])[k]? = some [I (per p k : Nat)] := fun k hk => ints_get p (by omega)
  have hsm := small_of (by omega) hg
  have ecn := rcount3_ev hsm
  have hln : (((natI p).map fun x => [I x]).length : Int) = t.ms.length := by simp [natI, hpl]
  generalize toldT t p x = d at *
  obtain ⟨p0, _, _, _, _, p1⟩ := persons_in wd dS
  have epe := ppersons_ev d wd
  have ewr := pwrong_ev d wd
  have ein := inside_ev (cnt p : Nat) (personsT d).1
  obtain ⟨q1, q2⟩ := p1 p dp
  rw [decide_eq_true q1, decide_eq_true q2] at ein
  rw [p0] at epe
  rw [dW] at ewr
  generalize (personsT d).1 = s at epe ein
  refine LWp.sx (gs := []) (hs := [.ret (ints (natI p))]) rfl ⟨ean, trivial⟩ ?_
  refine LWp.sx (gs := []) (hs := [.ret (.agg d.enc), .lin]) rfl ⟨eto, rfl, ⟨rfl, rfl, rfl, Nat.le_refl 6⟩, trivial⟩ ?_
  refine LWp.ent (Ent.freezeLbox (t := 11) rfl) ?_
  refine LWp.sx (gs := []) (hs := [.ret (.tup [.agg (sp2 s), I 0]), .lin]) rfl ⟨epe, rfl, ⟨rfl, rfl, rfl, Nat.le_refl 2⟩, trivial⟩ ?_
  refine LWp.ent (Ent.freezeLbox (t := 12) rfl) ?_
  refine LWp.sx (gs := []) (hs := [.ret (.tup [ints [], I 0])]) rfl ⟨ewr, trivial⟩ ?_
  refine LWp.seq (LWp.seq ?_)
  refine LWp.dd (gs := [(56, false), (60, false), (65, false)]) (hs := [.ret (I (cnt p : Nat)), .ret (B true)]) hmix rfl (by kernel_rfl) (by (repeat' (with_reducible apply And.intro)); (all_goals first | (with_reducible exact trivial) | (with_reducible rfl) | (with_reducible assumption) | ((with_reducible apply isB); first | exact rfl | exact beq_self_eq_true _) | omega | ((first | exact ecn | exact ein)))) ?_
  refine LWp.ite (b := false) rfl (fun h => by cases h) (fun _ => LWp.skip ?_)
  refine LWp.seq (LWp.seq ?_)
  refine LWp.x (gs := []) (hs := []) rfl trivial ?_
  refine LWp.blockT (fun _ : Unit => True) (fun _ => el []) (fun _ => []) (fun _ => []) ?_ ?_
  · refine LWp.loopN (fun a : Nat => a ≤ t.ms.length) (fun a => el [(2, bytes x), (10, ints (natI p)), (11, .pi d.enc), (16, I a)]) (fun _ => []) (fun _ => []) (fun a => t.ms.length - a) 0 (by omega) (Ent.el ⟨rfl, rfl, rfl, rfl, trivial⟩) ?_
    intro a ha
    refine LWp.seq (LWp.seq ?_)
    refine LWp.x (gs := []) (hs := []) rfl trivial ?_
    refine LWp.ite rfl (fun hc => LWp.skip ?_) (fun hc => LWp.exit ⟨(), trivial, Ent.el trivial⟩)
    rw [hln, decide_eq_true_eq] at hc
    have haa : a < t.ms.length := by omega
    refine LWp.blockX (fun _ : Unit => True) (fun _ => el [(2, bytes x), (10, ints (natI p)), (11, .pi d.enc), (16, I a)]) (fun _ => []) (fun _ => []) ?_ ?_
    · obtain ⟨b0, b1, b2⟩ := dB a haa
      have ebo := pborn_ev d wd (a : Nat)
      rw [b0] at ebo
      have ebi := inside_ev (yearF (per p a) x) (bornT d (a : Nat)).1
      rw [decide_eq_true b1, decide_eq_true b2] at ebi
      generalize (bornT d (a : Nat)).1 = bs at ebo ebi
      have eye := year_ev x (per p a)
      have ga := hpg a haa
      refine LWp.sx (gs := []) (hs := [.ret (.tup [.agg (sp2 bs), I 0]), .lin]) rfl ⟨ebo, rfl, ⟨rfl, rfl, rfl, Nat.le_refl 2⟩, trivial⟩ ?_
      refine LWp.ent (Ent.freezeLbox (t := 17) rfl) ?_
      refine LWp.seq (LWp.seq ?_)
      refine LWp.dd (gs := [(86, false)]) (hs := [.cells [I (per p a : Nat)], .ret (I (yearF (per p a) x)), .ret (B true)]) hmix rfl (by kernel_rfl) (by (repeat' (with_reducible apply And.intro)); (all_goals first | (with_reducible exact trivial) | (with_reducible rfl) | (with_reducible assumption) | ((with_reducible apply isB); first | exact rfl | exact beq_self_eq_true _) | omega | ((first | exact ga | exact eye | exact ebi)))) ?_
      refine LWp.ite (b := false) rfl (fun h => by cases h) (fun _ => LWp.skip ?_)
      refine LWp.seq ?_
      refine LWp.x (gs := []) (hs := []) rfl trivial ?_
      refine LWp.block ?_
      refine LWp.loopN (fun b : Nat => b ≤ a) (fun b => el [(2, bytes x), (10, ints (natI p)), (11, .pi d.enc), (16, I a), (19, I b)]) (fun _ => []) (fun _ => []) (fun b => a - b) 0 (by omega) (Ent.el ⟨rfl, rfl, rfl, rfl, rfl, trivial⟩) ?_
      intro b hb
      refine LWp.seq (LWp.seq ?_)
      refine LWp.x (gs := []) (hs := []) rfl trivial ?_
      refine LWp.ite rfl (fun hc => LWp.skip ?_) (fun hc => LWp.exit ⟨(), trivial, Ent.el ⟨rfl, rfl, rfl, rfl, trivial⟩⟩)
      rw [decide_eq_true_eq] at hc
      have hba : b < a := by omega
      refine LWp.blockX (fun _ : Unit => True) (fun _ => el [(2, bytes x), (10, ints (natI p)), (11, .pi d.enc), (16, I a), (19, I b)]) (fun _ => []) (fun _ => []) ?_ ?_
      · have esa := psame_ev d wd (a : Nat) (b : Nat)
        have m0 : (sameT d (a : Nat) (b : Nat)).2 = 0 := by rw [same_ok dS (by omega) (by omega) (by omega)]
        have m1 := same_must dS (a := a) (b := b) (by omega) (by omega) (by omega)
        have m2 := same_never dS (a := a) (b := b) (by omega) (by omega) (by omega)
        rw [m0] at esa
        generalize (sameT d (a : Nat) (b : Nat)).1 = m at esa m1 m2
        have m1 : m = 1 → per p a = per p b := fun h => m1.1 h p dp
        have m2 : m = 2 → per p a ≠ per p b := fun h => m2.1 h p dp
        have gb := hpg b (by omega)
        refine LWp.sx (gs := []) (hs := [.ret (.tup [I m, I 0])]) rfl ⟨esa, trivial⟩ ?_
        refine LWp.sd (gs := []) (hs := [.cells [I (per p a : Nat)], .cells [I (per p b : Nat)]]) hmix rfl (by kernel_rfl) ⟨⟨by omega, ga⟩, ⟨by omega, gb⟩, trivial⟩ ?_
        refine LWp.seq ?_
        by_cases c1 : m = 1
        · subst c1
          have z : (((per p a : Nat) : Int) == ((per p b : Nat) : Int)) = true := by rw [beq_iff_eq]; have := m1 rfl; omega
          refine LWp.x (gs := [(120, false), (123, true), (128, false), (131, false)]) (hs := []) rfl (by (repeat' (with_reducible apply And.intro)); (all_goals first | (with_reducible exact trivial) | (with_reducible rfl) | (with_reducible assumption) | ((with_reducible apply isB); first | exact rfl | exact beq_self_eq_true _) | omega | (((with_reducible apply isB); first | rfl | (rw [z]; rfl))))) ?_
          exact LWp.ite (b := false) rfl (fun h => by cases h) (fun _ => LWp.skip ⟨(), trivial, Ent.el ⟨rfl, rfl, rfl, rfl, rfl, trivial⟩⟩)
        have z1 : (m == 1) = false := by rw [beq_eq_false_iff_ne]; exact c1
        by_cases c2 : m = 2
        · subst c2
          have z : (((per p a : Nat) : Int) == ((per p b : Nat) : Int)) = false := by rw [beq_eq_false_iff_ne]; have := m2 rfl; omega
          refine LWp.x (gs := [(120, false), (123, false), (128, false), (131, true)]) (hs := []) rfl (by (repeat' (with_reducible apply And.intro)); (all_goals first | (with_reducible exact trivial) | (with_reducible rfl) | (with_reducible assumption) | ((with_reducible apply isB); first | exact rfl | exact beq_self_eq_true _) | omega | (((with_reducible apply isB); first | rfl)))) ?_
          exact LWp.ite (b := false) (congrArg B z) (fun h => by cases h) (fun _ => LWp.skip ⟨(), trivial, Ent.el ⟨rfl, rfl, rfl, rfl, rfl, trivial⟩⟩)
        have z2 : (m == 2) = false := by rw [beq_eq_false_iff_ne]; exact c2
        refine LWp.x (gs := [(120, false), (123, false), (128, false), (131, false)]) (hs := []) rfl (by (repeat' (with_reducible apply And.intro)); (all_goals first | (with_reducible exact trivial) | (with_reducible rfl) | (with_reducible assumption) | ((with_reducible apply isB); first | exact rfl | exact beq_self_eq_true _) | omega | (((with_reducible apply isB); first | exact z1 | exact z2)))) ?_
        exact LWp.ite (b := false) rfl (fun h => by cases h) (fun _ => LWp.skip ⟨(), trivial, Ent.el ⟨rfl, rfl, rfl, rfl, rfl, trivial⟩⟩)
      · intro _ _
        refine LWp.x (gs := []) (hs := []) rfl ⟨by omega, trivial⟩ ?_
        exact ⟨b + 1, by omega, by omega, Ent.el ⟨rfl, rfl, rfl, rfl, rfl, trivial⟩⟩
    · intro _ _
      refine LWp.x (gs := []) (hs := []) rfl ⟨by omega, trivial⟩ ?_
      exact ⟨a + 1, by omega, by omega, Ent.el ⟨rfl, rfl, rfl, rfl, trivial⟩⟩
  · intro _ _
    refine LWp.sx (gs := []) (hs := [.ret (B true)]) rfl ⟨awake3_ev, trivial⟩ ?_
    refine LWp.ret (retT (.inr rfl) (.one (.tmp ?_ rfl)))
    rfl
end Go.Px

