/- The sink: the law Fenced, its first loop. -/
import Derived.Test.YtjdbmfipciadfaaSkG

namespace Go.Proofs.Ytjdbmfipciadfaa.A
open Go Go.Pt

theorem reach_out {s : Sk} {e : Int} : (reach s e).2.out = s.out ∧ (reach s e).2.vec = s.vec ∧ (reach s e).2.done.length ≤ s.done.length := by
  unfold reach; split
  · exact ⟨rfl, rfl, Nat.le_refl _⟩
  · split
    · exact ⟨rfl, rfl, Nat.zero_le _⟩
    · exact ⟨rfl, rfl, Nat.le_refl _⟩
theorem fen_out {s : Sk} {e : Int} : (fenF s e).2.out = s.out ∧ (fenF s e).2.vec = s.vec ∧ (fenF s e).2.done.length ≤ s.done.length := by
  unfold fenF; split
  · exact reach_out
  · exact ⟨rfl, rfl, Nat.le_refl _⟩
theorem named_out {s : Sk} {k : Int × Int} : (named s k).2.out = s.out ∧ (named s k).2.vec = s.vec ∧ (named s k).2.done.length ≤ s.done.length := by
  unfold named; split
  · exact reach_out
  · exact ⟨rfl, rfl, Nat.le_refl _⟩
theorem pre_out {n : Int} {s : Sk} {t : Txn} : (preF n s t).2.out = s.out ∧ (preF n s t).2.vec = s.vec ∧ (preF n s t).2.done.length ≤ s.done.length := by
  unfold preF; split
  · exact ⟨rfl, rfl, Nat.le_refl _⟩
  · have hr := reach_out (s := s) (e := t.e)
    split
    · exact hr
    · unfold preS
      split
      · exact hr
      · split
        · exact hr
        · split
          · exact hr
          · split
            · exact hr
            · exact hr
theorem abo_out {s : Sk} {k : Int × Int} : (aboF s k).2.out = s.out ∧ (aboF s k).2.vec = s.vec ∧ (aboF s k).2.done.length ≤ s.done.length := by
  unfold aboF
  have hr := named_out (s := s) (k := k)
  split
  · exact hr
  · split
    · exact hr
    · exact hr
theorem com_done {s : Sk} {k : Int × Int} : (comF s k).2.done.length ≤ s.done.length + 1 := by
  unfold comF
  have hr := (named_out (s := s) (k := k)).2.2
  split
  · omega
  · unfold comS
    split
    · show (named s k).2.done.length ≤ _; omega
    · split
      · show (named s k).2.done.length ≤ _; omega
      · split
        · show (named s k).2.done.length ≤ _; omega
        · show ((named s k).2.done ++ [k]).length ≤ _; simp; omega
theorem fen_pos {s : Sk} {e : Int} (h : (fenF s e).1 ≠ 1) : e ≤ MAXN := by
  unfold fenF at h
  by_cases hp : posB e = true
  · exact (posB_iff.1 hp).2
  · rw [if_neg hp] at h; exact absurd rfl h
theorem pre_pos {n : Int} {s : Sk} {t : Txn} (h : (preF n s t).1 ≠ 1) : t.e ≤ MAXN := by
  unfold preF at h
  cases hm : mayB n t with
  | false => rw [if_pos hm] at h; exact absurd rfl h
  | true => exact (posB_iff.1 (mayB_pos hm).1).2
theorem named_pos {s : Sk} {k : Int × Int} (h : (named s k).1 ≠ 1) : k.1 ≤ MAXN := by
  unfold named at h
  by_cases hp : posB k.1 = true ∧ posB k.2 = true
  · exact (posB_iff.1 hp.1).2
  · rw [if_neg hp] at h; exact absurd rfl h
theorem com_pos {s : Sk} {k : Int × Int} (h : (comF s k).1 ≠ 1) : k.1 ≤ MAXN := by
  unfold comF at h
  by_cases hn : (named s k).1 = 0
  · exact named_pos (by rw [hn]; simp)
  · rw [if_pos hn] at h; exact named_pos h
theorem abo_pos {s : Sk} {k : Int × Int} (h : (aboF s k).1 ≠ 1) : k.1 ≤ MAXN := by
  unfold aboF at h
  by_cases hn : (named s k).1 = 0
  · exact named_pos (by rw [hn]; simp)
  · rw [if_pos hn] at h; exact named_pos h
theorem f25_is {fuel p : Nat} {n fe : Int} {a b : List AV} {d q : List (AV × AV)} : f25 stdOps fuel p n fe a b d q = some (.v0 fe) := rfl

theorem f4_l0_is {a1 : List AV} : ∀ (d f fuel i : Nat) (l : List SOp) (p : Nat) (s : Sk), i + d = l.length → d < f → l.length < 2 ^ 60 → 4097 < fuel → (∀ o ∈ l, o.t.v.length < fuel ∧ o.t.v.length < 2 ^ 60) → Inv 2 s → s.fence ≤ MAXN →
    ∃ s' p', (Inv 2 s' ∧ s'.fence ≤ MAXN) ∧ s'.done.length ≤ s.done.length + d ∧ f4_l0 stdOps fuel (l.map SOp.av) a1 f p s.fence i s.fence (s.out.map Rec.av) (s.vec.map iav) (dM s.done) (pM s.pre) =
      some (.x1 s'.fence s'.fence (s'.out.map Rec.av) p' (s'.vec.map iav) (dM s'.done) (pM s'.pre)) := by
  intro d
  induction d with
  | zero =>
    intro f fuel i l p s h1 h2 h3 h4 h5 hi hb
    obtain ⟨f, rfl⟩ : ∃ g, f = g + 1 := ⟨f - 1, by omega⟩
    unfold f4_l0
    rw [len_av, ifB_f (lss_f (by omega))]
    exact ⟨s, p, ⟨hi, hb⟩, by omega, rfl⟩
  | succ d ih =>
    intro f fuel i l p s h1 h2 h3 h4 h5 hi hb
    obtain ⟨f, rfl⟩ : ∃ g, f = g + 1 := ⟨f - 1, by omega⟩
    have hil : i < l.length := by omega
    obtain ⟨hv1, hv2⟩ := h5 l[i] (List.getElem_mem hil)
    -- a call was made
    have step : ∀ (c : Int) (s1 : Sk) (p1 : Nat) (o1 : List Rec) (v1 : List Int) (K : Int → Option F4L0), Inv 2 s1 → s1.out = o1 → s1.vec = v1 → s1.done.length ≤ s.done.length + 1 → s1.fence = (if c = 1 then s.fence else max s.fence l[i].t.e) → (c ≠ 1 → l[i].t.e ≤ MAXN) →
        ∃ s' p', (Inv 2 s' ∧ s'.fence ≤ MAXN) ∧ s'.done.length ≤ s.done.length + (d + 1) ∧
        (ifB (stdOps.bnot (stdOps.cmp .eql c 1))
          (bindR (f25 stdOps fuel p1 2 s1.fence (o1.map Rec.av) (v1.map iav) (dM s1.done) (pM s1.pre)) fun r => match r with
            | .v0 r72 => ifB (stdOps.bnot (stdOps.cmp .eql r72 (stdOps.mx s.fence l[i].t.e))) (some (.x0 )) (f4_l0 stdOps fuel (l.map SOp.av) a1 f p1 (stdOps.mx s.fence l[i].t.e) (stdOps.ar .add .i64 i 1) s1.fence (o1.map Rec.av) (v1.map iav) (dM s1.done) (pM s1.pre)))
          (bindR (f25 stdOps fuel p1 2 s1.fence (o1.map Rec.av) (v1.map iav) (dM s1.done) (pM s1.pre)) fun r => match r with
            | .v0 r72 => ifB (stdOps.bnot (stdOps.cmp .eql r72 s.fence)) (some (.x0 )) (f4_l0 stdOps fuel (l.map SOp.av) a1 f p1 s.fence (stdOps.ar .add .i64 i 1) s1.fence (o1.map Rec.av) (v1.map iav) (dM s1.done) (pM s1.pre)))) =
        some (.x1 s'.fence s'.fence (s'.out.map Rec.av) p' (s'.vec.map iav) (dM s'.done) (pM s'.pre)) := by
      intro c s1 p1 o1 v1 K hi1 ho hv hdl hfe hcb
      subst ho hv
      have hb1 : s1.fence ≤ MAXN := by
        rw [hfe]
        split
        · exact hb
        · rename_i hc; have := hcb hc; omega
      obtain ⟨s', p', g1, g2, g3⟩ := ih f fuel (i + 1) l p1 s1 (by omega) (by omega) h3 h4 h5 hi1 hb1
      refine ⟨s', p', g1, by omega, ?_⟩
      rw [f25_is]
      have hmx : stdOps.mx s.fence l[i].t.e = max s.fence l[i].t.e := by simp only [stdOps]; first | rfl | omega | (split <;> omega)
      by_cases hc : c = 1
      · rw [if_pos hc] at hfe
        rw [ifB_f (by simp [stdOps, hc]), bindR_eq rfl]
        dsimp only
        rw [ifB_f (by simp [stdOps, hfe]), add1 (by omega), ← hfe]
        exact g3
      · rw [if_neg hc] at hfe
        rw [ifB_t (by simp [stdOps, hc]), bindR_eq rfl, hmx]
        dsimp only
        rw [ifB_f (by simp [stdOps, hfe]), add1 (by omega), ← hfe]
        exact g3
    unfold f4_l0
    rw [len_av, ifB_t (lss_t hil), ← len_av (f := SOp.av), inbR hil, getO hil]
    have nx : ∀ (c : Int), stdOps.cmp .eql l[i].d c = decide (l[i].d = c) := fun c => by simp [stdOps]; rfl
    rw [nx, nx, nx, nx]
    by_cases d0 : l[i].d = 0
    · rw [ifB_t (by simp [d0]), bindR_eq f24_is]
      have ho := fen_out (s := s) (e := l[i].t.e)
      exact step _ _ _ _ _ (fun _ => none) (hi.fenF _) ho.1 ho.2.1 (by omega) fen_fence fen_pos
    · rw [ifB_f (by simp [d0])]
      by_cases d1 : l[i].d = 1
      · rw [ifB_t (by simp [d1]), bindR_eq (f15_is hi (by omega) ⟨hv1, h4⟩ hv2)]
        have ho := pre_out (n := 2) (s := s) (t := l[i].t)
        exact step _ _ _ _ _ (fun _ => none) (hi.preF _) ho.1 ho.2.1 (by omega) pre_fence pre_pos
      · rw [ifB_f (by simp [d1])]
        by_cases d2 : l[i].d = 2
        · rw [ifB_t (by simp [d2]), bindR_eq (show f17 stdOps fuel _ _ _ _ _ _ = some (.v0 l[i].t.e l[i].t.i) from rfl)]
          dsimp only
          obtain ⟨p1, hp1⟩ := f16_is (fuel := fuel) (p := p) (k1 := l[i].t.e) (k2 := l[i].t.i) hi (by omega) h4
          rw [bindR_eq hp1]
          exact step _ _ _ _ _ (fun _ => none) (hi.comF _) rfl rfl com_done com_fence com_pos
        · rw [ifB_f (by simp [d2])]
          by_cases d3 : l[i].d = 3
          · rw [ifB_t (by simp [d3]), bindR_eq (show f17 stdOps fuel _ _ _ _ _ _ = some (.v0 l[i].t.e l[i].t.i) from rfl)]
            dsimp only
            rw [bindR_eq f22_is]
            have ho := abo_out (s := s) (k := (l[i].t.e, l[i].t.i))
            exact step _ _ _ _ _ (fun _ => none) (hi.aboF _) ho.1 ho.2.1 (by omega) abo_fence abo_pos
          · rw [ifB_f (by simp [d3]), add1 (by omega)]
            obtain ⟨s', p', g1, g2, g3⟩ := ih f fuel (i + 1) l p s (by omega) (by omega) h3 h4 h5 hi hb
            exact ⟨s', p', g1, by omega, g3⟩
end Go.Proofs.Ytjdbmfipciadfaa.A
