/- The sink: the law Once. -/
import Derived.Test.YtjdbmfipciadfaaSkJ

namespace Go.Proofs.Ytjdbmfipciadfaa.A
open Go Go.Pt

theorem reach_zero {s : Sk} {e : Int} (h : (reach s e).1 = 0) : (reach s e).2.fence = e := by
  unfold reach at h ⊢
  split at h
  · simp at h
  · rename_i h1
    rw [if_neg h1]
    split
    · rfl
    · show s.fence = e
      omega
theorem com_zero {s : Sk} {k : Int × Int} (h : (comF s k).1 = 0) : named (comF s k).2 k = (0, (comF s k).2) ∧ k ∈ (comF s k).2.done := by
  unfold comF at h ⊢
  by_cases h1 : (named s k).1 = 0
  · rw [if_neg (by simp [h1])] at h ⊢
    have hp : posB k.1 = true ∧ posB k.2 = true := by
      refine Classical.byContradiction fun hn => ?_
      unfold named at h1
      rw [if_neg hn] at h1
      simp at h1
    have hf : (named s k).2.fence = k.1 := by
      unfold named at h1 ⊢
      rw [if_pos hp] at h1 ⊢
      exact reach_zero h1
    have key : ∀ s' : Sk, s'.fence = k.1 → named s' k = (0, s') := by
      intro s' he
      unfold named
      rw [if_pos hp]
      unfold reach
      rw [if_neg (by omega), if_neg (by omega)]
    unfold comS at h ⊢
    by_cases hd : k ∈ (named s k).2.done
    · rw [if_pos hd] at h ⊢
      exact ⟨key _ hf, hd⟩
    · rw [if_neg hd] at h ⊢
      generalize (named s k).2.pre.find? (fun u => decide (k = u.key)) = q at h ⊢
      cases q with
      | none => simp at h
      | some t =>
        dsimp only at h ⊢
        by_cases hs : suitsE (named s k).2.out (named s k).2.vec t = 0
        · rw [if_neg (by simp [hs])]
          exact ⟨key _ hf, by simp⟩
        · rw [if_pos hs] at h
          exact absurd h hs
  · rw [if_pos h1] at h
    exact absurd h h1
theorem again_com {s : Sk} {k : Int × Int} (hn : named s k = (0, s)) (hd : k ∈ s.done) : comF s k = (0, s) := by
  unfold comF; rw [hn]; unfold comS; simp [hd]
theorem again_abo {s : Sk} {k : Int × Int} (hn : named s k = (0, s)) (hd : k ∈ s.done) : aboF s k = (5, s) := by
  unfold aboF; rw [hn]; simp [hd]
theorem again_pre {s : Sk} {t : Txn} (hm : mayB 2 t = true) (hn : named s (t.e, t.i) = (0, s)) (hd : (t.e, t.i) ∈ s.done) : preF 2 s t = (0, s) := by
  have hr : reach s t.e = (0, s) := by
    unfold named at hn
    rwa [if_pos (mayB_pos hm)] at hn
  unfold preF
  rw [if_neg (by simp [hm]), hr]
  unfold preS
  rw [if_neg (by simp), if_pos (show t.key ∈ s.done from hd)]

theorem f3_l0_is : ∀ (d f fuel i : Nat) (l : List SOp) (p : Nat) (s : Sk), i + d = l.length → d < f → l.length < 2 ^ 41 → l.length + 5000 < fuel → (∀ o ∈ l, o.t.v.length < fuel ∧ o.t.v.length < 2 ^ 60) → Inv 2 s → s.done.length ≤ i →
    f3_l0 stdOps fuel (l.map SOp.av) f p i s.fence (s.out.map Rec.av) (s.vec.map iav) (dM s.done) (pM s.pre) = some .x1 := by
  intro d
  induction d with
  | zero =>
    intro f fuel i l p s h1 h2 h3 h4 h5 hi hb
    obtain ⟨f, rfl⟩ : ∃ g, f = g + 1 := ⟨f - 1, by omega⟩
    unfold f3_l0
    rw [len_av, ifB_f (lss_f (by omega))]
  | succ d ih =>
    intro f fuel i l p s h1 h2 h3 h4 h5 hi hb
    obtain ⟨f, rfl⟩ : ∃ g, f = g + 1 := ⟨f - 1, by omega⟩
    have hil : i < l.length := by omega
    obtain ⟨hv1, hv2⟩ := h5 l[i] (List.getElem_mem hil)
    unfold f3_l0
    rw [len_av, ifB_t (lss_t hil), ← len_av (f := SOp.av), inbR hil, getO hil]
    have nx : ∀ (c : Int), stdOps.cmp .eql l[i].d c = decide (l[i].d = c) := fun c => by simp [stdOps]; rfl
    rw [nx, nx]
    by_cases d1 : l[i].d = 1
    · rw [ifB_t (by simp [d1]), bindR_eq (f15_is hi (by omega) ⟨hv1, by omega⟩ hv2)]
      dsimp only
      have ho := pre_out (n := 2) (s := s) (t := l[i].t)
      have g := ih f fuel (i + 1) l p (preF 2 s l[i].t).2 (by omega) (by omega) h3 h4 h5 (hi.preF _) (by omega)
      rw [ho.1, ho.2.1] at g
      rw [add1 (by omega)]
      exact g
    · rw [ifB_f (by simp [d1])]
      by_cases d2 : l[i].d = 2
      · rw [ifB_t (by simp [d2]), bindR_eq (show f17 stdOps fuel _ _ _ _ _ _ = some (.v0 l[i].t.e l[i].t.i) from rfl)]
        dsimp only
        obtain ⟨p1, hp1⟩ := f16_is (fuel := fuel) (p := p) (k1 := l[i].t.e) (k2 := l[i].t.i) hi (by omega) (by omega)
        rw [bindR_eq hp1]
        dsimp only
        have hi1 := hi.comF (l[i].t.e, l[i].t.i)
        have hd1 : (comF s (l[i].t.e, l[i].t.i)).2.done.length ≤ i + 1 := by have := com_done (s := s) (k := (l[i].t.e, l[i].t.i)); omega
        by_cases hc : (comF s (l[i].t.e, l[i].t.i)).1 = 0
        · obtain ⟨hn, hm⟩ := com_zero hc
          rw [ifB_f (by simp [stdOps, hc])]
          generalize (comF s (l[i].t.e, l[i].t.i)).2 = s1 at *
          have hv := cntB_len hi1.vec
          have hdp : (donesP s1).length = s1.done.length := by unfold donesP; rw [List.length_map, List.length_mergeSort]
          rw [bindR_eq (f18_is hi1 (by omega) (by omega) ⟨by omega, by omega⟩)]
          dsimp only
          rw [bindR_eq f19_two]
          dsimp only
          rw [bindR_eq (show f17 stdOps fuel _ _ _ _ _ _ = some (.v0 l[i].t.e l[i].t.i) from rfl)]
          dsimp only
          rw [bindR_eq f20_is]
          dsimp only
          rw [decide_eq_true hm, ifB_t (by simp [stdOps]), bindR_eq (show f17 stdOps fuel _ _ _ _ _ _ = some (.v0 l[i].t.e l[i].t.i) from rfl)]
          dsimp only
          obtain ⟨p2, hp2⟩ := f16_is (fuel := fuel) (p := p1) (k1 := l[i].t.e) (k2 := l[i].t.i) hi1 (by omega) (by omega)
          rw [again_com hn hm] at hp2
          rw [bindR_eq hp2]
          dsimp only
          rw [ifB_t (by simp [stdOps]), bindR_eq (f21_is hv1 hv2)]
          dsimp only
          have rest : ∀ b : Bool, (bindR (f17 stdOps fuel l[i].d l[i].t.e l[i].t.i l[i].t.b (l[i].t.r.map Rec.av) (l[i].t.v.map iav)) fun r => match r with
            | .v0 r159 r160 => bindR (f22 stdOps fuel p2 r159 r160 2 s1.fence (s1.out.map Rec.av) (s1.vec.map iav) (dM s1.done) (pM s1.pre)) fun r => match r with
              | .v0 r161 r162 r163 r164 => ifB (stdOps.bnot (stdOps.pick (stdOps.pick (stdOps.pick (stdOps.bnot true) true (stdOps.bnot (stdOps.cmp .eql 0 0))) true (stdOps.pick b (stdOps.bnot (stdOps.cmp .eql 0 0)) false)) true (stdOps.bnot (stdOps.cmp .eql r161 5))))
                (bindR (f18 stdOps fuel p2 2 r162 (s1.out.map Rec.av) (s1.vec.map iav) r163 r164) fun r => match r with
                  | .v0 r165 r166 r167 r168 r169 r170 r171 => bindR (f23 stdOps fuel r165 r166 r167 r168 r169 s1.fence (s1.out.map Rec.av) (s1.vec.map iav) ((donesP s1).map iav) ((presP s1).map Txn.av)) fun r => match r with
                    | .v0 r172 => ifB (stdOps.pick (stdOps.pick (stdOps.pick (stdOps.pick (stdOps.bnot true) true (stdOps.bnot (stdOps.cmp .eql 0 0))) true (stdOps.pick b (stdOps.bnot (stdOps.cmp .eql 0 0)) false)) true (stdOps.bnot (stdOps.cmp .eql r161 5))) true (stdOps.bnot r172))
                      (some (.x0 ))
                      (f3_l0 stdOps fuel (l.map SOp.av) f p2 (stdOps.ar .add .i64 i 1) r162 (s1.out.map Rec.av) (s1.vec.map iav) r170 r171))
                (some (.x0 ))) = some F3L0.x1 := by
            intro b
            rw [bindR_eq (show f17 stdOps fuel _ _ _ _ _ _ = some (.v0 l[i].t.e l[i].t.i) from rfl)]
            dsimp only
            have h22 := f22_is (fuel := fuel) (p := p2) (k1 := l[i].t.e) (k2 := l[i].t.i) (n := 2) (s := s1) (a := s1.out.map Rec.av) (b := s1.vec.map iav)
            rw [again_abo hn hm] at h22
            rw [bindR_eq h22]
            dsimp only
            rw [ifB_t (by cases b <;> simp [stdOps]), bindR_eq (f18_is hi1 (by omega) (by omega) ⟨by omega, by omega⟩)]
            dsimp only
            rw [bindR_eq (f23_self hi1.out (by omega) ⟨by omega, by omega⟩ (presP_small hi1).1 (presP_small hi1).2 (by omega))]
            dsimp only
            rw [ifB_f (by cases b <;> simp [stdOps]), add1 (by omega)]
            exact ih f fuel (i + 1) l p2 s1 (by omega) (by omega) h3 h4 h5 hi1 hd1
          cases hmb : mayB 2 l[i].t with
          | false => rw [ifB_f (by simp [stdOps])]; exact rest false
          | true =>
            have h15 := f15_is (fuel := fuel) (p := p2) (t := l[i].t) hi1 (by omega) ⟨hv1, by omega⟩ hv2
            rw [again_pre hmb hn hm] at h15
            rw [ifB_t (by simp [stdOps]), bindR_eq h15]
            dsimp only
            rw [ifB_t (by simp [stdOps])]
            exact rest true
        · rw [ifB_t (by simp [stdOps, hc]), add1 (by omega)]
          exact ih f fuel (i + 1) l p1 _ (by omega) (by omega) h3 h4 h5 hi1 hd1
      · rw [ifB_f (by simp [d2]), add1 (by omega)]
        exact ih f fuel (i + 1) l p s (by omega) (by omega) h3 h4 h5 hi (by omega)

theorem f3_is {fuel : Nat} {l : List SOp} (hf : l.length + 5000 < fuel) (hl : l.length < 2 ^ 41) (h5 : ∀ o ∈ l, o.t.v.length < fuel ∧ o.t.v.length < 2 ^ 60) : f3 stdOps fuel (l.map SOp.av) = some (.v0 true) := by
  unfold f3
  rw [bindR_eq (f13_is (by omega))]
  dsimp only
  rw [ifB_f (by simp [stdOps]), bindR_eq f14_two]
  dsimp only
  have h0 := f3_l0_is l.length fuel fuel 0 l 0 newS (by omega) (by omega) hl hf h5 inv_new (by simp [newS])
  change f3_l0 stdOps fuel _ fuel 0 0 0 [] ([0, 0].map iav) [] [] = _ at h0
  rw [ifB_f (by simp [stdOps]), bindR_eq h0]
end Go.Proofs.Ytjdbmfipciadfaa.A
