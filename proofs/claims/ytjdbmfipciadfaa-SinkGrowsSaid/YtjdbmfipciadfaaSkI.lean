/- The sink: the law Fenced, its second loop. -/
import Derived.Test.YtjdbmfipciadfaaSkH

namespace Go.Proofs.Ytjdbmfipciadfaa.A
open Go Go.Pt

theorem low_named {s : Sk} {k : Int × Int} (hb : s.fence ≤ MAXN) (h : k.1 < s.fence) (h1 : 1 ≤ k.1) (h2 : 1 ≤ k.2) (h3 : k.2 ≤ MAXN) : named s k = (150, s) := by
  unfold named
  rw [if_pos ⟨posB_iff.2 ⟨h1, by omega⟩, posB_iff.2 ⟨h2, h3⟩⟩]
  unfold reach
  rw [if_pos h]
theorem low_com {s : Sk} {k : Int × Int} (hn : named s k = (150, s)) : comF s k = (150, s) := by
  unfold comF; rw [hn]; rfl
theorem low_abo {s : Sk} {k : Int × Int} (hn : named s k = (150, s)) : aboF s k = (150, s) := by
  unfold aboF; rw [hn]; rfl
theorem low_pre {s : Sk} {t : Txn} (hm : mayB 2 t = true) (h : t.e < s.fence) : preF 2 s t = (150, s) := by
  unfold preF
  rw [if_neg (by simp [hm])]
  have : reach s t.e = (150, s) := by unfold reach; rw [if_pos h]
  rw [this]; rfl

theorem f4_l1_is {r212 r217 : Int} {r213 r214 r215 r216 r218 r219 r220 r221 : List AV} : ∀ (d f fuel i : Nat) (l : List SOp) (p : Nat) (s : Sk), i + d = l.length → d < f → l.length < 2 ^ 60 → 4097 < fuel → (∀ o ∈ l, o.t.v.length < fuel ∧ o.t.v.length < 2 ^ 60) → Inv 2 s → s.fence ≤ MAXN →
    ∃ p', f4_l1 stdOps fuel (l.map SOp.av) s.fence 2 r212 r213 r214 r215 r216 r217 r218 r219 r220 r221 f p i s.fence (s.out.map Rec.av) (s.vec.map iav) (dM s.done) (pM s.pre) =
      some (.x1 s.fence (s.out.map Rec.av) p' (s.vec.map iav) (dM s.done) (pM s.pre)) := by
  intro d
  induction d with
  | zero =>
    intro f fuel i l p s h1 h2 h3 h4 h5 hi hb
    obtain ⟨f, rfl⟩ : ∃ g, f = g + 1 := ⟨f - 1, by omega⟩
    unfold f4_l1
    rw [len_av, ifB_f (lss_f (by omega))]
    exact ⟨p, rfl⟩
  | succ d ih =>
    intro f fuel i l p s h1 h2 h3 h4 h5 hi hb
    obtain ⟨f, rfl⟩ : ∃ g, f = g + 1 := ⟨f - 1, by omega⟩
    have hil : i < l.length := by omega
    obtain ⟨hv1, hv2⟩ := h5 l[i] (List.getElem_mem hil)
    have go := fun p => ih f fuel (i + 1) l p s (by omega) (by omega) h3 h4 h5 hi hb
    unfold f4_l1
    rw [len_av, ifB_t (lss_t hil), ← len_av (f := SOp.av), inbR hil, getO hil]
    have hc : stdOps.pick (stdOps.pick (stdOps.pick (stdOps.cmp .geq l[i].t.e s.fence) true (stdOps.cmp .lss l[i].t.e 1)) true (stdOps.cmp .lss l[i].t.i 1)) true (stdOps.cmp .gtr l[i].t.i 9007199254740992) =
        decide (s.fence ≤ l[i].t.e ∨ l[i].t.e < 1 ∨ l[i].t.i < 1 ∨ 9007199254740992 < l[i].t.i) := by
      simp only [stdOps]
      by_cases a1 : s.fence ≤ l[i].t.e <;> by_cases a2 : l[i].t.e < 1 <;> by_cases a3 : l[i].t.i < 1 <;> by_cases a4 : 9007199254740992 < l[i].t.i <;> simp [a1, a2, a3, a4]
    rw [hc]
    by_cases hs : s.fence ≤ l[i].t.e ∨ l[i].t.e < 1 ∨ l[i].t.i < 1 ∨ 9007199254740992 < l[i].t.i
    · rw [ifB_t (by simpa using hs), add1 (by omega)]
      exact go p
    · rw [ifB_f (by simpa using hs), bindR_eq (f21_is hv1 hv2)]
      dsimp only
      have hn : named s (l[i].t.e, l[i].t.i) = (150, s) := low_named hb (by show l[i].t.e < _; omega) (by show 1 ≤ l[i].t.e; omega) (by show 1 ≤ l[i].t.i; omega) (by show l[i].t.i ≤ _; unfold MAXN; omega)
      have rest : ∀ p1, ∃ p', (bindR (f17 stdOps fuel l[i].d l[i].t.e l[i].t.i l[i].t.b (l[i].t.r.map Rec.av) (l[i].t.v.map iav)) fun r => match r with
         | .v0 r182 r183 => bindR (f16 stdOps fuel p1 r182 r183 2 s.fence (s.out.map Rec.av) (s.vec.map iav) (dM s.done) (pM s.pre)) fun r => match r with
           | .v0 r184 r185 r186 r187 r188 r189 r190 => ifB (stdOps.bnot (stdOps.cmp .eql r184 150))
             (some (.x0 ))
             (bindR (f17 stdOps fuel l[i].d l[i].t.e l[i].t.i l[i].t.b (l[i].t.r.map Rec.av) (l[i].t.v.map iav)) fun r => match r with
              | .v0 r191 r192 => bindR (f22 stdOps fuel r187 r191 r192 2 r185 r186 r188 r189 r190) fun r => match r with
                | .v0 r193 r194 r195 r196 => ifB (stdOps.bnot (stdOps.cmp .eql r193 150))
                  (some (.x0 ))
                  (f4_l1 stdOps fuel (l.map SOp.av) s.fence 2 r212 r213 r214 r215 r216 r217 r218 r219 r220 r221 f r187 (stdOps.ar .add .i64 i 1) r194 r186 r188 r195 r196))) =
          some (F4L1.x1 s.fence (s.out.map Rec.av) p' (s.vec.map iav) (dM s.done) (pM s.pre)) := by
        intro p1
        rw [bindR_eq (show f17 stdOps fuel _ _ _ _ _ _ = some (.v0 l[i].t.e l[i].t.i) from rfl)]
        dsimp only
        obtain ⟨p2, hp2⟩ := f16_is (fuel := fuel) (p := p1) (k1 := l[i].t.e) (k2 := l[i].t.i) hi (by omega) h4
        rw [low_com hn] at hp2
        rw [bindR_eq hp2]
        dsimp only
        rw [ifB_f (by simp [stdOps]), bindR_eq (show f17 stdOps fuel _ _ _ _ _ _ = some (.v0 l[i].t.e l[i].t.i) from rfl)]
        dsimp only
        have h22 := f22_is (fuel := fuel) (p := p2) (k1 := l[i].t.e) (k2 := l[i].t.i) (n := 2) (s := s) (a := s.out.map Rec.av) (b := s.vec.map iav)
        rw [low_abo hn] at h22
        rw [bindR_eq h22]
        dsimp only
        rw [ifB_f (by simp [stdOps]), add1 (by omega)]
        exact go p2
      cases hm : mayB 2 l[i].t with
      | false => rw [ifB_f rfl]; exact rest p
      | true =>
        have h15 := f15_is (fuel := fuel) (p := p) (t := l[i].t) hi (by omega) ⟨hv1, h4⟩ hv2
        rw [low_pre hm (by omega)] at h15
        rw [ifB_t rfl, bindR_eq h15]
        dsimp only
        rw [ifB_f (by simp [stdOps])]
        exact rest p
end Go.Proofs.Ytjdbmfipciadfaa.A
