/- The sink: whatever comes to a sink; clones. -/
import Derived.Test.YtjdbmfipciadfaaTpH
import Derived.Test.YtjdbmfipciadfaaSxF10

namespace Go.Proofs.Ytjdbmfipciadfaa.A
open Go Go.Pt

/-! Whatever comes. -/
/-- What holds of a sink that was made new. -/
structure Inv2 (n : Int) (s : Sk) : Prop where
  inv : Inv n s
  lo : 0 ≤ s.fence
  hi : s.fence ≤ MAXN
  zero : s.fence = 0 → s.out = [] ∧ s.done = [] ∧ ∀ v ∈ s.vec, v ≤ 0
  apart : ∀ t ∈ s.pre, t.key ∉ s.done
theorem preS_fence {r : Sk} {t : Txn} : (preS r t).2.fence = r.fence := by
  unfold preS
  split
  · rfl
  · split
    · rfl
    · split
      · rfl
      · split <;> rfl
theorem comS_fence {r : Sk} {k : Int × Int} : (comS r k).2.fence = r.fence := by
  unfold comS
  split
  · rfl
  · split
    · rfl
    · split <;> rfl
theorem do_fence {n : Int} {s : Sk} {o : SOp} : doS n s o = s ∨ (posB o.t.e = true ∧ (doS n s o).fence = max s.fence o.t.e) := by
  have hr := (reach_fence (s := s) (e := o.t.e)).2
  have hnm : (named s o.key).2 = s ∨ (posB o.t.e = true ∧ (named s o.key).2.fence = max s.fence o.t.e) := by
    unfold named
    split
    · rename_i h
      exact .inr ⟨h.1, (reach_fence (s := s) (e := o.t.e)).2⟩
    · exact .inl rfl
  have hn1 : ¬ (posB o.key.1 = true ∧ posB o.key.2 = true) → named s o.key = (1, s) := fun h => if_neg h
  have hn2 : (posB o.key.1 = true ∧ posB o.key.2 = true) → posB o.t.e = true ∧ (named s o.key).2.fence = max s.fence o.t.e := fun h => by
    refine ⟨h.1, ?_⟩
    unfold named
    rw [if_pos h]; exact (reach_fence (s := s) (e := o.t.e)).2
  unfold doS
  split
  · unfold fenF
    split
    · rename_i h
      exact .inr ⟨h, hr⟩
    · exact .inl rfl
  · split
    · unfold preF
      by_cases hm : mayB n o.t = false
      · rw [if_pos hm]; exact .inl rfl
      · rw [if_neg hm]
        have hp := (mayB_pos (by simpa using hm : mayB n o.t = true)).1
        split
        · exact .inr ⟨hp, hr⟩
        · exact .inr ⟨hp, preS_fence.trans hr⟩
    · split
      · unfold comF
        by_cases hp : posB o.key.1 = true ∧ posB o.key.2 = true
        · obtain ⟨a, b⟩ := hn2 hp
          split
          · exact .inr ⟨a, b⟩
          · exact .inr ⟨a, comS_fence.trans b⟩
        · rw [hn1 hp]; exact .inl rfl
      · split
        · unfold aboF
          by_cases hp : posB o.key.1 = true ∧ posB o.key.2 = true
          · obtain ⟨a, b⟩ := hn2 hp
            split
            · exact .inr ⟨a, b⟩
            · split
              · exact .inr ⟨a, b⟩
              · exact .inr ⟨a, b⟩
          · rw [hn1 hp]; exact .inl rfl
        · exact .inl rfl
theorem erased {k : Int × Int} : ∀ {l : List Txn}, (l.map Txn.key).Nodup → ∀ t ∈ l.eraseP (fun u => decide (k = u.key)), t.key ≠ k
  | [], _, t, ht => by simp at ht
  | x :: l, h, t, ht => by
    rw [List.map_cons, List.nodup_cons] at h
    rw [List.eraseP_cons] at ht
    by_cases e : k = x.key
    · simp only [e, decide_true, if_true] at ht
      intro he
      exact h.1 (by rw [← e, ← he]; exact List.mem_map_of_mem ht)
    · simp only [e, decide_false, Bool.false_eq_true, if_false] at ht
      rcases List.mem_cons.1 ht with rfl | ht
      · exact fun he => e he.symm
      · exact erased h.2 t ht
theorem apart_reach {s : Sk} {e : Int} (h : ∀ t ∈ s.pre, t.key ∉ s.done) : ∀ t ∈ (reach s e).2.pre, t.key ∉ (reach s e).2.done := by
  unfold reach
  split
  · exact h
  · split
    · simp
    · exact h
theorem apart_named {s : Sk} {k : Int × Int} (h : ∀ t ∈ s.pre, t.key ∉ s.done) : ∀ t ∈ (named s k).2.pre, t.key ∉ (named s k).2.done := by
  unfold named
  split
  · exact apart_reach h
  · exact h
theorem apart_do {n : Int} {s : Sk} (hi : Inv n s) (o : SOp) (h : ∀ t ∈ s.pre, t.key ∉ s.done) : ∀ t ∈ (doS n s o).pre, t.key ∉ (doS n s o).done := by
  unfold doS
  split
  · unfold fenF
    split
    · exact apart_reach h
    · exact h
  · split
    · unfold preF
      split
      · exact h
      · split
        · exact apart_reach h
        · have hr := apart_reach (e := o.t.e) h
          generalize (reach s o.t.e).2 = r at *
          unfold preS
          split
          · exact hr
          · rename_i hd
            split
            · exact hr
            · split
              · exact hr
              · split
                · exact hr
                · intro t ht
                  rcases List.mem_append.1 ht with ht | ht
                  · exact hr t ht
                  · rw [List.mem_singleton.1 ht]; exact hd
    · split
      · unfold comF
        have hr := apart_named (k := o.key) h
        have hir := hi.named o.key
        split
        · exact hr
        · generalize (named s o.key).2 = r at *
          unfold comS
          split
          · exact hr
          · split
            · exact hr
            · split
              · exact hr
              · intro t ht hm
                rcases List.mem_append.1 hm with hm | hm
                · exact hr t (List.mem_of_mem_eraseP ht) hm
                · exact erased hir.pre.1 t ht (List.mem_singleton.1 hm)
      · split
        · unfold aboF
          have hr := apart_named (k := o.key) h
          split
          · exact hr
          · split
            · exact hr
            · exact fun t ht => hr t (List.mem_of_mem_eraseP ht)
        · exact h
theorem inv2_do {n : Int} {s : Sk} (h : Inv2 n s) (o : SOp) : Inv2 n (doS n s o) := by
  have ha := apart_do h.inv o h.apart
  rcases do_fence (n := n) (s := s) (o := o) with e | ⟨hp, hf⟩
  · rw [e]; exact h
  · have h1 := posB_iff.1 hp
    have := h.lo
    have := h.hi
    exact ⟨inv_do h.inv o, by rw [hf]; omega, by rw [hf]; omega, fun h0 => by rw [hf] at h0; omega, ha⟩
/-- What a clone is a clone of. -/
def Rf.kp (w : Rf) : Kp := ⟨w.fence, w.out, w.vec, w.done, w.pre⟩
theorem incB_of : ∀ {l : List Int} {a : Int}, l.Pairwise (· < ·) → (∀ x ∈ l, posB x = true ∧ a < x) → incB a l = true
  | [], _, _, _ => rfl
  | x :: l, a, h, hp => by
    rw [List.pairwise_cons] at h
    have h1 := hp x List.mem_cons_self
    simp only [incB, Bool.and_eq_true, decide_eq_true_eq]
    exact ⟨h1, incB_of h.2 fun y hy => ⟨(hp y (List.mem_cons_of_mem _ hy)).1, h.1 y hy⟩⟩
theorem incT_of {n fe : Int} {done : List Int} : ∀ {l : List Txn} {a : Int}, l.Pairwise (fun a b => a.i < b.i) → (∀ t ∈ l, mayB n t = true ∧ t.e = fe ∧ t.i ∉ done ∧ a < t.i) → incT n fe done a l = true
  | [], _, _, _ => rfl
  | x :: l, a, h, hp => by
    rw [List.pairwise_cons] at h
    obtain ⟨h1, h2, h3, h4⟩ := hp x List.mem_cons_self
    simp only [incT, Bool.and_eq_true, decide_eq_true_eq, Bool.not_eq_true', decide_eq_false_iff_not]
    exact ⟨⟨⟨⟨h1, h2⟩, h3⟩, h4⟩, incT_of h.2 fun y hy => by
      have := hp y (List.mem_cons_of_mem _ hy)
      exact ⟨this.1, this.2.1, this.2.2.1, h.1 y hy⟩⟩

theorem okK_of {n : Int} {s : Sk} {w : Rf} (hn : 1 ≤ n ∧ n ≤ 4) (h : Inv2 n s) (hr : RelS s w) : okK n ⟨s.fence, s.out, s.vec, w.done, w.pre⟩ := by
  have hi := h.inv
  have hdm : ∀ x ∈ w.done, (s.fence, x) ∈ s.done := fun x hx => by
    obtain ⟨k, hk, e⟩ := List.mem_map.1 (hr.dp.mem_iff.1 hx)
    have : k = (s.fence, x) := Prod.ext (hr.ep.1 k hk) e
    exact this ▸ hk
  refine ⟨hn, ⟨h.lo, h.hi⟩, hi.out, hi.vec, by show w.pre.length ≤ 8; rw [hr.pp.length_eq]; exact hi.pre.2.1, incB_of hr.ds fun x hx => ?_, incT_of hr.ps fun t ht => ?_, fun h0 => ?_⟩
  · have := (hi.done.2 _ (hdm x hx)).2
    exact ⟨this, by have := (posB_iff.1 this).1; omega⟩
  · have ht' := hr.pp.mem_iff.1 ht
    have hm := hi.pre.2.2 t ht'
    refine ⟨hm, hr.ep.2 t ht', fun hd => h.apart t ht' ?_, by have := (posB_iff.1 (mayB_pos hm).2).1; omega⟩
    have := hdm _ hd
    rw [show t.key = (s.fence, t.i) from Prod.ext (hr.ep.2 t ht') rfl]
    exact this
  · obtain ⟨a, b, c⟩ := h.zero h0
    exact ⟨a, by have := hr.dlen; rw [b] at this; exact List.eq_nil_of_length_eq_zero this, c⟩
/-- A clone. -/
def cloneS (s : Sk) (w : Rf) : Sk := ⟨s.fence, s.out, s.vec, w.done.map fun i => (s.fence, i), w.pre⟩
theorem clone_ok {n : Int} {s : Sk} {w : Rf} (hn : 1 ≤ n ∧ n ≤ 4) (h : Inv2 n s) (hr : RelS s w) : Inv2 n (cloneS s w) ∧ RelS (cloneS s w) w := by
  have ho := okK_of hn h hr
  obtain ⟨h1, h2⟩ := okK_rel ho
  have e : (⟨s.fence, s.out, s.vec, w.done, w.pre⟩ : Kp).rf = w := by
    obtain ⟨a, b, c, _, _, _, _, _⟩ := hr
    cases w
    simp only at a b c
    subst a b c
    rfl
  rw [e] at h2
  refine ⟨⟨h1, h.lo, h.hi, fun h0 => ?_, fun t ht hm => ?_⟩, h2⟩
  · obtain ⟨a, b, c⟩ := h.zero h0
    exact ⟨a, by have := hr.dlen; rw [b] at this; show w.done.map _ = []; rw [List.eq_nil_of_length_eq_zero this]; rfl, c⟩
  · obtain ⟨x, hx, ex⟩ := List.mem_map.1 hm
    have h3 := (incT_pos ho.2.2.2.2.2.2.1 t ht).2.2.1
    have : t.i = x := by
      have := congrArg Prod.snd ex
      exact this.symm
    exact h3 (this ▸ hx)
theorem f55_is {fuel p : Nat} {n : Int} {s : Sk} {w : Rf} (hn : 1 ≤ n ∧ n ≤ 4) (h : Inv2 n s) (hr : RelS s w) (hd : s.done.length < 2 ^ 41) (hf : 5000 < fuel ∧ s.done.length < fuel) :
    f55 stdOps fuel p n s.fence (s.out.map Rec.av) (s.vec.map iav) (dM s.done) (pM s.pre) =
      some (.v1 (dM s.done) (pM s.pre) s.fence (s.out.map Rec.av) s.out.length (s.vec.map iav) (dM (cloneS s w).done) (pM (cloneS s w).pre)) := by
  have hi := h.inv
  have hvl := cntB_len hi.vec
  have ho := hi.out
  have hdl := hr.dlen
  have hpl : w.pre.length ≤ 8 := by rw [hr.pp.length_eq]; exact hi.pre.2.1
  have hv : ∀ t ∈ w.pre, (t.v.length : Int) = n := fun t ht => cntB_len (mayB_cnt (hi.pre.2.2 t (hr.pp.mem_iff.1 ht)))
  unfold f55
  rw [bindR_eq f70_is]
  dsimp only
  rw [ifB_f rfl, bindR_eq (f18_is hi hn.2 (by omega) ⟨hf.2, by omega⟩)]
  dsimp only
  rw [donesP_eq hi hr, presP_eq hi hr]
  have hs : SmallK ⟨s.fence, s.out, s.vec, w.done, w.pre⟩ := ⟨by show s.out.length < _; omega, by show s.vec.length < _; omega, by show w.done.length < _; omega, by show w.pre.length < _; omega, fun t ht => by have := hv t ht; omega⟩
  have hfu : FuelK fuel ⟨s.fence, s.out, s.vec, w.done, w.pre⟩ := ⟨hf.1, by show s.vec.length < _; omega, by show w.done.length < _; omega, by show w.pre.length < _; omega, fun t ht => by have := hv t ht; omega⟩
  rcases f44_is (n := n) hs hfu with ⟨_, h1⟩ | ⟨hno, _⟩
  · have h1' : f44 stdOps fuel n s.fence (s.out.map Rec.av) (s.vec.map iav) (w.done.map iav) (w.pre.map Txn.av) = _ := h1
    rw [bindR_eq h1']
    rfl
  · exact absurd (okK_of hn h hr) hno

/-- One that is gone on with in its clone. -/
def nextS (n : Int) (s : Sk) (w : Rf) (o : SOp) : Sk := if o.d = 4 then cloneS (doS n s o) (doR n w o) else doS n s o
theorem f10_l0_is {n : Int} (hn : 1 ≤ n ∧ n ≤ 4) : ∀ (d f fuel i : Nat) (l : List SOp) (p : Nat) (s : Sk) (w : Rf), i + d = l.length → d < f → l.length < 2 ^ 41 → l.length + 6000 < fuel → (∀ o ∈ l, o.t.v.length < fuel ∧ o.t.v.length < 2 ^ 60) → Inv2 n s → RelS s w → s.done.length ≤ i →
    ∃ p' s' w', f10_l0 stdOps fuel (l.map SOp.av) n f p i s.fence (s.out.map Rec.av) (s.vec.map iav) w.fence (w.out.map Rec.av) (w.vec.map iav) (w.done.map iav) (w.pre.map Txn.av) (dM s.done) (pM s.pre) =
      some (.x1 s'.fence (s'.out.map Rec.av) p' (s'.vec.map iav) w'.fence (w'.out.map Rec.av) (w'.vec.map iav) (w'.done.map iav) (w'.pre.map Txn.av) (dM s'.done) (pM s'.pre)) ∧ Inv2 n s' ∧ RelS s' w' ∧ s'.done.length ≤ l.length := by
  intro d
  induction d with
  | zero =>
    intro f fuel i l p s w h1 h2 h3 h4 h5 hi hr hd
    obtain ⟨f, rfl⟩ : ∃ g, f = g + 1 := ⟨f - 1, by omega⟩
    refine ⟨p, s, w, ?_, hi, hr, by omega⟩
    unfold f10_l0
    rw [len_av, ifB_f (lss_f (by omega))]
  | succ d ih =>
    intro f fuel i l p s w h1 h2 h3 h4 h5 hi hr hd
    obtain ⟨f, rfl⟩ : ∃ g, f = g + 1 := ⟨f - 1, by omega⟩
    have hil : i < l.length := by omega
    obtain ⟨hv1, hv2⟩ := h5 l[i] (List.getElem_mem hil)
    have hi2 := inv2_do hi l[i]
    have hr2 := rel_do hr hi.inv l[i]
    have hd2 := done_do (n := n) (s := s) (o := l[i])
    unfold f10_l0
    rw [inbR hil, len_av, ifB_t (lss_t hil), getO hil]
    obtain ⟨p2, hp2⟩ := f27_is (fuel := fuel) (p := p) (o := l[i]) hi.inv hn.2 hr (by omega) ⟨hv1, by omega, by omega⟩ hv2
    rw [bindR_eq hp2]
    dsimp only
    rw [ifB_f (by simp [stdOps]), bindR_eq (f47_is hi2.inv hn.2 hr2 (by omega) ⟨by omega, by omega⟩)]
    dsimp only
    rw [ifB_f (by simp [stdOps]), add1 (by omega)]
    by_cases h4d : l[i].d = 4
    · obtain ⟨c1, c2⟩ := clone_ok hn hi2 hr2
      rw [ifB_t (by simp [stdOps, h4d]), bindR_eq (f55_is hn hi2 hr2 (by omega) ⟨by omega, by omega⟩)]
      dsimp only
      rw [bindR_eq (f24_is (e := 9007199254740992))]
      try dsimp only
      exact ih f fuel (i + 1) l _ (cloneS (doS n s l[i]) (doR n w l[i])) (doR n w l[i]) (by omega) (by omega) h3 h4 h5 c1 c2 (by
        show ((doR n w l[i]).done.map _).length ≤ _
        rw [List.length_map, hr2.dlen]; omega)
    · rw [ifB_f (by simp [stdOps, h4d])]
      exact ih f fuel (i + 1) l _ (doS n s l[i]) (doR n w l[i]) (by omega) (by omega) h3 h4 h5 hi2 hr2 (by omega)

def newSn (n : Int) : Sk := ⟨0, [], List.replicate n.toNat 0, [], []⟩
def newRn (n : Int) : Rf := ⟨0, [], List.replicate n.toNat 0, [], []⟩
theorem new_ok {n : Int} (hn : 1 ≤ n ∧ n ≤ 4) : Inv2 n (newSn n) ∧ RelS (newSn n) (newRn n) := by
  refine ⟨⟨⟨by simp [newSn], ?_, ⟨List.nodup_nil, by simp [newSn]⟩, List.nodup_nil, by simp [newSn], by simp [newSn]⟩, by simp [newSn], by simp [newSn, MAXN], fun _ => ⟨rfl, rfl, fun v hv => ?_⟩, by simp [newSn]⟩,
    rfl, rfl, rfl, ⟨by simp [newSn], by simp [newSn]⟩, List.Perm.nil, List.Pairwise.nil, List.Perm.nil, List.Pairwise.nil⟩
  · show cntB (List.replicate n.toNat 0) n = true
    simp only [cntB, List.length_replicate, Bool.and_eq_true, decide_eq_true_eq, Bool.not_eq_true']
    refine ⟨by omega, ?_⟩
    rw [List.any_eq_false]
    intro x hx
    rw [List.eq_of_mem_replicate hx]
    decide
  · have := List.eq_of_mem_replicate hv
    omega
theorem f10_is {fuel : Nat} {n : Int} {l : List SOp} (hf : l.length + 6000 < fuel) (hl : l.length < 2 ^ 41) (h5 : ∀ o ∈ l, o.t.v.length < fuel ∧ o.t.v.length < 2 ^ 60) : f10 stdOps fuel n (l.map SOp.av) = some (.v0 true) := by
  unfold f10
  rw [bindR_eq (f13_is (by omega))]
  dsimp only
  rw [ifB_f (by simp [stdOps]), bindR_eq f14_is]
  by_cases hn : 1 ≤ n ∧ n ≤ 4
  · rw [if_pos hn]
    dsimp only
    rw [bindR_eq f19_1_is, if_pos hn]
    dsimp only
    obtain ⟨h1, h2⟩ := new_ok hn
    obtain ⟨p', s', w', h3, h4, h6, h7⟩ := f10_l0_is hn l.length fuel fuel 0 l 0 (newSn n) (newRn n) (by omega) (by omega) hl hf h5 h1 h2 (by simp [newSn])
    change f10_l0 stdOps fuel _ n fuel 0 0 0 [] ((List.replicate n.toNat 0).map iav) 0 [] ((List.replicate n.toNat 0).map iav) [] [] [] [] = _ at h3
    rw [bindR_eq h3]
    dsimp only
    have h8 := f47_is (fuel := fuel) (p := p') (o := ⟨0, ⟨0, 0, 0, [], []⟩⟩) h4.inv hn.2 h6 (by omega) ⟨by omega, by omega⟩
    change f47 stdOps fuel p' 0 0 0 0 [] [] n _ _ _ n _ _ _ _ _ _ _ = _ at h8
    rw [bindR_eq h8]
  · rw [if_neg hn]
    dsimp only
    rw [bindR_eq f19_1_is, if_neg hn]
end Go.Proofs.Ytjdbmfipciadfaa.A
