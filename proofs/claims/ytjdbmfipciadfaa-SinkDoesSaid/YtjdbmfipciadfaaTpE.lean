/- The sink: the program's and the document's, beside each other. -/
import Derived.Test.YtjdbmfipciadfaaTpD

namespace Go.Proofs.Ytjdbmfipciadfaa.A
open Go Go.Pt

structure RelS (s : Sk) (w : Rf) : Prop where
  fe : w.fence = s.fence
  out : w.out = s.out
  vec : w.vec = s.vec
  ep : (∀ k ∈ s.done, k.1 = s.fence) ∧ ∀ t ∈ s.pre, t.e = s.fence
  dp : w.done.Perm (s.done.map Prod.snd)
  ds : w.done.Pairwise (· < ·)
  pp : w.pre.Perm s.pre
  ps : w.pre.Pairwise (fun a b => a.i < b.i)

theorem RelS.ri {n : Int} {s : Sk} {w : Rf} (h : RelS s w) (hi : Inv n s) (hd : s.done.length < 2 ^ 42) : RI n w :=
  ⟨by rw [h.out]; exact hi.out, ⟨by rw [h.pp.length_eq]; exact hi.pre.2.1, fun t ht => hi.pre.2.2 t (h.pp.mem_iff.1 ht)⟩, by rw [h.dp.length_eq, List.length_map]; exact hd⟩
theorem RelS.dlen {s : Sk} {w : Rf} (h : RelS s w) : w.done.length = s.done.length := by rw [h.dp.length_eq, List.length_map]
theorem rel_reach {s : Sk} {w : Rf} (h : RelS s w) (e : Int) : (rReach w e).1 = (reach s e).1 ∧ RelS (reach s e).2 (rReach w e).2 := by
  unfold rReach reach
  rw [h.fe]
  split
  · exact ⟨rfl, h⟩
  · split
    · exact ⟨rfl, ⟨rfl, h.out, h.vec, ⟨by simp, by simp⟩, List.Perm.nil, List.Pairwise.nil, List.Perm.nil, List.Pairwise.nil⟩⟩
    · exact ⟨rfl, h⟩
theorem rel_done {n : Int} {s : Sk} {w : Rf} (h : RelS s w) (hi : Inv n s) (k : Int × Int) : rDone w k = decide (k ∈ s.done) := by
  unfold rDone
  rw [decide_eq_decide, h.fe]
  constructor
  · rintro ⟨h1, _, h3⟩
    obtain ⟨k', hk', e⟩ := List.mem_map.1 (h.dp.mem_iff.1 h3)
    have : k' = k := Prod.ext ((h.ep.1 k' hk').trans h1.symm) e
    exact this ▸ hk'
  · intro hk
    exact ⟨h.ep.1 k hk, (posB_iff.1 (hi.done.2 k hk).1).1, h.dp.mem_iff.2 (List.mem_map_of_mem hk)⟩
theorem nodup_inj {α β : Type} {f : α → β} : ∀ {l : List α}, (l.map f).Nodup → ∀ {a b : α}, a ∈ l → b ∈ l → f a = f b → a = b
  | x :: l, h, a, b, ha, hb, e => by
    rw [List.map_cons, List.nodup_cons] at h
    rcases List.mem_cons.1 ha with e1 | ha'
    · rcases List.mem_cons.1 hb with e2 | hb'
      · rw [e1, e2]
      · exact absurd (by rw [← e1, e]; exact List.mem_map_of_mem hb') h.1
    · rcases List.mem_cons.1 hb with e2 | hb'
      · exact absurd (by rw [← e2, ← e]; exact List.mem_map_of_mem ha') h.1
      · exact nodup_inj h.2 ha' hb' e
theorem rel_find {n : Int} {s : Sk} {w : Rf} (h : RelS s w) (hi : Inv n s) {k : Int × Int} (hk : k.1 = s.fence) : w.pre.find? (fun u => decide (u.i = k.2)) = s.pre.find? (fun u => decide (k = u.key)) := by
  have key : ∀ u ∈ s.pre, u.i = k.2 → u.key = k := fun u hu e => Prod.ext ((h.ep.2 u hu).trans hk.symm) e
  cases hf : s.pre.find? (fun u => decide (k = u.key)) with
  | none =>
    rw [List.find?_eq_none] at hf ⊢
    intro u hu he
    have hu' := h.pp.mem_iff.1 hu
    exact hf u hu' (by simpa using (key u hu' (by simpa using he)).symm)
  | some u =>
    have hu := List.mem_of_find?_eq_some hf
    have hk' : k = u.key := by simpa using List.find?_some hf
    cases hf' : w.pre.find? (fun u => decide (u.i = k.2)) with
    | none =>
      rw [List.find?_eq_none] at hf'
      exact absurd (by simp [hk', Txn.key]) (hf' u (h.pp.mem_iff.2 hu))
    | some u' =>
      have hu' := h.pp.mem_iff.1 (List.mem_of_find?_eq_some hf')
      have he' : u'.i = k.2 := by simpa using List.find?_some hf'
      rw [nodup_inj hi.pre.1 hu' hu ((key u' hu' he').trans hk')]
theorem rIns_cons {u t : Txn} {l : List Txn} : rIns (u :: l) t = if u.i < t.i then u :: rIns l t else t :: u :: l := by
  unfold rIns
  by_cases h : u.i < t.i <;> simp [h]
theorem rIns_perm {t : Txn} : ∀ {l : List Txn}, (rIns l t).Perm (t :: l)
  | [] => .refl _
  | u :: l => by
    rw [rIns_cons]
    split
    · exact (rIns_perm.cons u).trans (.swap t u l)
    · exact .refl _
theorem rIns_sorted {t : Txn} : ∀ {l : List Txn}, l.Pairwise (fun a b => a.i < b.i) → (∀ u ∈ l, u.i ≠ t.i) → (rIns l t).Pairwise (fun a b => a.i < b.i)
  | [], _, _ => List.pairwise_singleton _ _
  | u :: l, h, hn => by
    rw [rIns_cons]
    rw [List.pairwise_cons] at h
    split
    · rename_i hlt
      refine List.pairwise_cons.2 ⟨fun x hx => ?_, rIns_sorted h.2 fun v hv => hn v (List.mem_cons_of_mem _ hv)⟩
      rcases List.mem_cons.1 (rIns_perm.mem_iff.1 hx) with rfl | hx
      · exact hlt
      · exact h.1 x hx
    · rename_i hlt
      have hu := hn u List.mem_cons_self
      refine List.pairwise_cons.2 ⟨fun x hx => ?_, List.pairwise_cons.2 h⟩
      rcases List.mem_cons.1 hx with rfl | hx
      · omega
      · have := h.1 x hx; omega
theorem iIns_cons {u t : Int} {l : List Int} : iIns (u :: l) t = if u < t then u :: iIns l t else t :: u :: l := by
  unfold iIns
  by_cases h : u < t <;> simp [h]
theorem iIns_perm {t : Int} : ∀ {l : List Int}, (iIns l t).Perm (t :: l)
  | [] => .refl _
  | u :: l => by
    rw [iIns_cons]
    split
    · exact (iIns_perm.cons u).trans (.swap t u l)
    · exact .refl _
theorem iIns_sorted {t : Int} : ∀ {l : List Int}, l.Pairwise (· < ·) → t ∉ l → (iIns l t).Pairwise (· < ·)
  | [], _, _ => List.pairwise_singleton _ _
  | u :: l, h, hn => by
    rw [iIns_cons]
    rw [List.pairwise_cons] at h
    split
    · rename_i hlt
      refine List.pairwise_cons.2 ⟨fun x hx => ?_, iIns_sorted h.2 fun hv => hn (List.mem_cons_of_mem _ hv)⟩
      rcases List.mem_cons.1 (iIns_perm.mem_iff.1 hx) with rfl | hx
      · exact hlt
      · exact h.1 x hx
    · rename_i hlt
      have hu : u ≠ t := fun e => hn (by rw [e]; exact List.mem_cons_self)
      refine List.pairwise_cons.2 ⟨fun x hx => ?_, List.pairwise_cons.2 h⟩
      rcases List.mem_cons.1 hx with rfl | hx
      · omega
      · have := h.1 x hx; omega
theorem erase_drop {k : Int × Int} : ∀ {l : List Txn}, (l.map Txn.key).Nodup → (∀ t ∈ l, t.e = k.1) → l.eraseP (fun u => decide (k = u.key)) = rDrop l k.2
  | [], _, _ => rfl
  | x :: l, h, he => by
    rw [List.map_cons, List.nodup_cons] at h
    have hx := he x List.mem_cons_self
    have he' : ∀ t ∈ l, t.e = k.1 := fun t ht => he t (List.mem_cons_of_mem _ ht)
    rw [List.eraseP_cons]
    by_cases e : k = x.key
    · have hxi : x.i = k.2 := by rw [e]; rfl
      have : rDrop l k.2 = l := List.filter_eq_self.2 fun u hu => by
        simp only [decide_eq_true_eq]
        intro h'
        exact h.1 (by rw [← e, ← (Prod.ext (he' u hu) h' : u.key = k)]; exact List.mem_map_of_mem hu)
      have hr : rDrop (x :: l) k.2 = l := by
        rw [show rDrop (x :: l) k.2 = rDrop l k.2 by simp [rDrop, hxi]]
        exact this
      rw [hr]
      simp [e]
    · have hxi : x.i ≠ k.2 := fun h' => e (Prod.ext hx h' : x.key = k).symm
      rw [erase_drop h.2 he']
      simp [e, rDrop, hxi]

theorem rel_fen {s : Sk} {w : Rf} (h : RelS s w) (e : Int) : (rFen w e).1 = (fenF s e).1 ∧ RelS (fenF s e).2 (rFen w e).2 := by
  unfold rFen fenF
  split
  · exact rel_reach h e
  · exact ⟨rfl, h⟩
theorem rel_pre {n : Int} {s : Sk} {w : Rf} (h : RelS s w) (hi : Inv n s) (t : Txn) : (rPre n w t).1 = (preF n s t).1 ∧ RelS (preF n s t).2 (rPre n w t).2 := by
  unfold rPre preF
  by_cases hm : mayB n t = false
  · rw [if_pos hm, if_pos hm]; exact ⟨rfl, h⟩
  · rw [if_neg hm, if_neg hm]
    obtain ⟨h1, h2⟩ := rel_reach h t.e
    rw [h1]
    by_cases hc : (reach s t.e).1 = 0
    · rw [if_neg (by simp [hc]), if_neg (by simp [hc])]
      have hf := reach_zero hc
      have hi2 := hi.reach t.e
      generalize (reach s t.e).2 = s2 at *
      generalize (rReach w t.e).2 = w2 at *
      unfold rPreS preS
      rw [rel_done h2 hi2]
      by_cases hd : t.key ∈ s2.done
      · rw [if_pos (decide_eq_true (show (t.e, t.i) ∈ s2.done from hd)), if_pos hd]; exact ⟨rfl, h2⟩
      · rw [if_neg (show ¬ decide ((t.e, t.i) ∈ s2.done) = true by rw [decide_eq_true_eq]; exact hd), if_neg hd]
        have hfd := rel_find h2 hi2 (k := t.key) hf.symm
        change w2.pre.find? (fun u => decide (u.i = t.i)) = _ at hfd
        rw [hfd]
        cases hx : s2.pre.find? (fun u => decide (t.key = u.key)) with
        | some u => exact ⟨rfl, h2⟩
        | none =>
          dsimp only
          rw [h2.out, h2.vec, h2.pp.length_eq]
          split
          · exact ⟨rfl, h2⟩
          · split
            · exact ⟨rfl, h2⟩
            · refine ⟨rfl, ⟨h2.fe, rfl, rfl, ⟨h2.ep.1, fun u hu => ?_⟩, h2.dp, h2.ds, rIns_perm.trans ((h2.pp.cons t).trans (List.perm_append_singleton t s2.pre).symm), rIns_sorted h2.ps fun u hu he => ?_⟩⟩
              · rcases List.mem_append.1 hu with hu | hu
                · exact h2.ep.2 u hu
                · rw [List.mem_singleton.1 hu]; exact hf.symm
              · rw [← hfd, List.find?_eq_none] at hx
                exact hx u hu (by simpa using he)
    · rw [if_pos (by simpa using hc), if_pos (by simpa using hc)]
      exact ⟨h1, h2⟩
theorem rel_named {s : Sk} {w : Rf} (h : RelS s w) (k : Int × Int) : (rNamed w k).1 = (named s k).1 ∧ RelS (named s k).2 (rNamed w k).2 := by
  unfold rNamed named
  split
  · exact rel_reach h _
  · exact ⟨rfl, h⟩
theorem named_zero {s : Sk} {k : Int × Int} (h : (named s k).1 = 0) : (named s k).2.fence = k.1 ∧ 1 ≤ k.1 := by
  unfold named at h ⊢
  split at h
  · rename_i hp
    rw [if_pos hp]
    exact ⟨reach_zero h, (posB_iff.1 hp.1).1⟩
  · simp at h
theorem rel_com {n : Int} {s : Sk} {w : Rf} (h : RelS s w) (hi : Inv n s) (k : Int × Int) : (rCom w k).1 = (comF s k).1 ∧ RelS (comF s k).2 (rCom w k).2 := by
  unfold rCom comF
  obtain ⟨h1, h2⟩ := rel_named h k
  rw [h1]
  by_cases hc : (named s k).1 = 0
  · rw [if_neg (by simp [hc]), if_neg (by simp [hc])]
    obtain ⟨hf, hk1⟩ := named_zero hc
    have hi2 := hi.named k
    generalize (named s k).2 = s2 at *
    generalize (rNamed w k).2 = w2 at *
    unfold rComS comS
    have hdd := rel_done h2 hi2 k
    rw [hdd]
    by_cases hd : k ∈ s2.done
    · rw [if_pos (by simpa using hd), if_pos hd]; exact ⟨rfl, h2⟩
    · rw [if_neg (by simpa using hd), if_neg hd, rel_find h2 hi2 hf.symm]
      cases hx : s2.pre.find? (fun u => decide (k = u.key)) with
      | none => exact ⟨rfl, h2⟩
      | some t =>
        dsimp only
        rw [h2.out, h2.vec]
        split
        · exact ⟨rfl, h2⟩
        · have hnd : k.2 ∉ w2.done := fun hm => by
            have : rDone w2 k = true := by unfold rDone; simp [h2.fe, hf, hk1, hm]
            rw [hdd] at this
            exact hd (by simpa using this)
          refine ⟨rfl, ⟨h2.fe, rfl, rfl, ⟨fun k' hk' => ?_, fun u hu => h2.ep.2 u (List.mem_of_mem_eraseP hu)⟩, ?_, iIns_sorted h2.ds hnd, ?_, h2.ps.filter _⟩⟩
          · rcases List.mem_append.1 hk' with hk' | hk'
            · exact h2.ep.1 k' hk'
            · rw [List.mem_singleton.1 hk']; exact hf.symm
          · rw [List.map_append]
            exact iIns_perm.trans ((h2.dp.cons k.2).trans (List.perm_append_singleton k.2 _).symm)
          · show (rDrop w2.pre k.2).Perm (s2.pre.eraseP fun u => decide (k = u.key))
            rw [erase_drop hi2.pre.1 fun u hu => (h2.ep.2 u hu).trans hf]
            exact h2.pp.filter _
  · rw [if_pos (by simpa using hc), if_pos (by simpa using hc)]
    exact ⟨h1, h2⟩
theorem rel_abo {n : Int} {s : Sk} {w : Rf} (h : RelS s w) (hi : Inv n s) (k : Int × Int) : (rAbo w k).1 = (aboF s k).1 ∧ RelS (aboF s k).2 (rAbo w k).2 := by
  unfold rAbo aboF
  obtain ⟨h1, h2⟩ := rel_named h k
  rw [h1]
  by_cases hc : (named s k).1 = 0
  · have e0 : ¬ (named s k).1 ≠ 0 := by simp [hc]
    rw [if_neg e0, if_neg e0]
    obtain ⟨hf, hk1⟩ := named_zero hc
    have hi2 := hi.named k
    generalize (named s k).2 = s2 at *
    generalize (rNamed w k).2 = w2 at *
    rw [rel_done h2 hi2 k]
    by_cases hd : k ∈ s2.done
    · rw [if_pos (by simpa using hd), if_pos hd]; exact ⟨rfl, h2⟩
    · rw [if_neg (by simpa using hd), if_neg hd]
      refine ⟨rfl, ⟨h2.fe, h2.out, h2.vec, ⟨h2.ep.1, fun u hu => h2.ep.2 u (List.mem_of_mem_eraseP hu)⟩, h2.dp, h2.ds, ?_, h2.ps.filter _⟩⟩
      show (rDrop w2.pre k.2).Perm (s2.pre.eraseP fun u => decide (k = u.key))
      rw [erase_drop hi2.pre.1 fun u hu => (h2.ep.2 u hu).trans hf]
      exact h2.pp.filter _
  · rw [if_pos (by simpa using hc), if_pos (by simpa using hc)]
    exact ⟨h1, h2⟩

def SOp.key (o : SOp) : Int × Int := (o.t.e, o.t.i)
def doS (n : Int) (s : Sk) (o : SOp) : Sk := if o.d = 0 then (fenF s o.t.e).2 else if o.d = 1 then (preF n s o.t).2 else if o.d = 2 then (comF s o.key).2 else if o.d = 3 then (aboF s o.key).2 else s
def doR (n : Int) (w : Rf) (o : SOp) : Rf := if o.d = 0 then (rFen w o.t.e).2 else if o.d = 1 then (rPre n w o.t).2 else if o.d = 2 then (rCom w o.key).2 else if o.d = 3 then (rAbo w o.key).2 else w
theorem rel_do {n : Int} {s : Sk} {w : Rf} (h : RelS s w) (hi : Inv n s) (o : SOp) : RelS (doS n s o) (doR n w o) := by
  unfold doS doR
  split
  · exact (rel_fen h _).2
  · split
    · exact (rel_pre h hi _).2
    · split
      · exact (rel_com h hi _).2
      · split
        · exact (rel_abo h hi _).2
        · exact h
theorem inv_do {n : Int} {s : Sk} (hi : Inv n s) (o : SOp) : Inv n (doS n s o) := by
  unfold doS
  split
  · exact hi.fenF _
  · split
    · exact hi.preF _
    · split
      · exact hi.comF _
      · split
        · exact hi.aboF _
        · exact hi
theorem done_do {n : Int} {s : Sk} {o : SOp} : (doS n s o).done.length ≤ s.done.length + 1 := by
  unfold doS
  split
  · have := fen_out (s := s) (e := o.t.e); omega
  · split
    · have := pre_out (n := n) (s := s) (t := o.t); omega
    · split
      · exact com_done
      · split
        · have := abo_out (s := s) (k := o.key); omega
        · omega

theorem f27_is {fuel p : Nat} {n : Int} {o : SOp} {s : Sk} {w : Rf} (hi : Inv n s) (hn : n ≤ 4) (h : RelS s w) (hd : s.done.length < 2 ^ 42) (hf : o.t.v.length < fuel ∧ 4097 < fuel ∧ s.done.length < fuel) (hl : o.t.v.length < 2 ^ 60) :
    ∃ p', f27 stdOps fuel p o.d o.t.e o.t.i o.t.b (o.t.r.map Rec.av) (o.t.v.map iav) n s.fence (s.out.map Rec.av) (s.vec.map iav) n w.fence (w.out.map Rec.av) (w.vec.map iav) (w.done.map iav) (w.pre.map Txn.av) (dM s.done) (pM s.pre) =
      some (.v0 true (doS n s o).fence ((doS n s o).out.map Rec.av) p' ((doS n s o).vec.map iav) (doR n w o).fence ((doR n w o).out.map Rec.av) ((doR n w o).vec.map iav) ((doR n w o).done.map iav) ((doR n w o).pre.map Txn.av) (dM (doS n s o).done) (pM (doS n s o).pre)) := by
  have hri := h.ri hi hd
  have hdl := h.dlen
  have nx : ∀ (c : Int), stdOps.cmp .eql o.d c = decide (o.d = c) := fun c => by simp [stdOps]; rfl
  have eqc : ∀ {a b : Int}, a = b → stdOps.cmp .eql a b = true := fun e => by simp [stdOps, e]
  unfold f27
  rw [nx, nx, nx, nx]
  by_cases d0 : o.d = 0
  · obtain ⟨g1, g2⟩ := rel_fen h o.t.e
    have ho := fen_out (s := s) (e := o.t.e)
    have hw : (rFen w o.t.e).2.out = w.out ∧ (rFen w o.t.e).2.vec = w.vec := ⟨by rw [g2.out, ho.1, h.out], by rw [g2.vec, ho.2.1, h.vec]⟩
    refine ⟨p, ?_⟩
    unfold doS doR
    rw [if_pos d0, if_pos d0, ifB_t (by simp [d0]), bindR_eq f24_is]
    dsimp only
    rw [bindR_eq f87_is]
    dsimp only
    rw [eqc g1.symm, ho.1, ho.2.1, hw.1, hw.2]
  · rw [ifB_f (by simp [d0])]
    by_cases d1 : o.d = 1
    · obtain ⟨g1, g2⟩ := rel_pre h hi o.t
      have ho := pre_out (n := n) (s := s) (t := o.t)
      have hw : (rPre n w o.t).2.out = w.out ∧ (rPre n w o.t).2.vec = w.vec := ⟨by rw [g2.out, ho.1, h.out], by rw [g2.vec, ho.2.1, h.vec]⟩
      refine ⟨p, ?_⟩
      unfold doS doR
      rw [if_neg d0, if_neg d0, if_pos d1, if_pos d1, ifB_t (by simp [d1]), bindR_eq (f15_is hi hn ⟨hf.1, hf.2.1⟩ hl)]
      dsimp only
      rw [bindR_eq (f88_is hri hn ⟨hf.1, hf.2.1, by omega⟩ hl)]
      dsimp only
      rw [eqc g1.symm, ho.1, ho.2.1, hw.1, hw.2]
    · rw [ifB_f (by simp [d1])]
      by_cases d2 : o.d = 2
      · obtain ⟨g1, g2⟩ := rel_com h hi o.key
        obtain ⟨p', hp'⟩ := f16_is (fuel := fuel) (p := p) (k1 := o.t.e) (k2 := o.t.i) hi hn hf.2.1
        refine ⟨p', ?_⟩
        unfold doS doR
        rw [if_neg d0, if_neg d0, if_neg d1, if_neg d1, if_pos d2, if_pos d2, ifB_t (by simp [d2]), bindR_eq (show f17 stdOps fuel _ _ _ _ _ _ = some (.v0 o.t.e o.t.i) from rfl)]
        dsimp only
        rw [bindR_eq hp']
        dsimp only
        rw [bindR_eq (show f17 stdOps fuel _ _ _ _ _ _ = some (.v0 o.t.e o.t.i) from rfl)]
        dsimp only
        rw [bindR_eq (f89_is hri hn ⟨hf.2.1, by omega⟩)]
        dsimp only
        change (rCom w (o.t.e, o.t.i)).1 = (comF s (o.t.e, o.t.i)).1 at g1
        rw [eqc g1.symm]
        rfl
      · rw [ifB_f (by simp [d2])]
        by_cases d3 : o.d = 3
        · obtain ⟨g1, g2⟩ := rel_abo h hi o.key
          have ho := abo_out (s := s) (k := o.key)
          have hw : (rAbo w o.key).2.out = w.out ∧ (rAbo w o.key).2.vec = w.vec := ⟨by rw [g2.out, ho.1, h.out], by rw [g2.vec, ho.2.1, h.vec]⟩
          refine ⟨p, ?_⟩
          unfold doS doR
          rw [if_neg d0, if_neg d0, if_neg d1, if_neg d1, if_neg d2, if_neg d2, if_pos d3, if_pos d3, ifB_t (by simp [d3]), bindR_eq (show f17 stdOps fuel _ _ _ _ _ _ = some (.v0 o.t.e o.t.i) from rfl)]
          dsimp only
          rw [bindR_eq f22_is]
          dsimp only
          rw [bindR_eq (show f17 stdOps fuel _ _ _ _ _ _ = some (.v0 o.t.e o.t.i) from rfl)]
          dsimp only
          rw [bindR_eq (f90_is hri ⟨hf.2.1, by omega⟩)]
          dsimp only
          change (rAbo w (o.t.e, o.t.i)).1 = (aboF s (o.t.e, o.t.i)).1 at g1
          rw [eqc g1.symm, ho.1, ho.2.1, hw.1, hw.2]
          rfl
        · refine ⟨p, ?_⟩
          unfold doS doR
          rw [if_neg d0, if_neg d0, if_neg d1, if_neg d1, if_neg d2, if_neg d2, if_neg d3, if_neg d3, ifB_f (by simp [d3])]

/-! It only grows. -/
theorem abvB_self {l : List Int} : abvB l l = true := by
  have : ∀ l : List Int, (l.zip l).all (fun p => decide (p.2 ≤ p.1)) = true := by
    intro l
    induction l with
    | nil => rfl
    | cons x l ih => rw [List.zip_cons_cons, List.all_cons, ih]; simp
  unfold abvB
  rw [this l]; simp
structure Grew (s s' : Sk) : Prop where
  out : ∃ l, s'.out = s.out ++ l
  vec : abvB s'.vec s.vec = true
  fence : s.fence ≤ s'.fence
theorem grew_of {s s' : Sk} {c e : Int} (h1 : s'.out = s.out) (h2 : s'.vec = s.vec) (h3 : s'.fence = if c = 1 then s.fence else max s.fence e) : Grew s s' :=
  ⟨⟨[], by rw [h1, List.append_nil]⟩, by rw [h2]; exact abvB_self, by rw [h3]; split <;> omega⟩
theorem com_grew {s : Sk} {k : Int × Int} : Grew s (comF s k).2 := by
  have hf := com_fence (s := s) (k := k)
  have key : (∃ l, (comF s k).2.out = s.out ++ l) ∧ abvB (comF s k).2.vec s.vec = true := by
    have ho := named_out (s := s) (k := k)
    unfold comF
    split
    · exact ⟨⟨[], by rw [ho.1, List.append_nil]⟩, by rw [ho.2.1]; exact abvB_self⟩
    · unfold comS
      split
      · exact ⟨⟨[], by rw [ho.1, List.append_nil]⟩, by rw [ho.2.1]; exact abvB_self⟩
      · cases (named s k).2.pre.find? (fun u => decide (k = u.key)) with
        | none => exact ⟨⟨[], by rw [ho.1, List.append_nil]⟩, by rw [ho.2.1]; exact abvB_self⟩
        | some t =>
          dsimp only
          split
          · exact ⟨⟨[], by rw [ho.1, List.append_nil]⟩, by rw [ho.2.1]; exact abvB_self⟩
          · rename_i hs
            have := (suits_zero (Classical.not_not.1 hs)).2.1
            exact ⟨⟨_, by rw [ho.1]⟩, by rw [← ho.2.1]; exact this⟩
  exact ⟨key.1, key.2, by rw [hf]; split <;> omega⟩
theorem do_grew {n : Int} {s : Sk} {o : SOp} : Grew s (doS n s o) := by
  unfold doS
  split
  · have ho := fen_out (s := s) (e := o.t.e); exact grew_of ho.1 ho.2.1 fen_fence
  · split
    · have ho := pre_out (n := n) (s := s) (t := o.t); exact grew_of ho.1 ho.2.1 pre_fence
    · split
      · exact com_grew
      · split
        · have ho := abo_out (s := s) (k := o.key); exact grew_of ho.1 ho.2.1 abo_fence
        · exact ⟨⟨[], by rw [List.append_nil]⟩, abvB_self, by omega⟩

theorem f26_is {fuel p : Nat} {n fe : Int} {vec : List Int} {a : List AV} {d q : List (AV × AV)} (hv : vec.length ≤ 4096) : f26 stdOps fuel p n fe a (vec.map iav) d q = some (.v0 (vec.map iav)) := by
  unfold f26
  rw [bindR_eq f70_is]
  dsimp only
  rw [ifB_f rfl, bindR_eq (f78_is (by rw [List.length_map]; omega))]
def newR : Rf := ⟨0, [], [0, 0], [], []⟩
theorem rel_new : RelS newS newR := ⟨rfl, rfl, rfl, ⟨by simp [newS], by simp [newS]⟩, List.Perm.nil, List.Pairwise.nil, List.Perm.nil, List.Pairwise.nil⟩
end Go.Proofs.Ytjdbmfipciadfaa.A
