/- The sink: the program's and the document's, beside each other. -/
import Derived.Test.YtjdbmfipciadfaaSkK
import Derived.Test.YtjdbmfipciadfaaSkM

namespace Go.Proofs.Ytjdbmfipciadfaa.A
open Go Go.Pt

structure RelS (s : Sk) (w : Rf) : Prop where
  fe : w.fence = s.fence
  out : w.out = s.out
  vec : w.vec = s.vec
  ep : (∀ k ∈ s.done, k.1 = s.fence) ∧ ∀ t ∈ s.pre, t.e = s.fence
  dp : w.done.Perm (s.done.map Prod.snd)
  ds : w.done.Pairwise (· < ·)
  pp : w.pre.Perm s.pre
  ps : w.pre.Pairwise (fun a b => a.i < b.i)

theorem RelS.ri {n : Int} {s : Sk} {w : Rf} (h : RelS s w) (hi : Inv n s) (hd : s.done.length < 2 ^ 42) : RI n w :=
  ⟨by rw [h.out]; exact hi.out, ⟨by rw [h.pp.length_eq]; exact hi.pre.2.1, fun t ht => hi.pre.2.2 t (h.pp.mem_iff.1 ht)⟩, by rw [h.dp.length_eq, List.length_map]; exact hd⟩
theorem RelS.dlen {s : Sk} {w : Rf} (h : RelS s w) : w.done.length = s.done.length := by rw [h.dp.length_eq, List.length_map]
theorem rel_reach {s : Sk} {w : Rf} (h : RelS s w) (e : Int) : (rReach w e).1 = (reach s e).1 ∧ RelS (reach s e).2 (rReach w e).2 := by
  unfold rReach reach
  rw [h.fe]
  split
  · exact ⟨rfl, h⟩
  · split
    · exact ⟨rfl, ⟨rfl, h.out, h.vec, ⟨by simp, by simp⟩, List.Perm.nil, List.Pairwise.nil, List.Perm.nil, List.Pairwise.nil⟩⟩
    · exact ⟨rfl, h⟩
theorem rel_done {n : Int} {s : Sk} {w : Rf} (h : RelS s w) (hi : Inv n s) (k : Int × Int) : rDone w k = decide (k ∈ s.done) := by
  unfold rDone
  rw [decide_eq_decide, h.fe]
  constructor
  · rintro ⟨h1, _, h3⟩
    obtain ⟨k', hk', e⟩ := List.mem_map.1 (h.dp.mem_iff.1 h3)
    have : k' = k := Prod.ext ((h.ep.1 k' hk').trans h1.symm) e
    exact this ▸ hk'
  · intro hk
    exact ⟨h.ep.1 k hk, (posB_iff.1 (hi.done.2 k hk).1).1, h.dp.mem_iff.2 (List.mem_map_of_mem hk)⟩
theorem nodup_inj {α β : Type} {f : α → β} : ∀ {l : List α}, (l.map f).Nodup → ∀ {a b : α}, a ∈ l → b ∈ l → f a = f b → a = b
  | x :: l, h, a, b, ha, hb, e => by
    rw [List.map_cons, List.nodup_cons] at h
    rcases List.mem_cons.1 ha with e1 | ha'
    · rcases List.mem_cons.1 hb with e2 | hb'
      · rw [e1, e2]
      · exact absurd (by rw [← e1, e]; exact List.mem_map_of_mem hb') h.1
    · rcases List.mem_cons.1 hb with e2 | hb'
      · exact absurd (by rw [← e2, ← e]; exact List.mem_map_of_mem ha') h.1
      · exact nodup_inj h.2 ha' hb' e
theorem rel_find {n : Int} {s : Sk} {w : Rf} (h : RelS s w) (hi : Inv n s) {k : Int × Int} (hk : k.1 = s.fence) : w.pre.find? (fun u => decide (u.i = k.2)) = s.pre.find? (fun u => decide (k = u.key)) := by
  have key : ∀ u ∈ s.pre, u.i = k.2 → u.key = k := fun u hu e => Prod.ext ((h.ep.2 u hu).trans hk.symm) e
  cases hf : s.pre.find? (fun u => decide (k = u.key)) with
  | none =>
    rw [List.find?_eq_none] at hf ⊢
    intro u hu he
    have hu' := h.pp.mem_iff.1 hu
    exact hf u hu' (by simpa using (key u hu' (by simpa using he)).symm)
  | some u =>
    have hu := List.mem_of_find?_eq_some hf
    have hk' : k = u.key := by simpa using List.find?_some hf
    cases hf' : w.pre.find? (fun u => decide (u.i = k.2)) with
    | none =>
      rw [List.find?_eq_none] at hf'
      exact absurd (by simp [hk', Txn.key]) (hf' u (h.pp.mem_iff.2 hu))
    | some u' =>
      have hu' := h.pp.mem_iff.1 (List.mem_of_find?_eq_some hf')
      have he' : u'.i = k.2 := by simpa using List.find?_some hf'
      rw [nodup_inj hi.pre.1 hu' hu ((key u' hu' he').trans hk')]
theorem rIns_cons {u t : Txn} {l : List Txn} : rIns (u :: l) t = if u.i < t.i then u :: rIns l t else t :: u :: l := by
  unfold rIns
  by_cases h : u.i < t.i <;> simp [h]
theorem rIns_perm {t : Txn} : ∀ {l : List Txn}, (rIns l t).Perm (t :: l)
  | [] => .refl _
  | u :: l => by
    rw [rIns_cons]
    split
    · exact (rIns_perm.cons u).trans (.swap t u l)
    · exact .refl _
theorem rIns_sorted {t : Txn} : ∀ {l : List Txn}, l.Pairwise (fun a b => a.i < b.i) → (∀ u ∈ l, u.i ≠ t.i) → (rIns l t).Pairwise (fun a b => a.i < b.i)
  | [], _, _ => List.pairwise_singleton _ _
  | u :: l, h, hn => by
    rw [rIns_cons]
    rw [List.pairwise_cons] at h
    split
    · rename_i hlt
      refine List.pairwise_cons.2 ⟨fun x hx => ?_, rIns_sorted h.2 fun v hv => hn v (List.mem_cons_of_mem _ hv)⟩
      rcases List.mem_cons.1 (rIns_perm.mem_iff.1 hx) with rfl | hx
      · exact hlt
      · exact h.1 x hx
    · rename_i hlt
      have hu := hn u List.mem_cons_self
      refine List.pairwise_cons.2 ⟨fun x hx => ?_, List.pairwise_cons.2 h⟩
      rcases List.mem_cons.1 hx with rfl | hx
      · omega
      · have := h.1 x hx; omega
theorem iIns_cons {u t : Int} {l : List Int} : iIns (u :: l) t = if u < t then u :: iIns l t else t :: u :: l := by
  unfold iIns
  by_cases h : u < t <;> simp [h]
theorem iIns_perm {t : Int} : ∀ {l : List Int}, (iIns l t).Perm (t :: l)
  | [] => .refl _
  | u :: l => by
    rw [iIns_cons]
    split
    · exact (iIns_perm.cons u).trans (.swap t u l)
    · exact .refl _
theorem iIns_sorted {t : Int} : ∀ {l : List Int}, l.Pairwise (· < ·) → t ∉ l → (iIns l t).Pairwise (· < ·)
  | [], _, _ => List.pairwise_singleton _ _
  | u :: l, h, hn => by
    rw [iIns_cons]
    rw [List.pairwise_cons] at h
    split
    · rename_i hlt
      refine List.pairwise_cons.2 ⟨fun x hx => ?_, iIns_sorted h.2 fun hv => hn (List.mem_cons_of_mem _ hv)⟩
      rcases List.mem_cons.1 (iIns_perm.mem_iff.1 hx) with rfl | hx
      · exact hlt
      · exact h.1 x hx
    · rename_i hlt
      have hu : u ≠ t := fun e => hn (by rw [e]; exact List.mem_cons_self)
      refine List.pairwise_cons.2 ⟨fun x hx => ?_, List.pairwise_cons.2 h⟩
      rcases List.mem_cons.1 hx with rfl | hx
      · omega
      · have := h.1 x hx; omega
theorem erase_drop {k : Int × Int} : ∀ {l : List Txn}, (l.map Txn.key).Nodup → (∀ t ∈ l, t.e = k.1) → l.eraseP (fun u => decide (k = u.key)) = rDrop l k.2
  | [], _, _ => rfl
  | x :: l, h, he => by
    rw [List.map_cons, List.nodup_cons] at h
    have hx := he x List.mem_cons_self
    have he' : ∀ t ∈ l, t.e = k.1 := fun t ht => he t (List.mem_cons_of_mem _ ht)
    rw [List.eraseP_cons]
    by_cases e : k = x.key
    · have hxi : x.i = k.2 := by rw [e]; rfl
      have : rDrop l k.2 = l := List.filter_eq_self.2 fun u hu => by
        simp only [decide_eq_true_eq]
        intro h'
        exact h.1 (by rw [← e, ← (Prod.ext (he' u hu) h' : u.key = k)]; exact List.mem_map_of_mem hu)
      have hr : rDrop (x :: l) k.2 = l := by
        rw [show rDrop (x :: l) k.2 = rDrop l k.2 by simp [rDrop, hxi]]
        exact this
      rw [hr]
      simp [e]
    · have hxi : x.i ≠ k.2 := fun h' => e (Prod.ext hx h' : x.key = k).symm
      rw [erase_drop h.2 he']
      simp [e, rDrop, hxi]

theorem rel_fen {s : Sk} {w : Rf} (h : RelS s w) (e : Int) : (rFen w e).1 = (fenF s e).1 ∧ RelS (fenF s e).2 (rFen w e).2 := by
  unfold rFen fenF
  split
  · exact rel_reach h e
  · exact ⟨rfl, h⟩
theorem rel_pre {n : Int} {s : Sk} {w : Rf} (h : RelS s w) (hi : Inv n s) (t : Txn) : (rPre n w t).1 = (preF n s t).1 ∧ RelS (preF n s t).2 (rPre n w t).2 := by
  unfold rPre preF
  by_cases hm : mayB n t = false
  · rw [if_pos hm, if_pos hm]; exact ⟨rfl, h⟩
  · rw [if_neg hm, if_neg hm]
    obtain ⟨h1, h2⟩ := rel_reach h t.e
    rw [h1]
    by_cases hc : (reach s t.e).1 = 0
    · rw [if_neg (by simp [hc]), if_neg (by simp [hc])]
      have hf := reach_zero hc
      have hi2 := hi.reach t.e
      generalize (reach s t.e).2 = s2 at *
      generalize (rReach w t.e).2 = w2 at *
      unfold rPreS preS
      rw [rel_done h2 hi2]
      by_cases hd : t.key ∈ s2.done
      · rw [if_pos (decide_eq_true (show (t.e, t.i) ∈ s2.done from hd)), if_pos hd]; exact ⟨rfl, h2⟩
      · rw [if_neg (show ¬ decide ((t.e, t.i) ∈ s2.done) = true by rw [decide_eq_true_eq]; exact hd), if_neg hd]
        have hfd := rel_find h2 hi2 (k := t.key) hf.symm
        change w2.pre.find? (fun u => decide (u.i = t.i)) = _ at hfd
        rw [hfd]
        cases hx : s2.pre.find? (fun u => decide (t.key = u.key)) with
        | some u => exact ⟨rfl, h2⟩
        | none =>
          dsimp only
          rw [h2.out, h2.vec, h2.pp.length_eq]
          split
          · exact ⟨rfl, h2⟩
          · split
            · exact ⟨rfl, h2⟩
            · refine ⟨rfl, ⟨h2.fe, rfl, rfl, ⟨h2.ep.1, fun u hu => ?_⟩, h2.dp, h2.ds, rIns_perm.trans ((h2.pp.cons t).trans (List.perm_append_singleton t s2.pre).symm), rIns_sorted h2.ps fun u hu he => ?_⟩⟩
              · rcases List.mem_append.1 hu with hu | hu
                · exact h2.ep.2 u hu
                · rw [List.mem_singleton.1 hu]; exact hf.symm
              · rw [← hfd, List.find?_eq_none] at hx
                exact hx u hu (by simpa using he)
    · rw [if_pos (by simpa using hc), if_pos (by simpa using hc)]
      exact ⟨h1, h2⟩
theorem rel_named {s : Sk} {w : Rf} (h : RelS s w) (k : Int × Int) : (rNamed w k).1 = (named s k).1 ∧ RelS (named s k).2 (rNamed w k).2 := by
  unfold rNamed named
  split
  · exact rel_reach h _
  · exact ⟨rfl, h⟩
theorem named_zero {s : Sk} {k : Int × Int} (h : (named s k).1 = 0) : (named s k).2.fence = k.1 ∧ 1 ≤ k.1 := by
  unfold named at h ⊢
  split at h
  · rename_i hp
    rw [if_pos hp]
    exact ⟨reach_zero h, (posB_iff.1 hp.1).1⟩
  · simp at h
theorem rel_com {n : Int} {s : Sk} {w : Rf} (h : RelS s w) (hi : Inv n s) (k : Int × Int) : (rCom w k).1 = (comF s k).1 ∧ RelS (comF s k).2 (rCom w k).2 := by
  unfold rCom comF
  obtain ⟨h1, h2⟩ := rel_named h k
  rw [h1]
  by_cases hc : (named s k).1 = 0
  · rw [if_neg (by simp [hc]), if_neg (by simp [hc])]
    obtain ⟨hf, hk1⟩ := named_zero hc
    have hi2 := hi.named k
    generalize (named s k).2 = s2 at *
    generalize (rNamed w k).2 = w2 at *
    unfold rComS comS
    have hdd := rel_done h2 hi2 k
    rw [hdd]
    by_cases hd : k ∈ s2.done
    · rw [if_pos (by simpa using hd), if_pos hd]; exact ⟨rfl, h2⟩
    · rw [if_neg (by simpa using hd), if_neg hd, rel_find h2 hi2 hf.symm]
      cases hx : s2.pre.find? (fun u => decide (k = u.key)) with
      | none => exact ⟨rfl, h2⟩
      | some t =>
        dsimp only
        rw [h2.out, h2.vec]
        split
        · exact ⟨rfl, h2⟩
        · have hnd : k.2 ∉ w2.done := fun hm => by
            have : rDone w2 k = true := by unfold rDone; simp [h2.fe, hf, hk1, hm]
            rw [hdd] at this
            exact hd (by simpa using this)
          refine ⟨rfl, ⟨h2.fe, rfl, rfl, ⟨fun k' hk' => ?_, fun u hu => h2.ep.2 u (List.mem_of_mem_eraseP hu)⟩, ?_, iIns_sorted h2.ds hnd, ?_, h2.ps.filter _⟩⟩
          · rcases List.mem_append.1 hk' with hk' | hk'
            · exact h2.ep.1 k' hk'
            · rw [List.mem_singleton.1 hk']; exact hf.symm
          · rw [List.map_append]
            exact iIns_perm.trans ((h2.dp.cons k.2).trans (List.perm_append_singleton k.2 _).symm)
          · show (rDrop w2.pre k.2).Perm (s2.pre.eraseP fun u => decide (k = u.key))
            rw [erase_drop hi2.pre.1 fun u hu => (h2.ep.2 u hu).trans hf]
            exact h2.pp.filter _
  · rw [if_pos (by simpa using hc), if_pos (by simpa using hc)]
    exact ⟨h1, h2⟩
theorem rel_abo {n : Int} {s : Sk} {w : Rf} (h : RelS s w) (hi : Inv n s) (k : Int × Int) : (rAbo w k).1 = (aboF s k).1 ∧ RelS (aboF s k).2 (rAbo w k).2 := by
  unfold rAbo aboF
  obtain ⟨h1, h2⟩ := rel_named h k
  rw [h1]
  by_cases hc : (named s k).1 = 0
  · have e0 : ¬ (named s k).1 ≠ 0 := by simp [hc]
    rw [if_neg e0, if_neg e0]
    obtain ⟨hf, hk1⟩ := named_zero hc
    have hi2 := hi.named k
    generalize (named s k).2 = s2 at *
    generalize (rNamed w k).2 = w2 at *
    rw [rel_done h2 hi2 k]
    by_cases hd : k ∈ s2.done
    · rw [if_pos (by simpa using hd), if_pos hd]; exact ⟨rfl, h2⟩
    · rw [if_neg (by simpa using hd), if_neg hd]
      refine ⟨rfl, ⟨h2.fe, h2.out, h2.vec, ⟨h2.ep.1, fun u hu => h2.ep.2 u (List.mem_of_mem_eraseP hu)⟩, h2.dp, h2.ds, ?_, h2.ps.filter _⟩⟩
      show (rDrop w2.pre k.2).Perm (s2.pre.eraseP fun u => decide (k = u.key))
      rw [erase_drop hi2.pre.1 fun u hu => (h2.ep.2 u hu).trans hf]
      exact h2.pp.filter _
  · rw [if_pos (by simpa using hc), if_pos (by simpa using hc)]
    exact ⟨h1, h2⟩
end Go.Proofs.Ytjdbmfipciadfaa.A
