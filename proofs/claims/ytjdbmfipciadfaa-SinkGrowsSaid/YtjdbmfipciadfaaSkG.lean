/- The sink: what holds at all times; the register. -/
import Derived.Test.YtjdbmfipciadfaaSkF

namespace Go.Proofs.Ytjdbmfipciadfaa.A
open Go Go.Pt

/-- Fence. -/
def fenF (s : Sk) (e : Int) : Int × Sk := if posB e = true then reach s e else (1, s)
theorem f24_is {fuel p : Nat} {e n : Int} {s : Sk} {a b : List AV} : f24 stdOps fuel p e n s.fence a b (dM s.done) (pM s.pre) = some (.v0 (fenF s e).1 (fenF s e).2.fence (dM (fenF s e).2.done) (pM (fenF s e).2.pre)) := by
  unfold f24 fenF
  rw [bindR_eq f70_is]
  dsimp only
  rw [ifB_f rfl, bindR_eq f86_is]
  dsimp only
  cases h1 : posB e with
  | false => rw [ifB_t (by simp [stdOps])]; simp
  | true => rw [ifB_f (by simp [stdOps]), bindR_eq f72_is]; simp
theorem Inv.fenF {n : Int} {s : Sk} (h : Inv n s) (e : Int) : Inv n (fenF s e).2 := by
  unfold A.fenF
  split
  · exact h.reach _
  · exact h
theorem Inv.comF {n : Int} {s : Sk} (h : Inv n s) (k : Int × Int) : Inv n (comF s k).2 := by
  unfold A.comF
  have hr := h.named k
  split
  · exact hr
  · unfold comS
    split
    · exact hr
    · rename_i hd
      split
      · exact hr
      · rename_i t hf
        split
        · exact hr
        · rename_i hc
          have ht := hr.pre.2.2 t (List.mem_of_find?_eq_some hf)
          have hk : k = t.key := by simpa using List.find?_some hf
          have hc0 : suitsE (A.named s k).2.out (A.named s k).2.vec t = 0 := Classical.byContradiction fun hn => hc hn
          obtain ⟨c1, c2, c3, c4, c5⟩ := suits_zero hc0
          have hb := (mayB_small ht).1
          refine ⟨?_, mayB_cnt ht, ⟨?_, ?_⟩, ?_, ?_, ?_⟩
          · simp only [List.length_append, List.length_drop]; omega
          · rw [List.nodup_append]
            exact ⟨hr.done.1, by simp, fun a ha b hb => by simp at hb; subst hb; intro e; exact hd (e ▸ ha)⟩
          · intro x hx
            rcases List.mem_append.1 hx with hx | hx
            · exact hr.done.2 x hx
            · simp at hx; subst hx; rw [hk]; exact mayB_pos ht
          · exact (List.Sublist.map _ (List.eraseP_sublist)).nodup hr.pre.1
          · exact Nat.le_trans (List.eraseP_sublist).length_le hr.pre.2.1
          · intro u hu; exact hr.pre.2.2 u ((List.eraseP_sublist).subset hu)
theorem Inv.aboF {n : Int} {s : Sk} (h : Inv n s) (k : Int × Int) : Inv n (aboF s k).2 := by
  unfold A.aboF
  have hr := h.named k
  split
  · exact hr
  · split
    · exact hr
    · exact ⟨hr.out, hr.vec, hr.done, (List.Sublist.map _ (List.eraseP_sublist)).nodup hr.pre.1, Nat.le_trans (List.eraseP_sublist).length_le hr.pre.2.1, fun u hu => hr.pre.2.2 u ((List.eraseP_sublist).subset hu)⟩
end Go.Proofs.Ytjdbmfipciadfaa.A
namespace Go.Proofs.Ytjdbmfipciadfaa.A
open Go Go.Pt
/-- What a call does to the register: a call that names no epoch leaves it; any other one makes it the greater of both. -/
theorem reach_fence {s : Sk} {e : Int} : (reach s e).1 ≠ 1 ∧ (reach s e).2.fence = max s.fence e := by
  unfold reach
  by_cases h1 : e < s.fence
  · rw [if_pos h1]; exact ⟨by simp, by show s.fence = _; omega⟩
  · rw [if_neg h1]
    by_cases h2 : s.fence < e
    · rw [if_pos h2]; exact ⟨by simp, by show e = _; omega⟩
    · rw [if_neg h2]; exact ⟨by simp, by show s.fence = _; omega⟩
theorem fen_fence {s : Sk} {e : Int} : (fenF s e).2.fence = if (fenF s e).1 = 1 then s.fence else max s.fence e := by
  unfold fenF
  by_cases h : posB e = true
  · rw [if_pos h, if_neg reach_fence.1]; exact reach_fence.2
  · rw [if_neg h]; simp
theorem suits_ne {out : List Rec} {vec : List Int} {t : Txn} : suitsE out vec t ≠ 1 := by
  unfold suitsE; split; simp; split; simp; split; simp; split <;> simp
theorem pre_fence {n : Int} {s : Sk} {t : Txn} : (preF n s t).2.fence = if (preF n s t).1 = 1 then s.fence else max s.fence t.e := by
  unfold preF
  by_cases h : mayB n t = false
  · rw [if_pos h]; simp
  · rw [if_neg h]
    have hr := reach_fence (s := s) (e := t.e)
    by_cases h2 : (reach s t.e).1 ≠ 0
    · rw [if_pos h2, if_neg hr.1]; exact hr.2
    · rw [if_neg h2]
      have hs : (preS (reach s t.e).2 t).1 ≠ 1 ∧ (preS (reach s t.e).2 t).2.fence = (reach s t.e).2.fence := by
        unfold preS
        split
        · exact ⟨by simp, rfl⟩
        · split
          · refine ⟨?_, rfl⟩
            show (if _ then (0 : Int) else 5) ≠ 1
            split <;> simp
          · split
            · exact ⟨suits_ne, rfl⟩
            · split
              · exact ⟨by simp, rfl⟩
              · exact ⟨by simp, rfl⟩
      rw [if_neg hs.1, hs.2]; exact hr.2
theorem named_fence {s : Sk} {k : Int × Int} : (named s k).2.fence = if (named s k).1 = 1 then s.fence else max s.fence k.1 := by
  unfold named
  split
  · rw [if_neg reach_fence.1]; exact reach_fence.2
  · simp
theorem com_fence {s : Sk} {k : Int × Int} : (comF s k).2.fence = if (comF s k).1 = 1 then s.fence else max s.fence k.1 := by
  unfold comF
  by_cases h : (named s k).1 = 0
  · rw [if_neg (by simp [h])]
    have hn := named_fence (s := s) (k := k)
    rw [if_neg (by rw [h]; simp)] at hn
    have hs : (comS (named s k).2 k).1 ≠ 1 ∧ (comS (named s k).2 k).2.fence = (named s k).2.fence := by
      unfold comS
      split
      · exact ⟨by simp, rfl⟩
      · split
        · exact ⟨by simp, rfl⟩
        · split
          · exact ⟨suits_ne, rfl⟩
          · exact ⟨by simp, rfl⟩
    rw [if_neg hs.1, hs.2]; exact hn
  · rw [if_pos h]; exact named_fence
theorem abo_fence {s : Sk} {k : Int × Int} : (aboF s k).2.fence = if (aboF s k).1 = 1 then s.fence else max s.fence k.1 := by
  unfold aboF
  by_cases h : (named s k).1 = 0
  · rw [if_neg (by simp [h])]
    have hn := named_fence (s := s) (k := k)
    rw [if_neg (by rw [h]; simp)] at hn
    split
    · rw [if_neg (by simp)]; exact hn
    · rw [if_neg (by simp)]; exact hn
  · rw [if_pos h]; exact named_fence
end Go.Proofs.Ytjdbmfipciadfaa.A
