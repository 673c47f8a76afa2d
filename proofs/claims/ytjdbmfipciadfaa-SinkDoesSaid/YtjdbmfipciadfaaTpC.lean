/- The sink: the document's sink; what holds at all times; the register. -/
import Derived.Test.YtjdbmfipciadfaaTpB

namespace Go.Proofs.Ytjdbmfipciadfaa.A
open Go Go.Pt

theorem f61_self {fuel : Nat} {t : Txn} (hf : t.r.length < fuel ∧ t.v.length < fuel) (hl : t.r.length < 2 ^ 60 ∧ t.v.length < 2 ^ 60) :
    f61 stdOps fuel t.e t.i t.b (t.r.map Rec.av) (t.v.map iav) t.e t.i t.b (t.r.map Rec.av) (t.v.map iav) = some (.v0 true) := by
  unfold f61
  rw [ifB_t (by simp [stdOps]), bindR_eq (f84_is hf.1 hl.1)]
  dsimp only
  rw [ifB_t (by simp), bindR_eq (f85_is hf.2 hl.2)]
  simp

theorem f23_l0_self {a0 a5 : Int} {a1 a2 a3 a6 a7 a8 : List AV} : ∀ (d f fuel i : Nat) (l : List Txn), i + d = l.length → d < f → l.length ≤ 8 → (∀ t ∈ l, t.r.length ≤ 4096 ∧ t.v.length ≤ 4096) → 4096 < fuel →
    f23_l0 stdOps fuel (l.map Txn.av) (l.map Txn.av) a0 a1 a2 a3 a5 a6 a7 a8 f i = some .x1 := by
  intro d
  induction d with
  | zero =>
    intro f fuel i l h1 h2 h3 h4 h5
    obtain ⟨f, rfl⟩ : ∃ g, f = g + 1 := ⟨f - 1, by omega⟩
    unfold f23_l0
    rw [len_av, ifB_f (lss_f (by omega))]
  | succ d ih =>
    intro f fuel i l h1 h2 h3 h4 h5
    obtain ⟨f, rfl⟩ : ∃ g, f = g + 1 := ⟨f - 1, by omega⟩
    have hi : i < l.length := by omega
    have ht := h4 l[i] (List.getElem_mem hi)
    unfold f23_l0
    rw [len_av, ifB_t (lss_t hi), ← len_av (f := Txn.av), inbR hi, getT hi, inbR hi, getT hi, bindR_eq (f61_self ⟨by omega, by omega⟩ ⟨by omega, by omega⟩)]
    dsimp only
    rw [ifB_f (show stdOps.bnot true = false from rfl), add1 (by omega)]
    exact ih f fuel (i + 1) l (by omega) (by omega) h3 h4 h5

theorem f23_self {fuel : Nat} {fe : Int} {out : List Rec} {vec done : List Int} {pre : List Txn} (h1 : out.length ≤ 4096) (h2 : vec.length ≤ 4096) (h3 : done.length < 2 ^ 42 ∧ done.length < fuel) (h4 : pre.length ≤ 8) (h5 : ∀ t ∈ pre, t.r.length ≤ 4096 ∧ t.v.length ≤ 4096) (h6 : 4097 < fuel) :
    f23 stdOps fuel fe (out.map Rec.av) (vec.map iav) (done.map iav) (pre.map Txn.av) fe (out.map Rec.av) (vec.map iav) (done.map iav) (pre.map Txn.av) = some (.v0 true) := by
  unfold f23
  rw [ifB_f (by simp [stdOps]), bindR_eq (f84_is (by omega) (by omega))]
  dsimp only
  rw [ifB_f (by simp [stdOps]), bindR_eq (f85_is (by omega) (by omega))]
  dsimp only
  rw [ifB_f (by simp [stdOps]), bindR_eq (f85_is (by omega) (by omega))]
  dsimp only
  have h := f23_l0_self (a0 := fe) (a5 := fe) (a1 := out.map Rec.av) (a2 := vec.map iav) (a3 := done.map iav) (a6 := out.map Rec.av) (a7 := vec.map iav) (a8 := done.map iav) pre.length fuel fuel 0 pre (by omega) (by omega) h4 h5 (by omega)
  change f23_l0 stdOps fuel _ _ _ _ _ _ _ _ _ _ fuel 0 = _ at h
  rw [ifB_f (by simp [stdOps]), bindR_eq h]

theorem f14_two {fuel : Nat} : f14 stdOps fuel 2 = some (.v1 [] 0 ([0, 0].map iav) [] []) := by
  unfold f14
  rw [ifB_f (by simp [stdOps]), req_eq _ (by simp [stdOps])]
  rfl
theorem f19_two {fuel : Nat} : f19 stdOps fuel = some (.v0 0 2 0 [] ([0, 0].map iav) [] []) := by
  unfold f19
  rw [req_eq _ (by simp [stdOps])]
  rfl
/-- A new sink. -/
def newS : Sk := ⟨0, [], [0, 0], [], []⟩
theorem inv_new : Inv 2 newS := ⟨by simp [newS], by decide, ⟨List.nodup_nil, by simp [newS]⟩, List.nodup_nil, by simp [newS], by simp [newS]⟩

theorem f60_l0_is {a0 a1 a2 a3 : Int} : ∀ (d f fuel i : Nat) (l : List Int) (w : Nat) (acc : List Rec), i + d = l.length → d < f → l.length < 2 ^ 40 → acc.length = i →
    ∃ p', f60_l0 stdOps fuel (l.map iav) a0 a1 a2 a3 f w i (acc.map Rec.av) = some (.x0 ((acc ++ (l.drop i).map (Rec.mk 0)).map Rec.av) p') := by
  intro d
  induction d with
  | zero =>
    intro f fuel i l w acc h1 h2 h3 h4
    obtain ⟨f, rfl⟩ : ∃ g, f = g + 1 := ⟨f - 1, by omega⟩
    unfold f60_l0
    rw [len_av, ifB_f (lss_f (by omega)), List.drop_of_length_le (by omega), List.map_nil, List.append_nil]
    exact ⟨_, rfl⟩
  | succ d ih =>
    intro f fuel i l w acc h1 h2 h3 h4
    obtain ⟨f, rfl⟩ : ∃ g, f = g + 1 := ⟨f - 1, by omega⟩
    have hi : i < l.length := by omega
    unfold f60_l0
    rw [len_av, ifB_t (lss_t hi), ← len_av (f := iav), inbR hi, getI hi]
    rw [req_eq _ (show stdOps.room (acc.map Rec.av) [.agg [.int .i64 0, .int .i64 l[i]]] 16 by show _ * 16 ≤ 2 ^ 47; simp only [List.length_map, List.length_cons, List.length_nil]; omega), add1 (by omega)]
    obtain ⟨p', hp⟩ := ih f fuel (i + 1) l (stdOps.padd w [.agg [.int .i64 0, .int .i64 l[i]]]) (acc ++ [(⟨0, l[i]⟩ : Rec)]) (by omega) (by omega) h3 (by simp [h4])
    refine ⟨p', ?_⟩
    rw [drop_all hi]
    have e : stdOps.apnd (acc.map Rec.av) [.agg [.int .i64 0, .int .i64 l[i]]] = (acc ++ [(⟨0, l[i]⟩ : Rec)]).map Rec.av := by
      show acc.map Rec.av ++ _ = _
      rw [List.map_append]; rfl
    rw [e, hp, List.append_assoc, List.map_cons]; rfl
theorem f60_is {a0 a1 a2 a3 : Int} {fuel : Nat} {l : List Int} (hf : l.length < fuel) (hl : l.length < 2 ^ 40) : f60 stdOps fuel a0 a1 a2 a3 (l.map iav) = some (.v0 a0 a1 a2 ((l.map (Rec.mk 0)).map Rec.av) ([a3].map iav)) := by
  obtain ⟨p', h⟩ := f60_l0_is (a0 := a0) (a1 := a1) (a2 := a2) (a3 := a3) l.length fuel fuel 0 l 0 [] (by omega) hf hl rfl
  rw [List.nil_append, List.drop_zero] at h
  change f60_l0 stdOps fuel _ _ _ _ _ fuel 0 0 [] = _ at h
  unfold f60
  rw [bindR_eq h]
  rfl

def l0 : Sk := ⟨0, [], [0], [], []⟩
def lt1 : Txn := ⟨1, 1, 0, [⟨0, 7⟩, ⟨0, 8⟩], [2]⟩
def l1 : Sk := ⟨1, [], [0], [], [lt1]⟩
def l2 : Sk := ⟨1, [⟨0, 7⟩, ⟨0, 8⟩], [2], [(1, 1)], []⟩
def lt2 : Txn := ⟨2, 5, 1, [⟨0, 8⟩, ⟨0, 9⟩], [3]⟩
def l3 : Sk := ⟨2, [⟨0, 7⟩, ⟨0, 8⟩], [2], [], [lt2]⟩
def l4 : Sk := ⟨2, [⟨0, 7⟩, ⟨0, 8⟩, ⟨0, 9⟩], [3], [(2, 5)], []⟩
def lt3 : Txn := ⟨2, 6, 1, [⟨0, 9⟩], [4]⟩
theorem p1 : preF 1 l0 lt1 = (0, l1) := by rfl
theorem p2 : comF l1 (1, 1) = (0, l2) := by rfl
theorem p3 : preF 1 l2 lt2 = (0, l3) := by rfl
theorem p4 : comF l3 (2, 5) = (0, l4) := by rfl
theorem p5 : comF l4 (1, 2) = (150, l4) := by rfl
theorem p6 : preF 1 l4 lt3 = (152, l4) := by rfl
theorem i0 : Inv 1 l0 := ⟨by decide, by decide, by decide, by decide⟩
theorem i1 : Inv 1 l1 := ⟨by decide, by decide, by decide, by decide⟩
theorem i2 : Inv 1 l2 := ⟨by decide, by decide, by decide, by decide⟩
theorem i3 : Inv 1 l3 := ⟨by decide, by decide, by decide, by decide⟩
theorem i4 : Inv 1 l4 := ⟨by decide, by decide, by decide, by decide⟩
theorem f14_one {fuel : Nat} : f14 stdOps fuel 1 = some (.v1 [] 0 ([0].map iav) [] []) := by
  unfold f14
  rw [ifB_f (by simp [stdOps]), req_eq _ (by simp [stdOps])]
  rfl

theorem f13_is {fuel : Nat} (hf : 4097 < fuel) : f13 stdOps fuel = some (.v0 true) := by
  unfold f13
  rw [bindR_eq f14_one]
  dsimp only
  have e1 := f60_is (a0 := 1) (a1 := 1) (a2 := 0) (a3 := 2) (fuel := fuel) (l := [7, 8]) (by simp; omega) (by simp)
  rw [bindR_eq (show f60 stdOps fuel 1 1 0 2 [.int .i64 7, .int .i64 8] = some (.v0 lt1.e lt1.i lt1.b (lt1.r.map Rec.av) (lt1.v.map iav)) from e1)]
  dsimp only
  have e2 := f15_is (fuel := fuel) (p := 0) (t := lt1) i0 (by omega) ⟨by simp [lt1]; omega, hf⟩ (by simp [lt1])
  rw [p1] at e2
  rw [bindR_eq (show f15 stdOps fuel 0 lt1.e lt1.i lt1.b (lt1.r.map Rec.av) (lt1.v.map iav) 1 0 [] ([0].map iav) [] [] = _ from e2)]
  dsimp only
  rw [ifB_f (by simp [stdOps])]
  obtain ⟨q1, e3⟩ := f16_is (fuel := fuel) (p := 0) (k1 := 1) (k2 := 1) i1 (by omega) hf
  rw [p2] at e3
  rw [bindR_eq (show f16 stdOps fuel 0 1 1 1 l1.fence [] ([0].map iav) (dM l1.done) (pM l1.pre) = _ from e3)]
  dsimp only
  rw [ifB_f (by simp [stdOps]), bindR_eq (show f58 stdOps fuel q1 1 l2.fence (l2.out.map Rec.av) (l2.vec.map iav) (dM l2.done) (pM l2.pre) = some (.v0 2) from rfl)]
  dsimp only
  rw [ifB_f (by simp [stdOps])]
  have e4 := f60_is (a0 := 2) (a1 := 5) (a2 := 1) (a3 := 3) (fuel := fuel) (l := [8, 9]) (by simp; omega) (by simp)
  rw [bindR_eq (show f60 stdOps fuel 2 5 1 3 [.int .i64 8, .int .i64 9] = some (.v0 lt2.e lt2.i lt2.b (lt2.r.map Rec.av) (lt2.v.map iav)) from e4)]
  dsimp only
  have e5 := f15_is (fuel := fuel) (p := q1) (t := lt2) i2 (by omega) ⟨by simp [lt2]; omega, hf⟩ (by simp [lt2])
  rw [p3] at e5
  rw [bindR_eq e5]
  dsimp only
  rw [ifB_t (by simp [stdOps]), bindR_eq (show f25 stdOps fuel q1 1 l3.fence (l2.out.map Rec.av) (l2.vec.map iav) (dM l3.done) (pM l3.pre) = some (.v0 2) from rfl)]
  dsimp only
  rw [ifB_t (by simp [stdOps])]
  obtain ⟨q2, e6⟩ := f16_is (fuel := fuel) (p := q1) (k1 := 2) (k2 := 5) i3 (by omega) hf
  rw [p4] at e6
  rw [bindR_eq (show f16 stdOps fuel q1 2 5 1 l3.fence (l2.out.map Rec.av) (l2.vec.map iav) (dM l3.done) (pM l3.pre) = _ from e6)]
  dsimp only
  rw [ifB_t (by simp [stdOps]), bindR_eq (show f58 stdOps fuel q2 1 l4.fence (l4.out.map Rec.av) (l4.vec.map iav) (dM l4.done) (pM l4.pre) = some (.v0 3) from rfl)]
  dsimp only
  rw [ifB_t (by simp [stdOps])]
  obtain ⟨q3, e7⟩ := f16_is (fuel := fuel) (p := q2) (k1 := 1) (k2 := 2) i4 (by omega) hf
  rw [p5] at e7
  rw [bindR_eq e7]
  dsimp only
  have e8 := f60_is (a0 := 2) (a1 := 6) (a2 := 1) (a3 := 4) (fuel := fuel) (l := [9]) (by simp; omega) (by simp)
  rw [ifB_t (by simp [stdOps]), bindR_eq (show f60 stdOps fuel 2 6 1 4 [.int .i64 9] = some (.v0 lt3.e lt3.i lt3.b (lt3.r.map Rec.av) (lt3.v.map iav)) from e8)]
  dsimp only
  have e9 := f15_is (fuel := fuel) (p := q3) (t := lt3) i4 (by omega) ⟨by simp [lt3]; omega, hf⟩ (by simp [lt3])
  rw [p6] at e9
  rw [bindR_eq e9]
  rfl

/-- Fence. -/
def fenF (s : Sk) (e : Int) : Int × Sk := if posB e = true then reach s e else (1, s)
theorem f24_is {fuel p : Nat} {e n : Int} {s : Sk} {a b : List AV} : f24 stdOps fuel p e n s.fence a b (dM s.done) (pM s.pre) = some (.v0 (fenF s e).1 (fenF s e).2.fence (dM (fenF s e).2.done) (pM (fenF s e).2.pre)) := by
  unfold f24 fenF
  rw [bindR_eq f70_is]
  dsimp only
  rw [ifB_f rfl, bindR_eq f86_is]
  dsimp only
  cases h1 : posB e with
  | false => rw [ifB_t (by simp [stdOps])]; simp
  | true => rw [ifB_f (by simp [stdOps]), bindR_eq f72_is]; simp
theorem Inv.fenF {n : Int} {s : Sk} (h : Inv n s) (e : Int) : Inv n (fenF s e).2 := by
  unfold A.fenF
  split
  · exact h.reach _
  · exact h
theorem Inv.comF {n : Int} {s : Sk} (h : Inv n s) (k : Int × Int) : Inv n (comF s k).2 := by
  unfold A.comF
  have hr := h.named k
  split
  · exact hr
  · unfold comS
    split
    · exact hr
    · rename_i hd
      split
      · exact hr
      · rename_i t hf
        split
        · exact hr
        · rename_i hc
          have ht := hr.pre.2.2 t (List.mem_of_find?_eq_some hf)
          have hk : k = t.key := by simpa using List.find?_some hf
          have hc0 : suitsE (A.named s k).2.out (A.named s k).2.vec t = 0 := Classical.byContradiction fun hn => hc hn
          obtain ⟨c1, c2, c3, c4, c5⟩ := suits_zero hc0
          have hb := (mayB_small ht).1
          refine ⟨?_, mayB_cnt ht, ⟨?_, ?_⟩, ?_, ?_, ?_⟩
          · simp only [List.length_append, List.length_drop]; omega
          · rw [List.nodup_append]
            exact ⟨hr.done.1, by simp, fun a ha b hb => by simp at hb; subst hb; intro e; exact hd (e ▸ ha)⟩
          · intro x hx
            rcases List.mem_append.1 hx with hx | hx
            · exact hr.done.2 x hx
            · simp at hx; subst hx; rw [hk]; exact mayB_pos ht
          · exact (List.Sublist.map _ (List.eraseP_sublist)).nodup hr.pre.1
          · exact Nat.le_trans (List.eraseP_sublist).length_le hr.pre.2.1
          · intro u hu; exact hr.pre.2.2 u ((List.eraseP_sublist).subset hu)
theorem Inv.aboF {n : Int} {s : Sk} (h : Inv n s) (k : Int × Int) : Inv n (aboF s k).2 := by
  unfold A.aboF
  have hr := h.named k
  split
  · exact hr
  · split
    · exact hr
    · exact ⟨hr.out, hr.vec, hr.done, (List.Sublist.map _ (List.eraseP_sublist)).nodup hr.pre.1, Nat.le_trans (List.eraseP_sublist).length_le hr.pre.2.1, fun u hu => hr.pre.2.2 u ((List.eraseP_sublist).subset hu)⟩
/-- What a call does to the register: a call that names no epoch leaves it; any other one makes it the greater of both. -/
theorem reach_fence {s : Sk} {e : Int} : (reach s e).1 ≠ 1 ∧ (reach s e).2.fence = max s.fence e := by
  unfold reach
  by_cases h1 : e < s.fence
  · rw [if_pos h1]; exact ⟨by simp, by show s.fence = _; omega⟩
  · rw [if_neg h1]
    by_cases h2 : s.fence < e
    · rw [if_pos h2]; exact ⟨by simp, by show e = _; omega⟩
    · rw [if_neg h2]; exact ⟨by simp, by show s.fence = _; omega⟩
theorem fen_fence {s : Sk} {e : Int} : (fenF s e).2.fence = if (fenF s e).1 = 1 then s.fence else max s.fence e := by
  unfold fenF
  by_cases h : posB e = true
  · rw [if_pos h, if_neg reach_fence.1]; exact reach_fence.2
  · rw [if_neg h]; simp
theorem suits_ne {out : List Rec} {vec : List Int} {t : Txn} : suitsE out vec t ≠ 1 := by
  unfold suitsE; split; simp; split; simp; split; simp; split <;> simp
theorem pre_fence {n : Int} {s : Sk} {t : Txn} : (preF n s t).2.fence = if (preF n s t).1 = 1 then s.fence else max s.fence t.e := by
  unfold preF
  by_cases h : mayB n t = false
  · rw [if_pos h]; simp
  · rw [if_neg h]
    have hr := reach_fence (s := s) (e := t.e)
    by_cases h2 : (reach s t.e).1 ≠ 0
    · rw [if_pos h2, if_neg hr.1]; exact hr.2
    · rw [if_neg h2]
      have hs : (preS (reach s t.e).2 t).1 ≠ 1 ∧ (preS (reach s t.e).2 t).2.fence = (reach s t.e).2.fence := by
        unfold preS
        split
        · exact ⟨by simp, rfl⟩
        · split
          · refine ⟨?_, rfl⟩
            show (if _ then (0 : Int) else 5) ≠ 1
            split <;> simp
          · split
            · exact ⟨suits_ne, rfl⟩
            · split
              · exact ⟨by simp, rfl⟩
              · exact ⟨by simp, rfl⟩
      rw [if_neg hs.1, hs.2]; exact hr.2
theorem named_fence {s : Sk} {k : Int × Int} : (named s k).2.fence = if (named s k).1 = 1 then s.fence else max s.fence k.1 := by
  unfold named
  split
  · rw [if_neg reach_fence.1]; exact reach_fence.2
  · simp
theorem com_fence {s : Sk} {k : Int × Int} : (comF s k).2.fence = if (comF s k).1 = 1 then s.fence else max s.fence k.1 := by
  unfold comF
  by_cases h : (named s k).1 = 0
  · rw [if_neg (by simp [h])]
    have hn := named_fence (s := s) (k := k)
    rw [if_neg (by rw [h]; simp)] at hn
    have hs : (comS (named s k).2 k).1 ≠ 1 ∧ (comS (named s k).2 k).2.fence = (named s k).2.fence := by
      unfold comS
      split
      · exact ⟨by simp, rfl⟩
      · split
        · exact ⟨by simp, rfl⟩
        · split
          · exact ⟨suits_ne, rfl⟩
          · exact ⟨by simp, rfl⟩
    rw [if_neg hs.1, hs.2]; exact hn
  · rw [if_pos h]; exact named_fence
theorem abo_fence {s : Sk} {k : Int × Int} : (aboF s k).2.fence = if (aboF s k).1 = 1 then s.fence else max s.fence k.1 := by
  unfold aboF
  by_cases h : (named s k).1 = 0
  · rw [if_neg (by simp [h])]
    have hn := named_fence (s := s) (k := k)
    rw [if_neg (by rw [h]; simp)] at hn
    split
    · rw [if_neg (by simp)]; exact hn
    · rw [if_neg (by simp)]; exact hn
  · rw [if_pos h]; exact named_fence

theorem reach_out {s : Sk} {e : Int} : (reach s e).2.out = s.out ∧ (reach s e).2.vec = s.vec ∧ (reach s e).2.done.length ≤ s.done.length := by
  unfold reach; split
  · exact ⟨rfl, rfl, Nat.le_refl _⟩
  · split
    · exact ⟨rfl, rfl, Nat.zero_le _⟩
    · exact ⟨rfl, rfl, Nat.le_refl _⟩
theorem fen_out {s : Sk} {e : Int} : (fenF s e).2.out = s.out ∧ (fenF s e).2.vec = s.vec ∧ (fenF s e).2.done.length ≤ s.done.length := by
  unfold fenF; split
  · exact reach_out
  · exact ⟨rfl, rfl, Nat.le_refl _⟩
theorem named_out {s : Sk} {k : Int × Int} : (named s k).2.out = s.out ∧ (named s k).2.vec = s.vec ∧ (named s k).2.done.length ≤ s.done.length := by
  unfold named; split
  · exact reach_out
  · exact ⟨rfl, rfl, Nat.le_refl _⟩
theorem pre_out {n : Int} {s : Sk} {t : Txn} : (preF n s t).2.out = s.out ∧ (preF n s t).2.vec = s.vec ∧ (preF n s t).2.done.length ≤ s.done.length := by
  unfold preF; split
  · exact ⟨rfl, rfl, Nat.le_refl _⟩
  · have hr := reach_out (s := s) (e := t.e)
    split
    · exact hr
    · unfold preS
      split
      · exact hr
      · split
        · exact hr
        · split
          · exact hr
          · split
            · exact hr
            · exact hr
theorem abo_out {s : Sk} {k : Int × Int} : (aboF s k).2.out = s.out ∧ (aboF s k).2.vec = s.vec ∧ (aboF s k).2.done.length ≤ s.done.length := by
  unfold aboF
  have hr := named_out (s := s) (k := k)
  split
  · exact hr
  · split
    · exact hr
    · exact hr
theorem com_done {s : Sk} {k : Int × Int} : (comF s k).2.done.length ≤ s.done.length + 1 := by
  unfold comF
  have hr := (named_out (s := s) (k := k)).2.2
  split
  · omega
  · unfold comS
    split
    · show (named s k).2.done.length ≤ _; omega
    · split
      · show (named s k).2.done.length ≤ _; omega
      · split
        · show (named s k).2.done.length ≤ _; omega
        · show ((named s k).2.done ++ [k]).length ≤ _; simp; omega
theorem fen_pos {s : Sk} {e : Int} (h : (fenF s e).1 ≠ 1) : e ≤ MAXN := by
  unfold fenF at h
  by_cases hp : posB e = true
  · exact (posB_iff.1 hp).2
  · rw [if_neg hp] at h; exact absurd rfl h
theorem pre_pos {n : Int} {s : Sk} {t : Txn} (h : (preF n s t).1 ≠ 1) : t.e ≤ MAXN := by
  unfold preF at h
  cases hm : mayB n t with
  | false => rw [if_pos hm] at h; exact absurd rfl h
  | true => exact (posB_iff.1 (mayB_pos hm).1).2
theorem named_pos {s : Sk} {k : Int × Int} (h : (named s k).1 ≠ 1) : k.1 ≤ MAXN := by
  unfold named at h
  by_cases hp : posB k.1 = true ∧ posB k.2 = true
  · exact (posB_iff.1 hp.1).2
  · rw [if_neg hp] at h; exact absurd rfl h
theorem com_pos {s : Sk} {k : Int × Int} (h : (comF s k).1 ≠ 1) : k.1 ≤ MAXN := by
  unfold comF at h
  by_cases hn : (named s k).1 = 0
  · exact named_pos (by rw [hn]; simp)
  · rw [if_pos hn] at h; exact named_pos h
theorem abo_pos {s : Sk} {k : Int × Int} (h : (aboF s k).1 ≠ 1) : k.1 ≤ MAXN := by
  unfold aboF at h
  by_cases hn : (named s k).1 = 0
  · exact named_pos (by rw [hn]; simp)
  · rw [if_pos hn] at h; exact named_pos h
theorem f25_is {fuel p : Nat} {n fe : Int} {a b : List AV} {d q : List (AV × AV)} : f25 stdOps fuel p n fe a b d q = some (.v0 fe) := rfl

theorem presP_small {s : Sk} (hi : Inv 2 s) : (presP s).length ≤ 8 ∧ ∀ t ∈ presP s, t.r.length ≤ 4096 ∧ t.v.length ≤ 4096 := by
  refine ⟨by unfold presP; rw [List.length_map, List.length_mergeSort, List.length_map]; exact hi.pre.2.1, fun t ht => ?_⟩
  unfold presP at ht
  obtain ⟨k, hk, rfl⟩ := List.mem_map.1 ht
  unfold presOf
  cases hf : s.pre.find? (fun u => decide (k = u.key)) with
  | none => exact ⟨Nat.zero_le _, Nat.zero_le _⟩
  | some u =>
    have hu := hi.pre.2.2 u (List.mem_of_find?_eq_some hf)
    have := cntB_len (mayB_cnt hu)
    exact ⟨(mayB_small hu).2.2, by show u.v.length ≤ _; omega⟩

theorem reach_zero {s : Sk} {e : Int} (h : (reach s e).1 = 0) : (reach s e).2.fence = e := by
  unfold reach at h ⊢
  split at h
  · simp at h
  · rename_i h1
    rw [if_neg h1]
    split
    · rfl
    · show s.fence = e
      omega
end Go.Proofs.Ytjdbmfipciadfaa.A
