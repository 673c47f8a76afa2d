/- The sink: what each call of the program gives, in plain Lean. -/
import Derived.Test.YtjdbmfipciadfaaTpA

namespace Go.Proofs.Ytjdbmfipciadfaa.A
open Go Go.Pt

/-- What a sink keeps. -/
structure Sk where
  fence : Int
  out : List Rec
  vec : List Int
  done : List (Int × Int)
  pre : List Txn

/-- What keeps a transaction from being committed now. -/
def suitsE (out : List Rec) (vec : List Int) (t : Txn) : Int :=
  if (out.length : Int) < t.b then 151
  else if abvB t.v vec = false ∨ t.b + t.r.length < out.length then 152
  else if out.drop t.b.toNat ≠ t.r.take (out.length - t.b.toNat) then 153
  else if 4096 < t.b + t.r.length then 30 else 0
/-- A transaction that may be, roughly. -/
def Small (t : Txn) : Prop := 0 ≤ t.b ∧ t.b ≤ 4096 ∧ t.r.length ≤ 4096
theorem f75_is {fuel p : Nat} {t : Txn} {n fe : Int} {out : List Rec} {vec : List Int} {d q : List (AV × AV)} (ht : Small t) (ho : out.length ≤ 4096) (hf : t.v.length < fuel ∧ 4097 < fuel) (hl : t.v.length < 2 ^ 60) :
    f75 stdOps fuel p t.e t.i t.b (t.r.map Rec.av) (t.v.map iav) n fe (out.map Rec.av) (vec.map iav) d q = some (.v0 (suitsE out vec t)) := by
  obtain ⟨hb0, hb1, hr⟩ := ht
  unfold f75 suitsE
  have hsum : stdOps.ar .add .i64 t.b (t.r.length : Int) = t.b + t.r.length := by simp only [stdOps]; exact wr_i64 (by omega) (by omega)
  have hsub : stdOps.ar .sub .i64 (out.length : Int) t.b = out.length - t.b := by simp only [stdOps]; exact wr_i64 (by omega) (by omega)
  rw [len_av, len_av, hsum, hsub]
  by_cases h1 : (out.length : Int) < t.b
  · rw [ifB_t (by simp [stdOps, h1]), if_pos h1]
  rw [ifB_f (by simp [stdOps]; omega), if_neg h1, bindR_eq (f46_is hf.1 hl)]
  dsimp only
  by_cases h2 : abvB t.v vec = false ∨ t.b + t.r.length < out.length
  · rw [if_pos h2, ifB_t]
    rcases h2 with h2 | h2
    · simp [stdOps, h2]
    · cases abvB t.v vec <;> simp [stdOps, h2]
  rw [if_neg h2]
  have h2a : abvB t.v vec = true := by cases h : abvB t.v vec <;> simp_all
  have h2b : ¬ t.b + t.r.length < out.length := fun e => h2 (.inr e)
  rw [ifB_f (by simp [stdOps, h2a]; omega), req_eq _ (show stdOps.le 0 t.b from hb0), req_eq _ (show stdOps.le t.b (out.length : Int) by show t.b ≤ _; omega),
    req_eq _ (show stdOps.le 0 ((out.length : Int) - t.b) by show (0 : Int) ≤ _; omega), req_eq _ (show stdOps.le ((out.length : Int) - t.b) (t.r.length : Int) by show _ ≤ (t.r.length : Int); omega)]
  have e1 : stdOps.drop (out.map Rec.av) t.b = (out.drop t.b.toNat).map Rec.av := by simp [stdOps]
  have e2 : stdOps.sub (t.r.map Rec.av) 0 ((out.length : Int) - t.b) = (t.r.take (out.length - t.b.toNat)).map Rec.av := by
    show ((t.r.map Rec.av).take ((out.length : Int) - t.b).toNat).drop (0 : Int).toNat = _
    rw [show ((out.length : Int) - t.b).toNat = out.length - t.b.toNat by omega]; simp
  rw [e1, e2, bindR_eq (f28_is (by simp; omega) (by simp; omega))]
  dsimp only
  by_cases h3 : out.drop t.b.toNat = t.r.take (out.length - t.b.toNat)
  · rw [ifB_f (by simp [stdOps, h3]), if_neg (by simp [h3])]
    by_cases h4 : 4096 < t.b + t.r.length
    · rw [ifB_t (by simp [stdOps, h4]), if_pos h4]
    · rw [ifB_f (by simp [stdOps]; omega), if_neg h4]
  · rw [ifB_t (by simp [stdOps, h3]), if_pos h3]

/-- An epoch comes: fenced off, or the register is raised, or not. -/
def reach (s : Sk) (e : Int) : Int × Sk := if e < s.fence then (150, s) else if s.fence < e then (0, { s with fence := e, done := [], pre := [] }) else (0, s)
theorem f72_is {fuel p : Nat} {e n : Int} {s : Sk} {a b : List AV} : f72 stdOps fuel p e n s.fence a b (dM s.done) (pM s.pre) = some (.v0 (reach s e).1 (reach s e).2.fence (dM (reach s e).2.done) (pM (reach s e).2.pre)) := by
  unfold f72 reach
  by_cases h1 : e < s.fence
  · rw [ifB_t (by simp [stdOps, h1]), if_pos h1]
  · rw [ifB_f (by simp [stdOps]; omega), if_neg h1]
    by_cases h2 : s.fence < e
    · rw [ifB_t (by simp [stdOps, h2]), if_pos h2]; rfl
    · rw [ifB_f (by simp [stdOps]; omega), if_neg h2]
theorem f70_is {fuel p : Nat} {n fe : Int} {a b : List AV} {d q : List (AV × AV)} : f70 stdOps fuel p n fe a b d q = some (.v0 false) := rfl
def named (s : Sk) (k : Int × Int) : Int × Sk := if posB k.1 = true ∧ posB k.2 = true then reach s k.1 else (1, s)
theorem f77_is {fuel p : Nat} {k1 k2 n : Int} {s : Sk} {a b : List AV} : f77 stdOps fuel p k1 k2 n s.fence a b (dM s.done) (pM s.pre) = some (.v0 (named s (k1, k2)).1 (named s (k1, k2)).2.fence (dM (named s (k1, k2)).2.done) (pM (named s (k1, k2)).2.pre)) := by
  unfold f77 named
  rw [bindR_eq f70_is]
  dsimp only
  rw [ifB_f rfl, bindR_eq f86_is]
  dsimp only
  cases h1 : posB k1 with
  | false => rw [ifB_t (by simp [stdOps])]; simp
  | true =>
    rw [ifB_f (by simp [stdOps]), bindR_eq f86_is]
    dsimp only
    cases h2 : posB k2 with
    | false => rw [ifB_t (by simp [stdOps])]; simp
    | true => rw [ifB_f (by simp [stdOps]), bindR_eq f72_is]; simp

/-- What holds of a sink at all times. -/
structure Inv (n : Int) (s : Sk) : Prop where
  out : s.out.length ≤ 4096
  vec : cntB s.vec n = true
  done : s.done.Nodup ∧ ∀ k ∈ s.done, posB k.1 = true ∧ posB k.2 = true
  pre : (s.pre.map Txn.key).Nodup ∧ s.pre.length ≤ 8 ∧ ∀ t ∈ s.pre, mayB n t = true
theorem posB_iff {n : Int} : posB n = true ↔ 1 ≤ n ∧ n ≤ MAXN := by simp [posB]
theorem mayB_small {n : Int} {t : Txn} (h : mayB n t = true) : Small t := by
  simp only [mayB, Bool.and_eq_true, decide_eq_true_eq] at h
  exact ⟨h.1.1.1.2, h.1.1.2, h.1.2⟩
theorem mayB_pos {n : Int} {t : Txn} (h : mayB n t = true) : posB t.e = true ∧ posB t.i = true := by
  simp only [mayB, Bool.and_eq_true] at h
  exact ⟨h.1.1.1.1.1, h.1.1.1.1.2⟩
theorem mayB_cnt {n : Int} {t : Txn} (h : mayB n t = true) : cntB t.v n = true := by
  simp only [mayB, Bool.and_eq_true] at h
  exact h.2
theorem cntB_len {n : Int} {l : List Int} (h : cntB l n = true) : (l.length : Int) = n := by
  simp only [cntB, Bool.and_eq_true, decide_eq_true_eq] at h
  exact h.1
theorem Inv.reach {n : Int} {s : Sk} (h : Inv n s) (e : Int) : Inv n (reach s e).2 := by
  unfold A.reach
  split
  · exact h
  · split
    · exact ⟨h.out, h.vec, ⟨List.nodup_nil, by simp⟩, List.nodup_nil, by simp, by simp⟩
    · exact h
theorem Inv.named {n : Int} {s : Sk} (h : Inv n s) (k : Int × Int) : Inv n (named s k).2 := by
  unfold A.named
  split
  · exact h.reach _
  · exact h

/-- Pre. -/
def preS (r : Sk) (t : Txn) : Int × Sk :=
  if t.key ∈ r.done then (0, r) else
  match r.pre.find? (fun u => decide (t.key = u.key)) with
  | some u => (if u = t then 0 else 5, r)
  | none => if suitsE r.out r.vec t ≠ 0 then (suitsE r.out r.vec t, r) else if 8 ≤ r.pre.length then (6, r) else (0, { r with pre := r.pre ++ [t] })
def preF (n : Int) (s : Sk) (t : Txn) : Int × Sk :=
  if mayB n t = false then (1, s) else if (reach s t.e).1 ≠ 0 then reach s t.e else preS (reach s t.e).2 t
theorem len_p {l : List Txn} : stdOps.mlen (pM l) = (l.length : Int) := by simp [stdOps, pM]
theorem f15_is {fuel p : Nat} {n : Int} {s : Sk} {t : Txn} (hi : Inv n s) (hn : n ≤ 4) (hf : t.v.length < fuel ∧ 4097 < fuel) (hl : t.v.length < 2 ^ 60) :
    f15 stdOps fuel p t.e t.i t.b (t.r.map Rec.av) (t.v.map iav) n s.fence (s.out.map Rec.av) (s.vec.map iav) (dM s.done) (pM s.pre) =
      some (.v0 (preF n s t).1 (preF n s t).2.fence (dM (preF n s t).2.done) (pM (preF n s t).2.pre)) := by
  unfold f15 preF
  rw [bindR_eq f70_is]
  dsimp only
  rw [ifB_f rfl, bindR_eq (f71_is hf.1 hl)]
  dsimp only
  cases hm : mayB n t with
  | false => rw [ifB_t (by simp [stdOps]), if_pos rfl]
  | true =>
    have hs := mayB_small hm
    rw [ifB_f (by simp [stdOps]), if_neg (by simp), bindR_eq f72_is]
    dsimp only
    have hir := hi.reach t.e
    have hout : (reach s t.e).2.out = s.out := by unfold reach; split; rfl; split <;> rfl
    have hvec : (reach s t.e).2.vec = s.vec := by unfold reach; split; rfl; split <;> rfl
    by_cases h1 : (reach s t.e).1 = 0
    · rw [ifB_f (by simp [stdOps, h1]), if_neg (by simp [h1]), bindR_eq (show f73 stdOps fuel t.e t.i t.b (t.r.map Rec.av) (t.v.map iav) = some (.v0 t.e t.i) from rfl)]
      dsimp only
      rw [findD]
      generalize reach s t.e = q at *
      obtain ⟨q1, r⟩ := q
      dsimp only at *
      unfold preS
      by_cases hd : (t.e, t.i) ∈ r.done
      · rw [if_pos hd, if_pos (show t.key ∈ r.done from hd), ifB_t rfl]
      · rw [if_neg hd, if_neg (show t.key ∉ r.done from hd), findP]
        show (match r.pre.find? (fun u => decide (t.key = u.key)) with | some u => _ | none => _) = _
        cases hfd : r.pre.find? (fun u => decide (t.key = u.key)) with
        | some u =>
          have hu := hir.pre.2.2 u (List.mem_of_find?_eq_some hfd)
          have hul := cntB_len (mayB_cnt hu)
          have hus := mayB_small hu
          dsimp only
          rw [bindR_eq (f74_is ⟨by have := hus.2.2; omega, by omega⟩ ⟨by have := hus.2.2; omega, by omega⟩)]
          dsimp only
          by_cases he : u = t
          · rw [ifB_t (by simp [he]), if_pos he]
          · rw [ifB_f (by simp [he]), if_neg he]
        | none =>
          dsimp only
          rw [← hout, ← hvec, bindR_eq (f75_is hs hir.out hf hl)]
          dsimp only
          by_cases hc : suitsE r.out r.vec t = 0
          · rw [ifB_f (by simp [stdOps, hc]), if_neg (by simp [hc]), len_p]
            by_cases h8 : 8 ≤ r.pre.length
            · rw [ifB_t (by simp [stdOps]; omega), if_pos h8]
            · rw [ifB_f (by simp [stdOps]; omega), if_neg h8, bindR_eq (f76_is (by have := hs.2.2; omega) (by have := cntB_len (mayB_cnt hm); omega))]
              dsimp only
              rw [req_eq _ mok_p]
              have := put_p hfd
              rw [show stdOps.mput (pM r.pre) (.agg [.int .i64 t.e, .int .i64 t.i]) (.agg [.int .i64 t.e, .int .i64 t.i, .int .i64 t.b, .sl 2 (t.r.map Rec.av) .no, .sl 1 (t.v.map iav) .no]) = pM (r.pre ++ [t]) from this]
          · rw [ifB_t (by simp [stdOps, hc]), if_pos hc]
    · rw [ifB_t (by simp [stdOps, h1]), if_pos h1]
theorem Inv.preS {n : Int} {r : Sk} (h : Inv n r) {t : Txn} (ht : mayB n t = true) : Inv n (preS r t).2 := by
  unfold A.preS
  split
  · exact h
  · split
    · exact h
    · rename_i hfd
      split
      · exact h
      · split
        · exact h
        · refine ⟨h.out, h.vec, h.done, ?_, ?_, ?_⟩
          · show ((r.pre ++ [t]).map Txn.key).Nodup
            rw [List.map_append, List.nodup_append]
            refine ⟨h.pre.1, by simp, ?_⟩
            intro a ha b hb
            simp only [List.map_cons, List.map_nil, List.mem_singleton] at hb
            subst hb
            obtain ⟨u, hu, rfl⟩ := List.mem_map.1 ha
            have := List.find?_eq_none.1 hfd u hu
            intro e; exact this (by simp [e])
          · show (r.pre ++ [t]).length ≤ 8
            simp only [List.length_append, List.length_singleton]; omega
          · intro u hu
            rcases List.mem_append.1 hu with hu | hu
            · exact h.pre.2.2 u hu
            · rw [List.mem_singleton.1 hu]; exact ht
theorem Inv.preF {n : Int} {s : Sk} (h : Inv n s) (t : Txn) : Inv n (preF n s t).2 := by
  unfold A.preF
  split
  · exact h
  · split
    · exact h.reach _
    · rename_i hm _
      exact (h.reach _).preS (by simpa using hm)

/-- Commit. -/
def comS (r : Sk) (k : Int × Int) : Int × Sk :=
  if k ∈ r.done then (0, r) else
  match r.pre.find? (fun u => decide (k = u.key)) with
  | none => (4, r)
  | some t => if suitsE r.out r.vec t ≠ 0 then (suitsE r.out r.vec t, r) else
    (0, { r with out := r.out ++ t.r.drop (r.out.length - t.b.toNat), vec := t.v, pre := r.pre.eraseP (fun u => decide (k = u.key)), done := r.done ++ [k] })
def comF (s : Sk) (k : Int × Int) : Int × Sk := if (named s k).1 ≠ 0 then named s k else comS (named s k).2 k
theorem suits_zero {out : List Rec} {vec : List Int} {t : Txn} (h : suitsE out vec t = 0) : t.b ≤ out.length ∧ abvB t.v vec = true ∧ (out.length : Int) ≤ t.b + t.r.length ∧ out.drop t.b.toNat = t.r.take (out.length - t.b.toNat) ∧ t.b + t.r.length ≤ 4096 := by
  unfold suitsE at h
  split at h
  · simp at h
  · split at h
    · simp at h
    · rename_i h1 h2
      split at h
      · simp at h
      · rename_i h3
        split at h
        · simp at h
        · refine ⟨by omega, ?_, ?_, by simpa using h3, by omega⟩
          · cases hv : abvB t.v vec with
            | true => rfl
            | false => exact absurd (.inl hv) h2
          · exact Classical.byContradiction fun hn => h2 (.inr (by omega))
theorem f16_is {fuel p : Nat} {n k1 k2 : Int} {s : Sk} (hi : Inv n s) (hn : n ≤ 4) (hf : 4097 < fuel) :
    ∃ p', f16 stdOps fuel p k1 k2 n s.fence (s.out.map Rec.av) (s.vec.map iav) (dM s.done) (pM s.pre) =
      some (.v0 (comF s (k1, k2)).1 (comF s (k1, k2)).2.fence ((comF s (k1, k2)).2.out.map Rec.av) p' ((comF s (k1, k2)).2.vec.map iav) (dM (comF s (k1, k2)).2.done) (pM (comF s (k1, k2)).2.pre)) := by
  unfold f16 comF
  rw [bindR_eq f77_is]
  dsimp only
  have hir := hi.named (k1, k2)
  have hout : (named s (k1, k2)).2.out = s.out := by unfold named reach; split; split; rfl; split <;> rfl; rfl
  have hvec : (named s (k1, k2)).2.vec = s.vec := by unfold named reach; split; split; rfl; split <;> rfl; rfl
  by_cases h1 : (named s (k1, k2)).1 = 0
  · rw [ifB_f (by simp [stdOps, h1]), if_neg (by simp [h1]), findD, ← hout, ← hvec]
    generalize named s (k1, k2) = q at *
    obtain ⟨q1, r⟩ := q
    dsimp only at *
    unfold comS
    by_cases hd : (k1, k2) ∈ r.done
    · rw [if_pos hd, if_pos hd, ifB_t rfl]
      exact ⟨p, rfl⟩
    · rw [if_neg hd, if_neg hd, findP]
      cases hfd : r.pre.find? (fun u => decide ((k1, k2) = u.key)) with
      | none => exact ⟨p, rfl⟩
      | some t =>
        have ht := hir.pre.2.2 t (List.mem_of_find?_eq_some hfd)
        have htl := cntB_len (mayB_cnt ht)
        have hs := mayB_small ht
        have hs' := hs
        obtain ⟨hb0, hb1, hb2⟩ := hs'
        dsimp only
        rw [bindR_eq (f75_is hs hir.out ⟨by omega, hf⟩ (by omega))]
        dsimp only
        by_cases hc : suitsE r.out r.vec t = 0
        · obtain ⟨c1, c2, c3, c4, c5⟩ := suits_zero hc
          have ho := hir.out
          have hsub : stdOps.ar .sub .i64 (r.out.length : Int) t.b = r.out.length - t.b := by simp only [stdOps]; exact wr_i64 (by omega) (by omega)
          have e1 : stdOps.drop (t.r.map Rec.av) ((r.out.length : Int) - t.b) = (t.r.drop (r.out.length - t.b.toNat)).map Rec.av := by
            show (t.r.map Rec.av).drop ((r.out.length : Int) - t.b).toNat = _
            rw [show ((r.out.length : Int) - t.b).toNat = r.out.length - t.b.toNat by omega]; simp
          rw [ifB_f (by simp [stdOps, hc]), if_neg (by simp [hc]), len_av, len_av, hsub, e1, req_eq _ (show stdOps.le 0 ((r.out.length : Int) - t.b) by show (0 : Int) ≤ _; omega),
            req_eq _ (show stdOps.le ((r.out.length : Int) - t.b) (t.r.length : Int) by show _ ≤ (t.r.length : Int); omega),
            req_eq _ (show stdOps.room (r.out.map Rec.av) ((t.r.drop (r.out.length - t.b.toNat)).map Rec.av) 16 by show _ * 16 ≤ 2 ^ 47; simp only [List.length_map, List.length_drop]; omega),
            bindR_eq (f78_is (by simp only [List.length_map]; omega))]
          dsimp only
          rw [req_eq _ mok_p, req_eq _ mok_d]
          have q1 : stdOps.apnd (r.out.map Rec.av) ((t.r.drop (r.out.length - t.b.toNat)).map Rec.av) = (r.out ++ t.r.drop (r.out.length - t.b.toNat)).map Rec.av := by
            show r.out.map Rec.av ++ _ = _
            rw [List.map_append]
          have q2 : stdOps.mput (dM r.done) (.agg [.int .i64 k1, .int .i64 k2]) (.bool true) = dM (r.done ++ [(k1, k2)]) := put_d (k := (k1, k2)) hd
          have q3 : stdOps.mdel (pM r.pre) (.agg [.int .i64 k1, .int .i64 k2]) = pM (r.pre.eraseP fun u => decide ((k1, k2) = u.key)) := del_p (k := (k1, k2))
          rw [q1, q2, q3]
          exact ⟨_, rfl⟩
        · rw [ifB_t (by simp [stdOps, hc]), if_pos hc]
          exact ⟨p, rfl⟩
  · rw [ifB_t (by simp [stdOps, h1]), if_pos h1, hout, hvec]
    exact ⟨p, rfl⟩

theorem f20_is {fuel p : Nat} {k1 k2 n fe : Int} {s : Sk} {a b : List AV} : f20 stdOps fuel p k1 k2 n fe a b (dM s.done) (pM s.pre) = some (.v0 (decide ((k1, k2) ∈ s.done))) := by
  unfold f20
  rw [bindR_eq f70_is]
  dsimp only
  rw [ifB_t (show stdOps.bnot false = true from rfl), findD]
  by_cases h : (k1, k2) ∈ s.done
  · rw [if_pos h]; simp [h]; rfl
  · rw [if_neg h]; simp [h]; rfl

/-- Abort. -/
def aboF (s : Sk) (k : Int × Int) : Int × Sk :=
  if (named s k).1 ≠ 0 then named s k else if k ∈ (named s k).2.done then (5, (named s k).2) else (0, { (named s k).2 with pre := (named s k).2.pre.eraseP fun u => decide (k = u.key) })
theorem f22_is {fuel p : Nat} {k1 k2 n : Int} {s : Sk} {a b : List AV} : f22 stdOps fuel p k1 k2 n s.fence a b (dM s.done) (pM s.pre) =
    some (.v0 (aboF s (k1, k2)).1 (aboF s (k1, k2)).2.fence (dM (aboF s (k1, k2)).2.done) (pM (aboF s (k1, k2)).2.pre)) := by
  unfold f22 aboF
  rw [bindR_eq f77_is]
  dsimp only
  by_cases h1 : (named s (k1, k2)).1 = 0
  · rw [ifB_f (by simp [stdOps, h1]), if_neg (by simp [h1]), findD]
    have q3 : stdOps.mdel (pM (named s (k1, k2)).2.pre) (.agg [.int .i64 k1, .int .i64 k2]) = pM ((named s (k1, k2)).2.pre.eraseP fun u => decide ((k1, k2) = u.key)) := del_p (k := (k1, k2))
    by_cases hd : (k1, k2) ∈ (named s (k1, k2)).2.done
    · rw [if_pos hd, if_pos hd, ifB_t rfl]
    · rw [if_neg hd, if_neg hd, req_eq _ mok_p, q3]
  · rw [ifB_t (by simp [stdOps, h1]), if_pos h1]

theorem kav_inj {a b : Int × Int} (h : kav a = kav b) : a = b := by
  have := congrArg unkav h
  exact this
theorem namesF_map {es : List (AV × AV)} {ks : List (Int × Int)} (h : KeysOk es ks) : namesF es = some ((ks.mergeSort kle).map kav) := by
  unfold namesF
  have hx : ∃ ks, KeysOk es ks := ⟨ks, h⟩
  rw [dif_pos hx]
  have h2 := Classical.choose_spec hx
  have : Classical.choose hx = ks := by
    have e := h2.1.symm.trans h.1
    exact List.map_inj_right (fun _ _ => kav_inj) |>.1 e
  rw [this]
theorem keys_d {l : List (Int × Int)} (h1 : l.Nodup) (h2 : l.length < 2 ^ 42) (h3 : ∀ k ∈ l, posB k.1 = true ∧ posB k.2 = true) : KeysOk (dM l) l :=
  ⟨by simp [dM, List.map_map, Function.comp_def], h1, h2, fun k hk => by
    have := h3 k hk
    rw [posB_iff, posB_iff] at this
    unfold MAXN at this
    omega⟩
theorem keys_p {l : List Txn} (h1 : (l.map Txn.key).Nodup) (h2 : l.length < 2 ^ 42) (h3 : ∀ t ∈ l, posB t.e = true ∧ posB t.i = true) : KeysOk (pM l) (l.map Txn.key) :=
  ⟨by simp [pM, List.map_map, Function.comp_def], h1, by simpa using h2, fun k hk => by
    obtain ⟨t, ht, rfl⟩ := List.mem_map.1 hk
    have := h3 t ht
    rw [posB_iff, posB_iff] at this
    unfold MAXN at this
    simp only [Txn.key]
    omega⟩

theorem f18_l0_is {a1 a2 : Int} {a3 a4 r8 r9 : List AV} {a0 : Nat} {r11 a6 : List (AV × AV)} : ∀ (d f fuel i : Nat) (l : List (Int × Int)) (w : Nat) (acc : List Int), i + d = l.length → d < f → l.length < 2 ^ 42 → acc.length = i →
    ∃ p', f18_l0 stdOps fuel (l.map kav) a1 a2 a3 a0 a4 r11 a6 r8 r9 f w i (acc.map iav) = some (.x0 ((acc ++ (l.drop i).map Prod.snd).map iav) p') := by
  intro d
  induction d with
  | zero =>
    intro f fuel i l w acc h1 h2 h3 h4
    obtain ⟨f, rfl⟩ : ∃ g, f = g + 1 := ⟨f - 1, by omega⟩
    unfold f18_l0
    rw [len_av, ifB_f (lss_f (by omega)), List.drop_of_length_le (by omega), List.map_nil, List.append_nil]
    exact ⟨_, rfl⟩
  | succ d ih =>
    intro f fuel i l w acc h1 h2 h3 h4
    obtain ⟨f, rfl⟩ : ∃ g, f = g + 1 := ⟨f - 1, by omega⟩
    have hi : i < l.length := by omega
    unfold f18_l0
    rw [len_av, ifB_t (lss_t hi), ← len_av (f := kav), inbR hi, getK hi]
    rw [req_eq _ (show stdOps.room (acc.map iav) [.int .i64 l[i].2] 8 by show _ * 8 ≤ 2 ^ 47; simp only [List.length_map, List.length_cons, List.length_nil]; omega), add1 (by omega)]
    obtain ⟨p', hp⟩ := ih f fuel (i + 1) l (stdOps.padd w [.int .i64 l[i].2]) (acc ++ [l[i].2]) (by omega) (by omega) h3 (by simp [h4])
    refine ⟨p', ?_⟩
    rw [drop_all hi]
    have e : stdOps.apnd (acc.map iav) [.int .i64 l[i].2] = (acc ++ [l[i].2]).map iav := by
      show acc.map iav ++ _ = _
      rw [List.map_append]; rfl
    rw [e, hp, List.append_assoc, List.map_cons]; rfl

def noTxn : Txn := ⟨0, 0, 0, [], []⟩
/-- What is pre-committed, in the order of its names. -/
def presOf (l : List Txn) (k : Int × Int) : Txn := (l.find? fun u => decide (k = u.key)).getD noTxn
theorem f18_l1_is {a1 a2 : Int} {a3 a4 r8 r9 y21 : List AV} {y22 a0 : Nat} {r11 : List (AV × AV)} {pre : List Txn} (hp : ∀ t ∈ pre, t.r.length ≤ 2 ^ 40 ∧ t.v.length ≤ 2 ^ 40) : ∀ (d f fuel i : Nat) (l : List (Int × Int)) (w : Nat) (acc : List Txn), i + d = l.length → d < f → l.length ≤ 8 → acc.length = i →
    (∀ k ∈ l, k ∈ pre.map Txn.key) →
    ∃ p', f18_l1 stdOps fuel (l.map kav) (pM pre) a1 a2 a3 a0 a4 r11 r8 r9 y21 y22 f w i (acc.map Txn.av) = some (.x0 ((acc ++ (l.drop i).map (presOf pre)).map Txn.av) p') := by
  intro d
  induction d with
  | zero =>
    intro f fuel i l w acc h1 h2 h3 h4 h5
    obtain ⟨f, rfl⟩ : ∃ g, f = g + 1 := ⟨f - 1, by omega⟩
    unfold f18_l1
    rw [len_av, ifB_f (lss_f (by omega)), List.drop_of_length_le (by omega), List.map_nil, List.append_nil]
    exact ⟨_, rfl⟩
  | succ d ih =>
    intro f fuel i l w acc h1 h2 h3 h4 h5
    obtain ⟨f, rfl⟩ : ∃ g, f = g + 1 := ⟨f - 1, by omega⟩
    have hi : i < l.length := by omega
    unfold f18_l1
    rw [len_av, ifB_t (lss_t hi), ← len_av (f := kav), inbR hi, getK hi, findP]
    have hk := h5 l[i] (List.getElem_mem hi)
    cases hf : pre.find? (fun u => decide ((l[i].1, l[i].2) = u.key)) with
    | none =>
      exfalso
      obtain ⟨t, ht, he⟩ := List.mem_map.1 hk
      have := List.find?_eq_none.1 hf t ht
      exact this (by simp [he])
    | some t =>
      have ht := List.mem_of_find?_eq_some hf
      dsimp only
      rw [bindR_eq (f76_is (hp t ht).1 (hp t ht).2)]
      dsimp only
      show ∃ p', req (stdOps.room (acc.map Txn.av) [t.av] 72) (f18_l1 stdOps fuel (l.map kav) (pM pre) a1 a2 a3 a0 a4 r11 r8 r9 y21 y22 f (stdOps.padd w [t.av]) (stdOps.ar .add .i64 (i : Int) 1) (stdOps.apnd (acc.map Txn.av) [t.av])) = _
      rw [req_eq _ (show stdOps.room (acc.map Txn.av) [t.av] 72 by show _ * 72 ≤ 2 ^ 47; simp only [List.length_map, List.length_cons, List.length_nil]; omega), add1 (by omega)]
      have hpo : presOf pre l[i] = t := by unfold presOf; rw [show (fun u : Txn => decide (l[i] = u.key)) = fun u => decide ((l[i].1, l[i].2) = u.key) from rfl, hf]; rfl
      obtain ⟨p', hp'⟩ := ih f fuel (i + 1) l (stdOps.padd w [t.av]) (acc ++ [t]) (by omega) (by omega) h3 (by simp [h4]) h5
      refine ⟨p', ?_⟩
      rw [drop_all hi]
      have e : stdOps.apnd (acc.map Txn.av) [t.av] = (acc ++ [t]).map Txn.av := by
        show acc.map Txn.av ++ _ = _
        rw [List.map_append]; rfl
      show f18_l1 stdOps fuel (l.map kav) (pM pre) a1 a2 a3 a0 a4 r11 r8 r9 y21 y22 f (stdOps.padd w [t.av]) ((i + 1 : Nat) : Int) (stdOps.apnd (acc.map Txn.av) [t.av]) = _
      rw [e, hp', List.append_assoc, List.map_cons, hpo]; rfl

/-- Plain. -/
def donesP (s : Sk) : List Int := (s.done.mergeSort kle).map Prod.snd
def presP (s : Sk) : List Txn := ((s.pre.map Txn.key).mergeSort kle).map (presOf s.pre)
theorem f18_is {fuel p : Nat} {n : Int} {s : Sk} (hi : Inv n s) (hn : n ≤ 4) (hd : s.done.length < 2 ^ 42) (hf : s.done.length < fuel ∧ 8 < fuel) :
    f18 stdOps fuel p n s.fence (s.out.map Rec.av) (s.vec.map iav) (dM s.done) (pM s.pre) = some (.v0 s.fence (s.out.map Rec.av) (s.vec.map iav) ((donesP s).map iav) ((presP s).map Txn.av) (dM s.done) (pM s.pre)) := by
  have ho := hi.out
  have hv := cntB_len hi.vec
  have hpl := hi.pre.2.1
  unfold f18
  rw [bindR_eq f70_is]
  dsimp only
  rw [ifB_f rfl, bindR_eq (f79_is (by simp only [List.length_map]; omega))]
  dsimp only
  rw [bindR_eq (f78_is (by simp only [List.length_map]; omega))]
  dsimp only
  have e80 : f80 stdOps fuel (dM s.done) = some (.v0 ((s.done.mergeSort kle).map kav) (dM s.done)) := by unfold f80; rw [namesF_map (keys_d hi.done.1 hd hi.done.2)]; rfl
  have e81 : f81 stdOps fuel (pM s.pre) = some (.v0 (((s.pre.map Txn.key).mergeSort kle).map kav) (pM s.pre)) := by unfold f81; rw [namesF_map (keys_p hi.pre.1 (by omega) fun t ht => mayB_pos (hi.pre.2.2 t ht))]; rfl
  rw [bindR_eq e80]
  dsimp only
  have hsd : (s.done.mergeSort kle).length = s.done.length := List.length_mergeSort _
  have hsp : ((s.pre.map Txn.key).mergeSort kle).length = s.pre.length := by rw [List.length_mergeSort, List.length_map]
  obtain ⟨p1, h1⟩ := f18_l0_is (a1 := n) (a2 := s.fence) (a3 := s.out.map Rec.av) (a4 := s.vec.map iav) (r8 := s.out.map Rec.av) (r9 := s.vec.map iav) (a0 := p) (r11 := dM s.done) (a6 := pM s.pre) s.done.length fuel fuel 0 (s.done.mergeSort kle) 0 [] (by omega) (by omega) (by omega) rfl
  rw [List.nil_append, List.drop_zero] at h1
  change f18_l0 stdOps fuel _ _ _ _ _ _ _ _ _ _ fuel 0 0 [] = _ at h1
  rw [bindR_eq h1]
  dsimp only
  rw [bindR_eq e81]
  dsimp only
  obtain ⟨p2, h2⟩ := f18_l1_is (a1 := n) (a2 := s.fence) (a3 := s.out.map Rec.av) (a4 := s.vec.map iav) (r8 := s.out.map Rec.av) (r9 := s.vec.map iav) (a0 := p) (r11 := dM s.done) (y21 := ((s.done.mergeSort kle).map Prod.snd).map iav) (y22 := p1) (pre := s.pre)
    (fun t ht => ⟨by have := (mayB_small (hi.pre.2.2 t ht)).2.2; omega, by have := cntB_len (mayB_cnt (hi.pre.2.2 t ht)); omega⟩) s.pre.length fuel fuel 0 ((s.pre.map Txn.key).mergeSort kle) 0 [] (by omega) (by omega) (by omega) rfl (fun k hk => (List.mem_mergeSort).1 hk)
  rw [List.nil_append, List.drop_zero] at h2
  change f18_l1 stdOps fuel _ _ _ _ _ _ _ _ _ _ _ _ fuel 0 0 [] = _ at h2
  rw [bindR_eq h2]
  rfl
end Go.Proofs.Ytjdbmfipciadfaa.A
