/- The sink: Done, Abort, Plain, in plain Lean. -/
import Derived.Test.YtjdbmfipciadfaaSkC

namespace Go.Proofs.Ytjdbmfipciadfaa.A
open Go Go.Pt

theorem f20_is {fuel p : Nat} {k1 k2 n fe : Int} {s : Sk} {a b : List AV} : f20 stdOps fuel p k1 k2 n fe a b (dM s.done) (pM s.pre) = some (.v0 (decide ((k1, k2) ∈ s.done))) := by
  unfold f20
  rw [bindR_eq f70_is]
  dsimp only
  rw [ifB_t (show stdOps.bnot false = true from rfl), findD]
  by_cases h : (k1, k2) ∈ s.done
  · rw [if_pos h]; simp [h]; rfl
  · rw [if_neg h]; simp [h]; rfl

/-- Abort. -/
def aboF (s : Sk) (k : Int × Int) : Int × Sk :=
  if (named s k).1 ≠ 0 then named s k else if k ∈ (named s k).2.done then (5, (named s k).2) else (0, { (named s k).2 with pre := (named s k).2.pre.eraseP fun u => decide (k = u.key) })
theorem f22_is {fuel p : Nat} {k1 k2 n : Int} {s : Sk} {a b : List AV} : f22 stdOps fuel p k1 k2 n s.fence a b (dM s.done) (pM s.pre) =
    some (.v0 (aboF s (k1, k2)).1 (aboF s (k1, k2)).2.fence (dM (aboF s (k1, k2)).2.done) (pM (aboF s (k1, k2)).2.pre)) := by
  unfold f22 aboF
  rw [bindR_eq f77_is]
  dsimp only
  by_cases h1 : (named s (k1, k2)).1 = 0
  · rw [ifB_f (by simp [stdOps, h1]), if_neg (by simp [h1]), findD]
    have q3 : stdOps.mdel (pM (named s (k1, k2)).2.pre) (.agg [.int .i64 k1, .int .i64 k2]) = pM ((named s (k1, k2)).2.pre.eraseP fun u => decide ((k1, k2) = u.key)) := del_p (k := (k1, k2))
    by_cases hd : (k1, k2) ∈ (named s (k1, k2)).2.done
    · rw [if_pos hd, if_pos hd, ifB_t rfl]
    · rw [if_neg hd, if_neg hd, req_eq _ mok_p, q3]
  · rw [ifB_t (by simp [stdOps, h1]), if_pos h1]

theorem kav_inj {a b : Int × Int} (h : kav a = kav b) : a = b := by
  have := congrArg unkav h
  exact this
theorem namesF_map {es : List (AV × AV)} {ks : List (Int × Int)} (h : KeysOk es ks) : namesF es = some ((ks.mergeSort kle).map kav) := by
  unfold namesF
  have hx : ∃ ks, KeysOk es ks := ⟨ks, h⟩
  rw [dif_pos hx]
  have h2 := Classical.choose_spec hx
  have : Classical.choose hx = ks := by
    have e := h2.1.symm.trans h.1
    exact List.map_inj_right (fun _ _ => kav_inj) |>.1 e
  rw [this]
theorem keys_d {l : List (Int × Int)} (h1 : l.Nodup) (h2 : l.length < 2 ^ 42) (h3 : ∀ k ∈ l, posB k.1 = true ∧ posB k.2 = true) : KeysOk (dM l) l :=
  ⟨by simp [dM, List.map_map, Function.comp_def], h1, h2, fun k hk => by
    have := h3 k hk
    rw [posB_iff, posB_iff] at this
    unfold MAXN at this
    omega⟩
theorem keys_p {l : List Txn} (h1 : (l.map Txn.key).Nodup) (h2 : l.length < 2 ^ 42) (h3 : ∀ t ∈ l, posB t.e = true ∧ posB t.i = true) : KeysOk (pM l) (l.map Txn.key) :=
  ⟨by simp [pM, List.map_map, Function.comp_def], h1, by simpa using h2, fun k hk => by
    obtain ⟨t, ht, rfl⟩ := List.mem_map.1 hk
    have := h3 t ht
    rw [posB_iff, posB_iff] at this
    unfold MAXN at this
    simp only [Txn.key]
    omega⟩

theorem f18_l0_is {a1 a2 : Int} {a3 a4 r8 r9 : List AV} {a0 : Nat} {r11 a6 : List (AV × AV)} : ∀ (d f fuel i : Nat) (l : List (Int × Int)) (w : Nat) (acc : List Int), i + d = l.length → d < f → l.length < 2 ^ 42 → acc.length = i →
    ∃ p', f18_l0 stdOps fuel (l.map kav) a1 a2 a3 a0 a4 r11 a6 r8 r9 f w i (acc.map iav) = some (.x0 ((acc ++ (l.drop i).map Prod.snd).map iav) p') := by
  intro d
  induction d with
  | zero =>
    intro f fuel i l w acc h1 h2 h3 h4
    obtain ⟨f, rfl⟩ : ∃ g, f = g + 1 := ⟨f - 1, by omega⟩
    unfold f18_l0
    rw [len_av, ifB_f (lss_f (by omega)), List.drop_of_length_le (by omega), List.map_nil, List.append_nil]
    exact ⟨_, rfl⟩
  | succ d ih =>
    intro f fuel i l w acc h1 h2 h3 h4
    obtain ⟨f, rfl⟩ : ∃ g, f = g + 1 := ⟨f - 1, by omega⟩
    have hi : i < l.length := by omega
    unfold f18_l0
    rw [len_av, ifB_t (lss_t hi), ← len_av (f := kav), inbR hi, getK hi]
    rw [req_eq _ (show stdOps.room (acc.map iav) [.int .i64 l[i].2] 8 by show _ * 8 ≤ 2 ^ 47; simp only [List.length_map, List.length_cons, List.length_nil]; omega), add1 (by omega)]
    obtain ⟨p', hp⟩ := ih f fuel (i + 1) l (stdOps.padd w [.int .i64 l[i].2]) (acc ++ [l[i].2]) (by omega) (by omega) h3 (by simp [h4])
    refine ⟨p', ?_⟩
    rw [drop_all hi]
    have e : stdOps.apnd (acc.map iav) [.int .i64 l[i].2] = (acc ++ [l[i].2]).map iav := by
      show acc.map iav ++ _ = _
      rw [List.map_append]; rfl
    rw [e, hp, List.append_assoc, List.map_cons]; rfl

def noTxn : Txn := ⟨0, 0, 0, [], []⟩
/-- What is pre-committed, in the order of its names. -/
def presOf (l : List Txn) (k : Int × Int) : Txn := (l.find? fun u => decide (k = u.key)).getD noTxn
theorem f18_l1_is {a1 a2 : Int} {a3 a4 r8 r9 y21 : List AV} {y22 a0 : Nat} {r11 : List (AV × AV)} {pre : List Txn} (hp : ∀ t ∈ pre, t.r.length ≤ 2 ^ 40 ∧ t.v.length ≤ 2 ^ 40) : ∀ (d f fuel i : Nat) (l : List (Int × Int)) (w : Nat) (acc : List Txn), i + d = l.length → d < f → l.length ≤ 8 → acc.length = i →
    (∀ k ∈ l, k ∈ pre.map Txn.key) →
    ∃ p', f18_l1 stdOps fuel (l.map kav) (pM pre) a1 a2 a3 a0 a4 r11 r8 r9 y21 y22 f w i (acc.map Txn.av) = some (.x0 ((acc ++ (l.drop i).map (presOf pre)).map Txn.av) p') := by
  intro d
  induction d with
  | zero =>
    intro f fuel i l w acc h1 h2 h3 h4 h5
    obtain ⟨f, rfl⟩ : ∃ g, f = g + 1 := ⟨f - 1, by omega⟩
    unfold f18_l1
    rw [len_av, ifB_f (lss_f (by omega)), List.drop_of_length_le (by omega), List.map_nil, List.append_nil]
    exact ⟨_, rfl⟩
  | succ d ih =>
    intro f fuel i l w acc h1 h2 h3 h4 h5
    obtain ⟨f, rfl⟩ : ∃ g, f = g + 1 := ⟨f - 1, by omega⟩
    have hi : i < l.length := by omega
    unfold f18_l1
    rw [len_av, ifB_t (lss_t hi), ← len_av (f := kav), inbR hi, getK hi, findP]
    have hk := h5 l[i] (List.getElem_mem hi)
    cases hf : pre.find? (fun u => decide ((l[i].1, l[i].2) = u.key)) with
    | none =>
      exfalso
      obtain ⟨t, ht, he⟩ := List.mem_map.1 hk
      have := List.find?_eq_none.1 hf t ht
      exact this (by simp [he])
    | some t =>
      have ht := List.mem_of_find?_eq_some hf
      dsimp only
      rw [bindR_eq (f76_is (hp t ht).1 (hp t ht).2)]
      dsimp only
      show ∃ p', req (stdOps.room (acc.map Txn.av) [t.av] 72) (f18_l1 stdOps fuel (l.map kav) (pM pre) a1 a2 a3 a0 a4 r11 r8 r9 y21 y22 f (stdOps.padd w [t.av]) (stdOps.ar .add .i64 (i : Int) 1) (stdOps.apnd (acc.map Txn.av) [t.av])) = _
      rw [req_eq _ (show stdOps.room (acc.map Txn.av) [t.av] 72 by show _ * 72 ≤ 2 ^ 47; simp only [List.length_map, List.length_cons, List.length_nil]; omega), add1 (by omega)]
      have hpo : presOf pre l[i] = t := by unfold presOf; rw [show (fun u : Txn => decide (l[i] = u.key)) = fun u => decide ((l[i].1, l[i].2) = u.key) from rfl, hf]; rfl
      obtain ⟨p', hp'⟩ := ih f fuel (i + 1) l (stdOps.padd w [t.av]) (acc ++ [t]) (by omega) (by omega) h3 (by simp [h4]) h5
      refine ⟨p', ?_⟩
      rw [drop_all hi]
      have e : stdOps.apnd (acc.map Txn.av) [t.av] = (acc ++ [t]).map Txn.av := by
        show acc.map Txn.av ++ _ = _
        rw [List.map_append]; rfl
      show f18_l1 stdOps fuel (l.map kav) (pM pre) a1 a2 a3 a0 a4 r11 r8 r9 y21 y22 f (stdOps.padd w [t.av]) ((i + 1 : Nat) : Int) (stdOps.apnd (acc.map Txn.av) [t.av]) = _
      rw [e, hp', List.append_assoc, List.map_cons, hpo]; rfl

/-- Plain. -/
def donesP (s : Sk) : List Int := (s.done.mergeSort kle).map Prod.snd
def presP (s : Sk) : List Txn := ((s.pre.map Txn.key).mergeSort kle).map (presOf s.pre)
theorem f18_is {fuel p : Nat} {n : Int} {s : Sk} (hi : Inv n s) (hn : n ≤ 4) (hd : s.done.length < 2 ^ 42) (hf : s.done.length < fuel ∧ 8 < fuel) :
    f18 stdOps fuel p n s.fence (s.out.map Rec.av) (s.vec.map iav) (dM s.done) (pM s.pre) = some (.v0 s.fence (s.out.map Rec.av) (s.vec.map iav) ((donesP s).map iav) ((presP s).map Txn.av) (dM s.done) (pM s.pre)) := by
  have ho := hi.out
  have hv := cntB_len hi.vec
  have hpl := hi.pre.2.1
  unfold f18
  rw [bindR_eq f70_is]
  dsimp only
  rw [ifB_f rfl, bindR_eq (f79_is (by simp only [List.length_map]; omega))]
  dsimp only
  rw [bindR_eq (f78_is (by simp only [List.length_map]; omega))]
  dsimp only
  have e80 : f80 stdOps fuel (dM s.done) = some (.v0 ((s.done.mergeSort kle).map kav) (dM s.done)) := by unfold f80; rw [namesF_map (keys_d hi.done.1 hd hi.done.2)]; rfl
  have e81 : f81 stdOps fuel (pM s.pre) = some (.v0 (((s.pre.map Txn.key).mergeSort kle).map kav) (pM s.pre)) := by unfold f81; rw [namesF_map (keys_p hi.pre.1 (by omega) fun t ht => mayB_pos (hi.pre.2.2 t ht))]; rfl
  rw [bindR_eq e80]
  dsimp only
  have hsd : (s.done.mergeSort kle).length = s.done.length := List.length_mergeSort _
  have hsp : ((s.pre.map Txn.key).mergeSort kle).length = s.pre.length := by rw [List.length_mergeSort, List.length_map]
  obtain ⟨p1, h1⟩ := f18_l0_is (a1 := n) (a2 := s.fence) (a3 := s.out.map Rec.av) (a4 := s.vec.map iav) (r8 := s.out.map Rec.av) (r9 := s.vec.map iav) (a0 := p) (r11 := dM s.done) (a6 := pM s.pre) s.done.length fuel fuel 0 (s.done.mergeSort kle) 0 [] (by omega) (by omega) (by omega) rfl
  rw [List.nil_append, List.drop_zero] at h1
  change f18_l0 stdOps fuel _ _ _ _ _ _ _ _ _ _ fuel 0 0 [] = _ at h1
  rw [bindR_eq h1]
  dsimp only
  rw [bindR_eq e81]
  dsimp only
  obtain ⟨p2, h2⟩ := f18_l1_is (a1 := n) (a2 := s.fence) (a3 := s.out.map Rec.av) (a4 := s.vec.map iav) (r8 := s.out.map Rec.av) (r9 := s.vec.map iav) (a0 := p) (r11 := dM s.done) (y21 := ((s.done.mergeSort kle).map Prod.snd).map iav) (y22 := p1) (pre := s.pre)
    (fun t ht => ⟨by have := (mayB_small (hi.pre.2.2 t ht)).2.2; omega, by have := cntB_len (mayB_cnt (hi.pre.2.2 t ht)); omega⟩) s.pre.length fuel fuel 0 ((s.pre.map Txn.key).mergeSort kle) 0 [] (by omega) (by omega) (by omega) rfl (fun k hk => (List.mem_mergeSort).1 hk)
  rw [List.nil_append, List.drop_zero] at h2
  change f18_l1 stdOps fuel _ _ _ _ _ _ _ _ _ _ _ _ fuel 0 0 [] = _ at h2
  rw [bindR_eq h2]
  rfl
end Go.Proofs.Ytjdbmfipciadfaa.A
