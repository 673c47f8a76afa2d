/- The sink: whether a sink is as it must be, in plain Lean. -/
import Derived.Test.YtjdbmfipciadfaaTpG

namespace Go.Proofs.Ytjdbmfipciadfaa.A
open Go Go.Pt

/-! There is but one list that rises. -/
theorem sorted_eq {α : Type} {r : α → α → Prop} (asym : ∀ a b, r a b → ¬ r b a) : ∀ {l m : List α}, l.Perm m → l.Pairwise r → m.Pairwise r → l = m
  | [], m, h, _, _ => by rw [List.nil_perm.1 h]
  | x :: l, [], h, _, _ => absurd h.length_eq (by simp)
  | x :: l, y :: m, h, h1, h2 => by
    rw [List.pairwise_cons] at h1 h2
    have hxy : x = y := by
      rcases List.mem_cons.1 (h.mem_iff.1 List.mem_cons_self) with e | hx
      · exact e
      · rcases List.mem_cons.1 (h.mem_iff.2 List.mem_cons_self) with e | hy
        · exact e.symm
        · exact absurd (h2.1 x hx) (asym _ _ (h1.1 y hy))
    subst hxy
    rw [sorted_eq asym h.cons_inv h1.2 h2.2]
theorem kle_trans (a b c : Int × Int) (h1 : kle a b = true) (h2 : kle b c = true) : kle a c = true := by
  simp only [kle, decide_eq_true_eq] at *; omega
theorem kle_total (a b : Int × Int) : (kle a b || kle b a) = true := by
  simp only [kle, Bool.or_eq_true, decide_eq_true_eq]; omega
theorem ks_sorted {l : List (Int × Int)} (hn : l.Nodup) {e : Int} (he : ∀ k ∈ l, k.1 = e) : ((l.mergeSort kle).map Prod.snd).Pairwise (· < ·) := by
  rw [List.pairwise_map]
  have h1 := List.pairwise_mergeSort kle_trans kle_total l
  have h2 : (l.mergeSort kle).Nodup := (List.mergeSort_perm l kle).nodup_iff.2 hn
  refine (h1.and h2).imp_of_mem fun {a b} ha hb ⟨hab, hne⟩ => ?_
  have e1 := he a (List.mem_mergeSort.1 ha)
  have e2 := he b (List.mem_mergeSort.1 hb)
  simp only [kle, decide_eq_true_eq] at hab
  have : a.2 ≠ b.2 := fun h => hne (Prod.ext (e1.trans e2.symm) h)
  omega
theorem donesP_eq {n : Int} {s : Sk} {w : Rf} (hi : Inv n s) (h : RelS s w) : donesP s = w.done := by
  refine sorted_eq (r := (· < ·)) (fun a b h1 h2 => by omega) ?_ (ks_sorted hi.done.1 h.ep.1) h.ds
  exact ((List.mergeSort_perm s.done kle).map Prod.snd).trans h.dp.symm
theorem presOf_key {pre : List Txn} {k : Int × Int} (h : k ∈ pre.map Txn.key) : (presOf pre k).key = k ∧ presOf pre k ∈ pre := by
  unfold presOf
  cases hf : pre.find? (fun u => decide (k = u.key)) with
  | none =>
    obtain ⟨t, ht, e⟩ := List.mem_map.1 h
    exact absurd (by simp [e]) (List.find?_eq_none.1 hf t ht)
  | some t =>
    have h1 : k = t.key := by simpa using List.find?_some hf
    exact ⟨h1.symm, List.mem_of_find?_eq_some hf⟩
theorem presOf_self {pre : List Txn} (hn : (pre.map Txn.key).Nodup) {t : Txn} (ht : t ∈ pre) : presOf pre t.key = t := by
  obtain ⟨h1, h2⟩ := presOf_key (k := t.key) (List.mem_map_of_mem ht)
  exact nodup_inj hn h2 ht h1
theorem presP_perm {n : Int} {s : Sk} (hi : Inv n s) : (presP s).Perm s.pre := by
  have h1 : (presP s).Perm ((s.pre.map Txn.key).map (presOf s.pre)) := (List.mergeSort_perm _ kle).map _
  rw [List.map_map] at h1
  have : s.pre.map (presOf s.pre ∘ Txn.key) = s.pre := by
    conv => rhs; rw [← List.map_id s.pre]
    exact List.map_congr_left fun t ht => presOf_self hi.pre.1 ht
  rwa [this] at h1
theorem presP_sorted {n : Int} {s : Sk} (hi : Inv n s) (he : ∀ t ∈ s.pre, t.e = s.fence) : (presP s).Pairwise (fun a b => a.i < b.i) := by
  have h := ks_sorted (l := s.pre.map Txn.key) hi.pre.1 (e := s.fence) (fun k hk => by
    obtain ⟨t, ht, rfl⟩ := List.mem_map.1 hk
    exact he t ht)
  unfold presP
  rw [List.pairwise_map] at h ⊢
  refine h.imp_of_mem fun {a b} ha hb hab => ?_
  have e1 := (presOf_key (List.mem_mergeSort.1 ha)).1
  have e2 := (presOf_key (List.mem_mergeSort.1 hb)).1
  rw [← e1, ← e2] at hab
  exact hab
theorem presP_eq {n : Int} {s : Sk} {w : Rf} (hi : Inv n s) (h : RelS s w) : presP s = w.pre :=
  sorted_eq (r := fun a b : Txn => a.i < b.i) (fun a b h1 h2 => by omega) ((presP_perm hi).trans h.pp.symm) (presP_sorted hi h.ep.2) h.ps
theorem names_eq {n : Int} {s : Sk} {w : Rf} (hi : Inv n s) (h : RelS s w) : (s.pre.map Txn.key).mergeSort kle = w.pre.map Txn.key := by
  rw [← presP_eq hi h]
  unfold presP
  rw [List.map_map]
  conv => lhs; rw [← List.map_id ((s.pre.map Txn.key).mergeSort kle)]
  exact List.map_congr_left fun k hk => (presOf_key (List.mem_mergeSort.1 hk)).1.symm

/-! The parts of what is compared. -/
theorem f56_l0_is {a1 a2 : Int} {a3 a4 : List AV} {a0 : Nat} {a5 a6 : List (AV × AV)} : ∀ (d f fuel i : Nat) (l : List Rec) (w : Nat) (acc : List Rec), i + d = l.length → d < f → l.length < 2 ^ 40 → acc.length = i →
    ∃ p', f56_l0 stdOps fuel (l.map Rec.av) a1 a2 a3 a0 a4 a5 a6 f w i (acc.map Rec.av) true = some (.x0 ((acc ++ l.drop i).map Rec.av) p' true) := by
  intro d
  induction d with
  | zero =>
    intro f fuel i l w acc h1 h2 h3 h4
    obtain ⟨f, rfl⟩ : ∃ g, f = g + 1 := ⟨f - 1, by omega⟩
    rw [f56_l0, len_av, ifB_f (lss_f (by omega)), List.drop_of_length_le (by omega), List.append_nil]
    exact ⟨_, rfl⟩
  | succ d ih =>
    intro f fuel i l w acc h1 h2 h3 h4
    obtain ⟨f, rfl⟩ : ∃ g, f = g + 1 := ⟨f - 1, by omega⟩
    have hi : i < l.length := by omega
    rw [f56_l0, inbR hi, len_av, ifB_t (lss_t hi), getR hi, drop_all hi, len_av]
    show ∃ p', req (stdOps.room (acc.map Rec.av) [l[i].av] 16) (f56_l0 stdOps fuel (l.map Rec.av) a1 a2 a3 a0 a4 a5 a6 f (stdOps.padd w [l[i].av]) (stdOps.ar .add .i64 (i : Int) 1) (stdOps.apnd (acc.map Rec.av) [l[i].av]) (stdOps.pick true (stdOps.cmp .eql (i : Int) (acc.length : Int)) false)) = _
    rw [req_eq _ (room_ok (by simp only [List.length_map, List.length_cons, List.length_nil]; omega)), add1 (by omega), h4, show stdOps.pick true (stdOps.cmp .eql (i : Int) (i : Int)) false = true by simp [stdOps]]
    obtain ⟨p', hp'⟩ := ih f fuel (i + 1) l (stdOps.padd w [l[i].av]) (acc ++ [l[i]]) (by omega) (by omega) h3 (by simp [h4])
    have e : stdOps.apnd (acc.map Rec.av) [l[i].av] = (acc ++ [l[i]]).map Rec.av := by
      show acc.map Rec.av ++ _ = _
      rw [List.map_append]; rfl
    refine ⟨p', ?_⟩
    rw [e, hp', List.append_assoc]; rfl
theorem f56_is {fuel p : Nat} {n fe : Int} {out : List Rec} {v : List AV} {d q : List (AV × AV)} (ho : out.length ≤ 4096) (hf : 4097 < fuel) : f56 stdOps fuel p n fe (out.map Rec.av) v d q = some (.v0 (out.map Rec.av) true) := by
  unfold f56
  rw [bindR_eq (show f124 stdOps fuel p n fe (out.map Rec.av) v d q = some .v0 from rfl)]
  try dsimp only
  rw [bindR_eq f70_is]
  dsimp only
  rw [ifB_f rfl, bindR_eq (f79_is (by rw [List.length_map]; omega))]
  dsimp only
  rw [bindR_eq (show f149 stdOps fuel (out.map Rec.av) = some .v0 from rfl)]
  try dsimp only
  obtain ⟨p', h⟩ := f56_l0_is (a1 := n) (a2 := fe) (a3 := out.map Rec.av) (a4 := v) (a0 := p) (a5 := d) (a6 := q) out.length fuel fuel 0 out 0 [] (by omega) (by omega) (by omega) rfl
  change f56_l0 stdOps fuel _ _ _ _ _ _ _ _ fuel 0 0 [] true = _ at h
  rw [bindR_eq h]; rfl
theorem f58_is {fuel p : Nat} {n fe : Int} {out : List Rec} {v : List AV} {d q : List (AV × AV)} : f58 stdOps fuel p n fe (out.map Rec.av) v d q = some (.v0 out.length) := by
  unfold f58
  rw [bindR_eq f70_is]
  dsimp only
  rw [ifB_f rfl, len_av]
/-- Some records. -/
def readF (out : List Rec) (a c : Int) : List Rec × Int := if a < 0 ∨ (out.length : Int) < a ∨ c < 0 then ([], 1) else ((out.drop a.toNat).take c.toNat, 0)
theorem sub_mn {l : List Rec} {c : Int} (h : 0 ≤ c) : stdOps.sub (l.map Rec.av) 0 (stdOps.mn c (l.length : Int)) = (l.take c.toNat).map Rec.av := by
  show ((l.map Rec.av).take (if (l.length : Int) < c then (l.length : Int) else c).toNat).drop (0 : Int).toNat = _
  split
  · rw [Int.toNat_natCast, List.take_of_length_le (by rw [List.length_map]; omega), List.take_of_length_le (by omega)]; rfl
  · rw [List.map_take]; rfl
theorem mn_le {c : Int} {m : Nat} (h : 0 ≤ c) : stdOps.le 0 (stdOps.mn c (m : Int)) ∧ stdOps.le (stdOps.mn c (m : Int)) (m : Int) := by
  show (0 : Int) ≤ (if (m : Int) < c then (m : Int) else c) ∧ (if (m : Int) < c then (m : Int) else c) ≤ (m : Int)
  split <;> omega
theorem drop_av {l : List Rec} {a : Int} : stdOps.drop (l.map Rec.av) a = (l.drop a.toNat).map Rec.av := by
  show (l.map Rec.av).drop a.toNat = _
  rw [List.map_drop]
theorem f57_is {fuel p : Nat} {n fe a c : Int} {out : List Rec} {v : List AV} {d q : List (AV × AV)} (ho : out.length ≤ 4096) : f57 stdOps fuel p a c n fe (out.map Rec.av) v d q = some (.v0 ((readF out a c).1.map Rec.av) (readF out a c).2) := by
  unfold f57 readF
  rw [bindR_eq f70_is]
  dsimp only
  rw [ifB_f rfl]
  by_cases h1 : a < 0
  · rw [ifB_t (by simp [stdOps, h1]), if_pos (.inl h1)]; rfl
  · rw [ifB_f (by simp [stdOps]; omega), bindR_eq f58_is]
    dsimp only
    by_cases h2 : (out.length : Int) < a ∨ c < 0
    · rw [ifB_t (pick_or (by simp [stdOps]; omega)), if_pos (.inr h2)]; rfl
    · have e : stdOps.pick (stdOps.cmp .gtr a (out.length : Int)) true (stdOps.cmp .lss c 0) = false := by
        have h3 : ¬ (a > (out.length : Int)) := fun h => h2 (.inl h)
        have h4 : ¬ (c < 0) := fun h => h2 (.inr h)
        simp [stdOps]; omega
      have h2' : ¬ (a < 0 ∨ (out.length : Int) < a ∨ c < 0) := by omega
      rw [ifB_f e, if_neg h2', drop_av, len_av, len_av, req_eq _ (show stdOps.le 0 a by show (0 : Int) ≤ a; omega), req_eq _ (show stdOps.le a (out.length : Int) by show a ≤ _; omega),
        req_eq _ (mn_le (by omega)).1, req_eq _ (mn_le (by omega)).2, sub_mn (by omega), bindR_eq (f79_is (by simp only [List.length_map, List.length_take, List.length_drop]; omega))]
theorem f105_is {fuel : Nat} {n fe a c : Int} {out : List Rec} {v d q : List AV} : f105 stdOps fuel a c n fe (out.map Rec.av) v d q = some (.v0 ((readF out a c).1.map Rec.av) (readF out a c).2) := by
  unfold f105 readF
  by_cases h1 : a < 0
  · rw [ifB_t (by simp [stdOps, h1]), if_pos (.inl h1)]; rfl
  · rw [ifB_f (by simp [stdOps]; omega), bindR_eq f106_is]
    dsimp only
    by_cases h2 : (out.length : Int) < a ∨ c < 0
    · rw [ifB_t (pick_or (by simp [stdOps]; omega)), if_pos (.inr h2)]; rfl
    · have e : stdOps.pick (stdOps.cmp .gtr a (out.length : Int)) true (stdOps.cmp .lss c 0) = false := by
        have h3 : ¬ (a > (out.length : Int)) := fun h => h2 (.inl h)
        have h4 : ¬ (c < 0) := fun h => h2 (.inr h)
        simp [stdOps]; omega
      have h2' : ¬ (a < 0 ∨ (out.length : Int) < a ∨ c < 0) := by omega
      rw [ifB_f e, if_neg h2', drop_av, len_av, len_av, req_eq _ (show stdOps.le 0 a by show (0 : Int) ≤ a; omega), req_eq _ (show stdOps.le a (out.length : Int) by show a ≤ _; omega),
        req_eq _ (mn_le (by omega)).1, req_eq _ (mn_le (by omega)).2, sub_mn (by omega)]
theorem f59_is {fuel p : Nat} {n fe : Int} {s : Sk} {a b : List AV} {d : List (AV × AV)} (hi : Inv n s) : f59 stdOps fuel p n fe a b d (pM s.pre) = some (.v0 (((s.pre.map Txn.key).mergeSort kle).map kav) (pM s.pre)) := by
  have hpl := hi.pre.2.1
  unfold f59
  rw [bindR_eq f70_is]
  dsimp only
  have e81 : f81 stdOps fuel (pM s.pre) = some (.v0 (((s.pre.map Txn.key).mergeSort kle).map kav) (pM s.pre)) := by unfold f81; rw [namesF_map (keys_p hi.pre.1 (by omega) fun t ht => mayB_pos (hi.pre.2.2 t ht))]; rfl
  rw [ifB_f rfl, bindR_eq e81]
theorem f108_l0_is {a0 a1 : Int} {a2 a3 a4 : List AV} : ∀ (d f fuel i : Nat) (l : List Txn) (w : Nat) (acc : List (Int × Int)), i + d = l.length → d < f → l.length ≤ 8 → acc.length = i →
    ∃ p', f108_l0 stdOps fuel (l.map Txn.av) a0 a1 a2 a3 a4 f w (acc.map kav) i = some (.x0 ((acc ++ (l.drop i).map Txn.key).map kav) p') := by
  intro d
  induction d with
  | zero =>
    intro f fuel i l w acc h1 h2 h3 h4
    obtain ⟨f, rfl⟩ : ∃ g, f = g + 1 := ⟨f - 1, by omega⟩
    rw [f108_l0, len_av, ifB_f (lss_f (by omega)), List.drop_of_length_le (by omega), List.map_nil, List.append_nil]
    exact ⟨_, rfl⟩
  | succ d ih =>
    intro f fuel i l w acc h1 h2 h3 h4
    obtain ⟨f, rfl⟩ : ∃ g, f = g + 1 := ⟨f - 1, by omega⟩
    have hi : i < l.length := by omega
    rw [f108_l0, inbR hi, len_av, ifB_t (lss_t hi), getT hi, ← len_av (f := Txn.av), inbR hi, getT hi, drop_all hi]
    show ∃ p', req (stdOps.room (acc.map kav) [kav l[i].key] 16) (f108_l0 stdOps fuel (l.map Txn.av) a0 a1 a2 a3 a4 f (stdOps.padd w [kav l[i].key]) (stdOps.apnd (acc.map kav) [kav l[i].key]) (stdOps.ar .add .i64 (i : Int) 1)) = _
    rw [req_eq _ (room_ok (by simp only [List.length_map, List.length_cons, List.length_nil]; omega)), add1 (by omega)]
    obtain ⟨p', hp'⟩ := ih f fuel (i + 1) l (stdOps.padd w [kav l[i].key]) (acc ++ [l[i].key]) (by omega) (by omega) h3 (by simp [h4])
    have e : stdOps.apnd (acc.map kav) [kav l[i].key] = (acc ++ [l[i].key]).map kav := by
      show acc.map kav ++ _ = _
      rw [List.map_append]; rfl
    refine ⟨p', ?_⟩
    rw [e, hp', List.append_assoc, List.map_cons]; rfl
theorem f108_is {fuel : Nat} {n fe : Int} {a b c : List AV} {l : List Txn} (hl : l.length ≤ 8) (hf : 8 < fuel) : f108 stdOps fuel n fe a b c (l.map Txn.av) = some (.v0 ((l.map Txn.key).map kav)) := by
  unfold f108
  obtain ⟨p', h⟩ := f108_l0_is (a0 := n) (a1 := fe) (a2 := a) (a3 := b) (a4 := c) l.length fuel fuel 0 l 0 [] (by omega) (by omega) hl rfl
  change f108_l0 stdOps fuel _ _ _ _ _ _ fuel 0 [] 0 = _ at h
  rw [bindR_eq h]; rfl
theorem f107_l0_self {l : List (Int × Int)} (hl : l.length < 2 ^ 60) (fuel : Nat) : ∀ (d f i : Nat), i + d = l.length → d < f → f107_l0 stdOps fuel (l.map kav) (l.map kav) f i = some .x1 := by
  intro d
  induction d with
  | zero =>
    intro f i h1 h2
    obtain ⟨f, rfl⟩ : ∃ g, f = g + 1 := ⟨f - 1, by omega⟩
    rw [f107_l0, len_av, ifB_f (lss_f (by omega))]
  | succ d ih =>
    intro f i h1 h2
    obtain ⟨f, rfl⟩ : ∃ g, f = g + 1 := ⟨f - 1, by omega⟩
    have hi : i < l.length := by omega
    rw [f107_l0, len_av, ifB_t (lss_t hi), ← len_av (f := kav), inbR hi, getK hi, inbR hi, getK hi, ifB_f (by simp [stdOps]), add1 (by omega)]
    exact ih f (i + 1) (by omega) (by omega)
theorem f107_self {l : List (Int × Int)} {fuel : Nat} (hl : l.length < 2 ^ 60) (hf : l.length < fuel) : f107 stdOps fuel (l.map kav) (l.map kav) = some (.v0 true) := by
  unfold f107
  rw [ifB_f (by simp [stdOps])]
  have h := f107_l0_self hl fuel l.length fuel 0 (by omega) hf
  change f107_l0 stdOps fuel _ _ fuel 0 = _ at h
  rw [bindR_eq h]

/-- A sink is as it must be. -/
theorem f47_is {fuel p : Nat} {n : Int} {o : SOp} {s : Sk} {w : Rf} (hi : Inv n s) (hn : n ≤ 4) (h : RelS s w) (hd : s.done.length < 2 ^ 42) (hf : 4097 < fuel ∧ s.done.length < fuel) :
    f47 stdOps fuel p o.d o.t.e o.t.i o.t.b (o.t.r.map Rec.av) (o.t.v.map iav) n s.fence (s.out.map Rec.av) (s.vec.map iav) n w.fence (w.out.map Rec.av) (w.vec.map iav) (w.done.map iav) (w.pre.map Txn.av) (dM s.done) (pM s.pre) =
      some (.v0 true (dM s.done) (pM s.pre)) := by
  have ho := hi.out
  have hvl := cntB_len hi.vec
  have hri := h.ri hi hd
  have hdl := h.dlen
  have hpl := hri.pre.1
  unfold f47
  rw [bindR_eq (f56_is ho hf.1)]
  dsimp only
  rw [len_av, bindR_eq (f57_is ho)]
  dsimp only
  rw [bindR_eq f105_is]
  dsimp only
  have t3 : ∀ {b : Bool}, stdOps.pick true b false = b := fun {b} => by simp [stdOps]
  have eqc : ∀ {a b : Int}, a = b → stdOps.cmp .eql a b = true := fun e => by simp [stdOps, e]
  have hrl : (readF s.out o.t.b o.t.r.length).1.length ≤ 4096 := by
    unfold readF
    split
    · simp
    · simp only [List.length_take, List.length_drop]; omega
  rw [ifB_t rfl, bindR_eq (f28_is (by omega) (by omega)), h.out]
  dsimp only
  rw [decide_eq_true (show s.out = s.out from rfl), t3, ifB_t rfl, bindR_eq f25_is]
  dsimp only
  rw [h.fe, eqc rfl, t3, ifB_t rfl, bindR_eq f58_is]
  dsimp only
  rw [bindR_eq f106_is]
  dsimp only
  rw [eqc rfl, t3, ifB_t rfl, bindR_eq (f26_is (by omega))]
  dsimp only
  rw [h.vec, bindR_eq (f62_is (by omega) (by omega))]
  dsimp only
  rw [decide_eq_true (show s.vec = s.vec from rfl), t3, ifB_t rfl, bindR_eq (f59_is hi)]
  dsimp only
  rw [bindR_eq (f108_is hpl (by omega)), names_eq hi h]
  dsimp only
  rw [bindR_eq (f107_self (by rw [List.length_map]; omega) (by rw [List.length_map]; omega))]
  dsimp only
  rw [t3, ifB_t rfl, bindR_eq (show f17 stdOps fuel _ _ _ _ _ _ = some (.v0 o.t.e o.t.i) from rfl)]
  dsimp only
  rw [bindR_eq f20_is]
  dsimp only
  rw [bindR_eq (show f17 stdOps fuel _ _ _ _ _ _ = some (.v0 o.t.e o.t.i) from rfl)]
  dsimp only
  have e109 := f109_is (fuel := fuel) (k1 := o.t.e) (k2 := o.t.i) (n := n) (w := w) (a := s.out.map Rec.av) (b := s.vec.map iav) (q := w.pre.map Txn.av) (by omega) (by omega)
  rw [h.fe] at e109
  rw [bindR_eq e109]
  dsimp only
  rw [rel_done h hi, show stdOps.same (decide ((o.t.e, o.t.i) ∈ s.done)) (decide ((o.t.e, o.t.i) ∈ s.done)) = true by simp [stdOps], t3, ifB_t rfl, bindR_eq (f18_is hi hn hd ⟨hf.2, by omega⟩)]
  dsimp only
  have e23 := f23_self (fuel := fuel) (fe := s.fence) (out := s.out) (vec := s.vec) (done := donesP s) (pre := presP s) ho (by omega) (by rw [donesP_eq hi h]; omega) (by rw [presP_eq hi h]; omega)
    (fun t ht => by
      have hm := hri.pre.2 t (by rw [← presP_eq hi h]; exact ht)
      have := cntB_len (mayB_cnt hm)
      exact ⟨(mayB_small hm).2.2, by omega⟩) hf.1
  rw [donesP_eq hi h, presP_eq hi h] at e23 ⊢
  rw [bindR_eq e23]
  dsimp only
  rw [t3, ifB_t rfl, bindR_eq (f28_is (by omega) (by omega))]
  dsimp only
  rw [decide_eq_true rfl, t3, eqc rfl, t3]

theorem okK_rel {n : Int} {x : Kp} (h : okK n x) : Inv n x.sk ∧ RelS x.sk x.rf := by
  obtain ⟨h1, h2, h3, h4, h5, h6, h7, h8⟩ := h
  have hd := incB_sorted h6
  have hp := incT_sorted h7
  have hdp := incB_pos h6
  have htp := incT_pos h7
  have hdn : x.done.Nodup := hd.imp fun {a b} h e => by omega
  have hfe : x.done ≠ [] → posB x.fence = true := fun hne => by
    rw [posB_iff]
    have : x.fence ≠ 0 := fun h0 => hne (h8 h0).2.1
    omega
  constructor
  · refine ⟨h3, h4, ⟨?_, ?_⟩, ?_, h5, fun t ht => (htp t ht).1⟩
    · show (x.done.map fun i => (x.fence, i)).Nodup
      rw [List.nodup_iff_pairwise_ne, List.pairwise_map]
      exact hd.imp fun {a b} h e => by simp only [Prod.mk.injEq] at e; omega
    · intro k hk
      obtain ⟨i, hi, rfl⟩ := List.mem_map.1 hk
      exact ⟨hfe (List.ne_nil_of_mem hi), (hdp i hi).1⟩
    · show (x.pre.map Txn.key).Nodup
      rw [List.nodup_iff_pairwise_ne, List.pairwise_map]
      exact hp.imp fun {a b} h e => by simp only [Txn.key, Prod.mk.injEq] at e; omega
  · refine ⟨rfl, rfl, rfl, ⟨?_, fun t ht => (htp t ht).2.1⟩, ?_, hd, List.Perm.refl _, hp⟩
    · intro k hk
      obtain ⟨i, hi, rfl⟩ := List.mem_map.1 hk
      rfl
    · show x.done.Perm ((x.done.map fun i => (x.fence, i)).map Prod.snd)
      rw [List.map_map]
      have : x.done.map (Prod.snd ∘ fun i => (x.fence, i)) = x.done := by
        conv => rhs; rw [← List.map_id x.done]
        exact List.map_congr_left fun _ _ => rfl
      rw [this]
end Go.Proofs.Ytjdbmfipciadfaa.A
