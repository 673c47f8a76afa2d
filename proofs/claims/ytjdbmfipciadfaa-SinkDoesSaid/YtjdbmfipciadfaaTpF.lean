/- The sink: which things that were kept are a sink's, in plain Lean. -/
import Derived.Test.YtjdbmfipciadfaaTpE

namespace Go.Proofs.Ytjdbmfipciadfaa.A
open Go Go.Pt

theorem eqI {a b : Int} : (a == b) = decide (a = b) := rfl
theorem rep_zero {n : Int} (_h : 0 ≤ n) : stdOps.rep n (.int .i64 0) = (List.replicate n.toNat (0 : Int)).map iav := by
  show List.replicate n.toNat (AV.int .i64 0) = _
  rw [List.map_replicate]; rfl
theorem mks_ok {n : Int} (h : 1 ≤ n ∧ n ≤ 4) : stdOps.mks n n 8 := by
  show n = n ∧ 0 ≤ n ∧ n * ((8 : Nat) : Int) ≤ 2 ^ 47
  omega
theorem f14_is {fuel : Nat} {n : Int} : f14 stdOps fuel n = some (if 1 ≤ n ∧ n ≤ 4 then .v1 [] 0 ((List.replicate n.toNat (0 : Int)).map iav) [] [] else .v0) := by
  unfold f14
  by_cases h : 1 ≤ n ∧ n ≤ 4
  · rw [ifB_f (by simp [stdOps]; omega), req_eq _ (mks_ok h), rep_zero (by omega), if_pos h]
  · rw [ifB_t (by
      simp only [stdOps]
      by_cases h1 : n < 1
      · simp [h1]
      · have : n > 4 := by omega
        simp [this]), if_neg h]
theorem f19_1_is {fuel : Nat} {n : Int} : f19_1 stdOps fuel n = some (if 1 ≤ n ∧ n ≤ 4 then .v1 [] ((List.replicate n.toNat (0 : Int)).map iav) [] [] else .v0) := by
  unfold f19_1
  by_cases h : 1 ≤ n ∧ n ≤ 4
  · rw [ifB_f (by simp [stdOps]; omega), req_eq _ (mks_ok h), rep_zero (by omega), if_pos h]
  · rw [ifB_t (by
      simp only [stdOps]
      by_cases h1 : n < 1
      · simp [h1]
      · have : n > 4 := by omega
        simp [this]), if_neg h]

/-- Names that rise, each above a. -/
def incB : Int → List Int → Bool
  | _, [] => true
  | a, x :: l => posB x && decide (a < x) && incB x l
/-- Transactions that may be pre-committed together, names above a. -/
def incT (n fe : Int) (done : List Int) : Int → List Txn → Bool
  | _, [] => true
  | a, t :: l => mayB n t && decide (t.e = fe) && !decide (t.i ∈ done) && decide (a < t.i) && incT n fe done t.i l

theorem incB_pos : ∀ {l : List Int} {a : Int}, incB a l = true → ∀ x ∈ l, posB x = true ∧ a < x
  | [], _, _, x, hx => by simp at hx
  | y :: l, a, h, x, hx => by
    simp only [incB, Bool.and_eq_true, decide_eq_true_eq] at h
    rcases List.mem_cons.1 hx with rfl | hx
    · exact ⟨h.1.1, h.1.2⟩
    · have := incB_pos h.2 x hx
      exact ⟨this.1, by omega⟩
theorem incB_sorted : ∀ {l : List Int} {a : Int}, incB a l = true → l.Pairwise (· < ·)
  | [], _, _ => List.Pairwise.nil
  | y :: l, a, h => by
    simp only [incB, Bool.and_eq_true, decide_eq_true_eq] at h
    exact List.pairwise_cons.2 ⟨fun x hx => (incB_pos h.2 x hx).2, incB_sorted h.2⟩
theorem incT_pos {n fe : Int} {done : List Int} : ∀ {l : List Txn} {a : Int}, incT n fe done a l = true → ∀ t ∈ l, mayB n t = true ∧ t.e = fe ∧ t.i ∉ done ∧ a < t.i
  | [], _, _, x, hx => by simp at hx
  | y :: l, a, h, x, hx => by
    simp only [incT, Bool.and_eq_true, decide_eq_true_eq, Bool.not_eq_true', decide_eq_false_iff_not] at h
    rcases List.mem_cons.1 hx with rfl | hx
    · exact ⟨h.1.1.1.1, h.1.1.1.2, h.1.1.2, h.1.2⟩
    · have := incT_pos h.2 x hx
      exact ⟨this.1, this.2.1, this.2.2.1, by omega⟩
theorem incT_sorted {n fe : Int} {done : List Int} : ∀ {l : List Txn} {a : Int}, incT n fe done a l = true → l.Pairwise (fun a b => a.i < b.i)
  | [], _, _ => List.Pairwise.nil
  | y :: l, a, h => by
    have hp := incT_pos h
    simp only [incT, Bool.and_eq_true, decide_eq_true_eq] at h
    exact List.pairwise_cons.2 ⟨fun x hx => (incT_pos h.2 x hx).2.2.2, incT_sorted h.2⟩

/-! The program's loops. -/
theorem f44_l0_is {fe n : Int} {a2 a3 a5 r6 r8 : List AV} {r7 : Nat} {r10 : List (AV × AV)} : ∀ (d f fuel i : Nat) (l : List Int) (a : Int) (D : List (Int × Int)), i + d = l.length → d < f → l.length < 2 ^ 60 → (∀ k ∈ D, k.2 ≤ a) →
    f44_l0 stdOps fuel (l.map iav) fe a2 a3 a5 n r6 r7 r8 r10 f a i (dM D) = some (if incB a (l.drop i) = true then .x1 (dM (D ++ (l.drop i).map fun x => (fe, x))) else .x0) := by
  intro d
  induction d with
  | zero =>
    intro f fuel i l a D h1 h2 h3 h4
    obtain ⟨f, rfl⟩ : ∃ g, f = g + 1 := ⟨f - 1, by omega⟩
    rw [f44_l0, len_av, ifB_f (lss_f (by omega)), List.drop_of_length_le (by omega)]
    simp [incB]
  | succ d ih =>
    intro f fuel i l a D h1 h2 h3 h4
    obtain ⟨f, rfl⟩ : ∃ g, f = g + 1 := ⟨f - 1, by omega⟩
    have hi : i < l.length := by omega
    rw [f44_l0, inbR hi, len_av, ifB_t (lss_t hi), getI hi, bindR_eq f86_is, drop_all hi]
    dsimp only
    by_cases hx : posB l[i] = true ∧ a < l[i]
    · have hn : (fe, l[i]) ∉ D := fun hm => by have := h4 _ hm; simp only at this; omega
      have q2 : stdOps.mput (dM D) (.agg [.int .i64 fe, .int .i64 l[i]]) (.bool true) = dM (D ++ [(fe, l[i])]) := put_d (k := (fe, l[i])) hn
      rw [ifB_f (by simp [stdOps, hx.1]; omega), req_eq _ mok_d, q2, add1 (by omega), ih f fuel (i + 1) l l[i] (D ++ [(fe, l[i])]) (by omega) (by omega) h3 (by
        intro k hk
        rcases List.mem_append.1 hk with hk | hk
        · have := h4 k hk; omega
        · rw [List.mem_singleton.1 hk]; exact Int.le_refl _)]
      simp only [incB, hx.1, decide_eq_true hx.2, Bool.true_and, List.map_cons, List.append_assoc, List.singleton_append]
    · rw [ifB_t (by
        simp only [stdOps]
        cases hp : posB l[i] with
        | false => simp
        | true => have : ¬ a < l[i] := fun h => hx ⟨hp, h⟩
                  simp; omega), if_neg (by
        simp only [incB, Bool.and_eq_true, decide_eq_true_eq]
        exact fun h => hx h.1)]

theorem f44_l1_is {fe n : Int} {a2 a3 a4 r6 : List AV} {r8 : List AV} {r7 : Nat} {done : List Int} : ∀ (d f fuel i : Nat) (l : List Txn) (a : Int) (D : List Txn), i + d = l.length → d < f → l.length < 2 ^ 60 → n ≤ 4 → 4097 < fuel → (∀ t ∈ l, t.v.length < fuel ∧ t.v.length < 2 ^ 60) → (∀ t ∈ D, t.i ≤ a) →
    f44_l1 stdOps fuel (l.map Txn.av) r7 n r6 r8 (dM (done.map fun x => (fe, x))) fe a2 a3 a4 f a i (pM D) = some (if incT n fe done a (l.drop i) = true then .x1 (pM (D ++ l.drop i)) else .x0) := by
  intro d
  induction d with
  | zero =>
    intro f fuel i l a D h1 h2 h3 h4 h5 h6 h7
    obtain ⟨f, rfl⟩ : ∃ g, f = g + 1 := ⟨f - 1, by omega⟩
    rw [f44_l1, len_av, ifB_f (lss_f (by omega)), List.drop_of_length_le (by omega)]
    simp [incT]
  | succ d ih =>
    intro f fuel i l a D h1 h2 h3 h4 h5 h6 h7
    obtain ⟨f, rfl⟩ : ∃ g, f = g + 1 := ⟨f - 1, by omega⟩
    have hi : i < l.length := by omega
    obtain ⟨hv1, hv2⟩ := h6 l[i] (List.getElem_mem hi)
    rw [f44_l1, inbR hi, len_av, ifB_t (lss_t hi), getT hi, drop_all hi, bindR_eq (f71_is hv1 hv2)]
    dsimp only
    generalize ht : l[i] = t at *
    have c1 : stdOps.bnot (stdOps.pick (stdOps.bnot (mayB n t)) true (stdOps.bnot (stdOps.cmp .eql t.e fe))) = (mayB n t && decide (t.e = fe)) := by
      simp only [stdOps]; cases mayB n t <;> simp [eqI]
    have c0 : stdOps.pick (stdOps.bnot (mayB n t)) true (stdOps.bnot (stdOps.cmp .eql t.e fe)) = !(mayB n t && decide (t.e = fe)) := by
      simp only [stdOps]; cases mayB n t <;> simp [eqI]
    rw [c1, c0]
    by_cases hm : mayB n t = true ∧ t.e = fe
    · have hsm := mayB_small hm.1
      have hvl := cntB_len (mayB_cnt hm.1)
      rw [ifB_t (by simp [hm]), bindR_eq (show f73 stdOps fuel t.e t.i t.b (t.r.map Rec.av) (t.v.map iav) = some (.v0 t.e t.i) from rfl)]
      dsimp only
      rw [findD]
      have hmem : (t.e, t.i) ∈ (done.map fun x => (fe, x)) ↔ t.i ∈ done := by
        rw [List.mem_map]
        constructor
        · rintro ⟨x, hx, e⟩
          simp only [Prod.mk.injEq] at e
          exact e.2 ▸ hx
        · exact fun h => ⟨t.i, h, by rw [hm.2]⟩
      by_cases hd : t.i ∈ done
      · rw [if_pos (hmem.2 hd), ifB_t (by simp [stdOps, hm]), if_neg (by simp [incT, hd])]
      · rw [if_neg (fun h => hd (hmem.1 h))]
        by_cases ha : a < t.i
        · have hn : (D.find? fun u => decide (t.key = u.key)) = none := List.find?_eq_none.2 fun u hu he => by
            have := h7 u hu
            simp only [Txn.key, decide_eq_true_eq, Prod.mk.injEq] at he
            omega
          have q : stdOps.mput (pM D) (.agg [.int .i64 t.e, .int .i64 t.i]) (.agg [.int .i64 t.e, .int .i64 t.i, .int .i64 t.b, .sl 2 (t.r.map Rec.av) .no, .sl 1 (t.v.map iav) .no]) = pM (D ++ [t]) := put_p hn
          rw [ifB_f (by simp [stdOps, hm]; omega), bindR_eq (show f73 stdOps fuel t.e t.i t.b (t.r.map Rec.av) (t.v.map iav) = some (.v0 t.e t.i) from rfl)]
          dsimp only
          rw [bindR_eq (f76_is (by have := hsm.2.2; omega) (by omega))]
          dsimp only
          rw [req_eq _ mok_p, q, add1 (by omega), ih f fuel (i + 1) l t.i (D ++ [t]) (by omega) (by omega) h3 h4 h5 h6 (by
            intro u hu
            rcases List.mem_append.1 hu with hu | hu
            · have := h7 u hu; omega
            · rw [List.mem_singleton.1 hu]; exact Int.le_refl _)]
          simp only [incT, hm.1, decide_eq_true hm.2, decide_eq_false hd, decide_eq_true ha, Bool.true_and, Bool.not_false, List.append_assoc, List.singleton_append]
        · rw [ifB_t (by simp [stdOps, hm]; omega), if_neg (by simp [incT, ha])]
    · have hmf : (mayB n t && decide (t.e = fe)) = false := by
        cases h : mayB n t with
        | false => rfl
        | true => simp; exact fun e => hm ⟨h, e⟩
      rw [ifB_f (by rw [hmf]), if_neg (by
        simp only [incT, Bool.and_eq_true, decide_eq_true_eq]
        exact fun h => hm ⟨h.1.1.1.1, h.1.1.1.2⟩)]

theorem f101_l0_is {l : List Int} (hl : l.length < 2 ^ 60) (fuel : Nat) : ∀ (d f i : Nat) (m : Int), i + d = l.length → d < f → ∃ m', f101_l0 stdOps fuel (l.map iav) f m i = some (.x0 m') ∧ (0 < m' ↔ 0 < m ∨ ∃ x ∈ l.drop i, 0 < x) := by
  intro d
  induction d with
  | zero =>
    intro f i m h1 h2
    obtain ⟨f, rfl⟩ : ∃ g, f = g + 1 := ⟨f - 1, by omega⟩
    rw [f101_l0, len_av, ifB_f (lss_f (by omega)), List.drop_of_length_le (by omega)]
    exact ⟨m, rfl, by simp⟩
  | succ d ih =>
    intro f i m h1 h2
    obtain ⟨f, rfl⟩ : ∃ g, f = g + 1 := ⟨f - 1, by omega⟩
    have hi : i < l.length := by omega
    rw [f101_l0, inbR hi, len_av, ifB_t (lss_t hi), getI hi, add1 (by omega), drop_all hi]
    obtain ⟨m', e1, e2⟩ := ih f (i + 1) (stdOps.mx m l[i]) (by omega) (by omega)
    refine ⟨m', e1, e2.trans ?_⟩
    have : 0 < stdOps.mx m l[i] ↔ 0 < m ∨ 0 < l[i] := by
      show 0 < (if l[i] > m then l[i] else m) ↔ _
      split <;> omega
    rw [this]
    simp only [List.mem_cons, exists_eq_or_imp, or_assoc]
theorem f101_is {l : List Int} {fuel : Nat} (hl : l.length < 2 ^ 60) (h0 : 0 < l.length) (hf : l.length < fuel) : ∃ m, f101 stdOps fuel (l.map iav) = some (.v0 m) ∧ (0 < m ↔ ∃ x ∈ l, 0 < x) := by
  unfold f101
  obtain ⟨m', e1, e2⟩ := f101_l0_is hl fuel (l.length - 1) fuel 1 l[0] (by omega) (by omega)
  rw [len_av, ifB_f (by simp [stdOps]; omega)]
  refine ⟨m', ?_, e2.trans ?_⟩
  · show req (stdOps.inb ((0 : Nat) : Int) (l.length : Int)) (getA (stdOps.get (l.map iav) ((0 : Nat) : Int)) fun e => sh2 e fun v1 => bindR (f101_l0 stdOps fuel (l.map iav) fuel v1 1) fun r => match r with | .x0 y6 => some (F101R.v0 y6)) = _
    rw [← len_av (f := iav), inbR h0, getI h0]
    change f101_l0 stdOps fuel (l.map iav) fuel l[0] 1 = _ at e1
    rw [bindR_eq e1]
  · have hl0 : l = l[0] :: l.drop 1 := by rw [← drop_all h0]; rfl
    constructor
    · rintro (h | ⟨x, hx, h⟩)
      · exact ⟨_, List.getElem_mem h0, h⟩
      · exact ⟨x, List.mem_of_mem_drop hx, h⟩
    · rintro ⟨x, hx, h⟩
      rw [hl0] at hx
      rcases List.mem_cons.1 hx with rfl | hx
      · exact .inl h
      · exact .inr ⟨x, hx, h⟩

/-! The same loops, told once more. -/
theorem f44_l2_is {fe n : Int} {a2 a3 a5 r6 r8 : List AV} {r7 : Nat} {r10 : List (AV × AV)} : ∀ (d f fuel i : Nat) (l : List Int) (a : Int) (D : List (Int × Int)), i + d = l.length → d < f → l.length < 2 ^ 60 → (∀ k ∈ D, k.2 ≤ a) →
    f44_l2 stdOps fuel (l.map iav) fe a2 a3 a5 n r6 r7 r8 r10 f a i (dM D) = some (if incB a (l.drop i) = true then .x1 (dM (D ++ (l.drop i).map fun x => (fe, x))) else .x0) := by
  intro d
  induction d with
  | zero =>
    intro f fuel i l a D h1 h2 h3 h4
    obtain ⟨f, rfl⟩ : ∃ g, f = g + 1 := ⟨f - 1, by omega⟩
    rw [f44_l2, len_av, ifB_f (lss_f (by omega)), List.drop_of_length_le (by omega)]
    simp [incB]
  | succ d ih =>
    intro f fuel i l a D h1 h2 h3 h4
    obtain ⟨f, rfl⟩ : ∃ g, f = g + 1 := ⟨f - 1, by omega⟩
    have hi : i < l.length := by omega
    rw [f44_l2, inbR hi, len_av, ifB_t (lss_t hi), getI hi, bindR_eq f86_is, drop_all hi]
    dsimp only
    by_cases hx : posB l[i] = true ∧ a < l[i]
    · have hn : (fe, l[i]) ∉ D := fun hm => by have := h4 _ hm; simp only at this; omega
      have q2 : stdOps.mput (dM D) (.agg [.int .i64 fe, .int .i64 l[i]]) (.bool true) = dM (D ++ [(fe, l[i])]) := put_d (k := (fe, l[i])) hn
      rw [ifB_f (by simp [stdOps, hx.1]; omega), req_eq _ mok_d, q2, add1 (by omega), ih f fuel (i + 1) l l[i] (D ++ [(fe, l[i])]) (by omega) (by omega) h3 (by
        intro k hk
        rcases List.mem_append.1 hk with hk | hk
        · have := h4 k hk; omega
        · rw [List.mem_singleton.1 hk]; exact Int.le_refl _)]
      simp only [incB, hx.1, decide_eq_true hx.2, Bool.true_and, List.map_cons, List.append_assoc, List.singleton_append]
    · rw [ifB_t (by
        simp only [stdOps]
        cases hp : posB l[i] with
        | false => simp
        | true => have : ¬ a < l[i] := fun h => hx ⟨hp, h⟩
                  simp; omega), if_neg (by
        simp only [incB, Bool.and_eq_true, decide_eq_true_eq]
        exact fun h => hx h.1)]

theorem f44_l3_is {fe n : Int} {a2 a3 a4 r6 : List AV} {r8 : List AV} {r7 : Nat} {done : List Int} : ∀ (d f fuel i : Nat) (l : List Txn) (a : Int) (D : List Txn), i + d = l.length → d < f → l.length < 2 ^ 60 → n ≤ 4 → 4097 < fuel → (∀ t ∈ l, t.v.length < fuel ∧ t.v.length < 2 ^ 60) → (∀ t ∈ D, t.i ≤ a) →
    f44_l3 stdOps fuel (l.map Txn.av) r7 n r6 r8 (dM (done.map fun x => (fe, x))) fe a2 a3 a4 f a i (pM D) = some (if incT n fe done a (l.drop i) = true then .x1 (pM (D ++ l.drop i)) else .x0) := by
  intro d
  induction d with
  | zero =>
    intro f fuel i l a D h1 h2 h3 h4 h5 h6 h7
    obtain ⟨f, rfl⟩ : ∃ g, f = g + 1 := ⟨f - 1, by omega⟩
    rw [f44_l3, len_av, ifB_f (lss_f (by omega)), List.drop_of_length_le (by omega)]
    simp [incT]
  | succ d ih =>
    intro f fuel i l a D h1 h2 h3 h4 h5 h6 h7
    obtain ⟨f, rfl⟩ : ∃ g, f = g + 1 := ⟨f - 1, by omega⟩
    have hi : i < l.length := by omega
    obtain ⟨hv1, hv2⟩ := h6 l[i] (List.getElem_mem hi)
    rw [f44_l3, inbR hi, len_av, ifB_t (lss_t hi), getT hi, drop_all hi, bindR_eq (f71_is hv1 hv2)]
    dsimp only
    generalize ht : l[i] = t at *
    have c1 : stdOps.bnot (stdOps.pick (stdOps.bnot (mayB n t)) true (stdOps.bnot (stdOps.cmp .eql t.e fe))) = (mayB n t && decide (t.e = fe)) := by
      simp only [stdOps]; cases mayB n t <;> simp [eqI]
    have c0 : stdOps.pick (stdOps.bnot (mayB n t)) true (stdOps.bnot (stdOps.cmp .eql t.e fe)) = !(mayB n t && decide (t.e = fe)) := by
      simp only [stdOps]; cases mayB n t <;> simp [eqI]
    rw [c1, c0]
    by_cases hm : mayB n t = true ∧ t.e = fe
    · have hsm := mayB_small hm.1
      have hvl := cntB_len (mayB_cnt hm.1)
      rw [ifB_t (by simp [hm]), bindR_eq (show f73 stdOps fuel t.e t.i t.b (t.r.map Rec.av) (t.v.map iav) = some (.v0 t.e t.i) from rfl)]
      dsimp only
      rw [findD]
      have hmem : (t.e, t.i) ∈ (done.map fun x => (fe, x)) ↔ t.i ∈ done := by
        rw [List.mem_map]
        constructor
        · rintro ⟨x, hx, e⟩
          simp only [Prod.mk.injEq] at e
          exact e.2 ▸ hx
        · exact fun h => ⟨t.i, h, by rw [hm.2]⟩
      by_cases hd : t.i ∈ done
      · rw [if_pos (hmem.2 hd), ifB_t (by simp [stdOps, hm]), if_neg (by simp [incT, hd])]
      · rw [if_neg (fun h => hd (hmem.1 h))]
        by_cases ha : a < t.i
        · have hn : (D.find? fun u => decide (t.key = u.key)) = none := List.find?_eq_none.2 fun u hu he => by
            have := h7 u hu
            simp only [Txn.key, decide_eq_true_eq, Prod.mk.injEq] at he
            omega
          have q : stdOps.mput (pM D) (.agg [.int .i64 t.e, .int .i64 t.i]) (.agg [.int .i64 t.e, .int .i64 t.i, .int .i64 t.b, .sl 2 (t.r.map Rec.av) .no, .sl 1 (t.v.map iav) .no]) = pM (D ++ [t]) := put_p hn
          rw [ifB_f (by simp [stdOps, hm]; omega), bindR_eq (show f73 stdOps fuel t.e t.i t.b (t.r.map Rec.av) (t.v.map iav) = some (.v0 t.e t.i) from rfl)]
          dsimp only
          rw [bindR_eq (f76_is (by have := hsm.2.2; omega) (by omega))]
          dsimp only
          rw [req_eq _ mok_p, q, add1 (by omega), ih f fuel (i + 1) l t.i (D ++ [t]) (by omega) (by omega) h3 h4 h5 h6 (by
            intro u hu
            rcases List.mem_append.1 hu with hu | hu
            · have := h7 u hu; omega
            · rw [List.mem_singleton.1 hu]; exact Int.le_refl _)]
          simp only [incT, hm.1, decide_eq_true hm.2, decide_eq_false hd, decide_eq_true ha, Bool.true_and, Bool.not_false, List.append_assoc, List.singleton_append]
        · rw [ifB_t (by simp [stdOps, hm]; omega), if_neg (by simp [incT, ha])]
    · have hmf : (mayB n t && decide (t.e = fe)) = false := by
        cases h : mayB n t with
        | false => rfl
        | true => simp; exact fun e => hm ⟨h, e⟩
      rw [ifB_f (by rw [hmf]), if_neg (by
        simp only [incT, Bool.and_eq_true, decide_eq_true_eq]
        exact fun h => hm ⟨h.1.1.1.1, h.1.1.1.2⟩)]

end Go.Proofs.Ytjdbmfipciadfaa.A
