/- Stores: the document's answer: the other calls that change it. -/import Derived.Test.YtjdbmfipciadfaaMb5
namespace Go.Proofs.Ytjdbmfipciadfaa.A
open Go Go.Pt
section
variable {m : Mo} {A : List AV} {fuel : Nat}
theorem fnd0 {name : ByteArray} : m.fnd name = 0 ↔ m.down = false ∧ name ∈ m.names := by
  unfold Mo.fnd
  cases m.down with
  | true => simp
  | false => by_cases h : name ∈ m.names <;> simp [h]
theorem f146_l0_is {P : List Pw} (hP : (P.length + 1) * 48 ≤ 2 ^ 47) {name : ByteArray} {a10 : List AV} {a2 a3 a4 a7 a8 : Int} {a9 : Bool} : ∀ (rest pre : List Pw) (f : Nat) (q : Int), P = pre ++ rest → rest.length < f → q = ((dropP name pre).length : Int) →
    f146_l0 stdOps fuel P.length 0 (P.map qav) name A a2 a3 a4 a7 a8 a9 a10 f q q pre.length ((dropP name pre).map qav) = some (.x0 (dropP name P).length (dropP name P).length ((dropP name P).map qav))
  | [], pre, f + 1, q, hp, hf, hq => by
    rw [List.append_nil] at hp
    rw [f146_l0]
    refine ifB_is_f (lss_f (by rw [hp]; simp)) ?_
    rw [hq, hp]
  | p :: rest, pre, f + 1, q, hp, hf, hq => by
    have hi : pre.length < P.length := by rw [hp]; simp
    obtain ⟨g1, g2, g3⟩ := get0 (f := qav) (l := P) (i := pre.length) (v := p) (by rw [hp]; simp)
    have hidx : stdOps.ar .add .i64 (pre.length : Int) 1 = ((pre ++ [p]).length : Int) := by rw [add1 (by omega)]; simp
    have hdl : (dropP name pre).length ≤ pre.length := List.length_filter_le _ _
    rw [f146_l0, hidx]
    refine ifB_is_t (lss_t hi) <| req_is g3 <| req_is g2 <| getA_is g1 ?_
    simp only [qav, sh158]
    by_cases e : p.n = name
    · have hd : dropP name (pre ++ [p]) = dropP name pre := by unfold dropP; simp [e]
      have ih := f146_l0_is hP (name := name) (a10 := a10) (a2 := a2) (a3 := a3) (a4 := a4) (a7 := a7) (a8 := a8) (a9 := a9) rest (pre ++ [p]) f q (by simpa using hp) (by simp at hf; omega) (by rw [hd]; exact hq)
      rw [hd] at ih
      exact ifB_is_f (by rw [seq_is, e, decide_eq_true rfl]; rfl) ih
    · have hd : dropP name (pre ++ [p]) = dropP name pre ++ [p] := by unfold dropP; simp [e]
      have ih := f146_l0_is hP (name := name) (a10 := a10) (a2 := a2) (a3 := a3) (a4 := a4) (a7 := a7) (a8 := a8) (a9 := a9) rest (pre ++ [p]) f _ (by simpa using hp) (by simp at hf; omega) rfl
      rw [hd] at ih
      have e1 : stdOps.sub ((dropP name pre).map qav) 0 q = (dropP name pre).map qav := by
        have := sub_all (A := (dropP name pre).map qav)
        rwa [len_is, List.length_map, ← hq] at this
      have e2 : stdOps.apnd ((dropP name pre).map qav) [.agg [.str p.n, .int .i64 p.i, .sl 1 p.b .no]] = (dropP name pre ++ [p]).map qav := by
        rw [List.map_append]; rfl
      refine ifB_is_t (by rw [seq_is, decide_eq_false e]; rfl) <| req_is g3 <| req_is g2 <| getA_is g1 ?_
      simp only [qav]
      have e3 : stdOps.len ((dropP name pre ++ [p]).map qav) = ((dropP name pre ++ [p]).length : Int) := by rw [len_is, List.length_map]
      rw [e1, e2, e3]
      exact req_is rfl <| req_is (show (0 : Int) ≤ q by omega) <| req_is (show q ≤ (((dropP name pre).map qav).length : Int) by rw [List.length_map]; omega) <| req_is (room_ok (by simp; omega)) ih
theorem f146_is {P : List Pw} (hP : (P.length + 1) * 48 ≤ 2 ^ 47) (hf : P.length < fuel) {name : ByteArray} {a10 : List AV} {a2 a3 a4 a7 a8 : Int} {a9 : Bool} :
    f146 stdOps fuel name A a2 a3 a4 0 P.length a7 a8 a9 a10 (P.map qav) = some (.v0 0 (dropP name P).length (dropP name P).length ((dropP name P).map qav)) := by
  unfold f146
  exact bindR_is (f146_l0_is hP P [] fuel 0 rfl hf rfl) rfl
theorem set_lav {L B C : List (ByteArray × List AV)} {name : ByteArray} {b b' : List AV} (h : L = B ++ (name, b) :: C) (hB : ∀ y ∈ B, y.1 ≠ name) (hC : ∀ y ∈ C, y.1 ≠ name) :
    stdOps.upd (L.map lav) (stdOps.sum 0 (B.length : Int)) (.agg [.str name, .sl 1 b' .no]) = (setL name b' L).map lav := by
  show (L.map lav).set ((0 : Int) + B.length).toNat _ = _
  rw [show ((0 : Int) + B.length).toNat = B.length by omega, h]
  unfold setL
  rw [List.map_append, List.map_cons, List.map_append, List.map_cons, List.map_append, List.map_cons, List.set_append_right _ _ (by simp), List.length_map, Nat.sub_self, List.set_cons_zero]
  congr 1
  · rw [List.map_map]
    exact List.map_congr_left fun y hy => by show lav y = lav (if y.1 = name then (y.1, b') else y); rw [if_neg (hB y hy)]
  · congr 1
    · simp [lav]
    · rw [List.map_map]
      exact List.map_congr_left fun y hy => by show lav y = lav (if y.1 = name then (y.1, b') else y); rw [if_neg (hC y hy)]
theorem setL_length {name : ByteArray} {b : List AV} {L : List (ByteArray × List AV)} : (setL name b L).length = L.length := by simp [setL]
theorem f113_is (hI : Iv m) (hP : (m.P.length + 1) * 48 ≤ 2 ^ 47) (hf : 5000 < fuel) (hf2 : m.P.length < fuel) {name : ByteArray} :
    f113 stdOps fuel name A 0 m.L.length m.L.length 0 m.P.length m.P.length m.most m.down (m.L.map lav) (m.P.map qav) = some (.v0 (m.sync name).1 0 (m.sync name).2.P.length (m.sync name).2.P.length ((m.sync name).2.L.map lav) ((m.sync name).2.P.map qav)) := by
  have hP' : m.P.length < 2 ^ 42 := by omega
  have hmx := hI.max
  unfold f113 Mo.sync
  rw [bindR_eq (f144_is hI hf)]
  simp only
  by_cases h0 : m.fnd name = 0
  · have hm := (fnd0.1 h0).2
    rw [if_neg (by simpa using h0), h0, ifB_f bnot_eq]
    obtain ⟨B, C, q1, q2, q3⟩ := split_name hI hm
    obtain ⟨g1, g2, g3⟩ := get0 (f := lav) (l := m.L) (i := B.length) (v := (name, m.sure name)) (by rw [q1]; simp)
    refine bindR_is (f142_at (by omega) (by omega) q1 q2) <| bindR_is (f145_is hI hP' hm hf hf2) <| req_is g3 <| req_is g2 <| getA_is g1 ?_
    simp only [lav, sh164]
    rw [set_lav q1 q2 q3]
    exact bindR_is (f146_is hP hf2) rfl
  · rw [if_pos h0]
    exact ifB_is_t (bnot_ne h0) rfl
theorem setL_setL {name : ByteArray} {b b' : List AV} {L : List (ByteArray × List AV)} : setL name b (setL name b' L) = setL name b L := by
  unfold setL
  rw [List.map_map]
  refine List.map_congr_left fun x _ => ?_
  show (if (if x.1 = name then (x.1, b') else x).1 = name then ((if x.1 = name then (x.1, b') else x).1, b) else (if x.1 = name then (x.1, b') else x)) = _
  by_cases e : x.1 = name <;> simp [e]
theorem f112_is (hI : Iv m) (hP : (m.P.length + 1) * 48 ≤ 2 ^ 47) (hf : 5000 < fuel) (hf2 : m.P.length < fuel) {name : ByteArray} {i : Int} :
    f112 stdOps fuel name i A 0 m.L.length m.L.length 0 m.P.length m.P.length m.most m.down (m.L.map lav) (m.P.map qav) = some (.v0 (m.cut name i).1 0 (m.cut name i).2.P.length (m.cut name i).2.P.length ((m.cut name i).2.L.map lav) ((m.cut name i).2.P.map qav)) := by
  have hP' : m.P.length < 2 ^ 42 := by omega
  have hmx := hI.max
  unfold f112 Mo.cut
  rw [bindR_eq (f144_is hI hf)]
  simp only
  by_cases h0 : m.fnd name = 0
  · have hm := (fnd0.1 h0).2
    rw [if_neg (by simpa using h0), h0, ifB_f bnot_eq]
    by_cases h1 : i < 0
    · rw [if_pos (.inl h1)]
      exact ifB_is_t (by simp only [stdOps, decide_eq_true_eq]; exact h1) rfl
    · rw [ifB_f (by simp only [stdOps, decide_eq_false_iff_not]; exact h1), bindR_eq (f145_is hI hP' hm hf hf2)]
      simp only
      by_cases h2 : ((m.all name).length : Int) < i
      · rw [if_pos (.inr h2)]
        exact ifB_is_t (by simp only [stdOps, decide_eq_true_eq]; exact h2) rfl
      · rw [if_neg (fun e => e.elim h1 h2), ifB_f (by simp only [stdOps, decide_eq_false_iff_not]; exact h2)]
        have hsy : m.sync name = (0, ⟨setL name (m.all name) m.L, dropP name m.P, m.most, m.down⟩) := by unfold Mo.sync; rw [if_neg (by simpa using h0)]
        have h113 := f113_is hI hP hf hf2 (A := A) (name := name)
        rw [hsy] at h113
        obtain ⟨B, C, q1, q2, q3⟩ := split_name hI hm
        have hsp : setL name (m.all name) m.L = B ++ (name, m.all name) :: C := by
          unfold setL
          rw [q1, List.map_append, List.map_cons]
          congr 1
          · conv => rhs; rw [← List.map_id B]
            exact List.map_congr_left fun y hy => if_neg (q2 y hy)
          · congr 1
            · simp
            · conv => rhs; rw [← List.map_id C]
              exact List.map_congr_left fun y hy => if_neg (q3 y hy)
        have hat := f142_at (fuel := fuel) (a1 := A) (a11 := (dropP name m.P).map qav) (a4 := m.L.length) (a5 := 0) (a6 := (dropP name m.P).length) (a7 := (dropP name m.P).length) (a8 := m.most) (a9 := m.down) (by rw [setL_length]; omega) (by rw [setL_length]; omega) hsp q2
        rw [setL_length] at hat
        obtain ⟨g1, g2, g3⟩ := get0 (f := lav) (l := setL name (m.all name) m.L) (i := B.length) (v := (name, m.all name)) (by rw [hsp]; simp)
        rw [setL_length] at g3
        refine bindR_is h113 <| bindR_is hat <| req_is g3 <| req_is g2 <| getA_is g1 ?_
        simp only [lav, sh164]
        refine req_is (show (0 : Int) ≤ i by omega) <| req_is (Int.le_refl i) <| req_is (show i ≤ ((m.all name).length : Int) by omega) <| req_is rfl <| req_is g3 <| req_is g2 <| getA_is g1 ?_
        have hup := set_lav (b' := (m.all name).take i.toNat) hsp q2 q3
        rw [setL_setL] at hup
        rw [show stdOps.sub (m.all name) 0 i = (m.all name).take i.toNat from rfl]
        simp only [lav] at hup ⊢
        rw [hup]
  · rw [if_pos h0]
    exact ifB_is_t (bnot_ne h0) rfl
theorem out_split {B C : List (ByteArray × List AV)} {name : ByteArray} {b : List AV} (hB : ∀ y ∈ B, y.1 ≠ name) (hC : ∀ y ∈ C, y.1 ≠ name) : outL name (B ++ (name, b) :: C) = B ++ C := by
  unfold outL
  rw [List.filter_append, List.filter_cons_of_neg (by simp), List.filter_eq_self.2 fun y hy => by simpa using hB y hy, List.filter_eq_self.2 fun y hy => by simpa using hC y hy]
theorem cut_out {L B C : List (ByteArray × List AV)} {x : ByteArray × List AV} (h : L = B ++ x :: C) (hl : L.length ≤ 2 ^ 30) :
    stdOps.sub (L.map lav) 0 (stdOps.sum 0 (B.length : Int)) = B.map lav ∧
    stdOps.sub (L.map lav) (stdOps.sum 0 (stdOps.ar .add .i64 (B.length : Int) 1)) (stdOps.sum (stdOps.sum 0 (stdOps.ar .add .i64 (B.length : Int) 1)) (stdOps.dif (L.length : Int) (stdOps.ar .add .i64 (B.length : Int) 1))) = C.map lav ∧
    stdOps.ar .add .i64 (B.length : Int) 1 = ((B.length + 1 : Nat) : Int) ∧ L.length = B.length + 1 + C.length := by
  have hll : L.length = B.length + 1 + C.length := by rw [h]; simp; omega
  have ha := add1 (i := B.length) (by omega)
  refine ⟨?_, ?_, ha, hll⟩
  · have := sub_front (A := B.map lav) (C := (x :: C).map lav)
    rwa [← List.map_append, ← h, List.length_map] at this
  · rw [ha]
    have e : L.map lav = (B ++ [x]).map lav ++ C.map lav := by rw [h]; simp
    rw [e]
    refine sub_back ?_ ?_
    · show (0 : Int) + ((B.length + 1 : Nat) : Int) = _; simp
    · show (0 : Int) + ((B.length + 1 : Nat) : Int) + ((L.length : Int) - ((B.length + 1 : Nat) : Int)) = _; simp; omega
theorem f115_is (hI : Iv m) (hP : (m.P.length + 1) * 48 ≤ 2 ^ 47) (hf : 5000 < fuel) (hf2 : m.P.length < fuel) {name : ByteArray} :
    f115 stdOps fuel name A 0 m.L.length m.L.length 0 m.P.length m.P.length m.most m.down (m.L.map lav) (m.P.map qav) =
      some (.v0 (m.remove name).1 0 (m.remove name).2.L.length (m.remove name).2.L.length 0 (m.remove name).2.P.length (m.remove name).2.P.length ((m.remove name).2.L.map lav) ((m.remove name).2.P.map qav)) := by
  have hmx := hI.max
  unfold f115 Mo.remove
  rw [bindR_eq (f144_is hI hf)]
  simp only
  by_cases h0 : m.fnd name = 0
  · have hm := (fnd0.1 h0).2
    rw [if_neg (by simpa using h0), h0, ifB_f bnot_eq]
    obtain ⟨B, C, q1, q2, q3⟩ := split_name hI hm
    have ho : outL name m.L = B ++ C := by rw [q1]; exact out_split q2 q3
    obtain ⟨c1, c2, c3, c4⟩ := cut_out q1 (by omega)
    refine bindR_is (f142_at (by omega) (by omega) q1 q2) ?_
    simp only
    have e2 : stdOps.apnd (B.map lav) (C.map lav) = (B ++ C).map lav := by rw [List.map_append]; rfl
    have e3 : stdOps.len ((B ++ C).map lav) = ((B ++ C).length : Int) := by simp [stdOps]
    rw [ho, c1, c2, sub_all, e2, e3, c3]
    refine req_is (show (0 : Int) ≤ B.length by omega) <| req_is (show (0 : Int) + (B.length : Int) ≤ m.L.length by omega) <| req_is (show (0 : Int) ≤ 0 by omega) <| req_is (show (0 : Int) ≤ B.length by omega) <| req_is (show (0 : Int) + (B.length : Int) ≤ ((m.L.map lav).length : Int) by simp; omega) <|
      req_is rfl <| req_is (room_ok (by simp; omega)) <| req_is (show (0 : Int) ≤ ((B.length + 1 : Nat) : Int) by omega) <| req_is (show ((B.length + 1 : Nat) : Int) ≤ m.L.length by omega) <| req_is (show (0 : Int) ≤ 0 + ((B.length + 1 : Nat) : Int) by omega) <| req_is (show (0 : Int) ≤ (m.L.length : Int) - ((B.length + 1 : Nat) : Int) by omega) <|
      req_is (show (0 : Int) + ((B.length + 1 : Nat) : Int) + ((m.L.length : Int) - ((B.length + 1 : Nat) : Int)) ≤ ((m.L.map lav).length : Int) by simp; omega) <| req_is rfl <| req_is (show (0 : Int) ≤ ((B.map lav).length : Int) by omega) <| req_is (Int.le_refl _) <| req_is (room_ok (by simp; omega)) <|
      bindR_is (f146_is hP hf2) rfl
  · rw [if_pos h0]
    exact ifB_is_t (bnot_ne h0) rfl
theorem ren1 {name to : ByteArray} {p : Pw} : renP name to [p] = [if p.n = name then ⟨to, p.i, p.b⟩ else p] := rfl
theorem f114_l0_is {P : List Pw} (hP : (P.length + 1) * 48 ≤ 2 ^ 47) {name to : ByteArray} {a30 : List AV} {r27 r28 r29 r21 a9 : Int} {a10 : Bool} : ∀ (rest pre : List Pw) (f : Nat), P = pre ++ rest → rest.length < f →
    f114_l0 stdOps fuel P.length 0 (P.map qav) name to A r27 r28 r29 r21 a9 a10 a30 f pre.length pre.length pre.length ((renP name to pre).map qav) = some (.x0 P.length P.length ((renP name to P).map qav))
  | [], pre, f + 1, hp, hf => by
    rw [List.append_nil] at hp
    rw [f114_l0]
    refine ifB_is_f (lss_f (by rw [hp]; simp)) ?_
    rw [hp]
  | p :: rest, pre, f + 1, hp, hf => by
    have hi : pre.length < P.length := by rw [hp]; simp
    obtain ⟨g1, g2, g3⟩ := get0 (f := qav) (l := P) (i := pre.length) (v := p) (by rw [hp]; simp)
    have hidx : stdOps.ar .add .i64 (pre.length : Int) 1 = ((pre ++ [p]).length : Int) := by rw [add1 (by omega)]; simp
    have hd : renP name to (pre ++ [p]) = renP name to pre ++ renP name to [p] := by unfold renP; simp
    have hrl : (renP name to pre).length = pre.length := by simp [renP]
    have ih := f114_l0_is hP (name := name) (to := to) (a30 := a30) (r27 := r27) (r28 := r28) (r29 := r29) (r21 := r21) (a9 := a9) (a10 := a10) rest (pre ++ [p]) f (by simpa using hp) (by simp at hf; omega)
    rw [hd, ren1] at ih
    have e1 : stdOps.sub ((renP name to pre).map qav) 0 (pre.length : Int) = (renP name to pre).map qav := by
      have := sub_all (A := (renP name to pre).map qav)
      rwa [len_is, List.length_map, hrl] at this
    rw [f114_l0, hidx]
    refine ifB_is_t (lss_t hi) <| req_is g3 <| req_is g2 <| getA_is g1 ?_
    simp only [qav, sh158]
    by_cases e : p.n = name
    · have e2 : stdOps.apnd ((renP name to pre).map qav) [.agg [.str to, .int .i64 p.i, .sl 1 p.b .no]] = (renP name to pre ++ [if p.n = name then ⟨to, p.i, p.b⟩ else p]).map qav := by
        rw [if_pos e, List.map_append]; rfl
      have e3 : stdOps.len ((renP name to pre ++ [if p.n = name then ⟨to, p.i, p.b⟩ else p]).map qav) = ((pre ++ [p]).length : Int) := by rw [len_is, List.length_map, List.length_append, hrl]; simp
      refine ifB_is_t (by rw [seq_is, e]; simp) ?_
      rw [e1, e2, e3]
      exact req_is rfl <| req_is (show (0 : Int) ≤ pre.length by omega) <| req_is (show (pre.length : Int) ≤ (((renP name to pre).map qav).length : Int) by rw [List.length_map, hrl]; omega) <| req_is (room_ok (by rw [List.length_map, hrl]; simp; omega)) ih
    · have e2 : stdOps.apnd ((renP name to pre).map qav) [.agg [.str p.n, .int .i64 p.i, .sl 1 p.b .no]] = (renP name to pre ++ [if p.n = name then ⟨to, p.i, p.b⟩ else p]).map qav := by
        rw [if_neg e, List.map_append]; rfl
      have e3 : stdOps.len ((renP name to pre ++ [if p.n = name then ⟨to, p.i, p.b⟩ else p]).map qav) = ((pre ++ [p]).length : Int) := by rw [len_is, List.length_map, List.length_append, hrl]; simp
      refine ifB_is_f (by rw [seq_is, decide_eq_false_iff_not]; exact e) ?_
      rw [e1, e2, e3]
      exact req_is rfl <| req_is (show (0 : Int) ≤ pre.length by omega) <| req_is (show (pre.length : Int) ≤ (((renP name to pre).map qav).length : Int) by rw [List.length_map, hrl]; omega) <| req_is (room_ok (by rw [List.length_map, hrl]; simp; omega)) ih
theorem f114_l1_is {P : List Pw} (hP : (P.length + 1) * 48 ≤ 2 ^ 47) {name to : ByteArray} {a11 a56 : List AV} {r53 r54 r55 a8 a9 : Int} {a10 : Bool} : ∀ (rest pre : List Pw) (f : Nat), P = pre ++ rest → rest.length < f →
    f114_l1 stdOps fuel P.length 0 (P.map qav) name to A r53 r54 r55 a8 a9 a10 a11 a56 f pre.length pre.length pre.length ((renP name to pre).map qav) = some (.x0 P.length P.length ((renP name to P).map qav))
  | [], pre, f + 1, hp, hf => by
    rw [List.append_nil] at hp
    rw [f114_l1]
    refine ifB_is_f (lss_f (by rw [hp]; simp)) ?_
    rw [hp]
  | p :: rest, pre, f + 1, hp, hf => by
    have hi : pre.length < P.length := by rw [hp]; simp
    obtain ⟨g1, g2, g3⟩ := get0 (f := qav) (l := P) (i := pre.length) (v := p) (by rw [hp]; simp)
    have hidx : stdOps.ar .add .i64 (pre.length : Int) 1 = ((pre ++ [p]).length : Int) := by rw [add1 (by omega)]; simp
    have hd : renP name to (pre ++ [p]) = renP name to pre ++ renP name to [p] := by unfold renP; simp
    have hrl : (renP name to pre).length = pre.length := by simp [renP]
    have ih := f114_l1_is hP (name := name) (to := to) (a11 := a11) (a56 := a56) (r53 := r53) (r54 := r54) (r55 := r55) (a8 := a8) (a9 := a9) (a10 := a10) rest (pre ++ [p]) f (by simpa using hp) (by simp at hf; omega)
    rw [hd, ren1] at ih
    have e1 : stdOps.sub ((renP name to pre).map qav) 0 (pre.length : Int) = (renP name to pre).map qav := by
      have := sub_all (A := (renP name to pre).map qav)
      rwa [len_is, List.length_map, hrl] at this
    rw [f114_l1, hidx]
    refine ifB_is_t (lss_t hi) <| req_is g3 <| req_is g2 <| getA_is g1 ?_
    simp only [qav, sh158]
    by_cases e : p.n = name
    · have e2 : stdOps.apnd ((renP name to pre).map qav) [.agg [.str to, .int .i64 p.i, .sl 1 p.b .no]] = (renP name to pre ++ [if p.n = name then ⟨to, p.i, p.b⟩ else p]).map qav := by
        rw [if_pos e, List.map_append]; rfl
      have e3 : stdOps.len ((renP name to pre ++ [if p.n = name then ⟨to, p.i, p.b⟩ else p]).map qav) = ((pre ++ [p]).length : Int) := by rw [len_is, List.length_map, List.length_append, hrl]; simp
      refine ifB_is_t (by rw [seq_is, e]; simp) ?_
      rw [e1, e2, e3]
      exact req_is rfl <| req_is (show (0 : Int) ≤ pre.length by omega) <| req_is (show (pre.length : Int) ≤ (((renP name to pre).map qav).length : Int) by rw [List.length_map, hrl]; omega) <| req_is (room_ok (by rw [List.length_map, hrl]; simp; omega)) ih
    · have e2 : stdOps.apnd ((renP name to pre).map qav) [.agg [.str p.n, .int .i64 p.i, .sl 1 p.b .no]] = (renP name to pre ++ [if p.n = name then ⟨to, p.i, p.b⟩ else p]).map qav := by
        rw [if_neg e, List.map_append]; rfl
      have e3 : stdOps.len ((renP name to pre ++ [if p.n = name then ⟨to, p.i, p.b⟩ else p]).map qav) = ((pre ++ [p]).length : Int) := by rw [len_is, List.length_map, List.length_append, hrl]; simp
      refine ifB_is_f (by rw [seq_is, decide_eq_false_iff_not]; exact e) ?_
      rw [e1, e2, e3]
      exact req_is rfl <| req_is (show (0 : Int) ≤ pre.length by omega) <| req_is (show (pre.length : Int) ≤ (((renP name to pre).map qav).length : Int) by rw [List.length_map, hrl]; omega) <| req_is (room_ok (by rw [List.length_map, hrl]; simp; omega)) ih
theorem out_fst {L : List (ByteArray × List AV)} {name to : ByteArray} {b : List AV} {B C : List (ByteArray × List AV)} (h : L = B ++ (name, b) :: C) (hB : ∀ y ∈ B, y.1 ≠ name) (hC : ∀ y ∈ C, y.1 ≠ name) (hne : to ≠ name) :
    outL to L = outL to B ++ (name, b) :: outL to C ∧ (∀ y ∈ outL to B, y.1 ≠ name) ∧ (∀ y ∈ outL to C, y.1 ≠ name) := by
  refine ⟨?_, fun y hy => hB y (List.mem_filter.1 hy).1, fun y hy => hC y (List.mem_filter.1 hy).1⟩
  unfold outL
  rw [h, List.filter_append, List.filter_cons_of_pos (by simpa using fun e => hne e.symm)]
theorem f114_is (hI : Iv m) (hP : (m.P.length + 1) * 48 ≤ 2 ^ 47) (hf : 5000 < fuel) (hf2 : m.P.length < fuel) {name to : ByteArray} :
    f114 stdOps fuel name to A 0 m.L.length m.L.length 0 m.P.length m.P.length m.most m.down (m.L.map lav) (m.P.map qav) =
      some (.v0 (m.rename name to).1 0 (m.rename name to).2.L.length (m.rename name to).2.L.length 0 (m.rename name to).2.P.length (m.rename name to).2.P.length ((m.rename name to).2.L.map lav) ((m.rename name to).2.P.map qav)) := by
  have hmx := hI.max
  unfold f114 Mo.rename
  rw [bindR_eq (f144_is hI hf)]
  simp only
  by_cases h0 : m.fnd name = 0
  · have hm := (fnd0.1 h0).2
    rw [if_neg (by simpa using h0), h0, ifB_f bnot_eq, seq_is, seq_is]
    by_cases e1 : to = emp0
    · rw [ifB_t (by rw [e1]; rfl), if_pos e1]
    · rw [ifB_f (by rw [decide_eq_false_iff_not]; exact e1), if_neg e1]
      by_cases e2 : to = name
      · rw [ifB_t (by rw [decide_eq_true_eq]; exact e2), if_pos e2]
      · rw [ifB_f (by rw [decide_eq_false_iff_not]; exact e2), if_neg e2]
        obtain ⟨B0, C0, p1, p2, p3⟩ := split_name hI hm
        obtain ⟨q1, q2, q3⟩ := out_fst p1 p2 p3 e2
        generalize outL to B0 = B at q1 q2
        generalize outL to C0 = C at q1 q3
        have hol : (outL to m.L).length ≤ m.L.length := List.length_filter_le _ _
        obtain ⟨c1, c2, c3, c4⟩ := cut_out q1 (by omega)
        have ho : outL name (outL to m.L) = B ++ C := by rw [q1]; exact out_split q2 q3
        have e3 : stdOps.apnd (B.map lav) (C.map lav) = (B ++ C).map lav := by rw [List.map_append]; rfl
        have e4 : stdOps.len ((B ++ C).map lav) = ((B ++ C).length : Int) := by simp [stdOps]
        obtain ⟨g1, g2, g3⟩ := get0 (f := lav) (l := outL to m.L) (i := B.length) (v := (name, m.sure name)) (by rw [q1]; simp)
        have hbc : (B ++ C).length ≤ 2 ^ 30 := by rw [List.length_append]; omega
        have hbf : (B ++ C).length + 1 < fuel := by rw [List.length_append]; omega
        have hdl : (dropP to m.P).length ≤ m.P.length := List.length_filter_le _ _
        have hrl : (renP name to (dropP to m.P)).length = (dropP to m.P).length := by simp [renP]
        by_cases e5 : to ∈ m.names
        · obtain ⟨B1, C1, r1, r2, _⟩ := split_name hI e5
          have hrem : m.remove to = (0, ⟨outL to m.L, dropP to m.P, m.most, m.down⟩) := by
            unfold Mo.remove
            rw [if_neg (by rw [show m.fnd to = 0 from fnd0.2 ⟨(fnd0.1 h0).1, e5⟩]; simp)]
          have h115 := f115_is hI hP hf hf2 (A := A) (name := to)
          rw [hrem] at h115
          dsimp only at h115
          refine bindR_is (f142_at (by omega) (by omega) r1 r2) <| ifB_is_t (by simp only [stdOps, decide_eq_true_eq]; omega) <| bindR_is h115 <| bindR_is (f142_at (by omega) (by omega) q1 q2) <| req_is g3 <| req_is g2 <| getA_is g1 ?_
          simp only [lav, sh164]
          have hl0 := f114_l0_is (fuel := fuel) (A := A) (P := dropP to m.P) (by omega) (name := name) (to := to) (a30 := (insL to (m.sure name) (B ++ C)).map lav) (r27 := 0) (r28 := (insL to (m.sure name) (B ++ C)).length) (r29 := (insL to (m.sure name) (B ++ C)).length) (r21 := (dropP to m.P).length) (a9 := m.most) (a10 := m.down) (dropP to m.P) [] fuel rfl (by omega)
          rw [ho, c1, c2, sub_all, e3, e4, c3, hrl]
          refine req_is (show (0 : Int) ≤ B.length by omega) <| req_is (show (0 : Int) + (B.length : Int) ≤ (outL to m.L).length by omega) <| req_is (show (0 : Int) ≤ 0 by omega) <| req_is (show (0 : Int) ≤ B.length by omega) <| req_is (show (0 : Int) + (B.length : Int) ≤ (((outL to m.L).map lav).length : Int) by simp; omega) <|
            req_is rfl <| req_is (room_ok (by simp; omega)) <| req_is (show (0 : Int) ≤ ((B.length + 1 : Nat) : Int) by omega) <| req_is (show ((B.length + 1 : Nat) : Int) ≤ (outL to m.L).length by omega) <| req_is (show (0 : Int) ≤ 0 + ((B.length + 1 : Nat) : Int) by omega) <| req_is (show (0 : Int) ≤ ((outL to m.L).length : Int) - ((B.length + 1 : Nat) : Int) by omega) <|
            req_is (show (0 : Int) + ((B.length + 1 : Nat) : Int) + (((outL to m.L).length : Int) - ((B.length + 1 : Nat) : Int)) ≤ (((outL to m.L).map lav).length : Int) by simp; omega) <| req_is rfl <| req_is (show (0 : Int) ≤ ((B.map lav).length : Int) by omega) <| req_is (Int.le_refl _) <| req_is (room_ok (by simp; omega)) <|
            bindR_is (f143_is hbc hbf) <| bindR_is hl0 rfl
        · have hod : outL to m.L = m.L := by
            unfold outL
            rw [List.filter_eq_self]
            intro x hx
            rw [decide_eq_true_eq]
            exact fun e => e5 (e ▸ List.mem_map_of_mem hx)
          have hdd : dropP to m.P = m.P := by
            unfold dropP
            rw [List.filter_eq_self]
            intro p hp
            rw [decide_eq_true_eq]
            exact fun e => e5 (e ▸ hI.pn p hp)
          rw [hod] at q1 c1 c2 c4 g1 g2 g3 ho hol
          refine bindR_is (f142_no (by omega) (by omega) e5) <| ifB_is_f (by decide) <| bindR_is (f142_at (by omega) (by omega) q1 q2) <| req_is g3 <| req_is g2 <| getA_is g1 ?_
          simp only [lav, sh164]
          have hl0 := f114_l1_is (fuel := fuel) (A := A) (P := m.P) (by omega) (name := name) (to := to) (a11 := m.L.map lav) (a56 := (insL to (m.sure name) (B ++ C)).map lav) (r53 := 0) (r54 := (insL to (m.sure name) (B ++ C)).length) (r55 := (insL to (m.sure name) (B ++ C)).length) (a8 := m.P.length) (a9 := m.most) (a10 := m.down) m.P [] fuel rfl (by omega)
          rw [hdd] at hrl
          rw [hod, hdd, ho, c1, c2, sub_all, e3, e4, c3, hrl]
          refine req_is (show (0 : Int) ≤ B.length by omega) <| req_is (show (0 : Int) + (B.length : Int) ≤ m.L.length by omega) <| req_is (show (0 : Int) ≤ 0 by omega) <| req_is (show (0 : Int) ≤ B.length by omega) <| req_is (show (0 : Int) + (B.length : Int) ≤ ((m.L.map lav).length : Int) by simp; omega) <|
            req_is rfl <| req_is (room_ok (by simp; omega)) <| req_is (show (0 : Int) ≤ ((B.length + 1 : Nat) : Int) by omega) <| req_is (show ((B.length + 1 : Nat) : Int) ≤ m.L.length by omega) <| req_is (show (0 : Int) ≤ 0 + ((B.length + 1 : Nat) : Int) by omega) <| req_is (show (0 : Int) ≤ (m.L.length : Int) - ((B.length + 1 : Nat) : Int) by omega) <|
            req_is (show (0 : Int) + ((B.length + 1 : Nat) : Int) + ((m.L.length : Int) - ((B.length + 1 : Nat) : Int)) ≤ ((m.L.map lav).length : Int) by simp; omega) <| req_is rfl <| req_is (show (0 : Int) ≤ ((B.map lav).length : Int) by omega) <| req_is (Int.le_refl _) <| req_is (room_ok (by simp; omega)) <|
            bindR_is (f143_is hbc hbf) <| bindR_is hl0 rfl
  · rw [if_pos h0]
    exact ifB_is_t (bnot_ne h0) rfl
end
end Go.Proofs.Ytjdbmfipciadfaa.A
namespace Go.Proofs.Ytjdbmfipciadfaa.A
open Go Go.Pt
section
variable {m : Mo} {A : List AV} {fuel : Nat}
theorem bare_mx {k : Int} (h : -9223372036854775808 ≤ k ∧ k ≤ 9223372036854775807) : stdOps.mx (stdOps.mx k (stdOps.neg .i64 k)) 0 = (bare k : Int) := by
  unfold bare
  by_cases e : k = -9223372036854775808
  · subst e
    rw [if_pos rfl]
    have : stdOps.neg .i64 (-9223372036854775808) = -9223372036854775808 := by
      show IntKind.i64.wrap (0 - -9223372036854775808) = -9223372036854775808
      decide
    rw [this]; rfl
  · rw [if_neg e]
    have hn : stdOps.neg .i64 k = 0 - k := wr_i64 (by omega) (by omega)
    rw [hn]
    show (if (0 : Int) > (if 0 - k > k then 0 - k else k) then (0 : Int) else (if 0 - k > k then 0 - k else k)) = _
    split <;> split <;> omega
def upL (Q : List Pw) (L : List (ByteArray × List AV)) : List (ByteArray × List AV) := L.map fun x => (x.1, seen Q x.1 x.2)
theorem upL_length {Q : List Pw} {L : List (ByteArray × List AV)} : (upL Q L).length = L.length := by simp [upL]
theorem upL_step {Q : List Pw} {p : Pw} {b : List AV} (hI : Iv m) (_hn : p.n ∈ m.names) : setL p.n (ov (seen Q p.n (m.sure p.n)) p.i.toNat b) (upL Q m.L) = upL (Q ++ [⟨p.n, p.i, b⟩]) m.L := by
  unfold setL upL
  rw [List.map_map]
  refine List.map_congr_left fun x hx => ?_
  show (if x.1 = p.n then (x.1, ov (seen Q p.n (m.sure p.n)) p.i.toNat b) else (x.1, seen Q x.1 x.2)) = (x.1, seen (Q ++ [⟨p.n, p.i, b⟩]) x.1 x.2)
  rw [seen_append, show seen [⟨p.n, p.i, b⟩] x.1 (seen Q x.1 x.2) = seen1 x.1 (seen Q x.1 x.2) ⟨p.n, p.i, b⟩ from rfl]
  unfold seen1
  by_cases e : x.1 = p.n
  · rw [if_pos e, if_pos e.symm, ← e, Mo.sure_of hI.nodup (show (x.1, x.2) ∈ m.L from hx)]
  · rw [if_neg e, if_neg fun e' => e e'.symm]
theorem f116_l0_is (hI : Iv m) (hP : m.P.length < 2 ^ 42) (hf : 5000 < fuel) {K : Nat} {keep torn : Int} (hK : stdOps.ar .rem .i64 (stdOps.mx (stdOps.mx keep (stdOps.neg .i64 keep)) 0) (stdOps.ar .add .i64 (m.P.length : Int) 1) = (K : Int)) (ht : -9223372036854775808 ≤ torn ∧ torn ≤ 9223372036854775807) {a8 a9 : Int} {a10 : Bool} :
    ∀ (rest pre : List Pw) (f : Nat) (Q : List Pw), m.P = pre ++ rest → rest.length < f → Q = (if pre.length ≤ K then pre else m.P.take K ++ (match m.P[K]? with | some p => [⟨p.n, p.i, p.b.take (bare torn % (p.b.length + 1))⟩] | none => [])) →
      f116_l0 stdOps fuel m.P.length 0 (m.P.map qav) keep torn A 0 m.L.length m.L.length a8 a9 a10 f pre.length ((upL Q m.L).map lav) =
        some (.x0 ((upL (m.P.take K ++ (match m.P[K]? with | some p => [⟨p.n, p.i, p.b.take (bare torn % (p.b.length + 1))⟩] | none => [])) m.L).map lav))
  | [], pre, f + 1, Q, hp, hf', hq => by
    have hl : m.P.length = pre.length := by rw [hp]; simp
    rw [f116_l0]
    refine ifB_is_f (lss_f (by omega)) ?_
    by_cases e : pre.length ≤ K
    · rw [if_pos e] at hq
      rw [hq, List.take_of_length_le (by omega), List.getElem?_eq_none (by omega)]
      simp only [List.append_nil]
      rw [hp, List.append_nil]
    · rw [if_neg e] at hq
      rw [hq]
  | p :: rest, pre, f + 1, Q, hp, hf', hq => by
    have hi : pre.length < m.P.length := by rw [hp]; simp
    have hpi : m.P[pre.length]? = some p := by rw [hp]; simp
    have hpm : p ∈ m.P := by rw [hp]; simp
    have hpn := hI.pn p hpm
    have hpb := hI.pb p hpm
    obtain ⟨g1, g2, g3⟩ := get0 (f := qav) (l := m.P) (i := pre.length) (v := p) hpi
    have hidx : stdOps.ar .add .i64 (pre.length : Int) 1 = ((pre ++ [p]).length : Int) := by rw [add1 (by omega)]; simp
    have hmem := Mo.mem_sure hI.nodup hpn
    have hok := hI.ok _ hmem
    rw [hp, okW_append] at hok
    have hle := hok.2.1 rfl
    have hmx := hI.max
    have hw : (seen pre p.n (m.sure p.n)).length ≤ 2 ^ 22 := by
      have h1 := hI.seen_le hmem
      have h2 := seen_le hok.2
      rw [hp, seen_append] at h1
      simp only at h1 h2
      omega
    have htake : m.P.take pre.length = pre := by rw [hp, List.take_left]
    have ih := f116_l0_is hI hP hf hK ht (a8 := a8) (a9 := a9) (a10 := a10) rest (pre ++ [p]) f
    obtain ⟨B, C, q1, q2, q3⟩ := split_name hI hpn
    have hu : ∀ Q : List Pw, upL Q m.L = upL Q B ++ (p.n, seen Q p.n (m.sure p.n)) :: upL Q C := fun Q => by rw [q1]; simp [upL]
    have hb : ∀ Q : List Pw, ∀ y ∈ upL Q B, y.1 ≠ p.n := fun Q y hy => by
      obtain ⟨x, hx, rfl⟩ := List.mem_map.1 hy
      exact q2 x hx
    have hc : ∀ Q : List Pw, ∀ y ∈ upL Q C, y.1 ≠ p.n := fun Q y hy => by
      obtain ⟨x, hx, rfl⟩ := List.mem_map.1 hy
      exact q3 x hx
    have hat : f142 stdOps fuel p.n A 0 m.L.length m.L.length 0 m.P.length a8 a9 a10 ((upL Q m.L).map lav) (m.P.map qav) = some (.v0 (B.length : Int)) := by
      have := f142_at (fuel := fuel) (a1 := A) (a11 := m.P.map qav) (a4 := m.L.length) (a5 := 0) (a6 := m.P.length) (a7 := a8) (a8 := a9) (a9 := a10) (by rw [upL_length]; omega) (by rw [upL_length]; omega) (hu Q) (hb Q)
      rwa [upL_length, upL_length] at this
    obtain ⟨k1, k2, k3⟩ := get0 (f := lav) (l := upL Q m.L) (i := B.length) (v := (p.n, seen Q p.n (m.sure p.n))) (by rw [hu Q]; simp [upL])
    rw [upL_length] at k3
    have hset : ∀ b : List AV, stdOps.upd ((upL Q m.L).map lav) (stdOps.sum 0 (B.length : Int)) (.agg [.str p.n, .sl 1 b .no]) = (setL p.n b (upL Q m.L)).map lav := fun b => by
      have := set_lav (b' := b) (hu Q) (hb Q) (hc Q)
      rwa [upL_length] at this
    have hml : bare torn % (p.b.length + 1) < p.b.length + 1 := Nat.mod_lt _ (by omega)
    have hadd : stdOps.ar .add .i64 (stdOps.len p.b) 1 = ((p.b.length + 1 : Nat) : Int) := add1 (by omega)
    have hrem : stdOps.ar .rem .i64 (bare torn : Int) ((p.b.length + 1 : Nat) : Int) = ((bare torn % (p.b.length + 1) : Nat) : Int) := rfl
    have htk : stdOps.sub p.b 0 ((bare torn % (p.b.length + 1) : Nat) : Int) = p.b.take (bare torn % (p.b.length + 1)) := by
      show (p.b.take ((bare torn % (p.b.length + 1) : Nat) : Int).toNat).drop 0 = _
      rw [List.drop_zero, Int.toNat_natCast]
    rw [f116_l0, hK, hidx, bare_mx ht]
    refine ifB_is_t (lss_t hi) <| req_is g3 <| req_is g2 <| getA_is g1 ?_
    simp only [qav, sh158]
    rw [hadd, hrem, htk]
    by_cases e : pre.length = K
    · have hQ : Q = pre := by rw [hq, if_pos (by omega)]
      subst hQ
      have hres : m.P.take K ++ (match m.P[K]? with | some p => [⟨p.n, p.i, p.b.take (bare torn % (p.b.length + 1))⟩] | none => []) = Q ++ [⟨p.n, p.i, p.b.take (bare torn % (p.b.length + 1))⟩] := by
        rw [← e, htake, hpi]
      have ih2 := ih (Q ++ [⟨p.n, p.i, p.b.take (bare torn % (p.b.length + 1))⟩]) (by simpa using hp) (by simp at hf'; omega) (by rw [if_neg (by simp; omega), hres])
      refine ifB_is_t (by rw [eql_is, decide_eq_true_eq]; omega) <| req_is (show ((p.b.length + 1 : Nat) : Int) ≠ 0 by omega) <| req_is (show (0 : Int) ≤ ((bare torn % (p.b.length + 1) : Nat) : Int) by omega) <| req_is (show ((bare torn % (p.b.length + 1) : Nat) : Int) ≤ (p.b.length : Int) by omega) <|
        ifB_is_t (by simp only [stdOps, decide_eq_true_eq]; omega) <| req_is g3 <| req_is g2 <| getA_is g1 ?_
      refine bindR_is hat <| req_is k3 <| req_is k2 <| getA_is k1 ?_
      simp only [lav, sh164]
      refine req_is g3 <| req_is g2 <| getA_is g1 ?_
      refine bindR_is (f147_is hle.1 hle.2 (by omega) (by rw [List.length_take]; omega)) <| req_is k3 <| req_is k2 <| getA_is k1 ?_
      simp only [lav]
      rw [hset, upL_step hI hpn]
      exact ih2
    · refine ifB_is_f (by rw [eql_is, decide_eq_false_iff_not]; omega) ?_
      by_cases e2 : pre.length ≤ K
      · have hQ : Q = pre := by rw [hq, if_pos e2]
        subst hQ
        have ih2 := ih (Q ++ [⟨p.n, p.i, p.b⟩]) (by simpa using hp) (by simp at hf'; omega) (by rw [if_pos (by simp; omega)])
        refine ifB_is_t (by simp only [stdOps, decide_eq_true_eq]; omega) <| req_is g3 <| req_is g2 <| getA_is g1 ?_
        refine bindR_is hat <| req_is k3 <| req_is k2 <| getA_is k1 ?_
        simp only [lav, sh164]
        refine req_is g3 <| req_is g2 <| getA_is g1 ?_
        refine bindR_is (f147_is hle.1 hle.2 (by omega) (by omega)) <| req_is k3 <| req_is k2 <| getA_is k1 ?_
        simp only [lav]
        rw [hset, upL_step hI hpn]
        exact ih2
      · have ih2 := ih Q (by simpa using hp) (by simp at hf'; omega) (by rw [hq, if_neg e2, if_neg (by simp; omega)])
        exact ifB_is_f (by simp only [stdOps, decide_eq_false_iff_not]; omega) ih2
theorem f116_is (hI : Iv m) (hP : m.P.length < 2 ^ 42) (hf : 5000 < fuel) (hf2 : m.P.length < fuel) {keep torn : Int} (hk : -9223372036854775808 ≤ keep ∧ keep ≤ 9223372036854775807) (ht : -9223372036854775808 ≤ torn ∧ torn ≤ 9223372036854775807) :
    f116 stdOps fuel keep torn A 0 m.L.length m.L.length 0 m.P.length m.P.length m.most m.down (m.L.map lav) (m.P.map qav) =
      some (.v0 (m.crash keep torn).1 0 (m.crash keep torn).2.P.length (m.crash keep torn).2.P.length (m.crash keep torn).2.down ((m.crash keep torn).2.L.map lav) ((m.crash keep torn).2.P.map qav)) := by
  unfold f116 Mo.crash
  cases hd : m.down with
  | true => simp [ifB, hd]
  | false =>
    simp only [Bool.false_eq_true, if_false]
    have hadd : stdOps.ar .add .i64 (m.P.length : Int) 1 = ((m.P.length + 1 : Nat) : Int) := add1 (by omega)
    have hrem : stdOps.ar .rem .i64 (stdOps.mx (stdOps.mx keep (stdOps.neg .i64 keep)) 0) (stdOps.ar .add .i64 (m.P.length : Int) 1) = ((bare keep % (m.P.length + 1) : Nat) : Int) := by rw [hadd, bare_mx hk]; rfl
    have h0 : upL [] m.L = m.L := by
      unfold upL
      conv => rhs; rw [← List.map_id m.L]
      exact List.map_congr_left fun x _ => rfl
    have hl := f116_l0_is (A := A) hI hP hf hrem ht (a8 := m.P.length) (a9 := m.most) (a10 := false) m.P [] fuel [] rfl hf2 rfl
    rw [h0] at hl
    refine ifB_is_f rfl <| req_is (by rw [hadd]; show ((m.P.length + 1 : Nat) : Int) ≠ 0; omega) ?_
    exact bindR_is hl rfl
theorem f117_is {a1 a2 a3 a4 a5 a6 a7 : Int} {a9 a10 : List AV} : f117 stdOps fuel A a1 a2 a3 a4 a5 a6 a7 m.down a9 a10 = some (.v0 m.start.1 m.start.2.down) := by
  unfold f117 Mo.start
  cases hd : m.down with
  | true => rfl
  | false => simp [hd]; rfl
end
end Go.Proofs.Ytjdbmfipciadfaa.A
namespace Go.Proofs.Ytjdbmfipciadfaa.A
open Go Go.Pt
def Mo.size (m : Mo) (name : ByteArray) : Int := if m.fnd name ≠ 0 then 0 else ((m.all name).length : Int)
def Mo.sureR (m : Mo) (name : ByteArray) : List AV := if m.fnd name ≠ 0 then [] else m.sure name
def Mo.badR (m : Mo) (name : ByteArray) (i k : Int) : Prop := k < 0 ∨ i < 0 ∨ ((m.all name).length : Int) < i ∨ ((m.all name).length : Int) - i < k
instance (m : Mo) (name : ByteArray) (i k : Int) : Decidable (m.badR name i k) := by unfold Mo.badR; infer_instance
def Mo.readE (m : Mo) (name : ByteArray) (i k : Int) : Int := if m.fnd name ≠ 0 then m.fnd name else if m.badR name i k then 33 else 0
def Mo.readB (m : Mo) (name : ByteArray) (i k : Int) : List AV := if m.fnd name ≠ 0 then [] else if m.badR name i k then [] else ((m.all name).take (i + k).toNat).drop i.toNat
theorem pick_bad {b : List AV} {i k : Int} (hb : b.length ≤ 2 ^ 40) : stdOps.pick (stdOps.pick (stdOps.pick (stdOps.cmp .lss k 0) true (stdOps.cmp .lss i 0)) true (stdOps.cmp .gtr i (stdOps.len b))) true (stdOps.cmp .gtr k (stdOps.ar .sub .i64 (stdOps.len b) i)) =
    decide (k < 0 ∨ i < 0 ∨ (b.length : Int) < i ∨ (b.length : Int) - i < k) := by
  by_cases h1 : k < 0
  · simp [stdOps, h1]
  · by_cases h2 : i < 0
    · simp [stdOps, h1, h2]
    · by_cases h3 : (b.length : Int) < i
      · simp [stdOps, h1, h2, h3]
      · have hs : stdOps.ar .sub .i64 (stdOps.len b) i = (b.length : Int) - i := wr_i64 (by rw [len_is]; omega) (by rw [len_is]; omega)
        rw [hs]
        simp [stdOps, h1, h2, h3]
section
variable {fs : List (List AV)} {κ : ByteArray → Nat} {m : Mo} {lo n N : Int} {es : List (AV × AV)} {row : List AV} {fuel : Nat} {most : Int}
theorem f35_is (h : Rs fs κ m lo n N es row) {A : List AV} {down : Bool} : f35 stdOps fuel A most lo n N down es row = some (.v0 (m.P.length : Int)) := by
  unfold f35
  rw [bindR_eq f96_is, h.len]; rfl
theorem f67_is {A : List AV} {down : Bool} : f67 stdOps fuel A most lo n N down es row = some (.v0 (!down)) := by
  unfold f67
  rw [bindR_eq f96_is]; cases down <;> rfl
theorem f38_is (hI : Iv m) (h : Rs fs κ m lo n N es row) (hP : m.P.length < 2 ^ 42) (hf : m.P.length < fuel) {name : ByteArray} :
    f38 stdOps fuel name (fs.map fav) most lo n N m.down es row = some (.v0 (m.size name) (m.fnd name)) := by
  unfold f38 Mo.size
  rw [bindR_eq (f92_is h)]
  rcases fnd_find (κ := κ) (m := m) name with ⟨h0, hd, hm, hv⟩ | ⟨h0, hv⟩
  · rw [hv, if_neg (by simpa using h0)]
    simp only
    rw [ifB_f bnot_eq, bindR_eq (f93_at hI h hP hm hf), h0]; rfl
  · rw [hv, if_pos h0]
    exact ifB_is_t (bnot_ne h0) rfl
theorem f41_is (hI : Iv m) (h : Rs fs κ m lo n N es row) {name : ByteArray} :
    f41 stdOps fuel name (fs.map fav) most lo n N m.down es row = some (.v0 (m.sureR name) (m.fnd name)) := by
  unfold f41 Mo.sureR
  rw [bindR_eq (f92_is h)]
  rcases fnd_find (κ := κ) (m := m) name with ⟨h0, hd, hm, hv⟩ | ⟨h0, hv⟩
  · rw [hv, if_neg (by simpa using h0)]
    simp only
    obtain ⟨g1, g2⟩ := h.fget (Mo.mem_sure hI.nodup hm)
    rw [ifB_f bnot_eq, h0]
    refine req_is g2 <| getA_is g1 ?_
    simp only [fav, sh147]
    have := hI.sure_le hm
    exact bindR_is (f95_is (by omega)) rfl
  · rw [hv, if_pos h0]
    exact ifB_is_t (bnot_ne h0) rfl
theorem f39_is (hI : Iv m) (h : Rs fs κ m lo n N es row) (hP : m.P.length < 2 ^ 42) (hf : m.P.length < fuel) {name : ByteArray} {i k : Int} :
    f39 stdOps fuel name i k (fs.map fav) most lo n N m.down es row = some (.v0 (m.readB name i k) (m.readE name i k)) := by
  unfold f39 Mo.readB Mo.readE
  rw [bindR_eq (f92_is h)]
  rcases fnd_find (κ := κ) (m := m) name with ⟨h0, hd, hm, hv⟩ | ⟨h0, hv⟩
  · have hz : ¬ (m.fnd name ≠ 0) := by simpa using h0
    rw [hv, if_neg hz, if_neg hz]
    have hal := hI.all_le hm
    simp only
    rw [ifB_f bnot_eq, bindR_eq (f93_at hI h hP hm hf)]
    simp only
    rw [pick_bad (by omega)]
    by_cases hb : m.badR name i k
    · rw [if_pos hb, if_pos hb]
      exact ifB_is_t (by rw [decide_eq_true_eq]; exact hb) rfl
    · rw [if_neg hb, if_neg hb, ifB_f (by rw [decide_eq_false_iff_not]; exact hb)]
      unfold Mo.badR at hb
      have hs : stdOps.ar .add .i64 i k = i + k := wr_i64 (by omega) (by omega)
      rw [hs]
      exact req_is (show (0 : Int) ≤ i by omega) <| req_is (show i ≤ i + k by omega) <| req_is (Int.le_refl _) <| req_is (show i + k ≤ ((m.all name).length : Int) by omega) rfl
  · rw [hv, if_pos h0, if_pos h0]
    exact ifB_is_t (bnot_ne h0) rfl
theorem f32_l0_is (_hI : Iv m) {l : List ByteArray} (hl : l.length ≤ 4096) {A : List AV} {a1 a2 a3 a4 : Int} {a5 : Bool} {r10 : List (AV × AV)} {a7 : List AV} : ∀ (rest pre : List ByteArray) (f t : Nat), l = pre ++ rest → rest.length < f →
    ∃ t', f32_l0 stdOps fuel (l.map nav) A a1 a2 a3 a4 a5 r10 a7 f t pre.length (pre.map nav) = some (.x0 (l.map nav) t')
  | [], pre, f + 1, t, hp, hf => by
    rw [List.append_nil] at hp
    refine ⟨t, ?_⟩
    rw [f32_l0, len_is, List.length_map]
    refine ifB_is_f (lss_f (by rw [hp]; simp)) ?_
    rw [hp]
  | x :: rest, pre, f + 1, t, hp, hf => by
    have hi : pre.length < l.length := by rw [hp]; simp
    have hg : stdOps.get (l.map nav) (pre.length : Int) = some (nav x) := by simp [stdOps, hp]
    have hidx : stdOps.ar .add .i64 (pre.length : Int) 1 = ((pre ++ [x]).length : Int) := by rw [add1 (by omega)]; simp
    obtain ⟨t', ih⟩ := f32_l0_is _hI hl (A := A) (a1 := a1) (a2 := a2) (a3 := a3) (a4 := a4) (a5 := a5) (r10 := r10) (a7 := a7) rest (pre ++ [x]) f (stdOps.padd t [.str x]) (by simpa using hp) (by simp at hf; omega)
    refine ⟨t', ?_⟩
    rw [f32_l0, len_is, List.length_map, hidx]
    refine ifB_is_t (lss_t hi) <| req_is (show (0 : Int) ≤ pre.length ∧ (pre.length : Int) < l.length by omega) <| getA_is hg ?_
    simp only [nav, sh9]
    have e : stdOps.apnd (pre.map nav) [.str x] = (pre ++ [x]).map nav := by rw [List.map_append]; rfl
    rw [e]
    exact req_is (room_ok (by rw [List.length_map]; simp; omega)) ih
theorem f32_is (hI : Iv m) (h : Rs fs κ m lo n N es row) (hf : 5000 < fuel) {A : List AV} {down : Bool} : f32 stdOps fuel A most lo n N down es row = some (.v0 (m.names.map nav) es) := by
  have hl : m.names.length ≤ 4096 := by simp only [Mo.names, List.length_map]; exact hI.max
  obtain ⟨t', hl0⟩ := f32_l0_is hI hl (fuel := fuel) (A := A) (a1 := most) (a2 := lo) (a3 := n) (a4 := N) (a5 := down) (r10 := es) (a7 := row) m.names [] fuel 0 rfl (by omega)
  unfold f32
  exact bindR_is (v := .v0) rfl <| bindR_is f96_is <| ifB_is_f rfl <| bindR_is (v := .v0) rfl <| bindR_is (names_is hI h) <| bindR_is hl0 rfl
theorem f121_is (hI : Iv m) (hP : m.P.length < 2 ^ 42) (hf : 5000 < fuel) (hf2 : m.P.length < fuel) {A : List AV} {name : ByteArray} {a4 a7 a8 : Int} :
    f121 stdOps fuel name A 0 m.L.length a4 0 m.P.length a7 a8 m.down (m.L.map lav) (m.P.map qav) = some (.v0 (m.size name) (m.fnd name)) := by
  unfold f121 Mo.size
  rw [bindR_eq (f144_is hI hf)]
  simp only
  by_cases h0 : m.fnd name = 0
  · have hm := (fnd0.1 h0).2
    rw [if_neg (by simpa using h0), h0, ifB_f bnot_eq]
    exact bindR_is (f145_is hI hP hm hf hf2) rfl
  · rw [if_pos h0]
    exact ifB_is_t (bnot_ne h0) rfl
theorem f123_is (hI : Iv m) (hf : 5000 < fuel) {A : List AV} {name : ByteArray} {a4 a5 a6 a7 a8 : Int} {a11 : List AV} :
    f123 stdOps fuel name A 0 m.L.length a4 a5 a6 a7 a8 m.down (m.L.map lav) a11 = some (.v0 (m.sureR name) (m.fnd name)) := by
  have hmx := hI.max
  unfold f123 Mo.sureR
  rw [bindR_eq (f144_is hI hf)]
  simp only
  by_cases h0 : m.fnd name = 0
  · have hm := (fnd0.1 h0).2
    rw [if_neg (by simpa using h0), h0, ifB_f bnot_eq]
    obtain ⟨B, C, q1, q2, q3⟩ := split_name hI hm
    obtain ⟨g1, g2, g3⟩ := get0 (f := lav) (l := m.L) (i := B.length) (v := (name, m.sure name)) (by rw [q1]; simp)
    have := hI.sure_le hm
    refine bindR_is (f142_at (by omega) (by omega) q1 q2) <| req_is g3 <| req_is g2 <| getA_is g1 ?_
    simp only [lav, sh164]
    exact req_is (room_ok (by simp; omega)) rfl
  · rw [if_pos h0]
    exact ifB_is_t (bnot_ne h0) rfl
theorem f122_is (hI : Iv m) (hP : m.P.length < 2 ^ 42) (hf : 5000 < fuel) (hf2 : m.P.length < fuel) {A : List AV} {name : ByteArray} {i k : Int} {a4 a7 a8 : Int} :
    f122 stdOps fuel name i k A 0 m.L.length a4 0 m.P.length a7 a8 m.down (m.L.map lav) (m.P.map qav) = some (.v0 (m.readB name i k) (m.readE name i k)) := by
  unfold f122 Mo.readB Mo.readE
  rw [bindR_eq (f144_is hI hf)]
  simp only
  by_cases h0 : m.fnd name = 0
  · have hm := (fnd0.1 h0).2
    have hal := hI.all_le hm
    have hz : ¬ (m.fnd name ≠ 0) := by simpa using h0
    rw [if_neg hz, if_neg hz, h0, ifB_f bnot_eq, bindR_eq (f145_is hI hP hm hf hf2)]
    simp only
    rw [pick_bad (by omega)]
    by_cases hb : m.badR name i k
    · rw [if_pos hb, if_pos hb]
      exact ifB_is_t (by rw [decide_eq_true_eq]; exact hb) rfl
    · rw [if_neg hb, if_neg hb, ifB_f (by rw [decide_eq_false_iff_not]; exact hb)]
      unfold Mo.badR at hb
      have hs : stdOps.ar .add .i64 i k = i + k := wr_i64 (by omega) (by omega)
      rw [hs]
      refine req_is (show (0 : Int) ≤ i by omega) <| req_is (show i ≤ i + k by omega) <| req_is (show i + k ≤ ((m.all name).length : Int) by omega) <| req_is (room_ok ?_) rfl
      show (0 + (((m.all name).take (i + k).toNat).drop i.toNat).length) * 1 ≤ 2 ^ 47
      rw [List.length_drop, List.length_take]; omega
  · rw [if_pos h0, if_pos h0]
    exact ifB_is_t (bnot_ne h0) rfl
theorem f119_l0_is {L : List (ByteArray × List AV)} (hl : L.length ≤ 4096) {A : List AV} {a3 a4 a5 a6 a7 : Int} {a8 : Bool} {a10 : List AV} : ∀ (rest pre : List (ByteArray × List AV)) (f t : Nat), L = pre ++ rest → rest.length < f →
    ∃ t', f119_l0 stdOps fuel L.length 0 (L.map lav) A a3 a4 a5 a6 a7 a8 a10 f t ((pre.map Prod.fst).map nav) pre.length = some (.x0 ((L.map Prod.fst).map nav) t')
  | [], pre, f + 1, t, hp, hf => by
    rw [List.append_nil] at hp
    refine ⟨t, ?_⟩
    rw [f119_l0]
    refine ifB_is_f (lss_f (by rw [hp]; simp)) ?_
    rw [hp]
  | x :: rest, pre, f + 1, t, hp, hf => by
    have hi : pre.length < L.length := by rw [hp]; simp
    obtain ⟨g1, g2, g3⟩ := get0 (f := lav) (l := L) (i := pre.length) (v := x) (by rw [hp]; simp)
    have hidx : stdOps.ar .add .i64 (pre.length : Int) 1 = ((pre ++ [x]).length : Int) := by rw [add1 (by omega)]; simp
    obtain ⟨t', ih⟩ := f119_l0_is hl (A := A) (a3 := a3) (a4 := a4) (a5 := a5) (a6 := a6) (a7 := a7) (a8 := a8) (a10 := a10) rest (pre ++ [x]) f (stdOps.padd t [.str x.1]) (by simpa using hp) (by simp at hf; omega)
    refine ⟨t', ?_⟩
    rw [f119_l0, hidx]
    refine ifB_is_t (lss_t hi) <| req_is g3 <| req_is g2 <| getA_is g1 ?_
    simp only [lav, sh164]
    have e : stdOps.apnd ((pre.map Prod.fst).map nav) [.str x.1] = ((pre ++ [x]).map Prod.fst).map nav := by rw [List.map_append, List.map_append]; rfl
    rw [e]
    exact req_is (room_ok (by simp; omega)) ih
theorem f119_is (hI : Iv m) (hf : 5000 < fuel) {A : List AV} {a3 a4 a5 a6 a7 : Int} {a8 : Bool} {a10 : List AV} :
    f119 stdOps fuel A 0 m.L.length a3 a4 a5 a6 a7 a8 (m.L.map lav) a10 = some (.v0 (m.names.map nav)) := by
  have hmx := hI.max
  obtain ⟨t', hl⟩ := f119_l0_is hmx (fuel := fuel) (A := A) (a3 := a3) (a4 := a4) (a5 := a5) (a6 := a6) (a7 := a7) (a8 := a8) (a10 := a10) m.L [] fuel 0 rfl (by omega)
  unfold f119
  exact bindR_is hl rfl
theorem f118_l0_is {A : List AV} {l : List ByteArray} (hl : l.length ≤ 4096) : ∀ (d i f : Nat), i + d = l.length → d < f → f118_l0 stdOps fuel (l.map nav) (l.map nav) A f i = some .x1
  | 0, i, f + 1, hi, hf => by
    rw [f118_l0, len_is, List.length_map]
    exact ifB_is_f (lss_f (by omega)) rfl
  | d + 1, i, f + 1, hi, hf => by
    have hlt : i < l.length := by omega
    have hg : stdOps.get (l.map nav) (i : Int) = some (nav l[i]) := by simp [stdOps, hlt]
    have ih := f118_l0_is (A := A) hl d (i + 1) f (by omega) (by omega)
    rw [f118_l0, len_is, List.length_map, add1 (by omega)]
    have hin : stdOps.inb (i : Int) (l.length : Int) := show (0 : Int) ≤ i ∧ (i : Int) < l.length by omega
    refine ifB_is_t (lss_t hlt) <| req_is hin <| getA_is hg ?_
    simp only [nav, sh9]
    refine req_is hin <| getA_is hg ?_
    exact ifB_is_f (by rw [seq_is, decide_eq_true rfl]; rfl) ih
theorem f118_is {A : List AV} {l : List ByteArray} (hl : l.length ≤ 4096) (hf : 5000 < fuel) : f118 stdOps fuel (l.map nav) (l.map nav) A = some (.v0 true) := by
  unfold f118
  refine ifB_is_f (by rw [eql_is, decide_eq_true rfl]; rfl) ?_
  exact bindR_is (f118_l0_is hl l.length 0 fuel (by omega) (by omega)) rfl
def isB (l : List AV) : Prop := ∀ x ∈ l, ∃ b : UInt8, x = .int .u8 b.toNat
theorem f40_is {A l : List AV} (h : isB l) : f40 stdOps fuel l l A = some (.v0 true) := by
  unfold f40
  exact req_is h <| req_is h (by rw [seq_is, decide_eq_true rfl])
theorem f50_l0_is (hI : Iv m) {A : List AV} {a3 a4 a5 a6 a7 : Int} {a8 : Bool} {a10 : List AV} : ∀ (rest pre : List (ByteArray × List AV)) (f : Nat), m.L = pre ++ rest → rest.length < f →
    f50_1_l0 stdOps fuel m.L.length 0 (m.L.map lav) A a3 a4 a5 a6 a7 a8 a10 f pre.length pre.length pre.length (pre.map lav) = some (.x0 m.L.length m.L.length (m.L.map lav))
  | [], pre, f + 1, hp, hf => by
    rw [List.append_nil] at hp
    rw [f50_1_l0]
    refine ifB_is_f (lss_f (by rw [hp]; simp)) ?_
    rw [hp]
  | x :: rest, pre, f + 1, hp, hf => by
    have hi : pre.length < m.L.length := by rw [hp]; simp
    have hx : x ∈ m.L := by rw [hp]; simp
    have hmx := hI.max
    obtain ⟨g1, g2, g3⟩ := get0 (f := lav) (l := m.L) (i := pre.length) (v := x) (by rw [hp]; simp)
    have hidx : stdOps.ar .add .i64 (pre.length : Int) 1 = ((pre ++ [x]).length : Int) := by rw [add1 (by omega)]; simp
    have hsl := hI.sure_le (List.mem_map_of_mem hx : x.1 ∈ m.names)
    rw [Mo.sure_of hI.nodup (show (x.1, x.2) ∈ m.L from hx)] at hsl
    have ih := f50_l0_is hI (A := A) (a3 := a3) (a4 := a4) (a5 := a5) (a6 := a6) (a7 := a7) (a8 := a8) (a10 := a10) rest (pre ++ [x]) f (by simpa using hp) (by simp at hf; omega)
    have e1 : stdOps.sub (pre.map lav) 0 (pre.length : Int) = pre.map lav := by
      have := sub_all (A := pre.map lav)
      rwa [len_is, List.length_map] at this
    have e2 : stdOps.apnd (pre.map lav) [.agg [.str x.1, .sl 1 (stdOps.apnd [] x.2) .no]] = (pre ++ [x]).map lav := by rw [List.map_append]; rfl
    have e3 : stdOps.len ((pre ++ [x]).map lav) = ((pre ++ [x]).length : Int) := by rw [len_is, List.length_map]
    rw [f50_1_l0, hidx]
    refine ifB_is_t (lss_t hi) <| req_is g3 <| req_is g2 <| getA_is g1 ?_
    simp only [lav, sh164]
    refine req_is g3 <| req_is g2 <| getA_is g1 ?_
    simp only [lav]
    rw [e1, e2, e3]
    exact req_is (room_ok (by simp; omega)) <| req_is rfl <| req_is (show (0 : Int) ≤ pre.length by omega) <| req_is (show (pre.length : Int) ≤ ((pre.map lav).length : Int) by simp) <| req_is (room_ok (by simp; omega)) ih
theorem f50_is (hI : Iv m) (hP : (m.P.length + 1) * 48 ≤ 2 ^ 47) (hf : 5000 < fuel) {A : List AV} {a3 a6 : Int} {a7 : Int} {a8 : Bool} :
    f50_1 stdOps fuel A 0 m.L.length a3 0 m.P.length a6 a7 a8 (m.L.map lav) (m.P.map qav) = some (.v0 0 m.L.length m.L.length 0 m.P.length m.P.length (m.L.map lav) (m.P.map qav)) := by
  have hmx := hI.max
  unfold f50_1
  refine bindR_is (f50_l0_is hI m.L [] fuel rfl (by omega)) ?_
  have e : stdOps.sub (m.P.map qav) 0 (stdOps.sum 0 (m.P.length : Int)) = m.P.map qav := by
    have := sub_all0 (A := m.P.map qav)
    rwa [len_is, List.length_map] at this
  simp only
  rw [e, len_is, List.length_map]
  exact req_is (show (0 : Int) ≤ 0 by omega) <| req_is (show (0 : Int) ≤ m.P.length by omega) <| req_is (show (0 : Int) + (m.P.length : Int) ≤ (m.P.length : Int) by omega) <| req_is rfl <| req_is (room_ok (by simp; omega)) rfl
end
end Go.Proofs.Ytjdbmfipciadfaa.A
namespace Go.Proofs.Ytjdbmfipciadfaa.A
open Go Go.Pt
structure Jv (m : Mo) : Prop extends Iv m where
  bL : ∀ x ∈ m.L, isB x.2
  bP : ∀ p ∈ m.P, isB p.b
theorem isB_nil : isB [] := fun _ h => by cases h
theorem isB_append {a b : List AV} (ha : isB a) (hb : isB b) : isB (a ++ b) := fun x hx => (List.mem_append.1 hx).elim (ha x) (hb x)
theorem isB_take {a : List AV} {n : Nat} (ha : isB a) : isB (a.take n) := fun x hx => ha x (List.mem_of_mem_take hx)
theorem isB_drop {a : List AV} {n : Nat} (ha : isB a) : isB (a.drop n) := fun x hx => ha x (List.mem_of_mem_drop hx)
theorem isB_ov {b x : List AV} {i : Nat} (hb : isB b) (hx : isB x) : isB (ov b i x) := isB_append (isB_append (isB_take hb) hx) (isB_drop hb)
theorem isB_seen {n : ByteArray} : ∀ {P : List Pw} {b : List AV}, (∀ p ∈ P, isB p.b) → isB b → isB (seen P n b)
  | [], _, _, hb => hb
  | p :: P, b, hP, hb => by
    refine isB_seen (P := P) (b := seen1 n b p) (fun q hq => hP q (List.mem_cons_of_mem _ hq)) ?_
    unfold seen1
    split
    · exact isB_ov hb (hP p List.mem_cons_self)
    · exact hb
theorem seen_drop {name n : ByteArray} (hne : n ≠ name) : ∀ {P : List Pw} {b : List AV}, seen (dropP name P) n b = seen P n b ∧ (okW P n b → okW (dropP name P) n b)
  | [], _ => ⟨rfl, id⟩
  | p :: P, b => by
    have hs : seen (p :: P) n b = seen P n (seen1 n b p) := rfl
    obtain ⟨h1, h2⟩ := seen_drop (name := name) hne (P := P) (b := seen1 n b p)
    rw [hs]
    by_cases e : p.n = name
    · have hd : dropP name (p :: P) = dropP name P := by unfold dropP; simp [e]
      have h0 : seen1 n b p = b := if_neg fun e' => hne (e'.symm.trans e)
      rw [hd]
      rw [h0] at h1 h2 ⊢
      refine ⟨h1, fun h => h2 ?_⟩
      have := h.2
      rwa [h0] at this
    · have hd : dropP name (p :: P) = p :: dropP name P := by unfold dropP; simp [e]
      rw [hd]
      exact ⟨h1, fun h => ⟨h.1, h2 h.2⟩⟩
theorem drop_none {name : ByteArray} {P : List Pw} : ∀ p ∈ dropP name P, p.n ≠ name := fun p hp => by
  have := (List.mem_filter.1 hp).2
  simpa using this
theorem seen_ren {name to : ByteArray} (hne : to ≠ name) : ∀ {P : List Pw} {b : List AV}, (∀ p ∈ P, p.n ≠ to) → seen (renP name to P) to b = seen P name b ∧ (okW P name b → okW (renP name to P) to b)
  | [], _, _ => ⟨rfl, id⟩
  | p :: P, b, hP => by
    obtain ⟨h1, h2⟩ := seen_ren hne (P := P) (b := seen1 name b p) fun q hq => hP q (List.mem_cons_of_mem _ hq)
    have hr : renP name to (p :: P) = (if p.n = name then ⟨to, p.i, p.b⟩ else p) :: renP name to P := rfl
    have hs : ∀ (q : Pw) (Q : List Pw) (n : ByteArray) (b : List AV), seen (q :: Q) n b = seen Q n (seen1 n b q) := fun _ _ _ _ => rfl
    rw [hr, hs, hs]
    have h0 : seen1 to b (if p.n = name then ⟨to, p.i, p.b⟩ else p) = seen1 name b p := by
      unfold seen1
      by_cases e : p.n = name
      · simp [e]
      · simp [e, hP p List.mem_cons_self]
    rw [h0]
    refine ⟨h1, fun h => ⟨?_, by rw [h0]; exact h2 h.2⟩⟩
    by_cases e : p.n = name
    · rw [if_pos e]; exact fun _ => h.1 e
    · rw [if_neg e]; exact fun e2 => absurd e2 (hP p List.mem_cons_self)
theorem seen_ren2 {name to n : ByteArray} (h1 : n ≠ name) (h2 : n ≠ to) : ∀ {P : List Pw} {b : List AV}, seen (renP name to P) n b = seen P n b ∧ (okW P n b → okW (renP name to P) n b)
  | [], _ => ⟨rfl, id⟩
  | p :: P, b => by
    obtain ⟨i1, i2⟩ := seen_ren2 h1 h2 (P := P) (b := seen1 n b p)
    have hr : renP name to (p :: P) = (if p.n = name then ⟨to, p.i, p.b⟩ else p) :: renP name to P := rfl
    have hs : ∀ (q : Pw) (Q : List Pw) (b : List AV), seen (q :: Q) n b = seen Q n (seen1 n b q) := fun _ _ _ => rfl
    rw [hr, hs, hs]
    have h0 : seen1 n b (if p.n = name then ⟨to, p.i, p.b⟩ else p) = seen1 n b p := by
      unfold seen1
      by_cases e : p.n = name
      · have e3 : ¬ p.n = n := fun e' => h1 (e' ▸ e)
        rw [if_pos e, if_neg (fun e' => h2 e'.symm), if_neg e3]
      · rw [if_neg e]
    rw [h0]
    refine ⟨i1, fun h => ⟨?_, by rw [h0]; exact i2 h.2⟩⟩
    by_cases e : p.n = name
    · rw [if_pos e]; exact fun e2 => absurd e2.symm h2
    · rw [if_neg e]; exact h.1
theorem sum_le' {β : Type} {f g : β → Nat} : ∀ {l : List β}, (∀ x ∈ l, f x ≤ g x) → (l.map f).sum ≤ (l.map g).sum
  | [], _ => Nat.le_refl _
  | x :: l, h => by
    have h1 := h x List.mem_cons_self
    have h2 := sum_le' (f := f) (g := g) (l := l) fun y hy => h y (List.mem_cons_of_mem _ hy)
    simp only [List.map_cons, List.sum_cons]; omega
theorem sum_filter {β : Type} {f : β → Nat} {p : β → Bool} : ∀ {l : List β}, ((l.filter p).map f).sum ≤ (l.map f).sum
  | [] => Nat.le_refl _
  | x :: l => by
    have h2 := sum_filter (f := f) (p := p) (l := l)
    by_cases h : p x = true
    · rw [List.filter_cons_of_pos h]; simp only [List.map_cons, List.sum_cons]; omega
    · rw [List.filter_cons_of_neg h]; simp only [List.map_cons, List.sum_cons]; omega
theorem sum_permM {β : Type} {f : β → Nat} {l k : List β} (h : l.Perm k) : (l.map f).sum = (k.map f).sum := sum_perm (h.map f)
theorem sorted_ins {L : List (ByteArray × List AV)} {n : ByteArray} {b : List AV} (hs : L.Pairwise fun a b => nlt a.1 b.1) (hn : n ∉ L.map Prod.fst) : (insL n b L).Pairwise fun a b => nlt a.1 b.1 := by
  obtain ⟨B, C, h1, h2, h3, h4⟩ := insL_parts n b L
  rw [h2]
  rw [h1] at hs
  rw [List.pairwise_append] at hs ⊢
  obtain ⟨hB, hC, hBC⟩ := hs
  have hCn : ∀ z ∈ C, nlt n z.1 := by
    cases C with
    | nil => intro z hz; cases hz
    | cons y D =>
      have hy := h4 y D rfl
      rw [decide_eq_false_iff_not] at hy
      have hyn : y.1 ≠ n := fun e => hn (by rw [h1, ← e]; exact List.mem_map_of_mem (List.mem_append_right _ List.mem_cons_self))
      have hny : nlt n y.1 := by
        have hle : bl n ≤ bl y.1 := by
          rcases List.le_total (bl n) (bl y.1) with h | h
          · exact h
          · rcases List.le_iff_lt_or_eq.1 h with h | h
            · exact absurd h hy
            · rw [h]; exact List.le_refl _
        rcases List.le_iff_lt_or_eq.1 hle with h | h
        · exact h
        · exact absurd (bl_inj h).symm hyn
      intro z hz
      rcases List.mem_cons.1 hz with rfl | hz
      · exact hny
      · exact nlt_trans hny ((List.pairwise_cons.1 hC).1 z hz)
  refine ⟨hB, List.pairwise_cons.2 ⟨fun z hz => hCn z hz, hC⟩, fun a ha c hc => ?_⟩
  have han : nlt a.1 n := by
    have := h3 a ha
    rwa [decide_eq_true_eq] at this
  rcases List.mem_cons.1 hc with rfl | hc
  · exact han
  · exact hBC a ha c hc
variable {m : Mo}
theorem jv_create (h : Jv m) {name : ByteArray} : Jv (m.create name).2 := by
  unfold Mo.create
  split
  · exact h
  · split
    · exact h
    · rename_i hne
      split
      · exact h
      · rename_i hlen
        have hn : name ∉ m.names := fun e => hne (.inr e)
        have hnone := seen_none (P := m.P) (b := ([] : List AV)) (n := name) fun p hp e => hn (e ▸ h.pn p hp)
        refine ⟨⟨h.m0, h.m1, sorted_ins h.sorted hn, by show (insL name [] m.L).length ≤ 4096; rw [insL_length]; omega, fun x hx => ?_, fun p hp => ?_, h.pb, ?_⟩, fun x hx => ?_, h.bP⟩
        · rcases mem_insL.1 hx with rfl | hx
          · exact hnone.2
          · exact h.ok x hx
        · exact mem_names_ins.2 (.inr (h.pn p hp))
        · have := h.left
          show (((insL name [] m.L).map fun x => (seen m.P x.1 x.2).length).sum : Int) ≤ m.most
          rw [sum_permM (insL_perm _ _ _), List.map_cons, List.sum_cons]
          simp only [hnone.1, List.length_nil, Nat.zero_add]
          exact this
        · rcases mem_insL.1 hx with rfl | hx
          · exact isB_nil
          · exact h.bL x hx
theorem jv_write (h : Jv m) {name : ByteArray} {i : Int} {b : List AV} (hb : isB b) : Jv (m.write name i b).2 := by
  unfold Mo.write
  split
  · exact h
  · rename_i h0
    have h0 : m.fnd name = 0 := by simpa using h0
    have hm := (fnd0.1 h0).2
    split
    · exact h
    · rename_i h1
      have h1a : 0 ≤ i := by omega
      have h1b : i ≤ ((m.all name).length : Int) := by omega
      split
      · exact h
      · rename_i h2
        split
        · exact h
        · rename_i h3
          have hbl : 0 < b.length := List.length_pos_iff.2 h3
          have hal := h.all_le hm
          have hm1 := h.m1
          have hle := h.left
          have hlm : m.left = m.most - m.used := rfl
          obtain ⟨B, C, q1, q2, q3⟩ := split_name h.toIv hm
          have hstep : ∀ (x : ByteArray) (c : List AV), seen (m.P ++ [⟨name, i, b⟩]) x c = seen1 x (seen m.P x c) ⟨name, i, b⟩ := fun x c => by rw [seen_append]; rfl
          refine ⟨⟨h.m0, h.m1, h.sorted, h.max, fun x hx => ?_, fun p hp => ?_, fun p hp => ?_, ?_⟩, h.bL, fun p hp => ?_⟩
          · refine okW_append.2 ⟨h.ok x hx, fun e => ?_, trivial⟩
            have e' : x.1 = name := e.symm
            have : seen m.P x.1 x.2 = m.all name := by rw [Mo.all, ← e', Mo.sure_of h.nodup (show (x.1, x.2) ∈ m.L from hx)]
            rw [this]
            exact ⟨h1a, h1b⟩
          · rcases List.mem_append.1 hp with hp | hp
            · exact h.pn p hp
            · rw [List.mem_singleton.1 hp]; exact hm
          · rcases List.mem_append.1 hp with hp | hp
            · exact h.pb p hp
            · rw [List.mem_singleton.1 hp]
              exact ⟨by show b.length ≤ 2 ^ 23; omega, hbl⟩
          · show ((m.L.map fun x => (seen (m.P ++ [⟨name, i, b⟩]) x.1 x.2).length).sum : Int) ≤ m.most
            have hu : m.used = (B.map fun x => (seen m.P x.1 x.2).length).sum + ((m.all name).length + (C.map fun x => (seen m.P x.1 x.2).length).sum) := by
              rw [Mo.used, q1, List.map_append, List.sum_append, List.map_cons, List.sum_cons]; rfl
            have hB : (B.map fun x => (seen (m.P ++ [⟨name, i, b⟩]) x.1 x.2).length) = B.map fun x => (seen m.P x.1 x.2).length := List.map_congr_left fun x hx => by
              rw [hstep]; unfold seen1; rw [if_neg fun e => q2 x hx e.symm]
            have hC : (C.map fun x => (seen (m.P ++ [⟨name, i, b⟩]) x.1 x.2).length) = C.map fun x => (seen m.P x.1 x.2).length := List.map_congr_left fun x hx => by
              rw [hstep]; unfold seen1; rw [if_neg fun e => q3 x hx e.symm]
            have hN : (seen (m.P ++ [⟨name, i, b⟩]) name (m.sure name)).length = max (m.all name).length (i.toNat + b.length) := by
              rw [hstep]; unfold seen1; rw [if_pos rfl]
              exact ov_length (by show i.toNat ≤ (m.all name).length; omega)
            rw [q1, List.map_append, List.sum_append, List.map_cons, List.sum_cons, hB, hC]
            simp only [hN]
            omega
          · rcases List.mem_append.1 hp with hp | hp
            · exact h.bP p hp
            · rw [List.mem_singleton.1 hp]; exact hb
theorem jv_set (h : Jv m) {name : ByteArray} {b : List AV} (_hm : name ∈ m.names) (hl : b.length ≤ (m.all name).length) (hb : isB b) : Jv ⟨setL name b m.L, dropP name m.P, m.most, m.down⟩ := by
  have hnames : (setL name b m.L).map Prod.fst = m.names := names_set
  have hse : ∀ x ∈ m.L, ∀ y, y = (if x.1 = name then (x.1, b) else x) → okW (dropP name m.P) y.1 y.2 ∧ (seen (dropP name m.P) y.1 y.2).length ≤ (seen m.P x.1 x.2).length := by
    rintro x hx y rfl
    by_cases e : x.1 = name
    · rw [if_pos e]
      have hnone := seen_none (P := dropP name m.P) (b := b) (n := x.1) fun p hp e2 => drop_none p hp (e2.trans e)
      refine ⟨hnone.2, ?_⟩
      simp only [hnone.1]
      have : seen m.P x.1 x.2 = m.all name := by rw [Mo.all, ← e, Mo.sure_of h.nodup (show (x.1, x.2) ∈ m.L from hx)]
      rw [this]; exact hl
    · rw [if_neg e]
      have hd := seen_drop (name := name) e (P := m.P) (b := x.2)
      exact ⟨hd.2 (h.ok x hx), by rw [hd.1]; exact Nat.le_refl _⟩
  refine ⟨⟨h.m0, h.m1, ?_, by show (setL name b m.L).length ≤ 4096; rw [setL_length]; exact h.max, fun y hy => ?_, fun p hp => ?_, fun p hp => h.pb p (List.mem_filter.1 hp).1, ?_⟩, fun y hy => ?_, fun p hp => h.bP p (List.mem_filter.1 hp).1⟩
  · show (setL name b m.L).Pairwise _
    unfold setL
    rw [List.pairwise_map]
    refine h.sorted.imp ?_
    intro x y hxy
    have f1 : ∀ z : ByteArray × List AV, (if z.1 = name then (z.1, b) else z).1 = z.1 := fun z => by split <;> rfl
    rw [f1, f1]; exact hxy
  · obtain ⟨x, hx, rfl⟩ := List.mem_map.1 hy
    exact (hse x hx _ rfl).1
  · show p.n ∈ (setL name b m.L).map Prod.fst
    rw [hnames]
    exact h.pn p (List.mem_filter.1 hp).1
  · have := h.left
    have h2 : ((setL name b m.L).map fun x => (seen (dropP name m.P) x.1 x.2).length).sum ≤ m.used := by
      unfold setL Mo.used
      rw [List.map_map]
      exact sum_le' fun x hx => (hse x hx _ rfl).2
    show (((setL name b m.L).map fun x => (seen (dropP name m.P) x.1 x.2).length).sum : Int) ≤ m.most
    omega
  · rcases mem_setL hy with ⟨_, e, _⟩ | ⟨_, hy⟩
    · rw [e]; exact hb
    · exact h.bL y hy
theorem Jv.all_isB (h : Jv m) {name : ByteArray} (hm : name ∈ m.names) : isB (m.all name) := isB_seen h.bP (h.bL _ (Mo.mem_sure h.nodup hm))
theorem jv_sync (h : Jv m) {name : ByteArray} : Jv (m.sync name).2 := by
  unfold Mo.sync
  split
  · exact h
  · rename_i h0
    have hm := (fnd0.1 (by simpa using h0)).2
    exact jv_set h hm (Nat.le_refl _) (h.all_isB hm)
theorem jv_cut (h : Jv m) {name : ByteArray} {i : Int} : Jv (m.cut name i).2 := by
  unfold Mo.cut
  split
  · exact h
  · rename_i h0
    have hm := (fnd0.1 (by simpa using h0)).2
    split
    · exact h
    · exact jv_set h hm (by rw [List.length_take]; omega) (isB_take (h.all_isB hm))
theorem sorted_out {L : List (ByteArray × List AV)} {n : ByteArray} (hs : L.Pairwise fun a b => nlt a.1 b.1) : (outL n L).Pairwise fun a b => nlt a.1 b.1 := hs.filter _
theorem jv_remove (h : Jv m) {name : ByteArray} : Jv (m.remove name).2 := by
  unfold Mo.remove
  split
  · exact h
  · have hx' : ∀ x ∈ outL name m.L, x ∈ m.L ∧ x.1 ≠ name := fun x hx => ⟨(List.mem_filter.1 hx).1, by simpa using (List.mem_filter.1 hx).2⟩
    refine ⟨⟨h.m0, h.m1, sorted_out h.sorted, Nat.le_trans (List.length_filter_le _ _) h.max, fun x hx => ?_, fun p hp => ?_, fun p hp => h.pb p (List.mem_filter.1 hp).1, ?_⟩, fun x hx => h.bL x (hx' x hx).1, fun p hp => h.bP p (List.mem_filter.1 hp).1⟩
    · exact (seen_drop (hx' x hx).2).2 (h.ok x (hx' x hx).1)
    · show p.n ∈ (outL name m.L).map Prod.fst
      rw [names_out, List.mem_filter]
      exact ⟨h.pn p (List.mem_filter.1 hp).1, by simpa using drop_none p hp⟩
    · have := h.left
      have h1 : ((outL name m.L).map fun x => (seen (dropP name m.P) x.1 x.2).length) = (outL name m.L).map fun x => (seen m.P x.1 x.2).length := List.map_congr_left fun x hx => by rw [(seen_drop (hx' x hx).2).1]
      have h2 : ((outL name m.L).map fun x => (seen m.P x.1 x.2).length).sum ≤ m.used := sum_filter
      show (((outL name m.L).map fun x => (seen (dropP name m.P) x.1 x.2).length).sum : Int) ≤ m.most
      rw [h1]; omega
theorem jv_renamed (h : Jv m) {name to : ByteArray} (hm : name ∈ m.names) (hne : to ≠ name) : Jv (m.renamed name to) := by
  have hx' : ∀ x ∈ outL name (outL to m.L), x ∈ m.L ∧ x.1 ≠ name ∧ x.1 ≠ to := fun x hx => by
    have h1 := List.mem_filter.1 hx
    have h2 := List.mem_filter.1 h1.1
    exact ⟨h2.1, by simpa using h1.2, by simpa using h2.2⟩
  have hdn : ∀ p ∈ dropP to m.P, p.n ≠ to := fun p hp => drop_none p hp
  have hmem := Mo.mem_sure h.nodup hm
  have hto := seen_ren (name := name) (to := to) hne (P := dropP to m.P) (b := m.sure name) hdn
  have hd := seen_drop (name := to) (n := name) (fun e => hne e.symm) (P := m.P) (b := m.sure name)
  have hoth : ∀ x ∈ outL name (outL to m.L), seen (renP name to (dropP to m.P)) x.1 x.2 = seen m.P x.1 x.2 ∧ okW (renP name to (dropP to m.P)) x.1 x.2 := fun x hx => by
    obtain ⟨a1, a2, a3⟩ := hx' x hx
    have e1 := seen_ren2 (name := name) (to := to) a2 a3 (P := dropP to m.P) (b := x.2)
    have e2 := seen_drop (name := to) a3 (P := m.P) (b := x.2)
    exact ⟨e1.1.trans e2.1, e1.2 (e2.2 (h.ok x a1))⟩
  have hpr : ∀ q ∈ renP name to (dropP to m.P), ∃ p ∈ m.P, q.b = p.b ∧ (q.n = to ∨ (q.n = p.n ∧ p.n ≠ name ∧ p.n ≠ to)) := fun q hq => by
    obtain ⟨p, hp, rfl⟩ := List.mem_map.1 hq
    refine ⟨p, (List.mem_filter.1 hp).1, ?_⟩
    by_cases e : p.n = name
    · rw [if_pos e]; exact ⟨rfl, .inl rfl⟩
    · rw [if_neg e]; exact ⟨rfl, .inr ⟨rfl, e, hdn p hp⟩⟩
  refine ⟨⟨h.m0, h.m1, ?_, ?_, fun x hx => ?_, fun q hq => ?_, fun q hq => ?_, ?_⟩, fun x hx => ?_, fun q hq => ?_⟩
  · refine sorted_ins (sorted_out (sorted_out h.sorted)) fun e => ?_
    obtain ⟨x, hx, e⟩ := List.mem_map.1 e
    exact (hx' x hx).2.2 e
  · show (insL to (m.sure name) (outL name (outL to m.L))).length ≤ 4096
    rw [insL_length]
    have h1 : (outL name (outL to m.L)).length < m.L.length := by
      obtain ⟨B, C, q1, q2, q3⟩ := split_name h.toIv hm
      obtain ⟨r1, r2, r3⟩ := out_fst q1 q2 q3 hne
      have : (outL to m.L).length ≤ m.L.length := List.length_filter_le _ _
      have e2 : outL name (outL to m.L) = outL to B ++ outL to C := by rw [r1]; exact out_split r2 r3
      rw [r1] at this
      rw [e2]
      simp at this ⊢; omega
    have := h.max
    omega
  · rcases mem_insL.1 hx with rfl | hx
    · exact hto.2 (hd.2 (h.ok _ hmem))
    · exact (hoth x hx).2
  · obtain ⟨p, hp, _, h2⟩ := hpr q hq
    refine mem_renamed.2 ?_
    rcases h2 with h2 | ⟨h2, h3, h4⟩
    · exact .inl h2
    · exact .inr ⟨h2 ▸ h.pn p hp, h2 ▸ h3, h2 ▸ h4⟩
  · obtain ⟨p, hp, h1, _⟩ := hpr q hq
    rw [h1]; exact h.pb p hp
  · have hle := h.left
    obtain ⟨B, C, q1, q2, q3⟩ := split_name h.toIv hm
    obtain ⟨r1, r2, r3⟩ := out_fst q1 q2 q3 hne
    have e2 : outL name (outL to m.L) = outL to B ++ outL to C := by rw [r1]; exact out_split r2 r3
    have h1 : ((outL name (outL to m.L)).map fun x => (seen (renP name to (dropP to m.P)) x.1 x.2).length) = (outL name (outL to m.L)).map fun x => (seen m.P x.1 x.2).length := List.map_congr_left fun x hx => by rw [(hoth x hx).1]
    have hu : m.used = (B.map fun x => (seen m.P x.1 x.2).length).sum + ((m.all name).length + (C.map fun x => (seen m.P x.1 x.2).length).sum) := by
      rw [Mo.used, q1, List.map_append, List.sum_append, List.map_cons, List.sum_cons]; rfl
    have hB : ((outL to B).map fun x => (seen m.P x.1 x.2).length).sum ≤ (B.map fun x => (seen m.P x.1 x.2).length).sum := sum_filter
    have hC : ((outL to C).map fun x => (seen m.P x.1 x.2).length).sum ≤ (C.map fun x => (seen m.P x.1 x.2).length).sum := sum_filter
    have hN : (seen (renP name to (dropP to m.P)) to (m.sure name)).length = (m.all name).length := by rw [hto.1, hd.1]; rfl
    show (((insL to (m.sure name) (outL name (outL to m.L))).map fun x => (seen (renP name to (dropP to m.P)) x.1 x.2).length).sum : Int) ≤ m.most
    rw [sum_permM (insL_perm _ _ _), List.map_cons, List.sum_cons, h1, e2, List.map_append, List.sum_append]
    simp only [hN]
    omega
  · rcases mem_insL.1 hx with rfl | hx
    · exact h.bL (name, m.sure name) hmem
    · exact h.bL x (hx' x hx).1
  · obtain ⟨p, hp, h1, _⟩ := hpr q hq
    rw [h1]; exact h.bP p hp
theorem jv_rename (h : Jv m) {name to : ByteArray} : Jv (m.rename name to).2 := by
  unfold Mo.rename
  split
  · exact h
  · rename_i h0
    have hm := (fnd0.1 (by simpa using h0)).2
    split
    · exact h
    · split
      · exact h
      · rename_i hne
        exact jv_renamed h hm hne
theorem kept_le (h : Jv m) {keep torn : Int} {x : ByteArray × List AV} (hx : x ∈ m.L) : (seen (kept m.P keep torn) x.1 x.2).length ≤ (seen m.P x.1 x.2).length ∧ x.2.length ≤ (seen (kept m.P keep torn) x.1 x.2).length := by
  have hok := h.ok x hx
  obtain ⟨K, hK⟩ : ∃ K, K = bare keep % (m.P.length + 1) := ⟨_, rfl⟩
  unfold kept
  rw [← hK]
  by_cases hlt : K < m.P.length
  · rw [List.getElem?_eq_getElem hlt]
    have hsp : m.P = m.P.take K ++ m.P[K] :: m.P.drop (K + 1) := by rw [← List.drop_eq_getElem_cons hlt, List.take_append_drop]
    have hok' := hok
    rw [hsp, okW_append] at hok'
    obtain ⟨o1, o2, o3⟩ := hok'
    have h1 := seen_le o1
    have hs : seen m.P x.1 x.2 = seen (m.P.drop (K + 1)) x.1 (seen1 x.1 (seen (m.P.take K) x.1 x.2) m.P[K]) := by
      conv => lhs; rw [hsp, seen_append]
      rfl
    have h3 := seen_le o3
    rw [hs, seen_append]
    have ht : ∀ q : Pw, seen [q] x.1 (seen (m.P.take K) x.1 x.2) = seen1 x.1 (seen (m.P.take K) x.1 x.2) q := fun _ => rfl
    simp only [ht]
    unfold seen1 at h3 ⊢
    by_cases e : m.P[K].n = x.1
    · have := o2 e
      simp only [e, if_true] at h3 ⊢
      rw [ov_length (by omega)] at h3 ⊢
      rw [List.length_take]
      omega
    · simp only [e, if_false] at h3 ⊢
      exact ⟨h3, h1⟩
  · rw [List.getElem?_eq_none (by omega), List.append_nil, List.take_of_length_le (by omega)]
    exact ⟨Nat.le_refl _, seen_le hok⟩
theorem kept_isB (h : Jv m) {keep torn : Int} : ∀ p ∈ kept m.P keep torn, isB p.b := by
  intro p hp
  unfold kept at hp
  rcases List.mem_append.1 hp with hp | hp
  · exact h.bP p (List.mem_of_mem_take hp)
  · split at hp
    · rename_i q hq
      rw [List.mem_singleton.1 hp]
      exact isB_take (h.bP q (List.mem_of_getElem? hq))
    · cases hp
theorem jv_crash (h : Jv m) {keep torn : Int} : Jv (m.crash keep torn).2 := by
  unfold Mo.crash
  split
  · exact h
  · refine ⟨⟨h.m0, h.m1, ?_, by simpa using h.max, fun x _ => trivial, fun p hp => absurd hp List.not_mem_nil, fun p hp => absurd hp List.not_mem_nil, ?_⟩, fun x hx => ?_, fun p hp => absurd hp List.not_mem_nil⟩
    · show (m.L.map _).Pairwise _
      rw [List.pairwise_map]
      exact h.sorted.imp fun h => h
    · have := h.left
      have h2 : ((m.L.map fun x => (x.1, seen (kept m.P keep torn) x.1 x.2)).map fun x => (seen [] x.1 x.2).length).sum ≤ m.used := by
        unfold Mo.used
        rw [List.map_map]
        exact sum_le' fun x hx => (kept_le h hx).1
      show (((m.L.map fun x => (x.1, seen (kept m.P keep torn) x.1 x.2)).map fun x => (seen [] x.1 x.2).length).sum : Int) ≤ m.most
      omega
    · obtain ⟨y, hy, rfl⟩ := List.mem_map.1 hx
      exact isB_seen (kept_isB h) (h.bL y hy)
theorem jv_start (h : Jv m) : Jv m.start.2 := by
  unfold Mo.start
  split
  · exact ⟨⟨h.m0, h.m1, h.sorted, h.max, h.ok, h.pn, h.pb, h.left⟩, h.bL, h.bP⟩
  · exact h
def Mo.new (room : Int) : Mo := ⟨[], [], room, false⟩
theorem jv_new {room : Int} (h0 : 0 ≤ room) (h1 : room ≤ 4194304) : Jv (.new room) :=
  ⟨⟨h0, h1, List.Pairwise.nil, Nat.zero_le _, fun _x hx => absurd hx List.not_mem_nil, fun _p hp => absurd hp List.not_mem_nil, fun _p hp => absurd hp List.not_mem_nil, h0⟩, fun _x hx => absurd hx List.not_mem_nil, fun _p hp => absurd hp List.not_mem_nil⟩
end Go.Proofs.Ytjdbmfipciadfaa.A
