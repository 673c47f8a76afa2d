/- Stores: the document's answer: the other calls that change it. -/import Derived.Test.YtjdbmfipciadfaaSpE
namespace Go.Proofs.Ytjdbmfipciadfaa.A
open Go Go.Pt
section
variable {m : Mo} {A : List AV} {fuel : Nat}
theorem fnd0 {name : ByteArray} : m.fnd name = 0 ↔ m.down = false ∧ name ∈ m.names := by
  unfold Mo.fnd
  cases m.down with
  | true => simp
  | false => by_cases h : name ∈ m.names <;> simp [h]
theorem f146_l0_is {P : List Pw} (hP : (P.length + 1) * 48 ≤ 2 ^ 47) {name : ByteArray} {a10 : List AV} {a2 a3 a4 a7 a8 : Int} {a9 : Bool} : ∀ (rest pre : List Pw) (f : Nat) (q : Int), P = pre ++ rest → rest.length < f → q = ((dropP name pre).length : Int) →
    f146_l0 stdOps fuel P.length 0 (P.map qav) name A a2 a3 a4 a7 a8 a9 a10 f q q pre.length ((dropP name pre).map qav) = some (.x0 (dropP name P).length (dropP name P).length ((dropP name P).map qav))
  | [], pre, f + 1, q, hp, hf, hq => by
    rw [List.append_nil] at hp
    rw [f146_l0]
    refine ifB_is_f (lss_f (by rw [hp]; simp)) ?_
    rw [hq, hp]
  | p :: rest, pre, f + 1, q, hp, hf, hq => by
    have hi : pre.length < P.length := by rw [hp]; simp
    obtain ⟨g1, g2, g3⟩ := get0 (f := qav) (l := P) (i := pre.length) (v := p) (by rw [hp]; simp)
    have hidx : stdOps.ar .add .i64 (pre.length : Int) 1 = ((pre ++ [p]).length : Int) := by rw [add1 (by omega)]; simp
    have hdl : (dropP name pre).length ≤ pre.length := List.length_filter_le _ _
    rw [f146_l0, hidx]
    refine ifB_is_t (lss_t hi) <| req_is g3 <| req_is g2 <| getA_is g1 ?_
    simp only [qav, sh158]
    by_cases e : p.n = name
    · have hd : dropP name (pre ++ [p]) = dropP name pre := by unfold dropP; simp [e]
      have ih := f146_l0_is hP (name := name) (a10 := a10) (a2 := a2) (a3 := a3) (a4 := a4) (a7 := a7) (a8 := a8) (a9 := a9) rest (pre ++ [p]) f q (by simpa using hp) (by simp at hf; omega) (by rw [hd]; exact hq)
      rw [hd] at ih
      exact ifB_is_f (by rw [seq_is, e, decide_eq_true rfl]; rfl) ih
    · have hd : dropP name (pre ++ [p]) = dropP name pre ++ [p] := by unfold dropP; simp [e]
      have ih := f146_l0_is hP (name := name) (a10 := a10) (a2 := a2) (a3 := a3) (a4 := a4) (a7 := a7) (a8 := a8) (a9 := a9) rest (pre ++ [p]) f _ (by simpa using hp) (by simp at hf; omega) rfl
      rw [hd] at ih
      have e1 : stdOps.sub ((dropP name pre).map qav) 0 q = (dropP name pre).map qav := by
        have := sub_all (A := (dropP name pre).map qav)
        rwa [len_is, List.length_map, ← hq] at this
      have e2 : stdOps.apnd ((dropP name pre).map qav) [.agg [.str p.n, .int .i64 p.i, .sl 1 p.b .no]] = (dropP name pre ++ [p]).map qav := by
        rw [List.map_append]; rfl
      refine ifB_is_t (by rw [seq_is, decide_eq_false e]; rfl) <| req_is g3 <| req_is g2 <| getA_is g1 ?_
      simp only [qav]
      have e3 : stdOps.len ((dropP name pre ++ [p]).map qav) = ((dropP name pre ++ [p]).length : Int) := by rw [len_is, List.length_map]
      rw [e1, e2, e3]
      exact req_is rfl <| req_is (show (0 : Int) ≤ q by omega) <| req_is (show q ≤ (((dropP name pre).map qav).length : Int) by rw [List.length_map]; omega) <| req_is (room_ok (by simp; omega)) ih
theorem f146_is {P : List Pw} (hP : (P.length + 1) * 48 ≤ 2 ^ 47) (hf : P.length < fuel) {name : ByteArray} {a10 : List AV} {a2 a3 a4 a7 a8 : Int} {a9 : Bool} :
    f146 stdOps fuel name A a2 a3 a4 0 P.length a7 a8 a9 a10 (P.map qav) = some (.v0 0 (dropP name P).length (dropP name P).length ((dropP name P).map qav)) := by
  unfold f146
  exact bindR_is (f146_l0_is hP P [] fuel 0 rfl hf rfl) rfl
theorem set_lav {L B C : List (ByteArray × List AV)} {name : ByteArray} {b b' : List AV} (h : L = B ++ (name, b) :: C) (hB : ∀ y ∈ B, y.1 ≠ name) (hC : ∀ y ∈ C, y.1 ≠ name) :
    stdOps.upd (L.map lav) (stdOps.sum 0 (B.length : Int)) (.agg [.str name, .sl 1 b' .no]) = (setL name b' L).map lav := by
  show (L.map lav).set ((0 : Int) + B.length).toNat _ = _
  rw [show ((0 : Int) + B.length).toNat = B.length by omega, h]
  unfold setL
  rw [List.map_append, List.map_cons, List.map_append, List.map_cons, List.map_append, List.map_cons, List.set_append_right _ _ (by simp), List.length_map, Nat.sub_self, List.set_cons_zero]
  congr 1
  · rw [List.map_map]
    exact List.map_congr_left fun y hy => by show lav y = lav (if y.1 = name then (y.1, b') else y); rw [if_neg (hB y hy)]
  · congr 1
    · simp [lav]
    · rw [List.map_map]
      exact List.map_congr_left fun y hy => by show lav y = lav (if y.1 = name then (y.1, b') else y); rw [if_neg (hC y hy)]
theorem setL_length {name : ByteArray} {b : List AV} {L : List (ByteArray × List AV)} : (setL name b L).length = L.length := by simp [setL]
theorem f113_is (hI : Iv m) (hP : (m.P.length + 1) * 48 ≤ 2 ^ 47) (hf : 5000 < fuel) (hf2 : m.P.length < fuel) {name : ByteArray} :
    f113 stdOps fuel name A 0 m.L.length m.L.length 0 m.P.length m.P.length m.most m.down (m.L.map lav) (m.P.map qav) = some (.v0 (m.sync name).1 0 (m.sync name).2.P.length (m.sync name).2.P.length ((m.sync name).2.L.map lav) ((m.sync name).2.P.map qav)) := by
  have hP' : m.P.length < 2 ^ 42 := by omega
  have hmx := hI.max
  unfold f113 Mo.sync
  rw [bindR_eq (f144_is hI hf)]
  simp only
  by_cases h0 : m.fnd name = 0
  · have hm := (fnd0.1 h0).2
    rw [if_neg (by simpa using h0), h0, ifB_f bnot_eq]
    obtain ⟨B, C, q1, q2, q3⟩ := split_name hI hm
    obtain ⟨g1, g2, g3⟩ := get0 (f := lav) (l := m.L) (i := B.length) (v := (name, m.sure name)) (by rw [q1]; simp)
    refine bindR_is (f142_at (by omega) (by omega) q1 q2) <| bindR_is (f145_is hI hP' hm hf hf2) <| req_is g3 <| req_is g2 <| getA_is g1 ?_
    simp only [lav, sh164]
    rw [set_lav q1 q2 q3]
    exact bindR_is (f146_is hP hf2) rfl
  · rw [if_pos h0]
    exact ifB_is_t (bnot_ne h0) rfl
theorem setL_setL {name : ByteArray} {b b' : List AV} {L : List (ByteArray × List AV)} : setL name b (setL name b' L) = setL name b L := by
  unfold setL
  rw [List.map_map]
  refine List.map_congr_left fun x _ => ?_
  show (if (if x.1 = name then (x.1, b') else x).1 = name then ((if x.1 = name then (x.1, b') else x).1, b) else (if x.1 = name then (x.1, b') else x)) = _
  by_cases e : x.1 = name <;> simp [e]
theorem f112_is (hI : Iv m) (hP : (m.P.length + 1) * 48 ≤ 2 ^ 47) (hf : 5000 < fuel) (hf2 : m.P.length < fuel) {name : ByteArray} {i : Int} :
    f112 stdOps fuel name i A 0 m.L.length m.L.length 0 m.P.length m.P.length m.most m.down (m.L.map lav) (m.P.map qav) = some (.v0 (m.cut name i).1 0 (m.cut name i).2.P.length (m.cut name i).2.P.length ((m.cut name i).2.L.map lav) ((m.cut name i).2.P.map qav)) := by
  have hP' : m.P.length < 2 ^ 42 := by omega
  have hmx := hI.max
  unfold f112 Mo.cut
  rw [bindR_eq (f144_is hI hf)]
  simp only
  by_cases h0 : m.fnd name = 0
  · have hm := (fnd0.1 h0).2
    rw [if_neg (by simpa using h0), h0, ifB_f bnot_eq]
    by_cases h1 : i < 0
    · rw [if_pos (.inl h1)]
      exact ifB_is_t (by simp only [stdOps, decide_eq_true_eq]; exact h1) rfl
    · rw [ifB_f (by simp only [stdOps, decide_eq_false_iff_not]; exact h1), bindR_eq (f145_is hI hP' hm hf hf2)]
      simp only
      by_cases h2 : ((m.all name).length : Int) < i
      · rw [if_pos (.inr h2)]
        exact ifB_is_t (by simp only [stdOps, decide_eq_true_eq]; exact h2) rfl
      · rw [if_neg (fun e => e.elim h1 h2), ifB_f (by simp only [stdOps, decide_eq_false_iff_not]; exact h2)]
        have hsy : m.sync name = (0, ⟨setL name (m.all name) m.L, dropP name m.P, m.most, m.down⟩) := by unfold Mo.sync; rw [if_neg (by simpa using h0)]
        have h113 := f113_is hI hP hf hf2 (A := A) (name := name)
        rw [hsy] at h113
        obtain ⟨B, C, q1, q2, q3⟩ := split_name hI hm
        have hsp : setL name (m.all name) m.L = B ++ (name, m.all name) :: C := by
          unfold setL
          rw [q1, List.map_append, List.map_cons]
          congr 1
          · conv => rhs; rw [← List.map_id B]
            exact List.map_congr_left fun y hy => if_neg (q2 y hy)
          · congr 1
            · simp
            · conv => rhs; rw [← List.map_id C]
              exact List.map_congr_left fun y hy => if_neg (q3 y hy)
        have hat := f142_at (fuel := fuel) (a1 := A) (a11 := (dropP name m.P).map qav) (a4 := m.L.length) (a5 := 0) (a6 := (dropP name m.P).length) (a7 := (dropP name m.P).length) (a8 := m.most) (a9 := m.down) (by rw [setL_length]; omega) (by rw [setL_length]; omega) hsp q2
        rw [setL_length] at hat
        obtain ⟨g1, g2, g3⟩ := get0 (f := lav) (l := setL name (m.all name) m.L) (i := B.length) (v := (name, m.all name)) (by rw [hsp]; simp)
        rw [setL_length] at g3
        refine bindR_is h113 <| bindR_is hat <| req_is g3 <| req_is g2 <| getA_is g1 ?_
        simp only [lav, sh164]
        refine req_is (show (0 : Int) ≤ i by omega) <| req_is (Int.le_refl i) <| req_is (show i ≤ ((m.all name).length : Int) by omega) <| req_is rfl <| req_is g3 <| req_is g2 <| getA_is g1 ?_
        have hup := set_lav (b' := (m.all name).take i.toNat) hsp q2 q3
        rw [setL_setL] at hup
        rw [show stdOps.sub (m.all name) 0 i = (m.all name).take i.toNat from rfl]
        simp only [lav] at hup ⊢
        rw [hup]
  · rw [if_pos h0]
    exact ifB_is_t (bnot_ne h0) rfl
theorem out_split {B C : List (ByteArray × List AV)} {name : ByteArray} {b : List AV} (hB : ∀ y ∈ B, y.1 ≠ name) (hC : ∀ y ∈ C, y.1 ≠ name) : outL name (B ++ (name, b) :: C) = B ++ C := by
  unfold outL
  rw [List.filter_append, List.filter_cons_of_neg (by simp), List.filter_eq_self.2 fun y hy => by simpa using hB y hy, List.filter_eq_self.2 fun y hy => by simpa using hC y hy]
theorem cut_out {L B C : List (ByteArray × List AV)} {x : ByteArray × List AV} (h : L = B ++ x :: C) (hl : L.length ≤ 2 ^ 30) :
    stdOps.sub (L.map lav) 0 (stdOps.sum 0 (B.length : Int)) = B.map lav ∧
    stdOps.sub (L.map lav) (stdOps.sum 0 (stdOps.ar .add .i64 (B.length : Int) 1)) (stdOps.sum (stdOps.sum 0 (stdOps.ar .add .i64 (B.length : Int) 1)) (stdOps.dif (L.length : Int) (stdOps.ar .add .i64 (B.length : Int) 1))) = C.map lav ∧
    stdOps.ar .add .i64 (B.length : Int) 1 = ((B.length + 1 : Nat) : Int) ∧ L.length = B.length + 1 + C.length := by
  have hll : L.length = B.length + 1 + C.length := by rw [h]; simp; omega
  have ha := add1 (i := B.length) (by omega)
  refine ⟨?_, ?_, ha, hll⟩
  · have := sub_front (A := B.map lav) (C := (x :: C).map lav)
    rwa [← List.map_append, ← h, List.length_map] at this
  · rw [ha]
    have e : L.map lav = (B ++ [x]).map lav ++ C.map lav := by rw [h]; simp
    rw [e]
    refine sub_back ?_ ?_
    · show (0 : Int) + ((B.length + 1 : Nat) : Int) = _; simp
    · show (0 : Int) + ((B.length + 1 : Nat) : Int) + ((L.length : Int) - ((B.length + 1 : Nat) : Int)) = _; simp; omega
theorem f115_is (hI : Iv m) (hP : (m.P.length + 1) * 48 ≤ 2 ^ 47) (hf : 5000 < fuel) (hf2 : m.P.length < fuel) {name : ByteArray} :
    f115 stdOps fuel name A 0 m.L.length m.L.length 0 m.P.length m.P.length m.most m.down (m.L.map lav) (m.P.map qav) =
      some (.v0 (m.remove name).1 0 (m.remove name).2.L.length (m.remove name).2.L.length 0 (m.remove name).2.P.length (m.remove name).2.P.length ((m.remove name).2.L.map lav) ((m.remove name).2.P.map qav)) := by
  have hmx := hI.max
  unfold f115 Mo.remove
  rw [bindR_eq (f144_is hI hf)]
  simp only
  by_cases h0 : m.fnd name = 0
  · have hm := (fnd0.1 h0).2
    rw [if_neg (by simpa using h0), h0, ifB_f bnot_eq]
    obtain ⟨B, C, q1, q2, q3⟩ := split_name hI hm
    have ho : outL name m.L = B ++ C := by rw [q1]; exact out_split q2 q3
    obtain ⟨c1, c2, c3, c4⟩ := cut_out q1 (by omega)
    refine bindR_is (f142_at (by omega) (by omega) q1 q2) ?_
    simp only
    have e2 : stdOps.apnd (B.map lav) (C.map lav) = (B ++ C).map lav := by rw [List.map_append]; rfl
    have e3 : stdOps.len ((B ++ C).map lav) = ((B ++ C).length : Int) := by simp [stdOps]
    rw [ho, c1, c2, sub_all, e2, e3, c3]
    refine req_is (show (0 : Int) ≤ B.length by omega) <| req_is (show (0 : Int) + (B.length : Int) ≤ m.L.length by omega) <| req_is (show (0 : Int) ≤ 0 by omega) <| req_is (show (0 : Int) ≤ B.length by omega) <| req_is (show (0 : Int) + (B.length : Int) ≤ ((m.L.map lav).length : Int) by simp; omega) <|
      req_is rfl <| req_is (room_ok (by simp; omega)) <| req_is (show (0 : Int) ≤ ((B.length + 1 : Nat) : Int) by omega) <| req_is (show ((B.length + 1 : Nat) : Int) ≤ m.L.length by omega) <| req_is (show (0 : Int) ≤ 0 + ((B.length + 1 : Nat) : Int) by omega) <| req_is (show (0 : Int) ≤ (m.L.length : Int) - ((B.length + 1 : Nat) : Int) by omega) <|
      req_is (show (0 : Int) + ((B.length + 1 : Nat) : Int) + ((m.L.length : Int) - ((B.length + 1 : Nat) : Int)) ≤ ((m.L.map lav).length : Int) by simp; omega) <| req_is rfl <| req_is (show (0 : Int) ≤ ((B.map lav).length : Int) by omega) <| req_is (Int.le_refl _) <| req_is (room_ok (by simp; omega)) <|
      bindR_is (f146_is hP hf2) rfl
  · rw [if_pos h0]
    exact ifB_is_t (bnot_ne h0) rfl
theorem ren1 {name to : ByteArray} {p : Pw} : renP name to [p] = [if p.n = name then ⟨to, p.i, p.b⟩ else p] := rfl
theorem f114_l0_is {P : List Pw} (hP : (P.length + 1) * 48 ≤ 2 ^ 47) {name to : ByteArray} {a30 : List AV} {r27 r28 r29 r21 a9 : Int} {a10 : Bool} : ∀ (rest pre : List Pw) (f : Nat), P = pre ++ rest → rest.length < f →
    f114_l0 stdOps fuel P.length 0 (P.map qav) name to A r27 r28 r29 r21 a9 a10 a30 f pre.length pre.length pre.length ((renP name to pre).map qav) = some (.x0 P.length P.length ((renP name to P).map qav))
  | [], pre, f + 1, hp, hf => by
    rw [List.append_nil] at hp
    rw [f114_l0]
    refine ifB_is_f (lss_f (by rw [hp]; simp)) ?_
    rw [hp]
  | p :: rest, pre, f + 1, hp, hf => by
    have hi : pre.length < P.length := by rw [hp]; simp
    obtain ⟨g1, g2, g3⟩ := get0 (f := qav) (l := P) (i := pre.length) (v := p) (by rw [hp]; simp)
    have hidx : stdOps.ar .add .i64 (pre.length : Int) 1 = ((pre ++ [p]).length : Int) := by rw [add1 (by omega)]; simp
    have hd : renP name to (pre ++ [p]) = renP name to pre ++ renP name to [p] := by unfold renP; simp
    have hrl : (renP name to pre).length = pre.length := by simp [renP]
    have ih := f114_l0_is hP (name := name) (to := to) (a30 := a30) (r27 := r27) (r28 := r28) (r29 := r29) (r21 := r21) (a9 := a9) (a10 := a10) rest (pre ++ [p]) f (by simpa using hp) (by simp at hf; omega)
    rw [hd, ren1] at ih
    have e1 : stdOps.sub ((renP name to pre).map qav) 0 (pre.length : Int) = (renP name to pre).map qav := by
      have := sub_all (A := (renP name to pre).map qav)
      rwa [len_is, List.length_map, hrl] at this
    rw [f114_l0, hidx]
    refine ifB_is_t (lss_t hi) <| req_is g3 <| req_is g2 <| getA_is g1 ?_
    simp only [qav, sh158]
    by_cases e : p.n = name
    · have e2 : stdOps.apnd ((renP name to pre).map qav) [.agg [.str to, .int .i64 p.i, .sl 1 p.b .no]] = (renP name to pre ++ [if p.n = name then ⟨to, p.i, p.b⟩ else p]).map qav := by
        rw [if_pos e, List.map_append]; rfl
      have e3 : stdOps.len ((renP name to pre ++ [if p.n = name then ⟨to, p.i, p.b⟩ else p]).map qav) = ((pre ++ [p]).length : Int) := by rw [len_is, List.length_map, List.length_append, hrl]; simp
      refine ifB_is_t (by rw [seq_is, e]; simp) ?_
      rw [e1, e2, e3]
      exact req_is rfl <| req_is (show (0 : Int) ≤ pre.length by omega) <| req_is (show (pre.length : Int) ≤ (((renP name to pre).map qav).length : Int) by rw [List.length_map, hrl]; omega) <| req_is (room_ok (by rw [List.length_map, hrl]; simp; omega)) ih
    · have e2 : stdOps.apnd ((renP name to pre).map qav) [.agg [.str p.n, .int .i64 p.i, .sl 1 p.b .no]] = (renP name to pre ++ [if p.n = name then ⟨to, p.i, p.b⟩ else p]).map qav := by
        rw [if_neg e, List.map_append]; rfl
      have e3 : stdOps.len ((renP name to pre ++ [if p.n = name then ⟨to, p.i, p.b⟩ else p]).map qav) = ((pre ++ [p]).length : Int) := by rw [len_is, List.length_map, List.length_append, hrl]; simp
      refine ifB_is_f (by rw [seq_is, decide_eq_false_iff_not]; exact e) ?_
      rw [e1, e2, e3]
      exact req_is rfl <| req_is (show (0 : Int) ≤ pre.length by omega) <| req_is (show (pre.length : Int) ≤ (((renP name to pre).map qav).length : Int) by rw [List.length_map, hrl]; omega) <| req_is (room_ok (by rw [List.length_map, hrl]; simp; omega)) ih
theorem f114_l1_is {P : List Pw} (hP : (P.length + 1) * 48 ≤ 2 ^ 47) {name to : ByteArray} {a11 a56 : List AV} {r53 r54 r55 a8 a9 : Int} {a10 : Bool} : ∀ (rest pre : List Pw) (f : Nat), P = pre ++ rest → rest.length < f →
    f114_l1 stdOps fuel P.length 0 (P.map qav) name to A r53 r54 r55 a8 a9 a10 a11 a56 f pre.length pre.length pre.length ((renP name to pre).map qav) = some (.x0 P.length P.length ((renP name to P).map qav))
  | [], pre, f + 1, hp, hf => by
    rw [List.append_nil] at hp
    rw [f114_l1]
    refine ifB_is_f (lss_f (by rw [hp]; simp)) ?_
    rw [hp]
  | p :: rest, pre, f + 1, hp, hf => by
    have hi : pre.length < P.length := by rw [hp]; simp
    obtain ⟨g1, g2, g3⟩ := get0 (f := qav) (l := P) (i := pre.length) (v := p) (by rw [hp]; simp)
    have hidx : stdOps.ar .add .i64 (pre.length : Int) 1 = ((pre ++ [p]).length : Int) := by rw [add1 (by omega)]; simp
    have hd : renP name to (pre ++ [p]) = renP name to pre ++ renP name to [p] := by unfold renP; simp
    have hrl : (renP name to pre).length = pre.length := by simp [renP]
    have ih := f114_l1_is hP (name := name) (to := to) (a11 := a11) (a56 := a56) (r53 := r53) (r54 := r54) (r55 := r55) (a8 := a8) (a9 := a9) (a10 := a10) rest (pre ++ [p]) f (by simpa using hp) (by simp at hf; omega)
    rw [hd, ren1] at ih
    have e1 : stdOps.sub ((renP name to pre).map qav) 0 (pre.length : Int) = (renP name to pre).map qav := by
      have := sub_all (A := (renP name to pre).map qav)
      rwa [len_is, List.length_map, hrl] at this
    rw [f114_l1, hidx]
    refine ifB_is_t (lss_t hi) <| req_is g3 <| req_is g2 <| getA_is g1 ?_
    simp only [qav, sh158]
    by_cases e : p.n = name
    · have e2 : stdOps.apnd ((renP name to pre).map qav) [.agg [.str to, .int .i64 p.i, .sl 1 p.b .no]] = (renP name to pre ++ [if p.n = name then ⟨to, p.i, p.b⟩ else p]).map qav := by
        rw [if_pos e, List.map_append]; rfl
      have e3 : stdOps.len ((renP name to pre ++ [if p.n = name then ⟨to, p.i, p.b⟩ else p]).map qav) = ((pre ++ [p]).length : Int) := by rw [len_is, List.length_map, List.length_append, hrl]; simp
      refine ifB_is_t (by rw [seq_is, e]; simp) ?_
      rw [e1, e2, e3]
      exact req_is rfl <| req_is (show (0 : Int) ≤ pre.length by omega) <| req_is (show (pre.length : Int) ≤ (((renP name to pre).map qav).length : Int) by rw [List.length_map, hrl]; omega) <| req_is (room_ok (by rw [List.length_map, hrl]; simp; omega)) ih
    · have e2 : stdOps.apnd ((renP name to pre).map qav) [.agg [.str p.n, .int .i64 p.i, .sl 1 p.b .no]] = (renP name to pre ++ [if p.n = name then ⟨to, p.i, p.b⟩ else p]).map qav := by
        rw [if_neg e, List.map_append]; rfl
      have e3 : stdOps.len ((renP name to pre ++ [if p.n = name then ⟨to, p.i, p.b⟩ else p]).map qav) = ((pre ++ [p]).length : Int) := by rw [len_is, List.length_map, List.length_append, hrl]; simp
      refine ifB_is_f (by rw [seq_is, decide_eq_false_iff_not]; exact e) ?_
      rw [e1, e2, e3]
      exact req_is rfl <| req_is (show (0 : Int) ≤ pre.length by omega) <| req_is (show (pre.length : Int) ≤ (((renP name to pre).map qav).length : Int) by rw [List.length_map, hrl]; omega) <| req_is (room_ok (by rw [List.length_map, hrl]; simp; omega)) ih
theorem out_fst {L : List (ByteArray × List AV)} {name to : ByteArray} {b : List AV} {B C : List (ByteArray × List AV)} (h : L = B ++ (name, b) :: C) (hB : ∀ y ∈ B, y.1 ≠ name) (hC : ∀ y ∈ C, y.1 ≠ name) (hne : to ≠ name) :
    outL to L = outL to B ++ (name, b) :: outL to C ∧ (∀ y ∈ outL to B, y.1 ≠ name) ∧ (∀ y ∈ outL to C, y.1 ≠ name) := by
  refine ⟨?_, fun y hy => hB y (List.mem_filter.1 hy).1, fun y hy => hC y (List.mem_filter.1 hy).1⟩
  unfold outL
  rw [h, List.filter_append, List.filter_cons_of_pos (by simpa using fun e => hne e.symm)]
theorem f114_is (hI : Iv m) (hP : (m.P.length + 1) * 48 ≤ 2 ^ 47) (hf : 5000 < fuel) (hf2 : m.P.length < fuel) {name to : ByteArray} :
    f114 stdOps fuel name to A 0 m.L.length m.L.length 0 m.P.length m.P.length m.most m.down (m.L.map lav) (m.P.map qav) =
      some (.v0 (m.rename name to).1 0 (m.rename name to).2.L.length (m.rename name to).2.L.length 0 (m.rename name to).2.P.length (m.rename name to).2.P.length ((m.rename name to).2.L.map lav) ((m.rename name to).2.P.map qav)) := by
  have hmx := hI.max
  unfold f114 Mo.rename
  rw [bindR_eq (f144_is hI hf)]
  simp only
  by_cases h0 : m.fnd name = 0
  · have hm := (fnd0.1 h0).2
    rw [if_neg (by simpa using h0), h0, ifB_f bnot_eq, seq_is, seq_is]
    by_cases e1 : to = emp0
    · rw [ifB_t (by rw [e1]; rfl), if_pos e1]
    · rw [ifB_f (by rw [decide_eq_false_iff_not]; exact e1), if_neg e1]
      by_cases e2 : to = name
      · rw [ifB_t (by rw [decide_eq_true_eq]; exact e2), if_pos e2]
      · rw [ifB_f (by rw [decide_eq_false_iff_not]; exact e2), if_neg e2]
        obtain ⟨B0, C0, p1, p2, p3⟩ := split_name hI hm
        obtain ⟨q1, q2, q3⟩ := out_fst p1 p2 p3 e2
        generalize outL to B0 = B at q1 q2
        generalize outL to C0 = C at q1 q3
        have hol : (outL to m.L).length ≤ m.L.length := List.length_filter_le _ _
        obtain ⟨c1, c2, c3, c4⟩ := cut_out q1 (by omega)
        have ho : outL name (outL to m.L) = B ++ C := by rw [q1]; exact out_split q2 q3
        have e3 : stdOps.apnd (B.map lav) (C.map lav) = (B ++ C).map lav := by rw [List.map_append]; rfl
        have e4 : stdOps.len ((B ++ C).map lav) = ((B ++ C).length : Int) := by simp [stdOps]
        obtain ⟨g1, g2, g3⟩ := get0 (f := lav) (l := outL to m.L) (i := B.length) (v := (name, m.sure name)) (by rw [q1]; simp)
        have hbc : (B ++ C).length ≤ 2 ^ 30 := by rw [List.length_append]; omega
        have hbf : (B ++ C).length + 1 < fuel := by rw [List.length_append]; omega
        have hdl : (dropP to m.P).length ≤ m.P.length := List.length_filter_le _ _
        have hrl : (renP name to (dropP to m.P)).length = (dropP to m.P).length := by simp [renP]
        by_cases e5 : to ∈ m.names
        · obtain ⟨B1, C1, r1, r2, _⟩ := split_name hI e5
          have hrem : m.remove to = (0, ⟨outL to m.L, dropP to m.P, m.most, m.down⟩) := by
            unfold Mo.remove
            rw [if_neg (by rw [show m.fnd to = 0 from fnd0.2 ⟨(fnd0.1 h0).1, e5⟩]; simp)]
          have h115 := f115_is hI hP hf hf2 (A := A) (name := to)
          rw [hrem] at h115
          dsimp only at h115
          refine bindR_is (f142_at (by omega) (by omega) r1 r2) <| ifB_is_t (by simp only [stdOps, decide_eq_true_eq]; omega) <| bindR_is h115 <| bindR_is (f142_at (by omega) (by omega) q1 q2) <| req_is g3 <| req_is g2 <| getA_is g1 ?_
          simp only [lav, sh164]
          have hl0 := f114_l0_is (fuel := fuel) (A := A) (P := dropP to m.P) (by omega) (name := name) (to := to) (a30 := (insL to (m.sure name) (B ++ C)).map lav) (r27 := 0) (r28 := (insL to (m.sure name) (B ++ C)).length) (r29 := (insL to (m.sure name) (B ++ C)).length) (r21 := (dropP to m.P).length) (a9 := m.most) (a10 := m.down) (dropP to m.P) [] fuel rfl (by omega)
          rw [ho, c1, c2, sub_all, e3, e4, c3, hrl]
          refine req_is (show (0 : Int) ≤ B.length by omega) <| req_is (show (0 : Int) + (B.length : Int) ≤ (outL to m.L).length by omega) <| req_is (show (0 : Int) ≤ 0 by omega) <| req_is (show (0 : Int) ≤ B.length by omega) <| req_is (show (0 : Int) + (B.length : Int) ≤ (((outL to m.L).map lav).length : Int) by simp; omega) <|
            req_is rfl <| req_is (room_ok (by simp; omega)) <| req_is (show (0 : Int) ≤ ((B.length + 1 : Nat) : Int) by omega) <| req_is (show ((B.length + 1 : Nat) : Int) ≤ (outL to m.L).length by omega) <| req_is (show (0 : Int) ≤ 0 + ((B.length + 1 : Nat) : Int) by omega) <| req_is (show (0 : Int) ≤ ((outL to m.L).length : Int) - ((B.length + 1 : Nat) : Int) by omega) <|
            req_is (show (0 : Int) + ((B.length + 1 : Nat) : Int) + (((outL to m.L).length : Int) - ((B.length + 1 : Nat) : Int)) ≤ (((outL to m.L).map lav).length : Int) by simp; omega) <| req_is rfl <| req_is (show (0 : Int) ≤ ((B.map lav).length : Int) by omega) <| req_is (Int.le_refl _) <| req_is (room_ok (by simp; omega)) <|
            bindR_is (f143_is hbc hbf) <| bindR_is hl0 rfl
        · have hod : outL to m.L = m.L := by
            unfold outL
            rw [List.filter_eq_self]
            intro x hx
            rw [decide_eq_true_eq]
            exact fun e => e5 (e ▸ List.mem_map_of_mem hx)
          have hdd : dropP to m.P = m.P := by
            unfold dropP
            rw [List.filter_eq_self]
            intro p hp
            rw [decide_eq_true_eq]
            exact fun e => e5 (e ▸ hI.pn p hp)
          rw [hod] at q1 c1 c2 c4 g1 g2 g3 ho hol
          refine bindR_is (f142_no (by omega) (by omega) e5) <| ifB_is_f (by decide) <| bindR_is (f142_at (by omega) (by omega) q1 q2) <| req_is g3 <| req_is g2 <| getA_is g1 ?_
          simp only [lav, sh164]
          have hl0 := f114_l1_is (fuel := fuel) (A := A) (P := m.P) (by omega) (name := name) (to := to) (a11 := m.L.map lav) (a56 := (insL to (m.sure name) (B ++ C)).map lav) (r53 := 0) (r54 := (insL to (m.sure name) (B ++ C)).length) (r55 := (insL to (m.sure name) (B ++ C)).length) (a8 := m.P.length) (a9 := m.most) (a10 := m.down) m.P [] fuel rfl (by omega)
          rw [hdd] at hrl
          rw [hod, hdd, ho, c1, c2, sub_all, e3, e4, c3, hrl]
          refine req_is (show (0 : Int) ≤ B.length by omega) <| req_is (show (0 : Int) + (B.length : Int) ≤ m.L.length by omega) <| req_is (show (0 : Int) ≤ 0 by omega) <| req_is (show (0 : Int) ≤ B.length by omega) <| req_is (show (0 : Int) + (B.length : Int) ≤ ((m.L.map lav).length : Int) by simp; omega) <|
            req_is rfl <| req_is (room_ok (by simp; omega)) <| req_is (show (0 : Int) ≤ ((B.length + 1 : Nat) : Int) by omega) <| req_is (show ((B.length + 1 : Nat) : Int) ≤ m.L.length by omega) <| req_is (show (0 : Int) ≤ 0 + ((B.length + 1 : Nat) : Int) by omega) <| req_is (show (0 : Int) ≤ (m.L.length : Int) - ((B.length + 1 : Nat) : Int) by omega) <|
            req_is (show (0 : Int) + ((B.length + 1 : Nat) : Int) + ((m.L.length : Int) - ((B.length + 1 : Nat) : Int)) ≤ ((m.L.map lav).length : Int) by simp; omega) <| req_is rfl <| req_is (show (0 : Int) ≤ ((B.map lav).length : Int) by omega) <| req_is (Int.le_refl _) <| req_is (room_ok (by simp; omega)) <|
            bindR_is (f143_is hbc hbf) <| bindR_is hl0 rfl
  · rw [if_pos h0]
    exact ifB_is_t (bnot_ne h0) rfl
end
end Go.Proofs.Ytjdbmfipciadfaa.A
