/- Stores: crashes by the document; what is told by both; clones. -/import Derived.Test.YtjdbmfipciadfaaSpF
namespace Go.Proofs.Ytjdbmfipciadfaa.A
open Go Go.Pt
section
variable {m : Mo} {A : List AV} {fuel : Nat}
theorem bare_mx {k : Int} (h : -9223372036854775808 ≤ k ∧ k ≤ 9223372036854775807) : stdOps.mx (stdOps.mx k (stdOps.neg .i64 k)) 0 = (bare k : Int) := by
  unfold bare
  by_cases e : k = -9223372036854775808
  · subst e
    rw [if_pos rfl]
    have : stdOps.neg .i64 (-9223372036854775808) = -9223372036854775808 := by
      show IntKind.i64.wrap (0 - -9223372036854775808) = -9223372036854775808
      decide
    rw [this]; rfl
  · rw [if_neg e]
    have hn : stdOps.neg .i64 k = 0 - k := wr_i64 (by omega) (by omega)
    rw [hn]
    show (if (0 : Int) > (if 0 - k > k then 0 - k else k) then (0 : Int) else (if 0 - k > k then 0 - k else k)) = _
    split <;> split <;> omega
def upL (Q : List Pw) (L : List (ByteArray × List AV)) : List (ByteArray × List AV) := L.map fun x => (x.1, seen Q x.1 x.2)
theorem upL_length {Q : List Pw} {L : List (ByteArray × List AV)} : (upL Q L).length = L.length := by simp [upL]
theorem upL_step {Q : List Pw} {p : Pw} {b : List AV} (hI : Iv m) (_hn : p.n ∈ m.names) : setL p.n (ov (seen Q p.n (m.sure p.n)) p.i.toNat b) (upL Q m.L) = upL (Q ++ [⟨p.n, p.i, b⟩]) m.L := by
  unfold setL upL
  rw [List.map_map]
  refine List.map_congr_left fun x hx => ?_
  show (if x.1 = p.n then (x.1, ov (seen Q p.n (m.sure p.n)) p.i.toNat b) else (x.1, seen Q x.1 x.2)) = (x.1, seen (Q ++ [⟨p.n, p.i, b⟩]) x.1 x.2)
  rw [seen_append, show seen [⟨p.n, p.i, b⟩] x.1 (seen Q x.1 x.2) = seen1 x.1 (seen Q x.1 x.2) ⟨p.n, p.i, b⟩ from rfl]
  unfold seen1
  by_cases e : x.1 = p.n
  · rw [if_pos e, if_pos e.symm, ← e, Mo.sure_of hI.nodup (show (x.1, x.2) ∈ m.L from hx)]
  · rw [if_neg e, if_neg fun e' => e e'.symm]
theorem f116_l0_is (hI : Iv m) (hP : m.P.length < 2 ^ 42) (hf : 5000 < fuel) {K : Nat} {keep torn : Int} (hK : stdOps.ar .rem .i64 (stdOps.mx (stdOps.mx keep (stdOps.neg .i64 keep)) 0) (stdOps.ar .add .i64 (m.P.length : Int) 1) = (K : Int)) (ht : -9223372036854775808 ≤ torn ∧ torn ≤ 9223372036854775807) {a8 a9 : Int} {a10 : Bool} :
    ∀ (rest pre : List Pw) (f : Nat) (Q : List Pw), m.P = pre ++ rest → rest.length < f → Q = (if pre.length ≤ K then pre else m.P.take K ++ (match m.P[K]? with | some p => [⟨p.n, p.i, p.b.take (bare torn % (p.b.length + 1))⟩] | none => [])) →
      f116_l0 stdOps fuel m.P.length 0 (m.P.map qav) keep torn A 0 m.L.length m.L.length a8 a9 a10 f pre.length ((upL Q m.L).map lav) =
        some (.x0 ((upL (m.P.take K ++ (match m.P[K]? with | some p => [⟨p.n, p.i, p.b.take (bare torn % (p.b.length + 1))⟩] | none => [])) m.L).map lav))
  | [], pre, f + 1, Q, hp, hf', hq => by
    have hl : m.P.length = pre.length := by rw [hp]; simp
    rw [f116_l0]
    refine ifB_is_f (lss_f (by omega)) ?_
    by_cases e : pre.length ≤ K
    · rw [if_pos e] at hq
      rw [hq, List.take_of_length_le (by omega), List.getElem?_eq_none (by omega)]
      simp only [List.append_nil]
      rw [hp, List.append_nil]
    · rw [if_neg e] at hq
      rw [hq]
  | p :: rest, pre, f + 1, Q, hp, hf', hq => by
    have hi : pre.length < m.P.length := by rw [hp]; simp
    have hpi : m.P[pre.length]? = some p := by rw [hp]; simp
    have hpm : p ∈ m.P := by rw [hp]; simp
    have hpn := hI.pn p hpm
    have hpb := hI.pb p hpm
    obtain ⟨g1, g2, g3⟩ := get0 (f := qav) (l := m.P) (i := pre.length) (v := p) hpi
    have hidx : stdOps.ar .add .i64 (pre.length : Int) 1 = ((pre ++ [p]).length : Int) := by rw [add1 (by omega)]; simp
    have hmem := Mo.mem_sure hI.nodup hpn
    have hok := hI.ok _ hmem
    rw [hp, okW_append] at hok
    have hle := hok.2.1 rfl
    have hmx := hI.max
    have hw : (seen pre p.n (m.sure p.n)).length ≤ 2 ^ 22 := by
      have h1 := hI.seen_le hmem
      have h2 := seen_le hok.2
      rw [hp, seen_append] at h1
      simp only at h1 h2
      omega
    have htake : m.P.take pre.length = pre := by rw [hp, List.take_left]
    have ih := f116_l0_is hI hP hf hK ht (a8 := a8) (a9 := a9) (a10 := a10) rest (pre ++ [p]) f
    obtain ⟨B, C, q1, q2, q3⟩ := split_name hI hpn
    have hu : ∀ Q : List Pw, upL Q m.L = upL Q B ++ (p.n, seen Q p.n (m.sure p.n)) :: upL Q C := fun Q => by rw [q1]; simp [upL]
    have hb : ∀ Q : List Pw, ∀ y ∈ upL Q B, y.1 ≠ p.n := fun Q y hy => by
      obtain ⟨x, hx, rfl⟩ := List.mem_map.1 hy
      exact q2 x hx
    have hc : ∀ Q : List Pw, ∀ y ∈ upL Q C, y.1 ≠ p.n := fun Q y hy => by
      obtain ⟨x, hx, rfl⟩ := List.mem_map.1 hy
      exact q3 x hx
    have hat : f142 stdOps fuel p.n A 0 m.L.length m.L.length 0 m.P.length a8 a9 a10 ((upL Q m.L).map lav) (m.P.map qav) = some (.v0 (B.length : Int)) := by
      have := f142_at (fuel := fuel) (a1 := A) (a11 := m.P.map qav) (a4 := m.L.length) (a5 := 0) (a6 := m.P.length) (a7 := a8) (a8 := a9) (a9 := a10) (by rw [upL_length]; omega) (by rw [upL_length]; omega) (hu Q) (hb Q)
      rwa [upL_length, upL_length] at this
    obtain ⟨k1, k2, k3⟩ := get0 (f := lav) (l := upL Q m.L) (i := B.length) (v := (p.n, seen Q p.n (m.sure p.n))) (by rw [hu Q]; simp [upL])
    rw [upL_length] at k3
    have hset : ∀ b : List AV, stdOps.upd ((upL Q m.L).map lav) (stdOps.sum 0 (B.length : Int)) (.agg [.str p.n, .sl 1 b .no]) = (setL p.n b (upL Q m.L)).map lav := fun b => by
      have := set_lav (b' := b) (hu Q) (hb Q) (hc Q)
      rwa [upL_length] at this
    have hml : bare torn % (p.b.length + 1) < p.b.length + 1 := Nat.mod_lt _ (by omega)
    have hadd : stdOps.ar .add .i64 (stdOps.len p.b) 1 = ((p.b.length + 1 : Nat) : Int) := add1 (by omega)
    have hrem : stdOps.ar .rem .i64 (bare torn : Int) ((p.b.length + 1 : Nat) : Int) = ((bare torn % (p.b.length + 1) : Nat) : Int) := rfl
    have htk : stdOps.sub p.b 0 ((bare torn % (p.b.length + 1) : Nat) : Int) = p.b.take (bare torn % (p.b.length + 1)) := by
      show (p.b.take ((bare torn % (p.b.length + 1) : Nat) : Int).toNat).drop 0 = _
      rw [List.drop_zero, Int.toNat_natCast]
    rw [f116_l0, hK, hidx, bare_mx ht]
    refine ifB_is_t (lss_t hi) <| req_is g3 <| req_is g2 <| getA_is g1 ?_
    simp only [qav, sh158]
    rw [hadd, hrem, htk]
    by_cases e : pre.length = K
    · have hQ : Q = pre := by rw [hq, if_pos (by omega)]
      subst hQ
      have hres : m.P.take K ++ (match m.P[K]? with | some p => [⟨p.n, p.i, p.b.take (bare torn % (p.b.length + 1))⟩] | none => []) = Q ++ [⟨p.n, p.i, p.b.take (bare torn % (p.b.length + 1))⟩] := by
        rw [← e, htake, hpi]
      have ih2 := ih (Q ++ [⟨p.n, p.i, p.b.take (bare torn % (p.b.length + 1))⟩]) (by simpa using hp) (by simp at hf'; omega) (by rw [if_neg (by simp; omega), hres])
      refine ifB_is_t (by rw [eql_is, decide_eq_true_eq]; omega) <| req_is (show ((p.b.length + 1 : Nat) : Int) ≠ 0 by omega) <| req_is (show (0 : Int) ≤ ((bare torn % (p.b.length + 1) : Nat) : Int) by omega) <| req_is (show ((bare torn % (p.b.length + 1) : Nat) : Int) ≤ (p.b.length : Int) by omega) <|
        ifB_is_t (by simp only [stdOps, decide_eq_true_eq]; omega) <| req_is g3 <| req_is g2 <| getA_is g1 ?_
      refine bindR_is hat <| req_is k3 <| req_is k2 <| getA_is k1 ?_
      simp only [lav, sh164]
      refine req_is g3 <| req_is g2 <| getA_is g1 ?_
      refine bindR_is (f147_is hle.1 hle.2 (by omega) (by rw [List.length_take]; omega)) <| req_is k3 <| req_is k2 <| getA_is k1 ?_
      simp only [lav]
      rw [hset, upL_step hI hpn]
      exact ih2
    · refine ifB_is_f (by rw [eql_is, decide_eq_false_iff_not]; omega) ?_
      by_cases e2 : pre.length ≤ K
      · have hQ : Q = pre := by rw [hq, if_pos e2]
        subst hQ
        have ih2 := ih (Q ++ [⟨p.n, p.i, p.b⟩]) (by simpa using hp) (by simp at hf'; omega) (by rw [if_pos (by simp; omega)])
        refine ifB_is_t (by simp only [stdOps, decide_eq_true_eq]; omega) <| req_is g3 <| req_is g2 <| getA_is g1 ?_
        refine bindR_is hat <| req_is k3 <| req_is k2 <| getA_is k1 ?_
        simp only [lav, sh164]
        refine req_is g3 <| req_is g2 <| getA_is g1 ?_
        refine bindR_is (f147_is hle.1 hle.2 (by omega) (by omega)) <| req_is k3 <| req_is k2 <| getA_is k1 ?_
        simp only [lav]
        rw [hset, upL_step hI hpn]
        exact ih2
      · have ih2 := ih Q (by simpa using hp) (by simp at hf'; omega) (by rw [hq, if_neg e2, if_neg (by simp; omega)])
        exact ifB_is_f (by simp only [stdOps, decide_eq_false_iff_not]; omega) ih2
theorem f116_is (hI : Iv m) (hP : m.P.length < 2 ^ 42) (hf : 5000 < fuel) (hf2 : m.P.length < fuel) {keep torn : Int} (hk : -9223372036854775808 ≤ keep ∧ keep ≤ 9223372036854775807) (ht : -9223372036854775808 ≤ torn ∧ torn ≤ 9223372036854775807) :
    f116 stdOps fuel keep torn A 0 m.L.length m.L.length 0 m.P.length m.P.length m.most m.down (m.L.map lav) (m.P.map qav) =
      some (.v0 (m.crash keep torn).1 0 (m.crash keep torn).2.P.length (m.crash keep torn).2.P.length (m.crash keep torn).2.down ((m.crash keep torn).2.L.map lav) ((m.crash keep torn).2.P.map qav)) := by
  unfold f116 Mo.crash
  cases hd : m.down with
  | true => simp [ifB, hd]
  | false =>
    simp only [Bool.false_eq_true, if_false]
    have hadd : stdOps.ar .add .i64 (m.P.length : Int) 1 = ((m.P.length + 1 : Nat) : Int) := add1 (by omega)
    have hrem : stdOps.ar .rem .i64 (stdOps.mx (stdOps.mx keep (stdOps.neg .i64 keep)) 0) (stdOps.ar .add .i64 (m.P.length : Int) 1) = ((bare keep % (m.P.length + 1) : Nat) : Int) := by rw [hadd, bare_mx hk]; rfl
    have h0 : upL [] m.L = m.L := by
      unfold upL
      conv => rhs; rw [← List.map_id m.L]
      exact List.map_congr_left fun x _ => rfl
    have hl := f116_l0_is (A := A) hI hP hf hrem ht (a8 := m.P.length) (a9 := m.most) (a10 := false) m.P [] fuel [] rfl hf2 rfl
    rw [h0] at hl
    refine ifB_is_f rfl <| req_is (by rw [hadd]; show ((m.P.length + 1 : Nat) : Int) ≠ 0; omega) ?_
    exact bindR_is hl rfl
theorem f117_is {a1 a2 a3 a4 a5 a6 a7 : Int} {a9 a10 : List AV} : f117 stdOps fuel A a1 a2 a3 a4 a5 a6 a7 m.down a9 a10 = some (.v0 m.start.1 m.start.2.down) := by
  unfold f117 Mo.start
  cases hd : m.down with
  | true => rfl
  | false => simp [hd]; rfl
end
end Go.Proofs.Ytjdbmfipciadfaa.A
