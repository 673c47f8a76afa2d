/- Stores: the program's calls: new names, crashes, what is told. -/import Derived.Test.YtjdbmfipciadfaaSpC
namespace Go.Proofs.Ytjdbmfipciadfaa.A
open Go Go.Pt
section
variable {fs : List (List AV)} {κ : ByteArray → Nat} {m : Mo} {lo n N : Int} {es : List (AV × AV)} {row : List AV}
def Mo.renamed (m : Mo) (name to : ByteArray) : Mo := ⟨insL to (m.sure name) (outL name (outL to m.L)), renP name to (dropP to m.P), m.most, m.down⟩
theorem mem_renamed {name to a : ByteArray} : a ∈ (m.renamed name to).names ↔ a = to ∨ (a ∈ m.names ∧ a ≠ name ∧ a ≠ to) := by
  unfold Mo.renamed Mo.names
  rw [mem_names_ins, names_out, names_out, List.mem_filter, List.mem_filter, decide_eq_true_eq, decide_eq_true_eq]
  constructor
  · rintro (h | ⟨⟨h1, h2⟩, h3⟩)
    · exact .inl h
    · exact .inr ⟨h1, h3, h2⟩
  · rintro (h | ⟨h1, h2, h3⟩)
    · exact .inl h
    · exact .inr ⟨⟨h1, h3⟩, h2⟩
theorem Rs.rename (hI : Iv m) (h : Rs fs κ m lo n N es row) {name to : ByteArray} (hm : name ∈ m.names) (hne : to ≠ name) {n' : Int} {row' : List AV} {es' : List (AV × AV)} (h1 : n' = (dropP to m.P).length) (h2 : n' ≤ N) (h3 : ∃ rest, row' = (dropP to m.P).map (pav κ) ++ rest)
    (hes : ∃ ns' : List ByteArray, es' = ns'.map (eav fun x => if x = to then κ name else κ x) ∧ ns'.Perm (m.renamed name to).names) :
    Rs fs (fun x => if x = to then κ name else κ x) (m.renamed name to) lo n' N es' row' ∧ Fr fs fs κ (fun x => if x = to then κ name else κ x) m (m.renamed name to) := by
  obtain ⟨κ', hκ'⟩ : ∃ κ' : ByteArray → Nat, κ' = fun x => if x = to then κ name else κ x := ⟨_, rfl⟩
  rw [← hκ'] at hes ⊢
  have k1 : κ' to = κ name := by simp [hκ']
  have k2 : ∀ a, a ≠ to → κ' a = κ a := fun a ha => by simp [hκ', ha]
  refine ⟨⟨h.lo0, ?_, h2, ?_, hes, ?_, ?_⟩, Nat.le_refl _, fun _ _ _ => rfl, ?_⟩
  · rw [h1]; simp [Mo.renamed, renP]
  · obtain ⟨rest, hr⟩ := h3
    refine ⟨rest, ?_⟩
    rw [hr]
    congr 1
    unfold Mo.renamed renP
    simp only [List.map_map]
    refine List.map_congr_left fun p hp => ?_
    have hp2 : p.n ≠ to := by
      have := (List.mem_filter.1 hp).2
      simpa using this
    show pav κ p = pav κ' (if p.n = name then ⟨to, p.i, p.b⟩ else p)
    by_cases e : p.n = name
    · rw [if_pos e]; unfold pav; rw [k1, e]
    · rw [if_neg e]; unfold pav; rw [k2 _ hp2]
  · intro a ha b hb e
    rcases mem_renamed.1 ha with rfl | ⟨a1, a2, a3⟩ <;> rcases mem_renamed.1 hb with rfl | ⟨b1, b2, b3⟩
    · rfl
    · rw [k1, k2 _ b3] at e
      exact absurd (h.inj _ hm _ b1 e).symm b2
    · rw [k1, k2 _ a3] at e
      exact absurd (h.inj _ a1 _ hm e) a2
    · rw [k2 _ a3, k2 _ b3] at e
      exact h.inj _ a1 _ b1 e
  · intro x hx
    rcases mem_insL.1 hx with rfl | hx
    · show fs[κ' to]? = _
      rw [k1]
      exact h.get _ (Mo.mem_sure hI.nodup hm)
    · have hx1 := List.mem_filter.1 hx
      have hx2 := List.mem_filter.1 hx1.1
      rw [k2 _ (by simpa using hx2.2)]
      exact h.get x hx2.1
  · rintro k ⟨a, ha, rfl⟩
    rcases mem_renamed.1 ha with rfl | ⟨a1, a2, a3⟩
    · exact .inl ⟨name, hm, k1.symm⟩
    · exact .inl ⟨a, a1, (k2 a a3).symm⟩
theorem erase_perm {ns : List ByteArray} {name : ByteArray} (hnd : ns.Nodup) : ns.erase name = ns.filter fun x => decide (x ≠ name) := by
  rw [hnd.erase_eq_filter]
  refine List.filter_congr fun x _ => ?_
  by_cases e : x = name <;> simp [e]
theorem names_renamed {name to : ByteArray} : (m.renamed name to).names.Perm (to :: (m.names.filter fun a => decide (a ≠ to)).filter fun a => decide (a ≠ name)) := by
  unfold Mo.renamed Mo.names
  refine names_ins.trans ?_
  rw [names_out, names_out]
theorem f65_is (hI : Iv m) (h : Rs fs κ m lo n N es row) (hP : m.P.length < 2 ^ 42) {name to : ByteArray} {fuel : Nat} (hf : m.P.length < fuel) {most : Int} :
    ∃ κ' lo' n' N' es' row', f65 stdOps fuel name to (fs.map fav) most lo n N m.down es row = some (.v0 (m.rename name to).1 lo' n' N' es' row') ∧ Rs fs κ' (m.rename name to).2 lo' n' N' es' row' ∧ Fr fs fs κ κ' m (m.rename name to).2 := by
  obtain ⟨ns, he, hp⟩ := h.es
  have hnd : ns.Nodup := hp.nodup_iff.2 hI.nodup
  unfold f65 Mo.rename
  rw [bindR_eq (f92_is h)]
  rcases fnd_find (κ := κ) (m := m) name with ⟨h0, hd, hm, hv⟩ | ⟨h0, hv⟩
  · rw [hv, if_neg (by simpa using h0)]
    simp only
    rw [ifB_f bnot_eq, seq_is, seq_is]
    by_cases e1 : to = emp0
    · rw [ifB_t (by rw [e1]; rfl), if_pos e1]
      exact ⟨κ, lo, n, N, es, row, rfl, h, .rfl' fun _ h => h⟩
    · rw [ifB_f (by rw [decide_eq_false_iff_not]; exact e1), if_neg e1]
      by_cases e2 : to = name
      · rw [ifB_t (by rw [decide_eq_true_eq]; exact e2), if_pos e2]
        exact ⟨κ, lo, n, N, es, row, rfl, h, .rfl' fun _ h => h⟩
      · rw [ifB_f (by rw [decide_eq_false_iff_not]; exact e2), if_neg e2]
        have he2 := he
        rw [he, findE, del_e]
        have hto : to ∈ ns ↔ to ∈ m.names := hp.mem_iff
        show ∃ κ' lo' n' N' es' row', _ ∧ Rs fs κ' (m.renamed name to) lo' n' N' es' row' ∧ Fr fs fs κ κ' m (m.renamed name to)
        by_cases e3 : to ∈ m.names
        · rw [if_pos (hto.2 e3)]
          obtain ⟨n', row', q1, q2, q3, q4⟩ := f94_is hI h hP e3 hf (A := fs.map fav) (most := most) (down := m.down)
          have hin : to ∈ ns.erase name := by rw [erase_perm hnd]; exact List.mem_filter.2 ⟨hto.2 e3, by simpa using e2⟩
          have hs := Rs.rename hI h hm e2 q2 q3 q4 (es' := (ns.erase name).map (eav fun x => if x = to then κ name else κ x)) ⟨_, rfl, by
            refine (List.perm_cons_erase hin).trans (List.Perm.trans ?_ names_renamed.symm)
            refine List.Perm.cons _ ?_
            rw [erase_perm (hnd.erase _), erase_perm hnd, List.filter_filter, List.filter_filter]
            refine (hp.filter _).trans (List.Perm.of_eq (List.filter_congr fun x _ => ?_))
            rw [Bool.and_comm]⟩
          rw [he] at q1
          refine ⟨_, lo, n', N, _, row', bindR_is q1 (req_is mok_e (req_is mok_e ?_)), hs⟩
          rw [putr_e hin (hnd.erase _)]
        · rw [if_neg (fun e => e3 (hto.1 e))]
          have hdp : dropP to m.P = m.P := by
            unfold dropP
            rw [List.filter_eq_self]
            intro p hp'
            rw [decide_eq_true_eq]
            exact fun e => e3 (e ▸ hI.pn p hp')
          have hnin : to ∉ ns.erase name := fun e => e3 (hto.1 (List.mem_of_mem_erase e))
          have hs := Rs.rename hI h hm e2 (n' := n) (row' := row) (es' := (ns.erase name).map (eav κ) ++ [(.str to, .fp 0 (κ name) 0)]) (by rw [hdp]; exact h.len) h.cap (by rw [hdp]; exact h.row) ⟨ns.erase name ++ [to], by
            rw [List.map_append]
            congr 1
            · refine List.map_congr_left fun x hx => ?_
              have : x ≠ to := fun e => hnin (e ▸ hx)
              simp [eav, this]
            · simp [eav], by
            refine List.perm_append_comm.trans (List.Perm.trans ?_ names_renamed.symm)
            refine List.Perm.cons _ ?_
            rw [erase_perm hnd]
            refine (hp.filter _).trans (List.Perm.of_eq ?_)
            congr 1
            refine (List.filter_eq_self.2 fun x hx => ?_).symm
            rw [decide_eq_true_eq]
            exact fun e => e3 (e ▸ hx)⟩
          refine ⟨_, lo, n, N, _, row, req_is mok_e (req_is mok_e ?_), hs⟩
          rw [put_e hnin]
  · rw [hv, if_pos h0]
    exact ⟨κ, lo, n, N, es, row, ifB_is_t (bnot_ne h0) rfl, h, .rfl' fun _ h => h⟩
theorem f98_is {a : Int} {A : List AV} {fuel : Nat} (h : -9223372036854775808 ≤ a ∧ a ≤ 9223372036854775807) : f98 stdOps fuel a A = some (.v0 (bare a : Int)) := by
  unfold f98 bare
  rw [eql_is]
  by_cases e : a = -9223372036854775808
  · rw [ifB_t (by simp [e]), if_pos e]; rfl
  · rw [ifB_f (by simp [e]), if_neg e]
    by_cases e2 : a < 0
    · rw [ifB_t (by simp [stdOps, e2])]
      have : stdOps.neg .i64 a = 0 - a := wr_i64 (by omega) (by omega)
      rw [this]
      congr 2; omega
    · rw [ifB_f (by simp only [stdOps, decide_eq_false_iff_not]; exact e2)]
      congr 2; omega
structure Cr (fs fs' : List (List AV)) (κ : ByteArray → Nat) (m : Mo) (Q : List Pw) : Prop where
  len : fs'.length = fs.length
  get : ∀ x ∈ m.L, fs'[κ x.1]? = some (seen Q x.1 x.2)
  old : ∀ k, ¬ Ids κ m k → fs'[k]? = fs[k]?
theorem Cr.step (hI : Iv m) (h : Rs fs κ m lo n N es row) {fs' : List (List AV)} {Q : List Pw} (hc : Cr fs fs' κ m Q) {p : Pw} (hp : p.n ∈ m.names) {b : List AV} : Cr fs (fs'.set (κ p.n) (ov (seen Q p.n (m.sure p.n)) p.i.toNat b)) κ m (Q ++ [⟨p.n, p.i, b⟩]) := by
  refine ⟨by simp [hc.len], fun x hx => ?_, fun k hk => ?_⟩
  · have hs : seen (Q ++ [⟨p.n, p.i, b⟩]) x.1 x.2 = seen1 x.1 (seen Q x.1 x.2) ⟨p.n, p.i, b⟩ := by rw [seen_append]; rfl
    rw [hs]
    unfold seen1
    by_cases e : p.n = x.1
    · rw [if_pos e, e, List.getElem?_set_self (by rw [hc.len]; exact h.lt (List.mem_map_of_mem hx)), Mo.sure_of hI.nodup (show (x.1, x.2) ∈ m.L from hx)]
    · rw [if_neg e, List.getElem?_set_ne (fun e2 => e (h.inj _ hp _ (List.mem_map_of_mem hx) e2))]
      exact hc.get x hx
  · rw [List.getElem?_set_ne fun e => hk ⟨p.n, hp, e⟩]
    exact hc.old k hk
theorem f36_l0_is (hI : Iv m) (h : Rs fs κ m lo n N es row) (hP : m.P.length < 2 ^ 42) {K : Nat} (hK : K ≤ m.P.length) {bk torn : Int} (hbk : stdOps.ar .rem .i64 bk (stdOps.ar .add .i64 n 1) = (K : Int)) (ht : -9223372036854775808 ≤ torn ∧ torn ≤ 9223372036854775807) {fuel : Nat} {a6 a3 : Int} {a7 : Bool} {a8 : List (AV × AV)} :
    ∀ (rest pre : List Pw) (f : Nat) (fs' : List (List AV)), m.P = pre ++ rest → rest.length < f → pre.length ≤ K → Cr fs fs' κ m pre →
      ∃ fs2 r, f36_l0 stdOps fuel n lo row bk torn a6 a3 a7 a8 f pre.length (fs'.map fav) = some r ∧ (r = .x0 (fs2.map fav) ∨ r = .x1 (fs2.map fav)) ∧
        Cr fs fs2 κ m (m.P.take K ++ (match m.P[K]? with | some p => [⟨p.n, p.i, p.b.take (bare torn % (p.b.length + 1))⟩] | none => []))
  | [], pre, f + 1, fs', hp, hf, hk, hc => by
    have hn := h.len
    have hl : m.P.length = pre.length := by rw [hp]; simp
    refine ⟨fs', .x1 (fs'.map fav), ?_, .inr rfl, ?_⟩
    · rw [f36_l0]
      exact ifB_is_f (by rw [hn, hl]; exact lss_f (by omega)) rfl
    · have hKl : K = m.P.length := by omega
      rw [hKl, List.take_length, List.getElem?_eq_none (Nat.le_refl _)]
      simp only [List.append_nil]
      rw [hp, List.append_nil]; exact hc
  | p :: rest, pre, f + 1, fs', hp, hf, hk, hc => by
    have hi : pre.length < m.P.length := by rw [hp]; simp
    have hpi : m.P[pre.length] = p := by simp [hp]
    have hpm : p ∈ m.P := hpi ▸ List.getElem_mem hi
    have hpn := hI.pn p hpm
    have hpb := hI.pb p hpm
    obtain ⟨g1, g2, g3⟩ := h.rowget hi
    rw [hpi] at g1
    have hn := h.len
    have hidx : stdOps.ar .add .i64 (pre.length : Int) 1 = ((pre ++ [p]).length : Int) := by rw [add1 (by omega)]; simp
    have hmem := Mo.mem_sure hI.nodup hpn
    have hok := hI.ok _ hmem
    rw [hp, okW_append] at hok
    have hle := hok.2.1 rfl
    have hw : (seen pre p.n (m.sure p.n)).length ≤ 2 ^ 22 := by
      have h1 := hI.seen_le hmem
      have h2 := seen_le hok.2
      rw [hp, seen_append] at h1
      simp only at h1 h2
      omega
    have hfg : stdOps.get (fs'.map fav) (κ p.n : Int) = some (fav (seen pre p.n (m.sure p.n))) := by
      show (fs'.map fav)[((κ p.n : Nat) : Int).toNat]? = _
      rw [show ((κ p.n : Nat) : Int).toNat = κ p.n by omega, List.getElem?_map, hc.get _ hmem]; rfl
    have hfi : stdOps.inb (κ p.n : Int) (stdOps.len (fs'.map fav)) := by
      have := h.lt hpn
      have hl := hc.len
      show (0 : Int) ≤ (κ p.n : Nat) ∧ ((κ p.n : Nat) : Int) < ((fs'.map fav).length : Int)
      simp; omega
    rw [f36_l0]
    by_cases e : pre.length < K
    · have hs := Cr.step hI h hc hpn (b := p.b)
      obtain ⟨fs2, r, i1, i2, i3⟩ := f36_l0_is hI h hP hK hbk ht (fuel := fuel) (a6 := a6) (a3 := a3) (a7 := a7) (a8 := a8) rest (pre ++ [p]) f _ (by simpa using hp) (by simp at hf; omega) (by simp; omega) hs
      refine ⟨fs2, r, ?_, i2, i3⟩
      refine ifB_is_t (by rw [hn]; exact lss_t hi) <| req_is g3 <| req_is g2 <| getA_is g1 ?_
      simp only [pav, sh150]
      rw [hbk, hidx]
      refine ifB_is_t (lss_t e) <| req_is hfi <| getA_is hfg ?_
      simp only [fav, sh147]
      refine bindR_is (f99_is hle.1 hle.2 (by omega) (by omega)) <| req_is hfi <| getA_is hfg ?_
      rw [set_fs]
      exact i1
    · have hKe : K = pre.length := by omega
      have hs := Cr.step hI h hc hpn (b := p.b.take (bare torn % (p.b.length + 1)))
      have hml : bare torn % (p.b.length + 1) < p.b.length + 1 := Nat.mod_lt _ (by omega)
      have hadd : stdOps.ar .add .i64 (stdOps.len p.b) 1 = ((p.b.length + 1 : Nat) : Int) := add1 (by omega)
      have hrem : stdOps.ar .rem .i64 (bare torn : Int) ((p.b.length + 1 : Nat) : Int) = ((bare torn % (p.b.length + 1) : Nat) : Int) := rfl
      have htk : stdOps.sub p.b 0 ((bare torn % (p.b.length + 1) : Nat) : Int) = p.b.take (bare torn % (p.b.length + 1)) := by
        show (p.b.take ((bare torn % (p.b.length + 1) : Nat) : Int).toNat).drop 0 = _
        rw [List.drop_zero, Int.toNat_natCast]
      refine ⟨fs'.set (κ p.n) (ov (seen pre p.n (m.sure p.n)) p.i.toNat (p.b.take (bare torn % (p.b.length + 1)))), _, ?_, .inl rfl, ?_⟩
      rotate_left
      · have : m.P[K]? = some p := by rw [hKe, List.getElem?_eq_getElem hi, hpi]
        rw [this, hKe]
        have ht : m.P.take pre.length = pre := by rw [hp, List.take_left]
        rw [ht]
        exact hs
      · refine ifB_is_t (by rw [hn]; exact lss_t hi) <| req_is g3 <| req_is g2 <| getA_is g1 ?_
        simp only [pav, sh150]
        rw [hbk]
        refine ifB_is_f (lss_f e) <| ifB_is_t (by rw [eql_is, hKe]; simp) <| req_is hfi <| getA_is hfg ?_
        simp only [fav, sh147]
        refine bindR_is (f98_is ht) ?_
        simp only
        rw [hadd, hrem, htk]
        refine req_is (show ((p.b.length + 1 : Nat) : Int) ≠ 0 by omega) <| req_is (show (0 : Int) ≤ ((bare torn % (p.b.length + 1) : Nat) : Int) by omega) <| req_is (show ((bare torn % (p.b.length + 1) : Nat) : Int) ≤ (p.b.length : Int) by omega) <|
          bindR_is (f99_is hle.1 hle.2 (by omega) (by rw [List.length_take]; omega)) <| req_is hfi <| getA_is hfg ?_
        rw [set_fs]
        rfl
theorem f36_is (hI : Iv m) (h : Rs fs κ m lo n N es row) (hP : m.P.length < 2 ^ 42) {keep torn : Int} (hk : -9223372036854775808 ≤ keep ∧ keep ≤ 9223372036854775807) (ht : -9223372036854775808 ≤ torn ∧ torn ≤ 9223372036854775807) {fuel : Nat} (hf : m.P.length < fuel) {most : Int} :
    ∃ fs' lo' n' N' row', f36 stdOps fuel keep torn (fs.map fav) most lo n N m.down es row = some (.v0 (m.crash keep torn).1 (fs'.map fav) lo' n' N' (m.crash keep torn).2.down row') ∧ Rs fs' κ (m.crash keep torn).2 lo' n' N' es row' ∧ Fr fs fs' κ κ m (m.crash keep torn).2 := by
  unfold f36 Mo.crash
  rw [bindR_eq f97_is]
  cases hd : m.down with
  | true =>
    refine ⟨fs, lo, n, N, row, ?_, h, .rfl' fun _ h => h⟩
    show some _ = some _
    simp [hd]
  | false =>
    simp only [Bool.false_eq_true, if_false]
    rw [ifB_f bnot_eq, bindR_eq (f98_is hk)]
    have hn := h.len
    have hadd : stdOps.ar .add .i64 n 1 = ((m.P.length + 1 : Nat) : Int) := by rw [hn]; exact add1 (by omega)
    have hrem : stdOps.ar .rem .i64 (bare keep : Int) (stdOps.ar .add .i64 n 1) = ((bare keep % (m.P.length + 1) : Nat) : Int) := by rw [hadd]; rfl
    have hlt : bare keep % (m.P.length + 1) < m.P.length + 1 := Nat.mod_lt _ (by omega)
    obtain ⟨fs2, r, i1, i2, i3⟩ := f36_l0_is hI h hP (by omega : bare keep % (m.P.length + 1) ≤ m.P.length) hrem ht (fuel := fuel) (a6 := N) (a3 := most) (a7 := false) (a8 := es) m.P [] fuel fs rfl hf (by simp)
      ⟨rfl, fun x hx => h.get x hx, fun _ _ => rfl⟩
    have hnames : Mo.names ⟨m.L.map fun x => (x.1, seen (kept m.P keep torn) x.1 x.2), [], m.most, true⟩ = m.names := by
      unfold Mo.names
      rw [List.map_map]; rfl
    refine ⟨fs2, 0, 0, 0, [], ?_, ⟨rfl, rfl, Int.le_refl _, ⟨[], rfl⟩, by rw [hnames]; exact h.es, by rw [hnames]; exact h.inj, ?_⟩, by rw [i3.len]; exact Nat.le_refl _, fun k _ hk => i3.old k hk, ?_⟩
    · refine req_is (by rw [hadd]; show ((m.P.length + 1 : Nat) : Int) ≠ 0; omega) (bindR_is i1 ?_)
      rcases i2 with rfl | rfl <;> rfl
    · intro x hx
      obtain ⟨y, hy, rfl⟩ := List.mem_map.1 hx
      exact i3.get y hy
    · rintro k ⟨a, ha, e⟩
      rw [hnames] at ha
      exact .inl ⟨a, ha, e⟩
theorem f37_is (h : Rs fs κ m lo n N es row) {fuel : Nat} {A : List AV} {most : Int} : f37 stdOps fuel A most lo n N m.down es row = some (.v0 m.start.1 m.start.2.down) ∧ Rs fs κ m.start.2 lo n N es row ∧ Fr fs fs κ κ m m.start.2 := by
  unfold f37 Mo.start
  rw [bindR_eq f96_is]
  cases hd : m.down with
  | true => exact ⟨rfl, ⟨h.lo0, h.len, h.cap, h.row, h.es, h.inj, h.get⟩, .rfl' fun _ h => h⟩
  | false => exact ⟨by simp [hd]; rfl, h, .rfl' fun _ h => h⟩
end
end Go.Proofs.Ytjdbmfipciadfaa.A
