/- Stores: the law StoreSure. -/import Derived.Test.YtjdbmfipciadfaaMb7
import Derived.Test.YtjdbmfipciadfaaMa3
import Derived.Test.YtjdbmfipciadfaaProg
import Derived.ProofKit
namespace Go.Proofs.Ytjdbmfipciadfaa.A
open Go Go.Pt
section
variable {fs : List (List AV)} {κ : ByteArray → Nat} {m : Mo} {lo n N : Int} {es : List (AV × AV)} {row : List AV} {fuel : Nat}
theorem f7_l0_is (hI : Iv m) (h : Rs fs κ m lo n N es row) {l : List ByteArray} (hll : l.length < 2 ^ 42) (hn : l.Nodup) {a1 a2 r11 r12 r13 r14 r15 r16 : Int} {r17 : Bool} {r20 r21 : List AV} : ∀ (rest pre : List ByteArray) (f : Nat), l = pre ++ rest → rest.length < f →
    f7_l0 stdOps fuel (l.map nav) (fs.map fav) lo n N m.down es row a1 a2 r11 r12 r13 r14 r15 r16 r17 r20 r21 f pre.length (pre.map (bav m.sureR)) = some (.x0 (l.map (bav m.sureR)))
  | [], pre, f + 1, hp, hf => by
    rw [List.append_nil] at hp
    rw [f7_l0, len_is, List.length_map]
    exact ifB_is_f (lss_f (by rw [hp]; simp)) (by rw [hp])
  | x :: rest, pre, f + 1, hp, hf => by
    have hi : pre.length < l.length := by rw [hp]; simp
    have hg : stdOps.get (l.map nav) (pre.length : Int) = some (nav x) := by simp [stdOps, hp]
    have hidx : stdOps.ar .add .i64 (pre.length : Int) 1 = ((pre ++ [x]).length : Int) := by rw [add1 (by omega)]; simp
    have ih := f7_l0_is hI h hll hn (a1 := a1) (a2 := a2) (r11 := r11) (r12 := r12) (r13 := r13) (r14 := r14) (r15 := r15) (r16 := r16) (r17 := r17) (r20 := r20) (r21 := r21) rest (pre ++ [x]) f (by simpa using hp) (by simp at hf; omega)
    have hx : x ∉ pre := by
      rw [hp, List.nodup_append] at hn
      exact fun hm => hn.2.2 x hm x List.mem_cons_self rfl
    rw [f7_l0, len_is, List.length_map, hidx]
    refine ifB_is_t (lss_t hi) <| req_is (show (0 : Int) ≤ pre.length ∧ (pre.length : Int) < l.length by omega) <| getA_is hg ?_
    simp only [nav, sh9]
    refine bindR_is (f41_is hI h) <| req_is mok_b ?_
    show f7_l0 stdOps fuel (l.map nav) (fs.map fav) lo n N m.down es row a1 a2 r11 r12 r13 r14 r15 r16 r17 r20 r21 f _ (stdOps.mput (pre.map (bav m.sureR)) (.str x) (.sl 1 (m.sureR x) .no)) = _
    rw [put_b hx]
    rw [List.map_append] at ih
    exact ih
theorem f7_l2_is (hI : Iv m) (hP : m.P.length < 2 ^ 42) (hfP : m.P.length < fuel) {name : ByteArray} {had now : List AV} (h1 : isB had) (h2 : isB now) (hl : had.length ≤ now.length) (hle : had.length < 2 ^ 40) (hc : ∀ j, j < had.length → now[j]? = had[j]? ∨ covB m.P name j = true)
    {A r20 r45 r39 : List AV} {r11 r12 r13 r16 w75 r35 r36 r37 : Int} {r17 r41 : Bool} {r46 y32 : List (AV × AV)} : ∀ (f i : Nat), i ≤ had.length → had.length - i < f →
    f7_l2 stdOps fuel had now name A r11 r12 r13 0 m.P.length r16 r17 r20 (m.P.map qav) r45 w75 r35 r36 r37 r41 r46 y32 r39 f i = some .x1
  | f + 1, i, hi, hf => by
    rw [f7_l2, len_is]
    by_cases hlt : i < had.length
    · have e1 : had[i]? = some had[i] := List.getElem?_eq_getElem hlt
      have e2 : now[i]? = some now[i] := List.getElem?_eq_getElem (by omega)
      have g1 : stdOps.get had (i : Int) = some had[i] := by simp [stdOps, e1]
      have g2 : stdOps.get now (i : Int) = some now[i] := by simp [stdOps, e2]
      obtain ⟨b1, hb1⟩ := h1 had[i] (List.getElem_mem _)
      obtain ⟨b2, hb2⟩ := h2 now[i] (List.getElem_mem _)
      have hidx : stdOps.ar .add .i64 (i : Int) 1 = ((i + 1 : Nat) : Int) := add1 (by omega)
      have ih := f7_l2_is hI hP hfP (name := name) h1 h2 hl hle hc (A := A) (r20 := r20) (r45 := r45) (r39 := r39) (r11 := r11) (r12 := r12) (r13 := r13) (r16 := r16) (w75 := w75) (r35 := r35) (r36 := r36) (r37 := r37) (r17 := r17) (r41 := r41) (r46 := r46) (y32 := y32) f (i + 1) hlt (by omega)
      rw [hidx]
      refine ifB_is_t (lss_t hlt) <| req_is (show (0 : Int) ≤ i ∧ (i : Int) < had.length by omega) <| getA_is g1 ?_
      rw [hb1]
      simp only [sh5]
      refine req_is (show (0 : Int) ≤ i ∧ (i : Int) < (now.length : Int) by omega) <| getA_is g2 ?_
      rw [hb2]
      simp only
      rcases hc i hlt with h | h
      · rw [e1, e2, Option.some.injEq, hb1, hb2, AV.int.injEq] at h
        exact ifB_is_f (by rw [eql_is, decide_eq_true h.2]; rfl) ih
      · by_cases e : ((b2.toNat : Int) = (b1.toNat : Int))
        · exact ifB_is_f (by rw [eql_is, decide_eq_true e]; rfl) ih
        · refine ifB_is_t (by rw [eql_is, decide_eq_false e]; rfl) <| bindR_is (f42_is hI hP hfP) ?_
          rw [h]
          exact ifB_is_f rfl ih
    · exact ifB_is_f (lss_f hlt) rfl
theorem f7_l1_is (hJ : Jv m) (hd : m.down = false) {k t : Int} (h : Rs fs κ (m.again k t) lo n N es row) (hJ' : Jv (m.again k t)) (hP : m.P.length < 2 ^ 42) (hf : 5000000 < fuel) (hfP : m.P.length < fuel) {r11 r12 r13 r16 : Int} {r17 : Bool} {r20 : List AV} : ∀ (rest pre : List ByteArray) (f : Nat), m.names = pre ++ rest → rest.length < f →
    f7_l1 stdOps fuel (m.names.map nav) (fs.map fav) lo n N (m.again k t).down es row (m.names.map (bav m.sureR)) r11 r12 r13 0 m.P.length r16 r17 r20 (m.P.map qav) f pre.length = some .x1
  | [], pre, f + 1, hp, hf' => by
    rw [f7_l1, len_is, List.length_map]
    exact ifB_is_f (lss_f (by rw [hp]; simp)) rfl
  | x :: rest, pre, f + 1, hp, hf' => by
    have hmx : m.names.length ≤ 4096 := by simpa [Mo.names] using hJ.max
    have hi : pre.length < m.names.length := by rw [hp]; simp
    have hxm : x ∈ m.names := by rw [hp]; simp
    have hg : stdOps.get (m.names.map nav) (pre.length : Int) = some (nav x) := by simp [stdOps, hp]
    have hidx : stdOps.ar .add .i64 (pre.length : Int) 1 = ((pre ++ [x]).length : Int) := by rw [add1 (by omega)]; simp
    have ih := f7_l1_is hJ hd h hJ' hP hf hfP (r11 := r11) (r12 := r12) (r13 := r13) (r16 := r16) (r17 := r17) (r20 := r20) rest (pre ++ [x]) f (by simpa using hp) (by simp at hf'; omega)
    have hx' : x ∈ (m.again k t).names := by rw [again_names hd]; exact hxm
    have hd' : (m.again k t).down = false := by rw [(again_is hd).1]
    obtain ⟨c1, c2⟩ := sureR_of hd' hx'
    obtain ⟨_, d2⟩ := sureR_of hd hxm
    rw [again_sure hJ.toIv hd hxm] at c2
    have hmem := Mo.mem_sure hJ.nodup hxm
    have hok : okW m.P x (m.sure x) := hJ.ok _ hmem
    have hokk := okW_kept (keep := k) (torn := t) hok
    have hlen : (m.sure x).length ≤ (seen (kept m.P k t) x (m.sure x)).length := seen_le hokk
    have hs4 := hJ.sure_le hxm
    have hbh : isB (m.sure x) := hJ.bL _ hmem
    have hbn : isB (seen (kept m.P k t) x (m.sure x)) := isB_seen (kept_isB hJ) hbh
    have hcov : ∀ j, j < (m.sure x).length → (seen (kept m.P k t) x (m.sure x))[j]? = (m.sure x)[j]? ∨ covB m.P x j = true := by
      intro j hj
      rcases seen_get hokk hj with h | ⟨q, hq, e, h1, h2⟩
      · exact .inl h
      · obtain ⟨p, hp, p1, p2, p3⟩ := kept_of q hq
        refine .inr (List.any_eq_true.2 ⟨p, hp, ?_⟩)
        rw [decide_eq_true (p1.symm.trans e), decide_eq_true (by omega : p.i ≤ (j : Int)), decide_eq_true (by omega : (j : Int) < p.i + p.b.length)]; rfl
    have hfind : stdOps.mfind (m.names.map (bav m.sureR)) (.str x) = some (.sl 1 (m.sure x) .no) := by rw [find_b hxm, d2]
    rw [f7_l1, len_is, List.length_map, hidx]
    refine ifB_is_t (lss_t hi) <| req_is (show (0 : Int) ≤ pre.length ∧ (pre.length : Int) < m.names.length by omega) <| getA_is hg ?_
    simp only [nav, sh9]
    refine bindR_is (f41_is hJ'.toIv h) ?_
    simp only [c1, c2]
    refine ifB_is_f bnot_eq <| req_is mok_b ?_
    rw [hfind]
    simp only [findA, sh69]
    refine ifB_is_f (lss_f (by omega)) <| req_is mok_b ?_
    refine bindR_is (f7_l2_is hJ.toIv hP hfP hbh hbn hlen (by omega) hcov fuel 0 (Nat.zero_le _) (by omega)) <| bindR_is (f43_is hP hfP) ?_
    by_cases hpn : penB m.P x = true
    · rw [hpn]
      exact ifB_is_f rfl ih
    · rw [Bool.not_eq_true] at hpn
      rw [hpn]
      refine ifB_is_t rfl <| req_is mok_b ?_
      have hsame : seen (kept m.P k t) x (m.sure x) = m.sure x := by
        refine (seen_none fun q hq e => ?_).1
        obtain ⟨p, hp, p1, _⟩ := kept_of q hq
        have : penB m.P x = true := List.any_eq_true.2 ⟨p, hp, decide_eq_true (p1.symm.trans e)⟩
        rw [hpn] at this; cases this
      refine ifB_is_f ?_ ih
      rw [hsame, eql_is, decide_eq_true rfl]; rfl
theorem f7_is {l : List Sop} (hl : ∀ o ∈ l, o.Ok) (hll : (l.length + 1) * 48 ≤ 2 ^ 47) (hf : 5000000 + l.length < fuel) {k t : Int} (hk : -9223372036854775808 ≤ k ∧ k ≤ 9223372036854775807) (ht : -9223372036854775808 ≤ t ∧ t ≤ 9223372036854775807) : ∃ A, f7 stdOps fuel (l.map Sop.av) k t [] = some (.v0 true A) := by
  obtain ⟨fs1, hlive⟩ := f30_is (fuel := fuel) (by omega) []
  obtain ⟨fs2, κ2, lo2, n2, N2, es2, row2, b1, b2, b3, hJ, b5⟩ := f31_is hl hll (by omega) (room := 1024) (by omega) (by omega) (fs := fs1) (fuel := fuel)
  have hd : (builtM 1024 l).down = false := (built_keep (l := l) (m := .new 1024)).2
  have hP : (builtM 1024 l).P.length < 2 ^ 42 := by omega
  obtain ⟨fs3, lo3, n3, N3, row3, c1, c2, _⟩ := f36_is hJ.toIv b2 hP hk ht (fuel := fuel) (by omega) (most := 1024)
  obtain ⟨s1, s2, _⟩ := f37_is c2 (fuel := fuel) (A := fs3.map fav) (most := 1024)
  obtain ⟨_, z1, z2⟩ := again_is hd (k := k) (t := t)
  have hJ' : Jv ((builtM 1024 l).again k t) := jv_start (jv_crash hJ)
  have s2' : Rs fs3 κ2 ((builtM 1024 l).again k t) lo3 n3 N3 es2 row3 := s2
  have hnm := again_names hd (k := k) (t := t)
  have hmx : (builtM 1024 l).names.length ≤ 4096 := by simpa [Mo.names] using hJ.max
  have g1 := f32_is (fuel := fuel) (most := 1024) hJ.toIv b2 (by omega) (A := fs2.map fav) (down := (builtM 1024 l).down)
  have g2 := f7_l0_is (fuel := fuel) hJ.toIv b2 (by omega) hJ.nodup (a1 := k) (a2 := t) (r11 := 0) (r12 := (builtM 1024 l).L.length) (r13 := (builtM 1024 l).L.length) (r14 := 0) (r15 := (builtM 1024 l).P.length) (r16 := (builtM 1024 l).P.length) (r17 := (builtM 1024 l).down) (r20 := (builtM 1024 l).L.map lav) (r21 := (builtM 1024 l).P.map qav) (builtM 1024 l).names [] fuel rfl (by omega)
  have g3 := f32_is (fuel := fuel) (most := 1024) hJ'.toIv s2' (by omega) (A := fs3.map fav) (down := ((builtM 1024 l).crash k t).2.start.2.down)
  have g4 := f35_is (fuel := fuel) (most := 1024) s2' (A := fs3.map fav) (down := ((builtM 1024 l).crash k t).2.start.2.down)
  have g5 := f7_l1_is (fuel := fuel) hJ hd s2' hJ' hP (by omega) (by omega) (r11 := 0) (r12 := (builtM 1024 l).L.length) (r13 := (builtM 1024 l).L.length) (r16 := (builtM 1024 l).P.length) (r17 := (builtM 1024 l).down) (r20 := (builtM 1024 l).L.map lav) (builtM 1024 l).names [] fuel rfl (by omega)
  rw [hnm] at g3
  have hP0 : (((builtM 1024 l).again k t).P.length : Int) = 0 := by rw [(again_is hd).1]; rfl
  rw [hP0] at g4
  rw [z1] at c1
  rw [z2] at s1
  refine ⟨fs3.map fav, ?_⟩
  unfold f7
  refine bindR_is hlive <| ifB_is_f rfl <| bindR_is b1 <| bindR_is g1 <| bindR_is g2 <| bindR_is c1 <| ifB_is_f bnot_eq <| bindR_is s1 <| ifB_is_f bnot_eq <| bindR_is g3 <| ifB_is_f ?_ <| bindR_is g4 <| ifB_is_f bnot_eq <| bindR_is g3 <| bindR_is g5 rfl
  have : stdOps.mlen ((builtM 1024 l).names.map (bav (builtM 1024 l).sureR)) = ((builtM 1024 l).names.length : Int) := by
    show (((builtM 1024 l).names.map (bav (builtM 1024 l).sureR)).length : Int) = _
    rw [List.length_map]
  rw [this, len_is, List.length_map, eql_is, decide_eq_true rfl]; rfl
end
end Go.Proofs.Ytjdbmfipciadfaa.A
namespace Go.Proofs.Ytjdbmfipciadfaa.A
open Go Go.Pt Go.ChangeShapes Go.WideShapes Go.ChangeAt Go.RowKit
theorem wf64 {n : Int} (h : (Lit.int .i64 n).wf = true) : -9223372036854775808 ≤ n ∧ n ≤ 9223372036854775807 := by
  simp only [Lit.wf, Bool.and_eq_true, decide_eq_true_eq] at h
  have h1 : IntKind.i64.min = -9223372036854775808 := by decide
  have h2 : IntKind.i64.max = 9223372036854775807 := by decide
  rw [h1, h2] at h
  exact h
theorem wf8 {n : Int} (h : (Lit.int .u8 n).wf = true) : 0 ≤ n ∧ n < 256 := by
  simp only [Lit.wf, Bool.and_eq_true, decide_eq_true_eq] at h
  have h1 : IntKind.u8.min = 0 := by decide
  have h2 : IntKind.u8.max = 255 := by decide
  rw [h1, h2] at h
  omega
theorem isB_of {l : List Int} (h : ∀ x ∈ l, (Lit.int .u8 x).wf = true) : isB (l.map fun x => AV.int .u8 x) := by
  intro x hx
  obtain ⟨n, hn, rfl⟩ := List.mem_map.1 hx
  have := wf8 (h n hn)
  refine ⟨UInt8.ofNat n.toNat, ?_⟩
  have e : (UInt8.ofNat n.toNat).toNat = n.toNat := by rw [UInt8.toNat_ofNat']; omega
  rw [e, show ((n.toNat : Nat) : Int) = n by omega]
theorem rdBytes : Rd Try.prog 69 (List Int) (fun l => .sl 1 (l.map fun x => AV.int .u8 x) .no) (fun l => (∀ x ∈ l, (Lit.int .u8 x).wf = true) ∧ l.length * Try.prog.bytesOf 5 ≤ reachBytes) := rd_slice Try.underlying69 (by kernel_rfl) (by decide) (rd_int Try.underlying5)
theorem rdSop : Rd Try.prog 71 Sop Sop.av Sop.Ok :=
  rd_conv (rd_struct Try.underlying71 (rdf_cons rfl (rd_int Try.underlying3) (rdf_cons (by kernel_rfl) (rd_str Try.underlying9) (rdf_cons (by kernel_rfl) (rd_str Try.underlying9) (rdf_cons (by kernel_rfl) (rd_int Try.underlying3) (rdf_cons (by kernel_rfl) (rd_int Try.underlying3) (rdf_cons (by kernel_rfl) rdBytes (rdf_end (by kernel_rfl)))))))))
    (fun x => ⟨x.1, x.2.1, x.2.2.1, x.2.2.2.1, x.2.2.2.2.1, x.2.2.2.2.2.1.map fun y => AV.int .u8 y⟩) (fun _ => rfl) (fun x h => ⟨wf64 h.2.2.2.1, wf64 h.2.2.2.2.1, isB_of h.2.2.2.2.2.1.1, by
      have h2 := h.2.2.2.2.2.1.2
      rw [show Try.prog.bytesOf 5 = 1 by kernel_rfl] at h2
      unfold reachBytes at h2
      simp only [List.length_map]
      omega⟩)
theorem rdSops : Rd Try.prog 59 (List Sop) (fun l => .sl 6 (l.map Sop.av) .no) (fun l => (∀ o ∈ l, o.Ok) ∧ l.length * Try.prog.bytesOf 71 ≤ reachBytes) := rd_slice Try.underlying59 (by kernel_rfl) (by decide) rdSop
theorem sops_len {l : List Sop} (h : l.length * Try.prog.bytesOf 71 ≤ reachBytes) : l.length * 80 ≤ 2 ^ 47 := by
  rw [show Try.prog.bytesOf 71 = 80 by kernel_rfl] at h
  unfold reachBytes at h
  omega
theorem own : ownKnob Try.prog.godebug = none := by kernel_rfl
theorem laidOut : laidOutB Try.prog = true := by kernel_rfl
end Go.Proofs.Ytjdbmfipciadfaa.A
