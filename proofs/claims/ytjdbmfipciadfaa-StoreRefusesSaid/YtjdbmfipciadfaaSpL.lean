/- Stores: the law StoreRefuses. -/import Derived.Test.YtjdbmfipciadfaaSpK
import Derived.Test.YtjdbmfipciadfaaSyL9
namespace Go.Proofs.Ytjdbmfipciadfaa.A
open Go Go.Pt
section
variable {fs : List (List AV)} {κ : ByteArray → Nat} {m : Mo} {lo n N : Int} {es : List (AV × AV)} {row : List AV} {fuel : Nat}
def refB (m : Mo) (o : Sop) : Bool := decide ((o.d = 0 ∨ o.d = 1 ∨ o.d = 2 ∨ o.d = 4 ∨ o.d = 5) ∧ (doE m o).1 ≠ 0)
theorem create_ref {name : ByteArray} : (m.create name).1 ≠ 0 → (m.create name).2 = m := by
  unfold Mo.create
  split
  · exact fun _ => rfl
  · split
    · exact fun _ => rfl
    · split
      · exact fun _ => rfl
      · exact fun h => absurd rfl h
theorem write_ref {name : ByteArray} {i : Int} {b : List AV} : (m.write name i b).1 ≠ 0 → (m.write name i b).2 = m := by
  unfold Mo.write
  split
  · exact fun _ => rfl
  · split
    · exact fun _ => rfl
    · split
      · exact fun _ => rfl
      · split
        · exact fun _ => rfl
        · exact fun h => absurd rfl h
theorem cut_ref {name : ByteArray} {i : Int} : (m.cut name i).1 ≠ 0 → (m.cut name i).2 = m := by
  unfold Mo.cut
  split
  · exact fun _ => rfl
  · split
    · exact fun _ => rfl
    · exact fun h => absurd rfl h
theorem rename_ref {name to : ByteArray} : (m.rename name to).1 ≠ 0 → (m.rename name to).2 = m := by
  unfold Mo.rename
  split
  · exact fun _ => rfl
  · split
    · exact fun _ => rfl
    · split
      · exact fun _ => rfl
      · exact fun h => absurd rfl h
theorem remove_ref {name : ByteArray} : (m.remove name).1 ≠ 0 → (m.remove name).2 = m := by
  unfold Mo.remove
  split
  · exact fun _ => rfl
  · exact fun h => absurd rfl h
theorem refused_same {o : Sop} (h : refB m o = true) : doM m o = m := by
  unfold refB at h
  rw [decide_eq_true_eq] at h
  obtain ⟨hd, he⟩ := h
  unfold doM
  unfold doE at he ⊢
  by_cases d0 : o.d = 0
  · rw [if_pos d0] at he ⊢; exact create_ref he
  · rw [if_neg d0] at he ⊢
    by_cases d1 : o.d = 1
    · rw [if_pos d1] at he ⊢; exact write_ref he
    · rw [if_neg d1] at he ⊢
      by_cases d2 : o.d = 2
      · rw [if_pos d2] at he ⊢; exact cut_ref he
      · rw [if_neg d2, if_neg (by omega : ¬ o.d = 3)] at he ⊢
        by_cases d4 : o.d = 4
        · rw [if_pos d4] at he ⊢; exact rename_ref he
        · rw [if_neg d4, if_pos (by omega : o.d = 5)] at he ⊢; exact remove_ref he
theorem bnot_dec {e : Int} : stdOps.bnot (stdOps.cmp .eql e 0) = decide (e ≠ 0) := by
  rw [eql_is]
  by_cases h : e = 0 <;> simp [stdOps, h]
def F53R.tb : F53R → Bool
  | .v0 b _ _ _ _ _ _ _ _ => b
theorem f53_is (hI : Iv m) (hP : (m.P.length + 1) * 48 ≤ 2 ^ 47) (hf : 5000 < fuel) (hf2 : m.P.length < fuel) {o : Sop} (ho : o.Ok) {A : List AV} :
    ∃ R : F53R, f53 stdOps fuel o.d o.n o.to o.i o.k o.b A 0 m.L.length m.L.length 0 m.P.length m.P.length m.most m.down (m.L.map lav) (m.P.map qav) = some R ∧ R.tb = refB m o := by
  unfold f53 refB doE
  rw [eql_is, eql_is, eql_is, eql_is, eql_is]
  by_cases d0 : o.d = 0
  · rw [if_pos d0]
    refine ⟨_, ifB_is_t (decide_eq_true d0) <| bindR_is (f110_is hI hf) rfl, ?_⟩
    simp only [F53R.tb, bnot_dec, d0, true_or, true_and]
  · rw [if_neg d0, ifB_f (decide_eq_false d0)]
    by_cases d1 : o.d = 1
    · rw [if_pos d1]
      refine ⟨_, ifB_is_t (decide_eq_true d1) <| bindR_is (f111_is hI hP hf hf2 ho.len) rfl, ?_⟩
      simp only [F53R.tb, bnot_dec, d1, true_or, or_true, true_and]
    · rw [if_neg d1, ifB_f (decide_eq_false d1)]
      by_cases d2 : o.d = 2
      · rw [if_pos d2]
        refine ⟨_, ifB_is_t (decide_eq_true d2) <| bindR_is (f112_is hI hP hf hf2) rfl, ?_⟩
        simp only [F53R.tb, bnot_dec, d2, true_or, or_true, true_and]
      · rw [if_neg d2, ifB_f (decide_eq_false d2)]
        by_cases d4 : o.d = 4
        · rw [if_neg (by omega), if_pos d4]
          refine ⟨_, ifB_is_t (decide_eq_true d4) <| bindR_is (f114_is hI hP hf hf2) rfl, ?_⟩
          simp only [F53R.tb, bnot_dec, d4, true_or, or_true, true_and]
        · rw [ifB_f (decide_eq_false d4)]
          by_cases d5 : o.d = 5
          · rw [if_neg (by omega), if_neg d4, if_pos d5]
            refine ⟨_, ifB_is_t (decide_eq_true d5) <| bindR_is (f115_is hI hP hf hf2) rfl, ?_⟩
            simp only [F53R.tb, bnot_dec, d5, or_true, true_and]
          · refine ⟨_, ifB_is_f (decide_eq_false d5) rfl, ?_⟩
            have hno : ¬ (o.d = 0 ∨ o.d = 1 ∨ o.d = 2 ∨ o.d = 4 ∨ o.d = 5) := by omega
            simp only [F53R.tb, hno, false_and, decide_false]
theorem f9_l1_is {l : List Sop} (hl : ∀ o ∈ l, o.Ok) (hll : (l.length + 1) * 48 ≤ 2 ^ 47) (hf : 5000 + l.length < fuel) {a0 : Int} (hw : stdOps.wrap .i64 a0 = a0) : ∀ (rest pre : List Sop) (f : Nat) (fs : List (List AV)) (κ : ByteArray → Nat) (m : Mo) (lo n N : Int) (es : List (AV × AV)) (row : List AV),
    l = pre ++ rest → rest.length < f → Jv m → Rs fs κ m lo n N es row → m.P.length ≤ pre.length → m.most = a0 →
    ∃ A, f9_l1 stdOps fuel (l.map Sop.av) a0 f pre.length (fs.map fav) lo n N m.down 0 m.L.length m.L.length 0 m.P.length m.P.length m.down es row (m.L.map lav) (m.P.map qav) = some (.x2 A)
  | [], pre, f + 1, fs, κ, m, lo, n, N, es, row, hp, hf', hJ, h, hm, hmo => by
    rw [List.append_nil] at hp
    refine ⟨fs.map fav, ?_⟩
    rw [f9_l1, len_is, List.length_map]
    exact ifB_is_f (lss_f (by rw [hp]; simp)) rfl
  | o :: rest, pre, f + 1, fs, κ, m, lo, n, N, es, row, hp, hf', hJ, h, hm, hmo => by
    have hi : pre.length < l.length := by rw [hp]; simp
    obtain ⟨g1, g2, g3⟩ := gSop (l := l) (i := pre.length) (o := o) (by rw [hp]; simp)
    have ho := hl o (by rw [hp]; simp)
    have hidx : stdOps.ar .add .i64 (pre.length : Int) 1 = ((pre ++ [o]).length : Int) := by rw [add1 (by omega)]; simp
    have hP : (m.P.length + 1) * 48 ≤ 2 ^ 47 := by omega
    have hf5 : 5000 < fuel := by omega
    have hfP : m.P.length < fuel := by omega
    obtain ⟨fs1, κ1, lo1, n1, N1, es1, row1, q1, q2, q3⟩ := f51_is hJ h hP hf5 hfP ho
    have hJ1 := jv_do hJ ho
    obtain ⟨k1, k2, _⟩ := doM_keep (m := m) (o := o)
    have hP1 : (doM m o).P.length < 2 ^ 42 := by omega
    have hfP1 : (doM m o).P.length < fuel := by omega
    have hleft := f52_is hJ1.toIv q2 hP1 hfP1 hf5 (down := (doM m o).down)
    have hc := f50_is hJ.toIv hP hf5 (A := fs.map fav) (a3 := m.L.length) (a6 := m.P.length) (a7 := m.most) (a8 := m.down)
    obtain ⟨R, hr, hrb⟩ := f53_is hJ.toIv hP hf5 hfP ho (A := fs1.map fav)
    obtain ⟨rb, y1, y2, y3, y4, y5, y6, y7, y8⟩ := R
    simp only [F53R.tb] at hrb
    subst hrb
    obtain ⟨A, ih⟩ := f9_l1_is hl hll hf hw rest (pre ++ [o]) f fs1 κ1 (doM m o) lo1 n1 N1 es1 row1 (by simpa using hp) (by simp at hf'; omega) hJ1 q2 (by simp; omega) (k1.trans hmo)
    have hl0 := hJ1.left
    have hlv : (doM m o).left = (doM m o).most - (doM m o).used := rfl
    refine ⟨A, ?_⟩
    rw [k1] at hleft hlv hl0
    rw [hmo] at q1 hleft hc hr hlv hl0
    rw [f9_l1, hidx, hw]
    refine ifB_is_t g3 <| req_is g2 <| getA_is g1 ?_
    simp only [Sop.av, sh71]
    refine bindR_is hc <| bindR_is hc <| bindR_is q1 <| ifB_is_f rfl <| bindR_is hleft <| ifB_is_f (by simp only [stdOps, decide_eq_false_iff_not]; omega) <| bindR_is hleft <| ifB_is_f (by simp only [stdOps, decide_eq_false_iff_not]; omega) <| bindR_is hr ?_
    by_cases hb : refB m o = true
    · have hs := refused_same hb
      have h54 := f54_is hJ1 q2 hP1 hf5 hfP1 (o := o)
      rw [k1, hmo] at h54
      refine ifB_is_t hb <| bindR_is (v := .v0 true es1) ?_ <| ifB_is_f rfl ih
      rw [hs] at h54 ⊢
      exact h54
    · exact ifB_is_f (by simpa using hb) ih
theorem f9_is {l : List Sop} (hl : ∀ o ∈ l, o.Ok) (hll : (l.length + 1) * 48 ≤ 2 ^ 47) (hf : 5000 + l.length < fuel) {a0 : Int} (h0 : 0 ≤ a0) (h1 : a0 < 256) : ∃ A, f9 stdOps fuel a0 (l.map Sop.av) [] = some (.v0 true A) := by
  have hw : stdOps.wrap .i64 a0 = a0 := wr_i64 (by omega) (by omega)
  obtain ⟨fs1, hlive⟩ := f30_is (fuel := fuel) (by omega) []
  obtain ⟨A, hloop⟩ := f9_l1_is hl hll hf hw l [] fuel fs1 (fun _ => 0) (.new a0) 0 0 0 [] [] rfl (by omega) (jv_new h0 (by omega)) rs_new (by simp [Mo.new]) rfl
  refine ⟨A, ?_⟩
  unfold f9
  rw [hw]
  exact bindR_is hlive <| ifB_is_f rfl <| bindR_is (f48_is h0 (by omega)) <| bindR_is (f49_is h0 (by omega)) <| ifB_is_f rfl <| bindR_is hloop rfl
end
end Go.Proofs.Ytjdbmfipciadfaa.A
