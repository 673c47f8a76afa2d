/- Stores: an operation done with both; many of them. -/import Derived.Test.YtjdbmfipciadfaaMb6
import Derived.Test.YtjdbmfipciadfaaMb1
import Derived.Test.YtjdbmfipciadfaaMb3
import Derived.Test.YtjdbmfipciadfaaMb2
import Derived.Test.YtjdbmfipciadfaaMb4
namespace Go.Proofs.Ytjdbmfipciadfaa.A
open Go Go.Pt
structure Sop where
  d : Int
  n : ByteArray
  to : ByteArray
  i : Int
  k : Int
  b : List AV
def Sop.av (o : Sop) : AV := .agg [.int .i64 o.d, .str o.n, .str o.to, .int .i64 o.i, .int .i64 o.k, .sl 1 o.b .no]
structure Sop.Ok (o : Sop) : Prop where
  i : -9223372036854775808 ≤ o.i ∧ o.i ≤ 9223372036854775807
  k : -9223372036854775808 ≤ o.k ∧ o.k ≤ 9223372036854775807
  b : isB o.b
  len : o.b.length ≤ 2 ^ 47
def doE (m : Mo) (o : Sop) : Int × Mo :=
  if o.d = 0 then m.create o.n else if o.d = 1 then m.write o.n o.i o.b else if o.d = 2 then m.cut o.n o.i else if o.d = 3 then m.sync o.n else if o.d = 4 then m.rename o.n o.to
  else if o.d = 5 then m.remove o.n else if o.d = 6 then m.crash o.i o.k else if o.d = 7 then m.start else (0, m)
def doM (m : Mo) (o : Sop) : Mo := (doE m o).2
section
variable {m : Mo}
theorem create_keep {name : ByteArray} : (m.create name).2.P = m.P ∧ (m.create name).2.most = m.most ∧ (m.create name).2.down = m.down := by
  unfold Mo.create
  split
  · exact ⟨rfl, rfl, rfl⟩
  · split
    · exact ⟨rfl, rfl, rfl⟩
    · split <;> exact ⟨rfl, rfl, rfl⟩
theorem write_keep {name : ByteArray} {i : Int} {b : List AV} : (m.write name i b).2.L = m.L ∧ (m.write name i b).2.most = m.most ∧ (m.write name i b).2.down = m.down ∧ (m.write name i b).2.P.length ≤ m.P.length + 1 := by
  unfold Mo.write
  split
  · exact ⟨rfl, rfl, rfl, by simp⟩
  · split
    · exact ⟨rfl, rfl, rfl, by simp⟩
    · split
      · exact ⟨rfl, rfl, rfl, by simp⟩
      · split
        · exact ⟨rfl, rfl, rfl, by simp⟩
        · exact ⟨rfl, rfl, rfl, by simp⟩
theorem sync_keep {name : ByteArray} : (m.sync name).2.most = m.most ∧ (m.sync name).2.down = m.down ∧ (m.sync name).2.P.length ≤ m.P.length + 1 := by
  unfold Mo.sync
  split
  · exact ⟨rfl, rfl, by simp⟩
  · exact ⟨rfl, rfl, Nat.le_succ_of_le (List.length_filter_le _ _)⟩
theorem cut_keep {name : ByteArray} {i : Int} : (m.cut name i).2.most = m.most ∧ (m.cut name i).2.down = m.down ∧ (m.cut name i).2.P.length ≤ m.P.length + 1 := by
  unfold Mo.cut
  split
  · exact ⟨rfl, rfl, by simp⟩
  · split
    · exact ⟨rfl, rfl, by simp⟩
    · exact ⟨rfl, rfl, Nat.le_succ_of_le (List.length_filter_le _ _)⟩
theorem remove_keep {name : ByteArray} : (m.remove name).2.most = m.most ∧ (m.remove name).2.down = m.down ∧ (m.remove name).2.P.length ≤ m.P.length + 1 := by
  unfold Mo.remove
  split
  · exact ⟨rfl, rfl, by simp⟩
  · exact ⟨rfl, rfl, Nat.le_succ_of_le (List.length_filter_le _ _)⟩
theorem rename_keep {name to : ByteArray} : (m.rename name to).2.most = m.most ∧ (m.rename name to).2.down = m.down ∧ (m.rename name to).2.P.length ≤ m.P.length + 1 := by
  unfold Mo.rename
  split
  · exact ⟨rfl, rfl, by simp⟩
  · split
    · exact ⟨rfl, rfl, by simp⟩
    · split
      · exact ⟨rfl, rfl, by simp⟩
      · refine ⟨rfl, rfl, ?_⟩
        show (renP name to (dropP to m.P)).length ≤ _
        unfold renP
        rw [List.length_map]
        exact Nat.le_succ_of_le (List.length_filter_le _ _)
theorem crash_keep {keep torn : Int} : (m.crash keep torn).2.most = m.most ∧ (m.crash keep torn).2.P.length ≤ m.P.length + 1 := by
  unfold Mo.crash
  split
  · exact ⟨rfl, by simp⟩
  · exact ⟨rfl, by simp⟩
theorem start_keep : m.start.2.most = m.most ∧ m.start.2.L = m.L ∧ m.start.2.P = m.P := by
  unfold Mo.start
  split <;> exact ⟨rfl, rfl, rfl⟩
theorem doM_keep {o : Sop} : (doM m o).most = m.most ∧ (doM m o).P.length ≤ m.P.length + 1 ∧ (o.d ≠ 6 → o.d ≠ 7 → (doM m o).down = m.down) := by
  unfold doM doE
  split
  · have := create_keep (m := m) (name := o.n)
    exact ⟨this.2.1, by rw [this.1]; omega, fun _ _ => this.2.2⟩
  · split
    · have := write_keep (m := m) (name := o.n) (i := o.i) (b := o.b)
      exact ⟨this.2.1, this.2.2.2, fun _ _ => this.2.2.1⟩
    · split
      · have := cut_keep (m := m) (name := o.n) (i := o.i)
        exact ⟨this.1, this.2.2, fun _ _ => this.2.1⟩
      · split
        · have := sync_keep (m := m) (name := o.n)
          exact ⟨this.1, this.2.2, fun _ _ => this.2.1⟩
        · split
          · have := rename_keep (m := m) (name := o.n) (to := o.to)
            exact ⟨this.1, this.2.2, fun _ _ => this.2.1⟩
          · split
            · have := remove_keep (m := m) (name := o.n)
              exact ⟨this.1, this.2.2, fun _ _ => this.2.1⟩
            · split
              · rename_i h6
                have := crash_keep (m := m) (keep := o.i) (torn := o.k)
                exact ⟨this.1, this.2, fun h => absurd h6 h⟩
              · split
                · rename_i h7
                  have := start_keep (m := m)
                  exact ⟨this.1, by rw [this.2.2]; omega, fun _ h => absurd h7 h⟩
                · exact ⟨rfl, by simp, fun _ _ => rfl⟩
theorem jv_do (h : Jv m) {o : Sop} (ho : o.Ok) : Jv (doM m o) := by
  unfold doM doE
  split
  · exact jv_create h
  · split
    · exact jv_write h ho.b
    · split
      · exact jv_cut h
      · split
        · exact jv_sync h
        · split
          · exact jv_rename h
          · split
            · exact jv_remove h
            · split
              · exact jv_crash h
              · split
                · exact jv_start h
                · exact h
end
section
variable {fs : List (List AV)} {κ : ByteArray → Nat} {m : Mo} {lo n N : Int} {es : List (AV × AV)} {row : List AV} {fuel : Nat}
theorem eql_self (e : Int) : stdOps.cmp .eql e e = true := by rw [eql_is]; simp
theorem f51_is (hJ : Jv m) (h : Rs fs κ m lo n N es row) (hP : (m.P.length + 1) * 48 ≤ 2 ^ 47) (hf : 5000 < fuel) (hf2 : m.P.length < fuel) {o : Sop} (ho : o.Ok) :
    ∃ fs' κ' lo' n' N' es' row', f51 stdOps fuel o.d o.n o.to o.i o.k o.b (fs.map fav) m.most lo n N m.down 0 m.L.length m.L.length 0 m.P.length m.P.length m.most m.down es row (m.L.map lav) (m.P.map qav) =
      some (.v0 true (fs'.map fav) lo' n' N' (doM m o).down 0 (doM m o).L.length (doM m o).L.length 0 (doM m o).P.length (doM m o).P.length (doM m o).down es' row' ((doM m o).L.map lav) ((doM m o).P.map qav)) ∧
      Rs fs' κ' (doM m o) lo' n' N' es' row' ∧ Fr fs fs' κ κ' m (doM m o) := by
  have hI := hJ.toIv
  have hP' : m.P.length < 2 ^ 42 := by omega
  have hP4 : (m.P.length + 1) * 40 ≤ 2 ^ 47 := by omega
  unfold f51 doM doE
  rw [eql_is, eql_is, eql_is, eql_is, eql_is, eql_is, eql_is, eql_is]
  by_cases d0 : o.d = 0
  · rw [if_pos d0]
    obtain ⟨fs', κ', es', q1, q2, q3⟩ := f63_is hI h (fuel := fuel) (most := m.most) o.n
    have r := f110_is hI hf (A := fs'.map fav) (name := o.n) (a5 := 0) (a6 := m.P.length) (a7 := m.P.length) (a8 := m.most) (a11 := m.P.map qav)
    obtain ⟨k1, k2, k3⟩ := create_keep (m := m) (name := o.n)
    refine ⟨fs', κ', lo, n, N, es', row, ?_, q2, q3⟩
    rw [k1, k3]
    exact ifB_is_t (decide_eq_true d0) <| bindR_is q1 <| bindR_is r (by simp only [eql_self])
  · rw [if_neg d0, ifB_f (decide_eq_false d0)]
    by_cases d1 : o.d = 1
    · rw [if_pos d1]
      obtain ⟨lo', n', N', row', q1, q2⟩ := f34_is hI h hP4 (name := o.n) (i := o.i) ho.len hf2 hf
      have r := f111_is hI hP hf hf2 (A := fs.map fav) (name := o.n) (i := o.i) ho.len
      obtain ⟨k1, k2, k3, _⟩ := write_keep (m := m) (name := o.n) (i := o.i) (b := o.b)
      refine ⟨fs, κ, lo', n', N', es, row', ?_, q2, .rfl' fun a ha => by unfold Mo.names at *; rwa [k1] at ha⟩
      rw [k1, k3]
      exact ifB_is_t (decide_eq_true d1) <| bindR_is q1 <| bindR_is r (by simp only [eql_self])
    · rw [if_neg d1, ifB_f (decide_eq_false d1)]
      by_cases d2 : o.d = 2
      · rw [if_pos d2]
        obtain ⟨fs', lo', n', N', row', q1, q2, q3⟩ := f64_is hI h hP' (name := o.n) (i := o.i) hf2 (most := m.most)
        have r := f112_is hI hP hf hf2 (A := fs'.map fav) (name := o.n) (i := o.i)
        obtain ⟨k2, k3, _⟩ := cut_keep (m := m) (name := o.n) (i := o.i)
        refine ⟨fs', κ, lo', n', N', es, row', ?_, q2, q3⟩
        have hll : (m.cut o.n o.i).2.L.length = m.L.length := by unfold Mo.cut; split <;> (try split) <;> simp [setL_length]
        rw [k3, hll]
        exact ifB_is_t (decide_eq_true d2) <| bindR_is q1 <| bindR_is r (by simp only [eql_self])
      · rw [if_neg d2, ifB_f (decide_eq_false d2)]
        by_cases d3 : o.d = 3
        · rw [if_pos d3]
          obtain ⟨fs', lo', n', N', row', q1, q2, q3⟩ := f33_is hI h hP' (name := o.n) hf2 (most := m.most)
          have r := f113_is hI hP hf hf2 (A := fs'.map fav) (name := o.n)
          obtain ⟨k2, k3, _⟩ := sync_keep (m := m) (name := o.n)
          have hll : (m.sync o.n).2.L.length = m.L.length := by unfold Mo.sync; split <;> simp [setL_length]
          refine ⟨fs', κ, lo', n', N', es, row', ?_, q2, q3⟩
          rw [k3, hll]
          exact ifB_is_t (decide_eq_true d3) <| bindR_is q1 <| bindR_is r (by simp only [eql_self])
        · rw [if_neg d3, ifB_f (decide_eq_false d3)]
          by_cases d4 : o.d = 4
          · rw [if_pos d4]
            obtain ⟨κ', lo', n', N', es', row', q1, q2, q3⟩ := f65_is hI h hP' (name := o.n) (to := o.to) hf2 (most := m.most)
            have r := f114_is hI hP hf hf2 (A := fs.map fav) (name := o.n) (to := o.to)
            obtain ⟨k2, k3, _⟩ := rename_keep (m := m) (name := o.n) (to := o.to)
            refine ⟨fs, κ', lo', n', N', es', row', ?_, q2, q3⟩
            rw [k3]
            exact ifB_is_t (decide_eq_true d4) <| bindR_is q1 <| bindR_is r (by simp only [eql_self])
          · rw [if_neg d4, ifB_f (decide_eq_false d4)]
            by_cases d5 : o.d = 5
            · rw [if_pos d5]
              obtain ⟨lo', n', N', es', row', q1, q2⟩ := f66_is hI h hP' (name := o.n) hf2 (most := m.most)
              have r := f115_is hI hP hf hf2 (A := fs.map fav) (name := o.n)
              obtain ⟨k2, k3, _⟩ := remove_keep (m := m) (name := o.n)
              refine ⟨fs, κ, lo', n', N', es', row', ?_, q2, .rfl' fun a ha => ?_⟩
              · rw [k3]
                exact ifB_is_t (decide_eq_true d5) <| bindR_is q1 <| bindR_is r (by simp only [eql_self])
              · revert ha
                unfold Mo.remove
                split
                · exact id
                · exact fun ha => (names_outM.1 ha).1
            · rw [if_neg d5, ifB_f (decide_eq_false d5)]
              by_cases d6 : o.d = 6
              · rw [if_pos d6]
                obtain ⟨fs', lo', n', N', row', q1, q2, q3⟩ := f36_is hI h hP' ho.i ho.k hf2 (most := m.most)
                have r := f116_is hI hP' hf hf2 (A := fs'.map fav) ho.i ho.k
                have hll : (m.crash o.i o.k).2.L.length = m.L.length := by unfold Mo.crash; split <;> simp
                refine ⟨fs', κ, lo', n', N', es, row', ?_, q2, q3⟩
                rw [hll]
                exact ifB_is_t (decide_eq_true d6) <| bindR_is q1 <| bindR_is r (by simp only [eql_self])
              · rw [if_neg d6, ifB_f (decide_eq_false d6)]
                by_cases d7 : o.d = 7
                · rw [if_pos d7]
                  obtain ⟨q1, q2, q3⟩ := f37_is h (fuel := fuel) (A := fs.map fav) (most := m.most)
                  have r := f117_is (m := m) (fuel := fuel) (A := fs.map fav) (a1 := 0) (a2 := m.L.length) (a3 := m.L.length) (a4 := 0) (a5 := m.P.length) (a6 := m.P.length) (a7 := m.most) (a9 := m.L.map lav) (a10 := m.P.map qav)
                  obtain ⟨k1, k2, k3⟩ := start_keep (m := m)
                  refine ⟨fs, κ, lo, n, N, es, row, ?_, q2, q3⟩
                  rw [k2, k3]
                  exact ifB_is_t (decide_eq_true d7) <| bindR_is q1 <| bindR_is r (by simp only [eql_self])
                · rw [if_neg d7, ifB_f (decide_eq_false d7)]
                  exact ⟨fs, κ, lo, n, N, es, row, rfl, h, .rfl' fun _ h => h⟩
theorem f48_is {room : Int} (h0 : 0 ≤ room) (h1 : room ≤ 4194304) {A : List AV} : f48 stdOps fuel room A = some (.v1 [] []) := by
  unfold f48
  exact ifB_is_f (by have : ¬ room < 0 := by omega
                     have : ¬ room > 4194304 := by omega
                     simp [stdOps, *]) rfl
theorem f49_is {room : Int} (h0 : 0 ≤ room) (h1 : room ≤ 4194304) {A : List AV} : f49 stdOps fuel room A = some (.v1 [] []) := by
  unfold f49
  exact ifB_is_f (by have : ¬ room < 0 := by omega
                     have : ¬ room > 4194304 := by omega
                     simp [stdOps, *]) rfl
theorem rs_new {room : Int} : Rs fs κ (.new room) 0 0 0 [] [] := ⟨rfl, rfl, Int.le_refl _, ⟨[], rfl⟩, ⟨[], rfl, List.Perm.refl _⟩, fun _a ha => absurd ha List.not_mem_nil, fun _x hx => absurd hx List.not_mem_nil⟩
def stepB (m : Mo) (o : Sop) : Mo := if o.d ≠ 6 ∧ o.d ≠ 7 then doM m o else m
theorem jv_step (h : Jv m) {o : Sop} (ho : o.Ok) : Jv (stepB m o) := by
  unfold stepB
  split
  · exact jv_do h ho
  · exact h
theorem step_keep {o : Sop} : (stepB m o).most = m.most ∧ (stepB m o).P.length ≤ m.P.length + 1 ∧ (stepB m o).down = m.down := by
  unfold stepB
  split
  · rename_i hd
    obtain ⟨h1, h2, h3⟩ := doM_keep (m := m) (o := o)
    exact ⟨h1, h2, h3 hd.1 hd.2⟩
  · exact ⟨rfl, by simp, rfl⟩
theorem gSop {l : List Sop} {i : Nat} {o : Sop} (h : l[i]? = some o) : stdOps.get (l.map Sop.av) (i : Int) = some o.av ∧ stdOps.inb (i : Int) (stdOps.len (l.map Sop.av)) ∧ stdOps.cmp .lss (i : Int) (stdOps.len (l.map Sop.av)) = true := by
  have hl := (List.getElem?_eq_some_iff.1 h).1
  refine ⟨by simp [stdOps, h], ?_, ?_⟩
  · show (0 : Int) ≤ i ∧ (i : Int) < ((l.map Sop.av).length : Int)
    simp; omega
  · rw [len_is, List.length_map]; exact lss_t hl
theorem f31_l0_is {l : List Sop} (hl : ∀ o ∈ l, o.Ok) (hll : (l.length + 1) * 48 ≤ 2 ^ 47) (hf : 5000 + l.length < fuel) : ∀ (rest pre : List Sop) (f : Nat) (fs : List (List AV)) (κ : ByteArray → Nat) (m : Mo) (lo n N : Int) (es : List (AV × AV)) (row : List AV),
    l = pre ++ rest → rest.length < f → Jv m → Rs fs κ m lo n N es row → m.P.length ≤ pre.length →
    ∃ fs' κ' lo' n' N' es' row', f31_l0 stdOps fuel (l.map Sop.av) m.most f pre.length (fs.map fav) lo n N m.down 0 m.L.length m.L.length 0 m.P.length m.P.length m.down es row (m.L.map lav) (m.P.map qav) =
        some (.x0 (fs'.map fav) lo' n' N' (rest.foldl stepB m).down 0 (rest.foldl stepB m).L.length (rest.foldl stepB m).L.length 0 (rest.foldl stepB m).P.length (rest.foldl stepB m).P.length (rest.foldl stepB m).down es' row' ((rest.foldl stepB m).L.map lav) ((rest.foldl stepB m).P.map qav)) ∧
      Rs fs' κ' (rest.foldl stepB m) lo' n' N' es' row' ∧ Fr fs fs' κ κ' m (rest.foldl stepB m) ∧ Jv (rest.foldl stepB m) ∧ (rest.foldl stepB m).P.length ≤ l.length
  | [], pre, f + 1, fs, κ, m, lo, n, N, es, row, hp, hf', hJ, h, hm => by
    rw [List.append_nil] at hp
    refine ⟨fs, κ, lo, n, N, es, row, ?_, h, .rfl' fun _ h => h, hJ, by rw [hp]; exact hm⟩
    rw [f31_l0, len_is, List.length_map]
    exact ifB_is_f (lss_f (by rw [hp]; simp)) rfl
  | o :: rest, pre, f + 1, fs, κ, m, lo, n, N, es, row, hp, hf', hJ, h, hm => by
    have hi : pre.length < l.length := by rw [hp]; simp
    obtain ⟨g1, g2, g3⟩ := gSop (l := l) (i := pre.length) (o := o) (by rw [hp]; simp)
    have ho := hl o (by rw [hp]; simp)
    have hidx : stdOps.ar .add .i64 (pre.length : Int) 1 = ((pre ++ [o]).length : Int) := by rw [add1 (by omega)]; simp
    obtain ⟨k1, k2, k3⟩ := step_keep (m := m) (o := o)
    have hpick : stdOps.pick (stdOps.bnot (stdOps.cmp .eql o.d 6)) (stdOps.bnot (stdOps.cmp .eql o.d 7)) false = decide (o.d ≠ 6 ∧ o.d ≠ 7) := by
      rw [eql_is, eql_is]
      by_cases a : o.d = 6 <;> by_cases b : o.d = 7 <;> simp [stdOps, a, b]
    by_cases hd : o.d ≠ 6 ∧ o.d ≠ 7
    · have hs : stepB m o = doM m o := if_pos hd
      obtain ⟨fs1, κ1, lo1, n1, N1, es1, row1, q1, q2, q3⟩ := f51_is hJ h (by omega) (by omega) (by omega) ho (fuel := fuel)
      rw [← hs] at q1 q2 q3
      obtain ⟨fs2, κ2, lo2, n2, N2, es2, row2, i1, i2, i3, i4, i5⟩ := f31_l0_is hl hll hf rest (pre ++ [o]) f fs1 κ1 (stepB m o) lo1 n1 N1 es1 row1 (by simpa using hp) (by simp at hf'; omega) (jv_step hJ ho) q2 (by simp; omega)
      rw [k1] at i1
      refine ⟨fs2, κ2, lo2, n2, N2, es2, row2, ?_, i2, q3.trans i3, i4, i5⟩
      rw [f31_l0, hidx]
      refine ifB_is_t g3 <| req_is g2 <| getA_is g1 ?_
      simp only [Sop.av, sh71]
      refine ifB_is_t (by rw [hpick, decide_eq_true hd]) <| bindR_is q1 ?_
      exact i1
    · have hs : stepB m o = m := if_neg hd
      obtain ⟨fs2, κ2, lo2, n2, N2, es2, row2, i1, i2, i3, i4, i5⟩ := f31_l0_is hl hll hf rest (pre ++ [o]) f fs κ m lo n N es row (by simpa using hp) (by simp at hf'; omega) hJ h (by simp; omega)
      have hfo : (o :: rest).foldl stepB m = rest.foldl stepB m := by rw [List.foldl_cons, hs]
      rw [hfo]
      refine ⟨fs2, κ2, lo2, n2, N2, es2, row2, ?_, i2, i3, i4, i5⟩
      rw [f31_l0, hidx]
      refine ifB_is_t g3 <| req_is g2 <| getA_is g1 ?_
      simp only [Sop.av, sh71]
      exact ifB_is_f (by rw [hpick, decide_eq_false hd]) i1
def builtM (room : Int) (l : List Sop) : Mo := l.foldl stepB (.new room)
theorem built_keep {l : List Sop} : ∀ {m : Mo}, (l.foldl stepB m).most = m.most ∧ (l.foldl stepB m).down = m.down := by
  induction l with
  | nil => exact ⟨rfl, rfl⟩
  | cons o l ih =>
    intro m
    have h1 := step_keep (m := m) (o := o)
    have h2 := ih (m := stepB m o)
    exact ⟨h2.1.trans h1.1, h2.2.trans h1.2.2⟩
theorem f31_is {l : List Sop} (hl : ∀ o ∈ l, o.Ok) (hll : (l.length + 1) * 48 ≤ 2 ^ 47) (hf : 5000 + l.length < fuel) {room : Int} (h0 : 0 ≤ room) (h1 : room ≤ 4194304) {fs : List (List AV)} :
    ∃ fs' κ' lo' n' N' es' row', f31 stdOps fuel room (l.map Sop.av) (fs.map fav) =
        some (.v1 (fs'.map fav) lo' n' N' (builtM room l).down 0 (builtM room l).L.length (builtM room l).L.length 0 (builtM room l).P.length (builtM room l).P.length (builtM room l).down es' row' ((builtM room l).L.map lav) ((builtM room l).P.map qav)) ∧
      Rs fs' κ' (builtM room l) lo' n' N' es' row' ∧ Fr fs fs' (fun _ => 0) κ' (.new room) (builtM room l) ∧ Jv (builtM room l) ∧ (builtM room l).P.length ≤ l.length := by
  obtain ⟨fs2, κ2, lo2, n2, N2, es2, row2, i1, i2, i3, i4, i5⟩ := f31_l0_is hl hll hf l [] fuel fs (fun _ => 0) (.new room) 0 0 0 [] [] rfl (by omega) (jv_new h0 h1) rs_new (by simp [Mo.new])
  refine ⟨fs2, κ2, lo2, n2, N2, es2, row2, ?_, i2, i3, i4, i5⟩
  unfold f31
  refine bindR_is (f48_is h0 h1) <| bindR_is (f49_is h0 h1) <| ifB_is_f (by rfl) ?_
  exact bindR_is i1 rfl
end
end Go.Proofs.Ytjdbmfipciadfaa.A
namespace Go.Proofs.Ytjdbmfipciadfaa.A
open Go Go.Pt
def u8 (n : Int) : AV := .int .u8 n
def ka : ByteArray := ⟨#[97]⟩
def lm1 : Mo := ⟨[(ka, [])], [], 10, false⟩
def lm2 : Mo := ⟨[(ka, [])], [⟨ka, 0, [u8 1, u8 2, u8 3]⟩], 10, false⟩
def lm3 : Mo := ⟨[(ka, [u8 1, u8 2, u8 3])], [], 10, false⟩
def lm4 : Mo := ⟨[(ka, [u8 1, u8 2, u8 3])], [⟨ka, 1, [u8 9, u8 9]⟩], 10, false⟩
def lm5 : Mo := ⟨[(ka, [u8 1, u8 2, u8 3])], [⟨ka, 1, [u8 9, u8 9]⟩, ⟨ka, 3, [u8 4]⟩], 10, false⟩
theorem le1 : (Mo.new 10).create ka = (0, lm1) := rfl
theorem le2 : lm1.write ka 0 [u8 1, u8 2, u8 3] = (0, lm2) := rfl
theorem le3 : lm2.sync ka = (0, lm3) := rfl
theorem le4 : lm3.write ka 1 [u8 9, u8 9] = (0, lm4) := rfl
theorem le5 : lm4.write ka 3 [u8 4] = (0, lm5) := rfl
theorem u8_isB {n : Nat} (h : n < 256) : ∃ b : UInt8, u8 n = .int .u8 b.toNat := ⟨UInt8.ofNat n, by simp [u8, Nat.mod_eq_of_lt h]⟩
theorem isB_lit {l : List Nat} (h : ∀ n ∈ l, n < 256) : isB (l.map fun n : Nat => u8 (n : Int)) := fun x hx => by
  obtain ⟨n, hn, rfl⟩ := List.mem_map.1 hx
  exact u8_isB (h n hn)
theorem lj1 : Jv lm1 := by have := jv_create (jv_new (room := 10) (by omega) (by omega)) (name := ka); rwa [le1] at this
theorem lj2 : Jv lm2 := by have := jv_write lj1 (name := ka) (i := 0) (b := [u8 1, u8 2, u8 3]) (isB_lit (l := [1, 2, 3]) (by decide)); rwa [le2] at this
theorem lj3 : Jv lm3 := by have := jv_sync lj2 (name := ka); rwa [le3] at this
theorem lj4 : Jv lm4 := by have := jv_write lj3 (name := ka) (i := 1) (b := [u8 9, u8 9]) (isB_lit (l := [9, 9]) (by decide)); rwa [le4] at this
theorem lj5 : Jv lm5 := by have := jv_write lj4 (name := ka) (i := 3) (b := [u8 4]) (isB_lit (l := [4]) (by decide)); rwa [le5] at this
def lwants : List AV := [.sl 1 [.int .u8 1, .int .u8 9, .int .u8 9] .no, .sl 1 [.int .u8 1, .int .u8 9, .int .u8 3] .no, .sl 1 [.int .u8 1, .int .u8 9, .int .u8 9, .int .u8 4] .no]
def lkeeps : List AV := [.int .i64 1, .int .i64 0, .int .i64 2]
def ltorns : List AV := [.int .i64 0, .int .i64 1, .int .i64 0]
def after (keep torn : Int) : Mo := (lm5.crash keep torn).2.start.2
section
variable {fuel : Nat} (hf : 5000 < fuel)
include hf
theorem f30_round {i : Nat} {want : List AV} {keep torn : Int} (h1 : lwants[i]? = some (.sl 1 want .no)) (h2 : lkeeps[i]? = some (.int .i64 keep)) (h3 : ltorns[i]? = some (.int .i64 torn)) (hk : -9223372036854775808 ≤ keep ∧ keep ≤ 9223372036854775807) (ht : -9223372036854775808 ≤ torn ∧ torn ≤ 9223372036854775807)
    (e1 : (lm5.crash keep torn).1 = 0) (e2 : (lm5.crash keep torn).2.down = true) (e3 : (lm5.crash keep torn).2.start.1 = 0) (_e4 : (after keep torn).down = false) (e5 : (after keep torn).fnd ka = 0) (hB : isB want)
    (e6 : (after keep torn).readB ka 0 want.length = want) (e7 : (after keep torn).readE ka 0 want.length = 0) (e8 : (after keep torn).size ka = want.length) (fs : List (List AV)) (f : Nat) :
    ∃ fs' : List (List AV), ∀ r, f30_l0 stdOps fuel f ((i + 1 : Nat) : Int) (fs'.map fav) = some r → f30_l0 stdOps fuel (f + 1) i (fs.map fav) = some r := by
  have hi : i < 3 := by
    have := (List.getElem?_eq_some_iff.1 h1).1
    simpa [lwants] using this
  obtain ⟨fs1, κ1, es1, a1, a2, a3⟩ := f63_is (jv_new (room := 10) (by omega) (by omega)).toIv (rs_new (fs := fs) (κ := fun _ => 0) (room := 10)) (fuel := fuel) (most := 10) ka
  rw [le1] at a1 a2 a3
  obtain ⟨lo2, n2, N2, row2, b1, b2⟩ := f34_is lj1.toIv a2 (by decide) (name := ka) (i := 0) (b := [u8 1, u8 2, u8 3]) (by decide) (fuel := fuel) (by show 0 < fuel; omega) hf
  rw [le2] at b1 b2
  obtain ⟨fs3, lo3, n3, N3, row3, c1, c2, c3⟩ := f33_is lj2.toIv b2 (by decide) (name := ka) (fuel := fuel) (by show 1 < fuel; omega) (most := 10)
  rw [le3] at c1 c2 c3
  obtain ⟨lo4, n4, N4, row4, d1, d2⟩ := f34_is lj3.toIv c2 (by decide) (name := ka) (i := 1) (b := [u8 9, u8 9]) (by decide) (fuel := fuel) (by show 0 < fuel; omega) hf
  rw [le4] at d1 d2
  obtain ⟨lo5, n5, N5, row5, g1, g2⟩ := f34_is lj4.toIv d2 (by decide) (name := ka) (i := 3) (b := [u8 4]) (by decide) (fuel := fuel) (by show 1 < fuel; omega) hf
  rw [le5] at g1 g2
  obtain ⟨fs6, lo6, n6, N6, row6, k1, k2, k3⟩ := f36_is lj5.toIv g2 (by decide) hk ht (fuel := fuel) (by show 2 < fuel; omega) (most := 10)
  rw [e1] at k1
  obtain ⟨s1, s2, s3⟩ := f37_is k2 (fuel := fuel) (A := fs6.map fav) (most := 10)
  rw [e3] at s1
  have hja : Jv (after keep torn) := jv_start (jv_crash lj5)
  have hpa : (after keep torn).P = [] := by
    unfold after
    rw [start_keep.2.2]; rfl
  have r1 := f39_is hja.toIv s2 (by rw [hpa]; decide) (fuel := fuel) (by rw [hpa]; show 0 < fuel; omega) (most := 10) (name := ka) (i := 0) (k := want.length)
  rw [e6, e7] at r1
  have r2 := f38_is hja.toIv s2 (by rw [hpa]; decide) (fuel := fuel) (by rw [hpa]; show 0 < fuel; omega) (most := 10) (name := ka)
  rw [e8, e5] at r2
  refine ⟨fs6, fun r hr => ?_⟩
  rw [f30_l0]
  have hin : ∀ L : List AV, L.length = 3 → stdOps.inb (i : Int) (stdOps.len L) := fun L hL => by
    show (0 : Int) ≤ i ∧ (i : Int) < (L.length : Int)
    omega
  have hget : ∀ (L : List AV) (v : AV), L[i]? = some v → stdOps.get L (i : Int) = some v := fun L v h => by
    show L[((i : Nat) : Int).toNat]? = _
    rw [Int.toNat_natCast]; exact h
  have hidx : stdOps.ar .add .i64 (i : Int) 1 = ((i + 1 : Nat) : Int) := add1 (by omega)
  refine ifB_is_t (lss_t (n := 3) hi) <| req_is (hin lwants rfl) <| getA_is (hget lwants _ h1) ?_
  simp only [sh69]
  refine bindR_is (f48_is (room := 10) (by omega) (by omega)) <| ifB_is_f rfl <| bindR_is a1 <| ifB_is_f rfl <| bindR_is b1 <| ifB_is_f rfl <| bindR_is c1 <| ifB_is_f rfl <| bindR_is d1 <| ifB_is_f rfl <| bindR_is g1 <| ifB_is_f rfl <| bindR_is (f35_is g2) <| ifB_is_f rfl <|
    req_is (hin lkeeps rfl) <| getA_is (hget lkeeps _ h2) ?_
  simp only [sh3]
  refine req_is (hin ltorns rfl) <| getA_is (hget ltorns _ h3) ?_
  refine bindR_is k1 <| ifB_is_f rfl <| bindR_is f67_is <| ifB_is_f (by rw [e2]; rfl) <| bindR_is s1 <| ifB_is_f rfl <| bindR_is r1 <| bindR_is r2 <| ifB_is_f rfl <| bindR_is (f40_is hB) <| ifB_is_f ?_ ?_
  · rw [len_is, eql_self]; rfl
  · rw [hidx]; exact hr
theorem f30_is (fs : List (List AV)) : ∃ fs' : List (List AV), f30 stdOps fuel (fs.map fav) = some (.v0 true (fs'.map fav)) := by
  obtain ⟨g, rfl⟩ : ∃ g, fuel = g + 4 := ⟨fuel - 4, by omega⟩
  have w1 : isB [.int .u8 1, .int .u8 9, .int .u8 9] := isB_lit (l := [1, 9, 9]) (by decide)
  have w2 : isB [.int .u8 1, .int .u8 9, .int .u8 3] := isB_lit (l := [1, 9, 3]) (by decide)
  have w3 : isB [.int .u8 1, .int .u8 9, .int .u8 9, .int .u8 4] := isB_lit (l := [1, 9, 9, 4]) (by decide)
  obtain ⟨fs1, h1⟩ := f30_round hf (i := 0) (want := [.int .u8 1, .int .u8 9, .int .u8 9]) (keep := 1) (torn := 0) rfl rfl rfl (by decide) (by decide) rfl rfl rfl rfl rfl w1 rfl rfl rfl fs (g + 3)
  obtain ⟨fs2, h2⟩ := f30_round hf (i := 1) (want := [.int .u8 1, .int .u8 9, .int .u8 3]) (keep := 0) (torn := 1) rfl rfl rfl (by decide) (by decide) rfl rfl rfl rfl rfl w2 rfl rfl rfl fs1 (g + 2)
  obtain ⟨fs3, h3⟩ := f30_round hf (i := 2) (want := [.int .u8 1, .int .u8 9, .int .u8 9, .int .u8 4]) (keep := 2) (torn := 0) rfl rfl rfl (by decide) (by decide) rfl rfl rfl rfl rfl w3 rfl rfl rfl fs2 (g + 1)
  have h4 : f30_l0 stdOps (g + 4) (g + 1) ((2 + 1 : Nat) : Int) (fs3.map fav) = some (.x6 (fs3.map fav)) := by
    rw [f30_l0]
    exact ifB_is_f rfl rfl
  refine ⟨fs3, ?_⟩
  unfold f30
  exact bindR_is (h1 _ (h2 _ (h3 _ h4))) rfl
end
section
variable {fs : List (List AV)} {κ : ByteArray → Nat} {m : Mo} {lo n N : Int} {es : List (AV × AV)} {row : List AV} {fuel : Nat}
theorem isB_readB (hJ : Jv m) {name : ByteArray} {i k : Int} : isB (m.readB name i k) := by
  unfold Mo.readB
  split
  · exact isB_nil
  · rename_i h0
    have hm := (fnd0.1 (by simpa using h0)).2
    split
    · exact isB_nil
    · exact isB_drop (isB_take (hJ.all_isB hm))
theorem isB_sureR (hJ : Jv m) {name : ByteArray} : isB (m.sureR name) := by
  unfold Mo.sureR
  split
  · exact isB_nil
  · rename_i h0
    have hm := (fnd0.1 (by simpa using h0)).2
    exact hJ.bL _ (Mo.mem_sure hJ.nodup hm)
theorem f54_l0_is (hJ : Jv m) (h : Rs fs κ m lo n N es row) (hP : m.P.length < 2 ^ 42) (hf : 5000 < fuel) (hf2 : m.P.length < fuel) {a1 a2 : ByteArray} {a3 a4 a0 a18 : Int} {a5 : List AV} : ∀ (d i f : Nat), i + d = 1 + m.names.length → d < f →
    f54_l0 stdOps fuel a1 (m.names.map nav) (fs.map fav) m.most lo n N m.down es row 0 m.L.length m.L.length 0 m.P.length m.P.length a18 m.down (m.L.map lav) (m.P.map qav) a3 a4 a0 a2 a5 f i = some .x1
  | 0, i, f + 1, hi, hf' => by
    have hl : stdOps.len (stdOps.apnd [.str a1] (m.names.map nav)) = ((1 + m.names.length : Nat) : Int) := by
      show (([AV.str a1] ++ m.names.map nav).length : Int) = _
      simp; omega
    rw [f54_l0, hl]
    exact ifB_is_f (lss_f (by omega)) rfl
  | d + 1, i, f + 1, hi, hf' => by
    have hI := hJ.toIv
    have hl : stdOps.len (stdOps.apnd [.str a1] (m.names.map nav)) = ((1 + m.names.length : Nat) : Int) := by
      show (([AV.str a1] ++ m.names.map nav).length : Int) = _
      simp; omega
    have hmx := hI.max
    have hnl : m.names.length ≤ 4096 := by simpa [Mo.names] using hmx
    obtain ⟨name, hn⟩ : ∃ name : ByteArray, stdOps.get (stdOps.apnd [.str a1] (m.names.map nav)) (i : Int) = some (.str name) := by
      have hlt : i < (a1 :: m.names).length := by simp; omega
      refine ⟨(a1 :: m.names)[i], ?_⟩
      show ([AV.str a1] ++ m.names.map nav)[((i : Nat) : Int).toNat]? = _
      rw [Int.toNat_natCast, show [AV.str a1] ++ m.names.map nav = (a1 :: m.names).map nav from rfl, List.getElem?_map, List.getElem?_eq_getElem hlt]; rfl
    have hidx : stdOps.ar .add .i64 (i : Int) 1 = ((i + 1 : Nat) : Int) := add1 (by omega)
    have ih := f54_l0_is hJ h hP hf hf2 (a1 := a1) (a2 := a2) (a3 := a3) (a4 := a4) (a0 := a0) (a18 := a18) (a5 := a5) d (i + 1) f (by omega) (by omega)
    rw [f54_l0, hl, hidx]
    refine ifB_is_t (lss_t (by omega)) <| req_is (show (0 : Int) ≤ i ∧ (i : Int) < ((1 + m.names.length : Nat) : Int) by omega) <| getA_is hn ?_
    simp only [sh9]
    refine bindR_is (f38_is hI h hP hf2) <| bindR_is (f121_is hI hP hf hf2) <| bindR_is (f39_is hI h hP hf2) <| bindR_is (f122_is hI hP hf hf2) <| bindR_is (f41_is hI h) <| bindR_is (f123_is hI hf) <| bindR_is (f39_is hI h hP hf2) <| bindR_is (f122_is hI hP hf hf2) <|
      ifB_is_f (by rw [eql_self, eql_self]; rfl) <| bindR_is (f40_is (isB_readB hJ)) <| ifB_is_f (by rw [eql_self]; rfl) <| bindR_is (f40_is (isB_sureR hJ)) <| ifB_is_f (by rw [eql_self]; rfl) <| bindR_is (f40_is (isB_readB hJ)) <| ifB_is_f (by rw [eql_self]; rfl) ih
theorem f54_is (hJ : Jv m) (h : Rs fs κ m lo n N es row) (hP : m.P.length < 2 ^ 42) (hf : 5000 < fuel) (hf2 : m.P.length < fuel) {o : Sop} :
    f54 stdOps fuel o.d o.n o.to o.i o.k o.b (fs.map fav) m.most lo n N m.down 0 m.L.length m.L.length 0 m.P.length m.P.length m.most m.down es row (m.L.map lav) (m.P.map qav) = some (.v0 true es) := by
  have hI := hJ.toIv
  have hmx := hI.max
  have hnl : m.names.length ≤ 4096 := by simpa [Mo.names] using hmx
  unfold f54
  refine bindR_is (f32_is hI h hf) <| bindR_is (f119_is hI hf) <| bindR_is (f118_is hnl hf) <| ifB_is_t rfl <| bindR_is (f35_is h) <| ifB_is_t (by rw [eql_self]; rfl) <| bindR_is (f52_is hI h hP hf2 hf) <| bindR_is (f120_is hI hP hf hf2) <| ifB_is_t (by rw [eql_self, eql_self]; rfl) <|
    bindR_is f67_is <| ifB_is_f (by rw [eql_self, eql_self]; cases m.down <;> rfl) <| bindR_is (f119_is hI hf) <| req_is (room_ok (by simp; omega)) <| bindR_is (f54_l0_is hJ h hP hf hf2 (1 + m.names.length) 0 fuel (by omega) (by omega)) rfl
end
end Go.Proofs.Ytjdbmfipciadfaa.A
namespace Go.Proofs.Ytjdbmfipciadfaa.A
open Go Go.Pt
theorem ov_get {b x : List AV} {i j : Nat} (hi : i ≤ b.length) (_hj : j < b.length) : (ov b i x)[j]? = b[j]? ∨ (i ≤ j ∧ j < i + x.length) := by
  unfold ov
  by_cases h1 : j < i
  · left
    rw [List.append_assoc, List.getElem?_append_left (by rw [List.length_take]; omega), List.getElem?_take_of_lt h1]
  · by_cases h2 : j < i + x.length
    · exact .inr ⟨by omega, h2⟩
    · left
      rw [List.getElem?_append_right (by rw [List.length_append, List.length_take]; omega), List.length_append, List.length_take, List.getElem?_drop]
      congr 1; omega
theorem seen_get {n : ByteArray} {j : Nat} : ∀ {Q : List Pw} {b : List AV}, okW Q n b → j < b.length → (seen Q n b)[j]? = b[j]? ∨ ∃ q ∈ Q, q.n = n ∧ q.i ≤ j ∧ (j : Int) < q.i + q.b.length
  | [], _, _, _ => .inl rfl
  | q :: Q, b, hok, hj => by
    have hs : seen (q :: Q) n b = seen Q n (seen1 n b q) := rfl
    have hl := seen1_le hok.1
    rcases seen_get (Q := Q) hok.2 (Nat.lt_of_lt_of_le hj hl) with h | ⟨p, hp, h⟩
    · rw [hs, h]
      unfold seen1
      by_cases e : q.n = n
      · rw [if_pos e]
        have := hok.1 e
        rcases ov_get (x := q.b) (i := q.i.toNat) (b := b) (by omega) hj with h | ⟨h1, h2⟩
        · exact .inl h
        · exact .inr ⟨q, List.mem_cons_self, e, by omega, by omega⟩
      · rw [if_neg e]; exact .inl rfl
    · exact .inr ⟨p, List.mem_cons_of_mem _ hp, h⟩
theorem okW_kept {P : List Pw} {keep torn : Int} {n : ByteArray} {b : List AV} (h : okW P n b) : okW (kept P keep torn) n b := by
  unfold kept
  obtain ⟨K, hK⟩ : ∃ K, K = bare keep % (P.length + 1) := ⟨_, rfl⟩
  rw [← hK]
  by_cases hlt : K < P.length
  · rw [List.getElem?_eq_getElem hlt]
    have hsp : P = P.take K ++ P[K] :: P.drop (K + 1) := by rw [← List.drop_eq_getElem_cons hlt, List.take_append_drop]
    rw [hsp, okW_append] at h
    rw [okW_append]
    exact ⟨h.1, h.2.1, trivial⟩
  · rw [List.getElem?_eq_none (by omega), okW_append]
    refine ⟨?_, trivial⟩
    have hsp := (List.take_append_drop K P).symm
    rw [hsp, okW_append] at h
    exact h.1
theorem kept_of {P : List Pw} {keep torn : Int} : ∀ q ∈ kept P keep torn, ∃ p ∈ P, q.n = p.n ∧ q.i = p.i ∧ q.b.length ≤ p.b.length := by
  intro q hq
  unfold kept at hq
  rcases List.mem_append.1 hq with hq | hq
  · exact ⟨q, List.mem_of_mem_take hq, rfl, rfl, Nat.le_refl _⟩
  · split at hq
    · rename_i p hp
      rw [List.mem_singleton.1 hq]
      exact ⟨p, List.mem_of_getElem? hp, rfl, rfl, by simp; omega⟩
    · cases hq
theorem okW_pi {n : ByteArray} : ∀ {P : List Pw} {b : List AV}, okW P n b → ∀ p ∈ P, p.n = n → 0 ≤ p.i ∧ p.i ≤ (seen P n b).length
  | q :: Q, b, hok, p, hp, e => by
    have hs : seen (q :: Q) n b = seen Q n (seen1 n b q) := rfl
    rcases List.mem_cons.1 hp with rfl | hp
    · have h1 := hok.1 e
      have h2 := seen1_le hok.1
      have h3 := seen_le hok.2
      rw [hs]
      exact ⟨h1.1, by omega⟩
    · exact okW_pi (P := Q) hok.2 p hp e
theorem Iv.pi {m : Mo} (h : Iv m) : ∀ p ∈ m.P, 0 ≤ p.i ∧ p.i ≤ 4194304 := by
  intro p hp
  obtain ⟨x, hx, e⟩ := List.mem_map.1 (h.pn p hp)
  have h1 := okW_pi (h.ok x hx) p hp e.symm
  have h2 := h.seen_le hx
  exact ⟨h1.1, by omega⟩
def covB (P : List Pw) (n : ByteArray) (i : Int) : Bool := P.any fun p => decide (p.n = n) && decide (p.i ≤ i) && decide (i < p.i + p.b.length)
def penB (P : List Pw) (n : ByteArray) : Bool := P.any fun p => decide (p.n = n)
section
variable {m : Mo} {fuel : Nat}
theorem f42_l0_is (hI : Iv m) (hP : m.P.length < 2 ^ 42) {name : ByteArray} {i : Int} {A a11 : List AV} {a3 a4 a5 a8 a9 : Int} {a10 : Bool} : ∀ (rest pre : List Pw) (f : Nat), m.P = pre ++ rest → rest.length < f →
    f42_l0 stdOps fuel m.P.length 0 (m.P.map qav) name i a8 A a3 a4 a5 a9 a10 a11 f pre.length = some (if covB rest name i then .x0 else .x1)
  | [], pre, f + 1, hp, hf => by
    rw [f42_l0]
    exact ifB_is_f (lss_f (by rw [hp]; simp)) rfl
  | p :: rest, pre, f + 1, hp, hf => by
    have hi : pre.length < m.P.length := by rw [hp]; simp
    obtain ⟨g1, g2, g3⟩ := get0 (f := qav) (l := m.P) (i := pre.length) (v := p) (by rw [hp]; simp)
    have hidx : stdOps.ar .add .i64 (pre.length : Int) 1 = ((pre ++ [p]).length : Int) := by rw [add1 (by omega)]; simp
    have hpm : p ∈ m.P := by rw [hp]; simp
    have hpi := hI.pi p hpm
    have hpb := hI.pb p hpm
    have ih := f42_l0_is hI hP (name := name) (i := i) (A := A) (a11 := a11) (a3 := a3) (a4 := a4) (a5 := a5) (a8 := a8) (a9 := a9) (a10 := a10) rest (pre ++ [p]) f (by simpa using hp) (by simp at hf; omega)
    have hadd : stdOps.ar .add .i64 p.i (stdOps.len p.b) = p.i + p.b.length := wr_i64 (by rw [len_is]; omega) (by rw [len_is]; omega)
    have hc : stdOps.pick (stdOps.pick (stdOps.seq p.n name) (stdOps.cmp .geq i p.i) false) (stdOps.cmp .lss i (p.i + p.b.length)) false = (decide (p.n = name) && decide (p.i ≤ i) && decide (i < p.i + p.b.length)) := by
      rw [seq_is]
      by_cases h1 : p.n = name <;> by_cases h2 : p.i ≤ i <;> by_cases h3 : i < p.i + p.b.length <;> simp [stdOps, h1, h2, h3]
    have hcov : covB (p :: rest) name i = ((decide (p.n = name) && decide (p.i ≤ i) && decide (i < p.i + p.b.length)) || covB rest name i) := rfl
    rw [f42_l0, hidx]
    refine ifB_is_t (lss_t hi) <| req_is g3 <| req_is g2 <| getA_is g1 ?_
    simp only [qav, sh158]
    rw [hadd, hc, hcov]
    by_cases h : (decide (p.n = name) && decide (p.i ≤ i) && decide (i < p.i + p.b.length)) = true
    · rw [h]; rfl
    · rw [Bool.not_eq_true] at h
      rw [h]
      exact ih
theorem f42_is (hI : Iv m) (hP : m.P.length < 2 ^ 42) (hf : m.P.length < fuel) {name : ByteArray} {i : Int} {A a11 : List AV} {a3 a4 a5 a8 a9 : Int} {a10 : Bool} :
    f42 stdOps fuel name i A a3 a4 a5 0 m.P.length a8 a9 a10 a11 (m.P.map qav) = some (.v0 (covB m.P name i)) := by
  unfold f42
  refine bindR_is (f42_l0_is hI hP m.P [] fuel rfl hf) ?_
  cases covB m.P name i <;> rfl
theorem f43_l0_is (hP : m.P.length < 2 ^ 42) {name : ByteArray} {A a10 : List AV} {a2 a3 a4 a7 a8 : Int} {a9 : Bool} : ∀ (rest pre : List Pw) (f : Nat), m.P = pre ++ rest → rest.length < f →
    f43_l0 stdOps fuel m.P.length 0 (m.P.map qav) name a7 A a2 a3 a4 a8 a9 a10 f pre.length = some (if penB rest name then .x0 else .x1)
  | [], pre, f + 1, hp, hf => by
    rw [f43_l0]
    exact ifB_is_f (lss_f (by rw [hp]; simp)) rfl
  | p :: rest, pre, f + 1, hp, hf => by
    have hi : pre.length < m.P.length := by rw [hp]; simp
    obtain ⟨g1, g2, g3⟩ := get0 (f := qav) (l := m.P) (i := pre.length) (v := p) (by rw [hp]; simp)
    have hidx : stdOps.ar .add .i64 (pre.length : Int) 1 = ((pre ++ [p]).length : Int) := by rw [add1 (by omega)]; simp
    have ih := f43_l0_is hP (name := name) (A := A) (a10 := a10) (a2 := a2) (a3 := a3) (a4 := a4) (a7 := a7) (a8 := a8) (a9 := a9) rest (pre ++ [p]) f (by simpa using hp) (by simp at hf; omega)
    have hpen : penB (p :: rest) name = (decide (p.n = name) || penB rest name) := rfl
    rw [f43_l0, hidx]
    refine ifB_is_t (lss_t hi) <| req_is g3 <| req_is g2 <| getA_is g1 ?_
    simp only [qav, sh158]
    rw [seq_is, hpen]
    by_cases h : p.n = name
    · rw [decide_eq_true h]; rfl
    · rw [decide_eq_false h]
      exact ih
theorem f43_is (hP : m.P.length < 2 ^ 42) (hf : m.P.length < fuel) {name : ByteArray} {A a10 : List AV} {a2 a3 a4 a7 a8 : Int} {a9 : Bool} :
    f43 stdOps fuel name A a2 a3 a4 0 m.P.length a7 a8 a9 a10 (m.P.map qav) = some (.v0 (penB m.P name)) := by
  unfold f43
  refine bindR_is (f43_l0_is hP m.P [] fuel rfl hf) ?_
  cases penB m.P name <;> rfl
def bav (g : ByteArray → List AV) (x : ByteArray) : AV × AV := (.str x, .sl 1 (g x) .no)
theorem find_b {g : ByteArray → List AV} {n : ByteArray} : ∀ {ns : List ByteArray}, n ∈ ns → stdOps.mfind (ns.map (bav g)) (.str n) = some (.sl 1 (g n) .no)
  | x :: ns, h => by
    show (if keq (.str n) (.str x) = true then some (.sl 1 (g x) .no) else stdOps.mfind (ns.map (bav g)) (.str n)) = _
    rw [keq_str]
    by_cases e : n = x
    · subst e; simp
    · rw [decide_eq_false e, if_neg (by simp)]
      exact find_b (by simpa [e] using h)
theorem put_b {g : ByteArray → List AV} {n : ByteArray} {b : List AV} : ∀ {ns : List ByteArray}, n ∉ ns → stdOps.mput (ns.map (bav g)) (.str n) (.sl 1 b .no) = ns.map (bav g) ++ [(.str n, .sl 1 b .no)]
  | [], _ => rfl
  | x :: ns, h => by
    show (if keq (.str n) (.str x) = true then _ else bav g x :: stdOps.mput (ns.map (bav g)) (.str n) (.sl 1 b .no)) = _
    rw [keq_str, decide_eq_false (fun e => h (by rw [e]; exact List.mem_cons_self)), if_neg (by simp), put_b fun hm => h (List.mem_cons_of_mem _ hm)]
    rfl
theorem mok_b {g : ByteArray → List AV} {ns : List ByteArray} : stdOps.mok false [.str] (ns.map (bav g)) := by
  intro x hx
  obtain ⟨y, _, rfl⟩ := List.mem_map.1 hx
  rfl
def Mo.again (m : Mo) (k t : Int) : Mo := (m.crash k t).2.start.2
theorem again_is (hd : m.down = false) {k t : Int} : m.again k t = ⟨m.L.map fun x => (x.1, seen (kept m.P k t) x.1 x.2), [], m.most, false⟩ ∧ (m.crash k t).1 = 0 ∧ (m.crash k t).2.start.1 = 0 := by
  have hc : m.crash k t = (0, ⟨m.L.map fun x => (x.1, seen (kept m.P k t) x.1 x.2), [], m.most, true⟩) := by
    unfold Mo.crash
    rw [if_neg (by simp [hd])]
  unfold Mo.again
  rw [hc]
  exact ⟨rfl, rfl, rfl⟩
theorem again_names (hd : m.down = false) {k t : Int} : (m.again k t).names = m.names := by
  rw [(again_is hd).1]
  unfold Mo.names
  rw [List.map_map]; rfl
theorem again_sure (hI : Iv m) (hd : m.down = false) {k t : Int} {a : ByteArray} (ha : a ∈ m.names) : (m.again k t).sure a = seen (kept m.P k t) a (m.sure a) := by
  have hn : (m.again k t).names.Nodup := by rw [again_names hd]; exact hI.nodup
  refine Mo.sure_of hn ?_
  rw [(again_is hd).1]
  exact List.mem_map.2 ⟨(a, m.sure a), Mo.mem_sure hI.nodup ha, rfl⟩
theorem sureR_of {a : ByteArray} (hd : m.down = false) (ha : a ∈ m.names) : m.fnd a = 0 ∧ m.sureR a = m.sure a := by
  have h : m.fnd a = 0 := by unfold Mo.fnd; rw [if_neg (by simp [hd]), if_pos ha]
  refine ⟨h, ?_⟩
  unfold Mo.sureR
  rw [if_neg (by simp [h])]
end
end Go.Proofs.Ytjdbmfipciadfaa.A
namespace Go.Proofs.Ytjdbmfipciadfaa.A
open Go Go.Pt
set_option maxHeartbeats 4000000
set_option maxRecDepth 100000
inductive F6R where
  | v0 (y0 : Bool) (y1 : List AV)
def F6R.av : F6R → AV
  | .v0 y0 _ => .bool y0
def F6R.hp : F6R → List Ent
  | .v0 _ y1 => [.fam 0 y1]
inductive F6L0 where
  | x0 (y0 : List AV) (y1 y2 y3 : Int) (y4 : List AV) (y5 y6 y7 : Int) (y8 : List AV)
noncomputable def f6_l0 (o : Ops) (fuel : Nat) (r55 : List AV) (r27 : Bool) (r56 : List (AV × AV)) (r43 : Bool) (r51 : List (AV × AV)) (a1 : List AV) (a2 a3 : Int) : Nat → Int → List AV → Int → Int → Int → List AV → Int → Int → Int → List AV → Option F6L0
  | 0, _, _, _, _, _, _, _, _, _, _ => none
  | n + 1, w70, w71, w72, w73, w74, w75, w76, w77, w78, w79 =>
    ifB (o.cmp .lss w70 (o.len r55))
    (req (o.inb w70 (o.len r55)) <|
     getA (o.get r55 w70) fun e => sh9 e fun v80 =>
     bindR (f33 o fuel v80 w71 4096 w72 w73 w74 r27 r56 w75) fun r => match r with
     | .v0 _ r82 r83 r84 r85 r86 => bindR (f33 o fuel v80 r82 4096 w76 w77 w78 r43 r51 w79) fun r => match r with
       | .v0 _ r88 r89 r90 r91 r92 => f6_l0 o fuel r55 r27 r56 r43 r51 a1 a2 a3 n (o.ar .add .i64 w70 1) r88 r83 r84 r85 r86 r89 r90 r91 r92)
    (some (.x0 w71 w72 w73 w74 w75 w76 w77 w78 w79))
theorem f6_l0_go {J : Jd} {n₀ : Nat} (hJ : J = std Try.prog n₀) {o : Ops} (hJo : J.o = o) {fuel : Nat} {r55 : List AV} {r27 : Bool} {r56 : List (AV × AV)} {r43 : Bool} {r51 : List (AV × AV)} {a1 : List AV} {a2 a3 : Int} {w70i : Int} {w71i : List AV} {w72i : Int} {w73i : Int} {w74i : Int} {w75i : List AV} {w76i : Int} {w77i : Int} {w78i : Int} {w79i : List AV} {α : Type} {k : F6L0 → Option α} {r : α} {c : Code} {Q : Ex → St → Prop} {s : St}
    (H : bindR (f6_l0 o fuel r55 r27 r56 r43 r51 a1 a2 a3 fuel w70i w71i w72i w73i w74i w75i w76i w77i w78i w79i) k = some r) (hn : n₀ ≤ 14) (hle : Le s ⟨[(59, .int .i64 w70i), (58, .int .i64 (o.len r55)), (57, .sl 1 r55 .no), (9, .ptr 8 0), (7, .ptr 2 0), (6, .int .u8 a3), (5, .int .u8 a2), (4, .sl 6 a1 .no)], [.fam 0 w71i, .dead, .var [.int .i64 4096, .mp 4, .vs 5 3 w72i w73i w74i, .bool r27], .dead, .mp r56, .vec 3 w75i, .dead, .dead, .var [.int .i64 4096, .mp 10, .vs 11 3 w76i w77i w78i, .bool r43], .dead, .mp r51, .vec 3 w79i, .dead, .dead], 203⟩)
    (round : ∀ X, k X = some r → ∀ (n : Nat) (w70 : Int) (w71 : List AV) (w72 : Int) (w73 : Int) (w74 : Int) (w75 : List AV) (w76 : Int) (w77 : Int) (w78 : Int) (w79 : List AV), f6_l0 o fuel r55 r27 r56 r43 r51 a1 a2 a3 (n + 1) w70 w71 w72 w73 w74 w75 w76 w77 w78 w79 = some X → ∀ N : St → Prop,
      (∀ (env : List (Nat × AV)) (w70' : Int) (w71' : List AV) (w72' : Int) (w73' : Int) (w74' : Int) (w75' : List AV) (w76' : Int) (w77' : Int) (w78' : Int) (w79' : List AV) (v : List Ent), f6_l0 o fuel r55 r27 r56 r43 r51 a1 a2 a3 n w70' w71' w72' w73' w74' w75' w76' w77' w78' w79' = some X → wkEnv env [(59, .int .i64 w70'), (58, .int .i64 (o.len r55)), (57, .sl 1 r55 .no), (9, .ptr 8 0), (7, .ptr 2 0), (6, .int .u8 a3), (5, .int .u8 a2), (4, .sl 6 a1 .no)] → N ⟨env, [.fam 0 w71', .dead, .var [.int .i64 4096, .mp 4, .vs 5 3 w72' w73' w74', .bool r27], .dead, .mp r56, .vec 3 w75', .dead, .dead, .var [.int .i64 4096, .mp 10, .vs 11 3 w76' w77' w78', .bool r43], .dead, .mp r51, .vec 3 w79', .dead, .dead] ++ v, 203⟩) → awp J tab c (thenQ N Q) ⟨[(59, .int .i64 w70), (58, .int .i64 (o.len r55)), (57, .sl 1 r55 .no), (9, .ptr 8 0), (7, .ptr 2 0), (6, .int .u8 a3), (5, .int .u8 a2), (4, .sl 6 a1 .no)], [.fam 0 w71, .dead, .var [.int .i64 4096, .mp 4, .vs 5 3 w72 w73 w74, .bool r27], .dead, .mp r56, .vec 3 w75, .dead, .dead, .var [.int .i64 4096, .mp 10, .vs 11 3 w76 w77 w78, .bool r43], .dead, .mp r51, .vec 3 w79, .dead, .dead], 203⟩) : J.code (.loop c) Q s := by
  subst hJo
  obtain ⟨X, hX, HX⟩ := bindR_go H
  refine loop_at (β := Nat × Int × List AV × Int × Int × Int × List AV × Int × Int × Int × List AV) hJ tab_ok (fun | (_, w70, w71, w72, w73, w74, w75, w76, w77, w78, w79) => ⟨[(59, .int .i64 w70), (58, .int .i64 (J.o.len r55)), (57, .sl 1 r55 .no), (9, .ptr 8 0), (7, .ptr 2 0), (6, .int .u8 a3), (5, .int .u8 a2), (4, .sl 6 a1 .no)], [.fam 0 w71, .dead, .var [.int .i64 4096, .mp 4, .vs 5 3 w72 w73 w74, .bool r27], .dead, .mp r56, .vec 3 w75, .dead, .dead, .var [.int .i64 4096, .mp 10, .vs 11 3 w76 w77 w78, .bool r43], .dead, .mp r51, .vec 3 w79, .dead, .dead], 203⟩) (fun | (n, w70, w71, w72, w73, w74, w75, w76, w77, w78, w79) => f6_l0 J.o fuel r55 r27 r56 r43 r51 a1 a2 a3 n w70 w71 w72 w73 w74 w75 w76 w77 w78 w79 = some X) (fun | (n, _, _, _, _, _, _, _, _, _, _) => n) (fuel, w70i, w71i, w72i, w73i, w74i, w75i, w76i, w77i, w78i, w79i) hX hle (by rintro ⟨_, _, _, _, _, _, _, _, _, _, _⟩; exact hn) ?_
  rintro ⟨n, w70, w71, w72, w73, w74, w75, w76, w77, w78, w79⟩ hb N hN
  rcases n with _ | n
  · exact none_go (show (none : Option F6L0) = some X from hb)
  exact round X HX n w70 w71 w72 w73 w74 w75 w76 w77 w78 w79 hb N fun env w70' w71' w72' w73' w74' w75' w76' w77' w78' w79' v h1 h2 => hN _ (n, w70', w71', w72', w73', w74', w75', w76', w77', w78', w79') h1 (Nat.lt_succ_self n) ⟨h2, by first | (cbv; done) | (cbv; repeat' (first | exact trivial | exact rfl | apply And.intro)), rfl, rfl⟩
inductive F6L1 where
  | x0 (y0 : List AV) (y1 : Nat) (y2 y3 y4 : Int) (y5 : List (AV × AV)) (y6 : List AV)
noncomputable def f6_l1 (o : Ops) (fuel : Nat) (a1 y93 : List AV) (r27 : Bool) (a2 a3 y98 y99 y100 : Int) (r43 : Bool) (r51 : List (AV × AV)) (y101 : List AV) : Nat → Nat → List AV → Int → Int → Int → Int → List (AV × AV) → List AV → Option F6L1
  | 0, _, _, _, _, _, _, _, _ => none
  | n + 1, w138, w139, w140, w141, w142, w143, w144, w145 =>
    ifB (o.cmp .lss w140 (o.len a1))
    (req (o.inb w140 (o.len a1)) <|
     getA (o.get a1 w140) fun e => sh71 e fun v146 v147 v148 v149 v150 v151 =>
     ifB (o.cmp .eql v146 1)
     (bindR (f34 o fuel v147 v149 v151 y93 4096 w141 w142 w143 r27 w144 w145) fun r => match r with
      | .v0 r152 r153 r154 r155 r156 r157 => ifB (o.pick (o.cmp .eql r152 0) (o.cmp .gtr (o.len v151) 0) false)
        (req (o.room w139 [.agg [.int .i64 v146, .str v147, .str v148, .int .i64 v149, .int .i64 v150, .sl 1 v151 .no]] 80) <|
         f6_l1 o fuel a1 y93 r27 a2 a3 y98 y99 y100 r43 r51 y101 n (o.padd w138 [.agg [.int .i64 v146, .str v147, .str v148, .int .i64 v149, .int .i64 v150, .sl 1 v151 .no]]) (o.apnd w139 [.agg [.int .i64 v146, .str v147, .str v148, .int .i64 v149, .int .i64 v150, .sl 1 v151 .no]]) (o.ar .add .i64 w140 1) r153 r154 r155 r156 r157)
        (f6_l1 o fuel a1 y93 r27 a2 a3 y98 y99 y100 r43 r51 y101 n w138 w139 (o.ar .add .i64 w140 1) r153 r154 r155 r156 r157))
     (f6_l1 o fuel a1 y93 r27 a2 a3 y98 y99 y100 r43 r51 y101 n w138 w139 (o.ar .add .i64 w140 1) w141 w142 w143 w144 w145))
    (some (.x0 w139 w138 w141 w142 w143 w144 w145))
theorem f6_l1_go {J : Jd} {n₀ : Nat} (hJ : J = std Try.prog n₀) {o : Ops} (hJo : J.o = o) {fuel : Nat} {a1 y93 : List AV} {r27 : Bool} {a2 a3 y98 y99 y100 : Int} {r43 : Bool} {r51 : List (AV × AV)} {y101 : List AV} {w138i : Nat} {w139i : List AV} {w140i : Int} {w141i : Int} {w142i : Int} {w143i : Int} {w144i : List (AV × AV)} {w145i : List AV} {α : Type} {k : F6L1 → Option α} {r : α} {c : Code} {Q : Ex → St → Prop} {s : St}
    (H : bindR (f6_l1 o fuel a1 y93 r27 a2 a3 y98 y99 y100 r43 r51 y101 fuel w138i w139i w140i w141i w142i w143i w144i w145i) k = some r) (hn : n₀ ≤ 8) (hle : Turn n₀ s ⟨[(72, .int .i64 w140i), (71, .int .i64 (o.len a1)), (70, .sl 6 a1 .no), (13, .sl 6 w139i (.tip 3 w138i)), (9, .ptr 2 0), (7, .ptr 1 0), (6, .int .u8 a3), (5, .int .u8 a2)], [.fam 0 y93, .var [.int .i64 4096, .mp 4, .vs 5 3 w141i w142i w143i, .bool r27], .var [.int .i64 4096, .mp 6, .vs 7 3 y98 y99 y100, .bool r43], .tip w138i, .mp w144i, .vec 3 w145i, .mp r51, .vec 3 y101], 203⟩)
    (round : ∀ X, k X = some r → ∀ (n : Nat) (w138 : Nat) (w139 : List AV) (w140 : Int) (w141 : Int) (w142 : Int) (w143 : Int) (w144 : List (AV × AV)) (w145 : List AV), f6_l1 o fuel a1 y93 r27 a2 a3 y98 y99 y100 r43 r51 y101 (n + 1) w138 w139 w140 w141 w142 w143 w144 w145 = some X → ∀ N : St → Prop,
      (∀ (s' : St) (w138' : Nat) (w139' : List AV) (w140' : Int) (w141' : Int) (w142' : Int) (w143' : Int) (w144' : List (AV × AV)) (w145' : List AV), f6_l1 o fuel a1 y93 r27 a2 a3 y98 y99 y100 r43 r51 y101 n w138' w139' w140' w141' w142' w143' w144' w145' = some X → Turn n₀ s' ⟨[(72, .int .i64 w140'), (71, .int .i64 (o.len a1)), (70, .sl 6 a1 .no), (13, .sl 6 w139' (.tip 3 w138')), (9, .ptr 2 0), (7, .ptr 1 0), (6, .int .u8 a3), (5, .int .u8 a2)], [.fam 0 y93, .var [.int .i64 4096, .mp 4, .vs 5 3 w141' w142' w143', .bool r27], .var [.int .i64 4096, .mp 6, .vs 7 3 y98 y99 y100, .bool r43], .tip w138', .mp w144', .vec 3 w145', .mp r51, .vec 3 y101], 203⟩ → N s') → awp J tab c (thenQ N Q) ⟨[(72, .int .i64 w140), (71, .int .i64 (o.len a1)), (70, .sl 6 a1 .no), (13, .sl 6 w139 (.tip 3 w138)), (9, .ptr 2 0), (7, .ptr 1 0), (6, .int .u8 a3), (5, .int .u8 a2)], [.fam 0 y93, .var [.int .i64 4096, .mp 4, .vs 5 3 w141 w142 w143, .bool r27], .var [.int .i64 4096, .mp 6, .vs 7 3 y98 y99 y100, .bool r43], .tip w138, .mp w144, .vec 3 w145, .mp r51, .vec 3 y101], 203⟩) : J.code (.loop c) Q s := by
  subst hJo
  obtain ⟨X, hX, HX⟩ := bindR_go H
  refine loop_turn_at (β := Nat × Nat × List AV × Int × Int × Int × Int × List (AV × AV) × List AV) hJ tab_ok (fun | (_, w138, w139, w140, w141, w142, w143, w144, w145) => ⟨[(72, .int .i64 w140), (71, .int .i64 (J.o.len a1)), (70, .sl 6 a1 .no), (13, .sl 6 w139 (.tip 3 w138)), (9, .ptr 2 0), (7, .ptr 1 0), (6, .int .u8 a3), (5, .int .u8 a2)], [.fam 0 y93, .var [.int .i64 4096, .mp 4, .vs 5 3 w141 w142 w143, .bool r27], .var [.int .i64 4096, .mp 6, .vs 7 3 y98 y99 y100, .bool r43], .tip w138, .mp w144, .vec 3 w145, .mp r51, .vec 3 y101], 203⟩) (fun | (n, w138, w139, w140, w141, w142, w143, w144, w145) => f6_l1 J.o fuel a1 y93 r27 a2 a3 y98 y99 y100 r43 r51 y101 n w138 w139 w140 w141 w142 w143 w144 w145 = some X) (fun | (n, _, _, _, _, _, _, _, _) => n) (fuel, w138i, w139i, w140i, w141i, w142i, w143i, w144i, w145i) hX hle (by rintro ⟨_, _, _, _, _, _, _, _, _⟩; exact hn) ?_
  rintro ⟨n, w138, w139, w140, w141, w142, w143, w144, w145⟩ hb N hN
  rcases n with _ | n
  · exact none_go (show (none : Option F6L1) = some X from hb)
  exact round X HX n w138 w139 w140 w141 w142 w143 w144 w145 hb N fun s' w138' w139' w140' w141' w142' w143' w144' w145' h1 h2 => hN s' (n, w138', w139', w140', w141', w142', w143', w144', w145') h1 (Nat.lt_succ_self n) h2
inductive F6L2 where
  | x0
  | x1 (y0 y1 y2 : Int) (y3 : List (AV × AV)) (y4 : List AV)
noncomputable def f6_l2 (o : Ops) (fuel : Nat) (y158 : List AV) (a2 a3 : Int) (r167 : List AV) (r43 : Bool) (y159 : Nat) (r168 r169 r170 : Int) (r174 : Bool) (y163 : List (AV × AV)) (r172 : List AV) : Nat → Int → Int → Int → Int → List (AV × AV) → List AV → Option F6L2
  | 0, _, _, _, _, _, _ => none
  | n + 1, w211, w212, w213, w214, w215, w216 =>
    ifB (o.cmp .lss w211 (o.len y158))
    (req (o.inb w211 (o.len y158)) <|
     getA (o.get y158 w211) fun e => sh71 e fun _ v218 _ v220 _ v222 =>
     ifB (o.cmp .eql w211 (o.ar .rem .i64 (o.wrap .i64 a2) (o.ar .add .i64 (o.len y158) 1)))
     (req (o.nz (o.ar .add .i64 (o.len v222) 1)) <|
      req (o.le 0 (o.ar .rem .i64 (o.wrap .i64 a3) (o.ar .add .i64 (o.len v222) 1))) <|
      req (o.le (o.ar .rem .i64 (o.wrap .i64 a3) (o.ar .add .i64 (o.len v222) 1)) (o.len v222)) <|
      ifB (o.cmp .leq w211 (o.ar .rem .i64 (o.wrap .i64 a2) (o.ar .add .i64 (o.len y158) 1)))
      (bindR (f34 o fuel v218 v220 (o.sub v222 0 (o.ar .rem .i64 (o.wrap .i64 a3) (o.ar .add .i64 (o.len v222) 1))) r167 4096 w212 w213 w214 r43 w215 w216) fun r => match r with
       | .v0 r223 r224 r225 r226 r227 r228 => ifB (o.bnot (o.cmp .eql r223 0))
         (some (.x0 ))
         (f6_l2 o fuel y158 a2 a3 r167 r43 y159 r168 r169 r170 r174 y163 r172 n (o.ar .add .i64 w211 1) r224 r225 r226 r227 r228))
      (f6_l2 o fuel y158 a2 a3 r167 r43 y159 r168 r169 r170 r174 y163 r172 n (o.ar .add .i64 w211 1) w212 w213 w214 w215 w216))
     (ifB (o.cmp .leq w211 (o.ar .rem .i64 (o.wrap .i64 a2) (o.ar .add .i64 (o.len y158) 1)))
      (bindR (f34 o fuel v218 v220 v222 r167 4096 w212 w213 w214 r43 w215 w216) fun r => match r with
       | .v0 r229 r230 r231 r232 r233 r234 => ifB (o.bnot (o.cmp .eql r229 0))
         (some (.x0 ))
         (f6_l2 o fuel y158 a2 a3 r167 r43 y159 r168 r169 r170 r174 y163 r172 n (o.ar .add .i64 w211 1) r230 r231 r232 r233 r234))
      (f6_l2 o fuel y158 a2 a3 r167 r43 y159 r168 r169 r170 r174 y163 r172 n (o.ar .add .i64 w211 1) w212 w213 w214 w215 w216)))
    (some (.x1 w212 w213 w214 w215 w216))
theorem f6_l2_go {J : Jd} {n₀ : Nat} (hJ : J = std Try.prog n₀) {o : Ops} (hJo : J.o = o) {fuel : Nat} {y158 : List AV} {a2 a3 : Int} {r167 : List AV} {r43 : Bool} {y159 : Nat} {r168 r169 r170 : Int} {r174 : Bool} {y163 : List (AV × AV)} {r172 : List AV} {w211i : Int} {w212i : Int} {w213i : Int} {w214i : Int} {w215i : List (AV × AV)} {w216i : List AV} {α : Type} {k : F6L2 → Option α} {r : α} {c : Code} {Q : Ex → St → Prop} {s : St}
    (H : bindR (f6_l2 o fuel y158 a2 a3 r167 r43 y159 r168 r169 r170 r174 y163 r172 fuel w211i w212i w213i w214i w215i w216i) k = some r) (hn : n₀ ≤ 8) (hle : Turn n₀ s ⟨[(125, .int .i64 w211i), (124, .int .i64 (o.len y158)), (123, .sl 6 y158 (.tip 3 y159)), (16, .int .i64 (o.ar .rem .i64 (o.wrap .i64 a2) (o.ar .add .i64 (o.len y158) 1))), (9, .ptr 2 0), (7, .ptr 1 0), (6, .int .u8 a3)], [.fam 0 r167, .var [.int .i64 4096, .mp 4, .vs 5 3 r168 r169 r170, .bool r174], .var [.int .i64 4096, .mp 6, .vs 7 3 w212i w213i w214i, .bool r43], .tip y159, .mp y163, .vec 3 r172, .mp w215i, .vec 3 w216i], 203⟩)
    (round : ∀ X, k X = some r → ∀ (n : Nat) (w211 : Int) (w212 : Int) (w213 : Int) (w214 : Int) (w215 : List (AV × AV)) (w216 : List AV), f6_l2 o fuel y158 a2 a3 r167 r43 y159 r168 r169 r170 r174 y163 r172 (n + 1) w211 w212 w213 w214 w215 w216 = some X → ∀ N : St → Prop,
      (∀ (s' : St) (w211' : Int) (w212' : Int) (w213' : Int) (w214' : Int) (w215' : List (AV × AV)) (w216' : List AV), f6_l2 o fuel y158 a2 a3 r167 r43 y159 r168 r169 r170 r174 y163 r172 n w211' w212' w213' w214' w215' w216' = some X → Turn n₀ s' ⟨[(125, .int .i64 w211'), (124, .int .i64 (o.len y158)), (123, .sl 6 y158 (.tip 3 y159)), (16, .int .i64 (o.ar .rem .i64 (o.wrap .i64 a2) (o.ar .add .i64 (o.len y158) 1))), (9, .ptr 2 0), (7, .ptr 1 0), (6, .int .u8 a3)], [.fam 0 r167, .var [.int .i64 4096, .mp 4, .vs 5 3 r168 r169 r170, .bool r174], .var [.int .i64 4096, .mp 6, .vs 7 3 w212' w213' w214', .bool r43], .tip y159, .mp y163, .vec 3 r172, .mp w215', .vec 3 w216'], 203⟩ → N s') → awp J tab c (thenQ N Q) ⟨[(125, .int .i64 w211), (124, .int .i64 (o.len y158)), (123, .sl 6 y158 (.tip 3 y159)), (16, .int .i64 (o.ar .rem .i64 (o.wrap .i64 a2) (o.ar .add .i64 (o.len y158) 1))), (9, .ptr 2 0), (7, .ptr 1 0), (6, .int .u8 a3)], [.fam 0 r167, .var [.int .i64 4096, .mp 4, .vs 5 3 r168 r169 r170, .bool r174], .var [.int .i64 4096, .mp 6, .vs 7 3 w212 w213 w214, .bool r43], .tip y159, .mp y163, .vec 3 r172, .mp w215, .vec 3 w216], 203⟩) : J.code (.loop c) Q s := by
  subst hJo
  obtain ⟨X, hX, HX⟩ := bindR_go H
  refine loop_turn_at (β := Nat × Int × Int × Int × Int × List (AV × AV) × List AV) hJ tab_ok (fun | (_, w211, w212, w213, w214, w215, w216) => ⟨[(125, .int .i64 w211), (124, .int .i64 (J.o.len y158)), (123, .sl 6 y158 (.tip 3 y159)), (16, .int .i64 (J.o.ar .rem .i64 (J.o.wrap .i64 a2) (J.o.ar .add .i64 (J.o.len y158) 1))), (9, .ptr 2 0), (7, .ptr 1 0), (6, .int .u8 a3)], [.fam 0 r167, .var [.int .i64 4096, .mp 4, .vs 5 3 r168 r169 r170, .bool r174], .var [.int .i64 4096, .mp 6, .vs 7 3 w212 w213 w214, .bool r43], .tip y159, .mp y163, .vec 3 r172, .mp w215, .vec 3 w216], 203⟩) (fun | (n, w211, w212, w213, w214, w215, w216) => f6_l2 J.o fuel y158 a2 a3 r167 r43 y159 r168 r169 r170 r174 y163 r172 n w211 w212 w213 w214 w215 w216 = some X) (fun | (n, _, _, _, _, _, _) => n) (fuel, w211i, w212i, w213i, w214i, w215i, w216i) hX hle (by rintro ⟨_, _, _, _, _, _, _⟩; exact hn) ?_
  rintro ⟨n, w211, w212, w213, w214, w215, w216⟩ hb N hN
  rcases n with _ | n
  · exact none_go (show (none : Option F6L2) = some X from hb)
  exact round X HX n w211 w212 w213 w214 w215 w216 hb N fun s' w211' w212' w213' w214' w215' w216' h1 h2 => hN s' (n, w211', w212', w213', w214', w215', w216') h1 (Nat.lt_succ_self n) h2
inductive F6L3 where
  | x0
  | x1
noncomputable def f6_l3 (o : Ops) (fuel : Nat) (r240 r167 : List AV) (r168 r169 r170 : Int) (r174 : Bool) (r241 : List (AV × AV)) (r172 : List AV) (y235 y236 y237 : Int) (r43 : Bool) (y238 : List (AV × AV)) (y239 : List AV) : Nat → Int → Option F6L3
  | 0, _ => none
  | n + 1, w252 =>
    ifB (o.cmp .lss w252 (o.len r240))
    (req (o.inb w252 (o.len r240)) <|
     getA (o.get r240 w252) fun e => sh9 e fun v253 =>
     bindR (f38 o fuel v253 r167 4096 r168 r169 r170 r174 r241 r172) fun r => match r with
     | .v0 r254 _ => bindR (f38 o fuel v253 r167 4096 y235 y236 y237 r43 y238 y239) fun r => match r with
       | .v0 r256 _ => bindR (f39 o fuel v253 0 r254 r167 4096 r168 r169 r170 r174 r241 r172) fun r => match r with
         | .v0 r258 r259 => bindR (f39 o fuel v253 0 r256 r167 4096 y235 y236 y237 r43 y238 y239) fun r => match r with
           | .v0 r260 r261 => ifB (o.pick (o.bnot (o.cmp .eql r259 0)) true (o.bnot (o.cmp .eql r261 0)))
             (some (.x0 ))
             (bindR (f40 o fuel r258 r260 r167) fun r => match r with
              | .v0 r262 => ifB (o.bnot r262)
                (some (.x0 ))
                (f6_l3 o fuel r240 r167 r168 r169 r170 r174 r241 r172 y235 y236 y237 r43 y238 y239 n (o.ar .add .i64 w252 1))))
    (some (.x1 ))
theorem f6_l3_go {J : Jd} {n₀ : Nat} (hJ : J = std Try.prog n₀) {o : Ops} (hJo : J.o = o) {fuel : Nat} {r240 r167 : List AV} {r168 r169 r170 : Int} {r174 : Bool} {r241 : List (AV × AV)} {r172 : List AV} {y235 y236 y237 : Int} {r43 : Bool} {y238 : List (AV × AV)} {y239 : List AV} {w252i : Int} {α : Type} {k : F6L3 → Option α} {r : α} {c : Code} {Q : Ex → St → Prop} {s : St}
    (H : bindR (f6_l3 o fuel r240 r167 r168 r169 r170 r174 r241 r172 y235 y236 y237 r43 y238 y239 fuel w252i) k = some r) (hn : n₀ ≤ 8) (hle : Le s ⟨[(160, .int .i64 w252i), (159, .int .i64 (o.len r240)), (158, .sl 1 r240 .no), (9, .ptr 2 0), (7, .ptr 1 0)], [.fam 0 r167, .var [.int .i64 4096, .mp 4, .vs 5 3 r168 r169 r170, .bool r174], .var [.int .i64 4096, .mp 6, .vs 7 3 y235 y236 y237, .bool r43], .dead, .mp r241, .vec 3 r172, .mp y238, .vec 3 y239], 203⟩)
    (round : ∀ X, k X = some r → ∀ (n : Nat) (w252 : Int), f6_l3 o fuel r240 r167 r168 r169 r170 r174 r241 r172 y235 y236 y237 r43 y238 y239 (n + 1) w252 = some X → ∀ N : St → Prop,
      (∀ (env : List (Nat × AV)) (w252' : Int) (v : List Ent), f6_l3 o fuel r240 r167 r168 r169 r170 r174 r241 r172 y235 y236 y237 r43 y238 y239 n w252' = some X → wkEnv env [(160, .int .i64 w252'), (159, .int .i64 (o.len r240)), (158, .sl 1 r240 .no), (9, .ptr 2 0), (7, .ptr 1 0)] → N ⟨env, [.fam 0 r167, .var [.int .i64 4096, .mp 4, .vs 5 3 r168 r169 r170, .bool r174], .var [.int .i64 4096, .mp 6, .vs 7 3 y235 y236 y237, .bool r43], .dead, .mp r241, .vec 3 r172, .mp y238, .vec 3 y239] ++ v, 203⟩) → awp J tab c (thenQ N Q) ⟨[(160, .int .i64 w252), (159, .int .i64 (o.len r240)), (158, .sl 1 r240 .no), (9, .ptr 2 0), (7, .ptr 1 0)], [.fam 0 r167, .var [.int .i64 4096, .mp 4, .vs 5 3 r168 r169 r170, .bool r174], .var [.int .i64 4096, .mp 6, .vs 7 3 y235 y236 y237, .bool r43], .dead, .mp r241, .vec 3 r172, .mp y238, .vec 3 y239], 203⟩) : J.code (.loop c) Q s := by
  subst hJo
  obtain ⟨X, hX, HX⟩ := bindR_go H
  refine loop_at (β := Nat × Int) hJ tab_ok (fun | (_, w252) => ⟨[(160, .int .i64 w252), (159, .int .i64 (J.o.len r240)), (158, .sl 1 r240 .no), (9, .ptr 2 0), (7, .ptr 1 0)], [.fam 0 r167, .var [.int .i64 4096, .mp 4, .vs 5 3 r168 r169 r170, .bool r174], .var [.int .i64 4096, .mp 6, .vs 7 3 y235 y236 y237, .bool r43], .dead, .mp r241, .vec 3 r172, .mp y238, .vec 3 y239], 203⟩) (fun | (n, w252) => f6_l3 J.o fuel r240 r167 r168 r169 r170 r174 r241 r172 y235 y236 y237 r43 y238 y239 n w252 = some X) (fun | (n, _) => n) (fuel, w252i) hX hle (by rintro ⟨_, _⟩; exact hn) ?_
  rintro ⟨n, w252⟩ hb N hN
  rcases n with _ | n
  · exact none_go (show (none : Option F6L3) = some X from hb)
  exact round X HX n w252 hb N fun env w252' v h1 h2 => hN _ (n, w252') h1 (Nat.lt_succ_self n) ⟨h2, by first | (cbv; done) | (cbv; repeat' (first | exact trivial | exact rfl | apply And.intro)), rfl, rfl⟩
noncomputable def f6 (o : Ops) (fuel : Nat) (a0 a1 : List AV) (a2 a3 : Int) (a4 : List AV) : Option F6R :=
  bindR (f30 o fuel a4) fun r => match r with
  | .v0 r5 r6 => ifB (o.bnot r5)
    (some (.v0 false r6))
    (bindR (f31 o fuel 4096 a0 r6) fun r => match r with
     | .v0  => bindR (f31 o fuel 4096 a0 r6) fun r => match r with
       | .v0  => some (.v0 false r6)
       | .v1 r7 _ _ _ _ _ _ _ _ _ _ _ _ _ _ _ => some (.v0 false r7)
     | .v1 r23 r24 r25 r26 r27 _ _ _ _ _ _ _ r35 r36 _ _ => bindR (f31 o fuel 4096 a0 r23) fun r => match r with
       | .v0  => some (.v0 false r23)
       | .v1 r39 r40 r41 r42 r43 _ _ _ _ _ _ _ r51 r52 _ _ => bindR (f32 o fuel r39 4096 r24 r25 r26 r27 r35 r36) fun r => match r with
         | .v0 r55 r56 => bindR (f6_l0 o fuel r55 r27 r56 r43 r51 a1 a2 a3 fuel 0 r39 r24 r25 r26 r36 r40 r41 r42 r52) fun r => match r with
           | .x0 y93 y94 y95 y96 y97 y98 y99 y100 y101 => bindR (f6_l1 o fuel a1 y93 r27 a2 a3 y98 y99 y100 r43 r51 y101 fuel 0 [] 0 y94 y95 y96 r56 y97) fun r => match r with
             | .x0 y158 y159 y160 y161 y162 y163 y164 => bindR (f35 o fuel y93 4096 y160 y161 y162 r27 y163 y164) fun r => match r with
               | .v0 r165 => ifB (o.bnot (o.cmp .eql r165 (o.len y158)))
                 (some (.v0 false y93))
                 (req (o.nz (o.ar .add .i64 (o.len y158) 1)) <|
                  bindR (f36 o fuel (o.ar .rem .i64 (o.wrap .i64 a2) (o.ar .add .i64 (o.len y158) 1)) (o.wrap .i64 a3) y93 4096 y160 y161 y162 r27 y163 y164) fun r => match r with
                  | .v0 r166 r167 r168 r169 r170 r171 r172 => ifB (o.bnot (o.cmp .eql r166 0))
                    (some (.v0 false r167))
                    (bindR (f37 o fuel r167 4096 r168 r169 r170 r171 y163 r172) fun r => match r with
                     | .v0 r173 r174 => ifB (o.bnot (o.cmp .eql r173 0))
                       (some (.v0 false r167))
                       (bindR (f6_l2 o fuel y158 a2 a3 r167 r43 y159 r168 r169 r170 r174 y163 r172 fuel 0 y98 y99 y100 r51 y101) fun r => match r with
                        | .x0  => some (.v0 false r167)
                        | .x1 y235 y236 y237 y238 y239 => bindR (f32 o fuel r167 4096 r168 r169 r170 r174 y163 r172) fun r => match r with
                          | .v0 r240 r241 => bindR (f6_l3 o fuel r240 r167 r168 r169 r170 r174 r241 r172 y235 y236 y237 r43 y238 y239 fuel 0) fun r => match r with
                            | .x0  => some (.v0 false r167)
                            | .x1  => some (.v0 true r167)))))
theorem f6_call (o : Ops) (ho : o = stdOps) (fuel : Nat) (a0 a1 : List AV) (a2 a3 : Int) (a4 : List AV) {R : F6R} (H : f6 o fuel a0 a1 a2 a3 a4 = some R) (K : AV → List Ent → Prop) (E : AV → List Ent → Prop) (h : K R.av R.hp) : CallA Try.prog 6 [.agg [.sl 6 a0 .no, .sl 6 a1 .no, .int .u8 a2, .int .u8 a3]] [.fam 0 a4] K E := by
  refine call_wk fun K' hK => ?_
  refine call_keep (n₀ := 1) tab_ok Try.func6 rfl rfl rfl rfl ?_
  intro J hJ
  obtain rfl : o = J.o := by rw [ho, hJ]; rfl
  unfold f6 at H
  cbv
  repeat' (first
    | ((with_reducible first | refine awp_go2 ?_ | refine aops_go2 ?_ | refine strip_go2 ?_); cbv)
    | with_reducible exact id
    | (cases H; replace H := HX3; clear HX3; (try dsimp only at H))
    | (cases H; replace H := HX2; clear HX2; (try dsimp only at H))
    | (cases H; replace H := HX1; clear HX1; (try dsimp only at H))
    | (cases H; replace H := HX0; clear HX0; (try dsimp only at H))
    | (refine KeepQ.mk [] (by decide) ?_; cbv; cases H; refine hK _ _ _ _ ?_ ?_ rfl h <;> cbv)
    | (refine hN0 _ _ _ _ _ _ _ _ _ _ _ _ H ?_; with_reducible refine wkEnv_go2 ?_; cbv)
    | (refine hN1 _ _ _ _ _ _ _ _ _ H (Turn.trans (Turn.pack [1, 2, 3, 4, 5, 6, 7] (by decide) (leN_t rfl)) (Turn.le ⟨?_, ?_, rfl, rfl⟩ (leN_t rfl))) <;> (cbv; (repeat' (first | exact trivial | exact rfl | apply And.intro)); done))
    | (refine hN1 _ _ _ _ _ _ _ _ _ H (Turn.trans (Turn.pack [1, 2, 3, 4, 9, 6, 7] (by decide) (leN_t rfl)) (Turn.le ⟨?_, ?_, rfl, rfl⟩ (leN_t rfl))) <;> (cbv; (repeat' (first | exact trivial | exact rfl | apply And.intro)); done))
    | (refine hN2 _ _ _ _ _ _ _ H (Turn.trans (Turn.pack [1, 2, 3, 4, 5, 6, 7] (by decide) (leN_t rfl)) (Turn.le ⟨?_, ?_, rfl, rfl⟩ (leN_t rfl))) <;> (cbv; (repeat' (first | exact trivial | exact rfl | apply And.intro)); done))
    | (refine hN2 _ _ _ _ _ _ _ H (Turn.trans (Turn.pack [1, 2, 3, 4, 5, 6, 9] (by decide) (leN_t rfl)) (Turn.le ⟨?_, ?_, rfl, rfl⟩ (leN_t rfl))) <;> (cbv; (repeat' (first | exact trivial | exact rfl | apply And.intro)); done))
    | (refine hN3 _ _ _ H ?_; with_reducible refine wkEnv_go2 ?_; cbv)
    | (first | refine known_t (kn_pick_t ho rfl rfl) ?_ | refine known_y (kn_pick_t ho rfl rfl) ?_)
    | (first | refine known_t (kn_pick_f ho rfl rfl) ?_ | refine known_y (kn_pick_f ho rfl rfl) ?_)
    | (first | refine known_f (kn_pick_f ho rfl rfl) ?_ | refine known_x (kn_pick_f ho rfl rfl) ?_)
    | (refine ifB_go H ?_ ?_ <;> clear H <;> intro hh H)
    | (refine ifB_og H ?_ ?_ <;> clear H <;> intro hh H)
    | (refine req_go H ?_; clear H; intro hh H)
    | (refine sh9_get H ?_; clear H; intro _ he H; cbv)
    | (refine sh71_get H ?_; clear H; intro _ _ _ _ _ _ he H; cbv)
    | (obtain ⟨R, hR, H2⟩ := bindR_go H; refine call_in hJ [0] (by decide) rfl rfl rfl (f31_call _ ho _ _ _ _ hR _ _ ?_); clear H hR; rcases R with ⟨⟩ | ⟨_, _, _, _, _, _, _, _, _, _, _, _, _, _, _, _⟩; all_goals (replace H := H2; clear H2; (try dsimp only at H); cbv))
    | (obtain ⟨R, hR, H2⟩ := bindR_go H; refine call_in hJ [0, 8, 10, 11] (by decide) rfl rfl rfl (f33_call _ ho _ _ _ _ _ _ _ _ _ _ hR _ _ ?_); clear H hR; rcases R with ⟨_, _, _, _, _, _⟩; all_goals (replace H := H2; clear H2; (try dsimp only at H); cbv))
    | (obtain ⟨R, hR, H2⟩ := bindR_go H; refine call_in hJ [0, 2, 4, 5] (by decide) rfl rfl rfl (f33_call _ ho _ _ _ _ _ _ _ _ _ _ hR _ _ ?_); clear H hR; rcases R with ⟨_, _, _, _, _, _⟩; all_goals (replace H := H2; clear H2; (try dsimp only at H); cbv))
    | (obtain ⟨R, hR, H2⟩ := bindR_go H; refine call_in hJ [0, 1, 4, 5] (by decide) rfl rfl rfl (f34_call _ ho _ _ _ _ _ _ _ _ _ _ _ _ hR _ _ ?_); clear H hR; rcases R with ⟨_, _, _, _, _, _⟩; all_goals (replace H := H2; clear H2; (try dsimp only at H); cbv))
    | (obtain ⟨R, hR, H2⟩ := bindR_go H; refine call_in hJ [0, 2, 6, 7] (by decide) rfl rfl rfl (f34_call _ ho _ _ _ _ _ _ _ _ _ _ _ _ hR _ _ ?_); clear H hR; rcases R with ⟨_, _, _, _, _, _⟩; all_goals (replace H := H2; clear H2; (try dsimp only at H); cbv))
    | (obtain ⟨R, hR, H2⟩ := bindR_go H; refine call_in hJ [0] (by decide) rfl rfl rfl (f40_call _ ho _ _ _ _ hR _ _ ?_); clear H hR; rcases R with ⟨_⟩; all_goals (replace H := H2; clear H2; (try dsimp only at H); cbv))
    | (obtain ⟨R, hR, H2⟩ := bindR_go H; refine call_in hJ [0, 2, 6, 7] (by decide) rfl rfl rfl (f39_call _ ho _ _ _ _ _ _ _ _ _ _ _ _ hR _ _ ?_); clear H hR; rcases R with ⟨_, _⟩; all_goals (replace H := H2; clear H2; (try dsimp only at H); cbv))
    | (obtain ⟨R, hR, H2⟩ := bindR_go H; refine call_in hJ [0, 1, 4, 5] (by decide) rfl rfl rfl (f39_call _ ho _ _ _ _ _ _ _ _ _ _ _ _ hR _ _ ?_); clear H hR; rcases R with ⟨_, _⟩; all_goals (replace H := H2; clear H2; (try dsimp only at H); cbv))
    | (obtain ⟨R, hR, H2⟩ := bindR_go H; refine call_in hJ [0, 2, 6, 7] (by decide) rfl rfl rfl (f38_call _ ho _ _ _ _ _ _ _ _ _ _ hR _ _ ?_); clear H hR; rcases R with ⟨_, _⟩; all_goals (replace H := H2; clear H2; (try dsimp only at H); cbv))
    | (obtain ⟨R, hR, H2⟩ := bindR_go H; refine call_in hJ [0, 1, 4, 5] (by decide) rfl rfl rfl (f38_call _ ho _ _ _ _ _ _ _ _ _ _ hR _ _ ?_); clear H hR; rcases R with ⟨_, _⟩; all_goals (replace H := H2; clear H2; (try dsimp only at H); cbv))
    | (obtain ⟨R, hR, H2⟩ := bindR_go H; refine call_in hJ [0, 1, 4, 5] (by decide) rfl rfl rfl (f32_call _ ho _ _ _ _ _ _ _ _ _ hR _ _ ?_); clear H hR; rcases R with ⟨_, _⟩; all_goals (replace H := H2; clear H2; (try dsimp only at H); cbv))
    | (obtain ⟨R, hR, H2⟩ := bindR_go H; refine call_in hJ [0, 1, 4, 8] (by decide) rfl rfl rfl (f37_call _ ho _ _ _ _ _ _ _ _ _ hR _ _ ?_); clear H hR; rcases R with ⟨_, _⟩; all_goals (replace H := H2; clear H2; (try dsimp only at H); cbv))
    | (obtain ⟨R, hR, H2⟩ := bindR_go H; refine call_in hJ [0, 1, 4, 5] (by decide) rfl rfl rfl (f36_call _ ho _ _ _ _ _ _ _ _ _ _ _ hR _ _ ?_); clear H hR; rcases R with ⟨_, _, _, _, _, _, _⟩; all_goals (replace H := H2; clear H2; (try dsimp only at H); cbv))
    | (obtain ⟨R, hR, H2⟩ := bindR_go H; refine call_in hJ [0, 1, 4, 5] (by decide) rfl rfl rfl (f35_call _ ho _ _ _ _ _ _ _ _ _ hR _ _ ?_); clear H hR; rcases R with ⟨_⟩; all_goals (replace H := H2; clear H2; (try dsimp only at H); cbv))
    | (obtain ⟨R, hR, H2⟩ := bindR_go H; refine call_in hJ [0, 2, 4, 5] (by decide) rfl rfl rfl (f32_call _ ho _ _ _ _ _ _ _ _ _ hR _ _ ?_); clear H hR; rcases R with ⟨_, _⟩; all_goals (replace H := H2; clear H2; (try dsimp only at H); cbv))
    | (obtain ⟨R, hR, H2⟩ := bindR_go H; refine call_in hJ [0] (by decide) rfl rfl rfl (f30_call _ ho _ _ hR _ _ ?_); clear H hR; rcases R with ⟨_, _⟩; all_goals (replace H := H2; clear H2; (try dsimp only at H); cbv))
    | (refine f6_l0_go hJ (o := J.o) rfl H (by decide) ⟨?_, ?_, rfl, rfl⟩ ?_
       · cbv; (repeat' (first | exact trivial | exact rfl | apply And.intro))
       · cbv; (repeat' (first | exact trivial | exact rfl | apply And.intro))
       clear H
       intro X0 HX0 n _ _ _ _ _ _ _ _ _ _ H Nx0 hN0
       rw [f6_l0] at H
       cbv)
    | (refine f6_l1_go hJ (o := J.o) rfl H (by decide) (Turn.trans (turn_nile 13 6 rfl (leN_t rfl)) (Turn.trans (Turn.pack [2, 8, 14, 4, 5, 10, 11] (by decide) (leN_t rfl)) (Turn.le ⟨?_, ?_, rfl, rfl⟩ (leN_t rfl)))) ?_
       · cbv; (repeat' (first | exact trivial | exact rfl | apply And.intro))
       · cbv; (repeat' (first | exact trivial | exact rfl | apply And.intro))
       clear H
       intro X1 HX1 n _ _ _ _ _ _ _ _ H Nx1 hN1
       rw [f6_l1] at H
       cbv)
    | (refine f6_l2_go hJ (o := J.o) rfl H (by decide) (Turn.trans (Turn.pack [1, 2, 3, 4, 8, 6, 7] (by decide) (leN_t rfl)) (Turn.le ⟨?_, ?_, rfl, rfl⟩ (leN_t rfl))) ?_
       · cbv; (repeat' (first | exact trivial | exact rfl | apply And.intro))
       · cbv; (repeat' (first | exact trivial | exact rfl | apply And.intro))
       clear H
       intro X2 HX2 n _ _ _ _ _ _ H Nx2 hN2
       rw [f6_l2] at H
       cbv)
    | (refine f6_l3_go hJ (o := J.o) rfl H (by decide) ⟨?_, ?_, rfl, rfl⟩ ?_
       · cbv; (repeat' (first | exact trivial | exact rfl | apply And.intro))
       · cbv; (repeat' (first | exact trivial | exact rfl | apply And.intro))
       clear H
       intro X3 HX3 n _ H Nx3 hN3
       rw [f6_l3] at H
       cbv)
    | with_reducible refine And.intro ?_ ?_
    | (intro _; assumption)
    | (intro _; clear H h; (try clear hN0); (try clear HX0); (try clear hN1); (try clear HX1); (try clear hN2); (try clear HX2); (try clear hN3); (try clear HX3); simp only [ho, stdOps] at *; simp_all))
end Go.Proofs.Ytjdbmfipciadfaa.A
namespace Go.Proofs.Ytjdbmfipciadfaa.A
open Go Go.Pt
section
variable {fs : List (List AV)} {κ κ' : ByteArray → Nat} {m : Mo} {lo n N lo' n' N' : Int} {es es' : List (AV × AV)} {row row' : List AV} {fuel : Nat}
def Apart (κ κ' : ByteArray → Nat) (m : Mo) : Prop := ∀ k, Ids κ m k → ¬ Ids κ' m k
theorem Apart.symm (h : Apart κ κ' m) : Apart κ' κ m := fun k h1 h2 => h k h2 h1
theorem Apart.names {m' : Mo} (h : Apart κ κ' m) (e : m'.names = m.names) : Apart κ κ' m' := fun k ⟨a, ha, h1⟩ ⟨b, hb, h2⟩ => h k ⟨a, e ▸ ha, h1⟩ ⟨b, e ▸ hb, h2⟩
theorem sync_names {name : ByteArray} : (m.sync name).2.names = m.names := by
  unfold Mo.sync
  split
  · rfl
  · exact names_set
theorem sync_P (hd : m.down = false) {name : ByteArray} (hn : name ∈ m.names) : (m.sync name).2.P = dropP name m.P ∧ (m.sync name).2.down = false ∧ (m.sync name).2.most = m.most := by
  have h0 := (sureR_of hd hn).1
  unfold Mo.sync
  rw [if_neg (by simp [h0])]
  exact ⟨rfl, hd, rfl⟩
theorem f6_l0_is {l : List ByteArray} (hll : l.length < 2 ^ 42) {a1 : List AV} {a2 a3 : Int} : ∀ (rest pre : List ByteArray) (f : Nat) (fs : List (List AV)) (m : Mo) (lo n N lo' n' N' : Int) (row row' : List AV), l = pre ++ rest → rest.length < f →
    Jv m → m.down = false → l = m.names → (∀ p ∈ m.P, p.n ∉ pre) → m.P.length < 2 ^ 42 → m.P.length < fuel → Rs fs κ m lo n N es row → Rs fs κ' m lo' n' N' es' row' → Apart κ κ' m →
    ∃ fs1 m1 lo1 n1 N1 row1 lo2 n2 N2 row2, f6_l0 stdOps fuel (l.map nav) m.down es m.down es' a1 a2 a3 f pre.length (fs.map fav) lo n N row lo' n' N' row' = some (.x0 (fs1.map fav) lo1 n1 N1 row1 lo2 n2 N2 row2) ∧
      Jv m1 ∧ m1.down = false ∧ l = m1.names ∧ m1.P = [] ∧ m1.most = m.most ∧ Rs fs1 κ m1 lo1 n1 N1 es row1 ∧ Rs fs1 κ' m1 lo2 n2 N2 es' row2 ∧ Apart κ κ' m1
  | [], pre, f + 1, fs, m, lo, n, N, lo', n', N', row, row', hp, hf, hJ, hd, hl, hP, hP2, hPf, h, h', ha => by
    rw [List.append_nil] at hp
    refine ⟨fs, m, lo, n, N, row, lo', n', N', row', ?_, hJ, hd, hl, ?_, rfl, h, h', ha⟩
    · rw [f6_l0, len_is, List.length_map]
      exact ifB_is_f (lss_f (by rw [hp]; simp)) rfl
    · cases hPe : m.P with
      | nil => rfl
      | cons p P =>
        have hpm : p ∈ m.P := by rw [hPe]; exact List.mem_cons_self
        exact absurd (hJ.pn p hpm) (by rw [← hl, hp]; exact hP p hpm)
  | x :: rest, pre, f + 1, fs, m, lo, n, N, lo', n', N', row, row', hp, hf, hJ, hd, hl, hP, hP2, hPf, h, h', ha => by
    have hi : pre.length < l.length := by rw [hp]; simp
    have hg : stdOps.get (l.map nav) (pre.length : Int) = some (nav x) := by simp [stdOps, hp]
    have hidx : stdOps.ar .add .i64 (pre.length : Int) 1 = ((pre ++ [x]).length : Int) := by rw [add1 (by omega)]; simp
    have hx : x ∈ m.names := by rw [← hl, hp]; simp
    obtain ⟨fsa, loa, na, Na, rowa, a1', a2', a3'⟩ := f33_is hJ.toIv h hP2 (name := x) hPf (most := 4096)
    have hta := h'.frame a3' ha.symm
    obtain ⟨fsb, lob, nb, Nb, rowb, b1', b2', b3'⟩ := f33_is hJ.toIv hta hP2 (name := x) hPf (most := 4096)
    have hn1 := sync_names (m := m) (name := x)
    have hsb := a2'.frame b3' fun k ⟨a, h1, h2⟩ => ha k ⟨a, hn1 ▸ h1, h2⟩
    obtain ⟨e1, e2, e3⟩ := sync_P hd hx
    obtain ⟨fs1, m1, lo1, n1, N1, row1, lo2, n2, N2, row2, i1, i2, i3, i4, i5, i6, i7, i8, i9⟩ := f6_l0_is hll (a1 := a1) (a2 := a2) (a3 := a3) rest (pre ++ [x]) f fsb (m.sync x).2 loa na Na lob nb Nb rowa rowb (by simpa using hp) (by simp at hf; omega)
      (jv_sync hJ) e2 (hl.trans hn1.symm) (fun p hp => by
        rw [e1] at hp
        rw [List.mem_append, List.mem_singleton]
        rintro (h1 | h1)
        · exact hP p ((List.mem_filter.1 hp).1) h1
        · exact drop_none p hp h1) (by rw [e1]; exact Nat.lt_of_le_of_lt (List.length_filter_le _ _) hP2) (by rw [e1]; exact Nat.lt_of_le_of_lt (List.length_filter_le _ _) hPf) hsb b2' (ha.names hn1)
    refine ⟨fs1, m1, lo1, n1, N1, row1, lo2, n2, N2, row2, ?_, i2, i3, i4, i5, i6.trans e3, i7, i8, i9⟩
    rw [e2] at i1
    rw [hd] at a1' b1' ⊢
    rw [f6_l0, len_is, List.length_map, hidx]
    refine ifB_is_t (lss_t hi) <| req_is (show (0 : Int) ≤ pre.length ∧ (pre.length : Int) < l.length by omega) <| getA_is hg ?_
    simp only [nav, sh9]
    exact bindR_is a1' <| bindR_is b1' i1
def Sop.pw (o : Sop) : Pw := ⟨o.n, o.i, o.b⟩
def Mo.on (m : Mo) (P : List Pw) : Mo := ⟨m.L, P, m.most, m.down⟩
def Taken (m : Mo) (W : List Sop) : Prop := ∀ A o C, W = A ++ o :: C → (m.on (A.map Sop.pw)).write o.n o.i o.b = (0, m.on (A.map Sop.pw ++ [o.pw])) ∧ o.b ≠ [] ∧ o.Ok
theorem write_or {name : ByteArray} {i : Int} {b : List AV} : ((m.write name i b).1 = 0 ∧ 0 < b.length → m.write name i b = (0, ⟨m.L, m.P ++ [⟨name, i, b⟩], m.most, m.down⟩)) ∧ (¬ ((m.write name i b).1 = 0 ∧ 0 < b.length) → (m.write name i b).2 = m) := by
  unfold Mo.write
  split
  · rename_i h0
    exact ⟨fun h => absurd h.1 h0, fun _ => rfl⟩
  · split
    · exact ⟨fun h => absurd (show (33 : Int) = 0 from h.1) (by decide), fun _ => rfl⟩
    · split
      · exact ⟨fun h => absurd (show (30 : Int) = 0 from h.1) (by decide), fun _ => rfl⟩
      · split
        · rename_i hb
          exact ⟨fun h => by rw [hb] at h; exact absurd h.2 (by decide), fun _ => rfl⟩
        · rename_i hb
          exact ⟨fun _ => rfl, fun h => absurd ⟨rfl, List.length_pos_iff.2 hb⟩ h⟩
theorem write_less {name : ByteArray} {i : Int} {b c : List AV} (h : (m.write name i b).1 = 0) (hc : c.length ≤ b.length) : m.write name i c = (0, if c = [] then m else ⟨m.L, m.P ++ [⟨name, i, c⟩], m.most, m.down⟩) := by
  unfold Mo.write at h ⊢
  split at h
  · rename_i h0; exact absurd h h0
  · rename_i h0
    rw [if_neg h0]
    split at h
    · exact absurd (show (33 : Int) = 0 from h) (by decide)
    · rename_i h1
      rw [if_neg h1]
      split at h
      · exact absurd (show (30 : Int) = 0 from h) (by decide)
      · rename_i h2
        rw [if_neg (by omega)]
        split <;> rfl
theorem taken_snoc {W : List Sop} {o : Sop} (h : Taken m W) (hw : (m.on (W.map Sop.pw)).write o.n o.i o.b = (0, m.on (W.map Sop.pw ++ [o.pw]))) (hb : o.b ≠ []) (ho : o.Ok) : Taken m (W ++ [o]) := by
  intro A p C e
  rcases List.eq_nil_or_concat C with rfl | ⟨D, q, rfl⟩
  · obtain ⟨rfl, h2⟩ := List.append_inj' e rfl
    simp only [List.cons.injEq, and_true] at h2
    subst h2
    exact ⟨hw, hb, ho⟩
  · rw [List.concat_eq_append, show A ++ p :: (D ++ [q]) = (A ++ p :: D) ++ [q] by simp] at e
    obtain ⟨h1, _⟩ := List.append_inj' e rfl
    exact h A p D h1
theorem on_P {P : List Pw} : (m.on P).P = P := rfl
theorem f6_l1_is {l : List Sop} (hl : ∀ o ∈ l, o.Ok) (hll : (l.length + 1) * 80 ≤ 2 ^ 47) (hf0 : 5000 < fuel) (hf1 : l.length < fuel) {r27 r43 : Bool} {a2 a3 y98 y99 y100 : Int} {r51 : List (AV × AV)} {y101 : List AV} (hm : m.most = 4096) (hd : r27 = m.down) : ∀ (rest pre : List Sop) (f t : Nat) (W : List Sop) (lo n N : Int) (row : List AV), l = pre ++ rest → rest.length < f → W.length ≤ pre.length → Taken m W →
    Jv (m.on (W.map Sop.pw)) → Rs fs κ (m.on (W.map Sop.pw)) lo n N es row →
    ∃ W1 t1 lo1 n1 N1 row1, f6_l1 stdOps fuel (l.map Sop.av) (fs.map fav) r27 a2 a3 y98 y99 y100 r43 r51 y101 f t (W.map Sop.av) pre.length lo n N es row = some (.x0 (W1.map Sop.av) t1 lo1 n1 N1 es row1) ∧
      W1.length ≤ l.length ∧ Taken m W1 ∧ Jv (m.on (W1.map Sop.pw)) ∧ Rs fs κ (m.on (W1.map Sop.pw)) lo1 n1 N1 es row1
  | [], pre, f + 1, t, W, lo, n, N, row, hp, hf, hW, hT, hJ, h => by
    rw [List.append_nil] at hp
    refine ⟨W, t, lo, n, N, row, ?_, by rw [hp]; exact hW, hT, hJ, h⟩
    rw [f6_l1, len_is, List.length_map]
    exact ifB_is_f (lss_f (by rw [hp]; simp)) rfl
  | o :: rest, pre, f + 1, t, W, lo, n, N, row, hp, hf, hW, hT, hJ, h => by
    have hi : pre.length < l.length := by rw [hp]; simp
    obtain ⟨g1, g2, g3⟩ := gSop (l := l) (i := pre.length) (o := o) (by rw [hp]; simp)
    have ho := hl o (by rw [hp]; simp)
    have hidx : stdOps.ar .add .i64 (pre.length : Int) 1 = ((pre ++ [o]).length : Int) := by rw [add1 (by omega)]; simp
    have hWl : (m.on (W.map Sop.pw)).P.length = W.length := by rw [on_P, List.length_map]
    subst hd
    by_cases hw : o.d = 1
    · obtain ⟨lo1, n1, N1, row1, q1, q2⟩ := f34_is hJ.toIv h (by rw [hWl]; omega) (name := o.n) (i := o.i) (b := o.b) ho.len (fuel := fuel) (by rw [hWl]; omega) hf0
      obtain ⟨w1, w2⟩ := write_or (m := m.on (W.map Sop.pw)) (name := o.n) (i := o.i) (b := o.b)
      have hpick : stdOps.pick (stdOps.cmp .eql ((m.on (W.map Sop.pw)).write o.n o.i o.b).1 0) (stdOps.cmp .gtr (stdOps.len o.b) 0) false = decide (((m.on (W.map Sop.pw)).write o.n o.i o.b).1 = 0 ∧ 0 < o.b.length) := by
        rw [eql_is, len_is]
        by_cases h1 : ((m.on (W.map Sop.pw)).write o.n o.i o.b).1 = 0 <;> by_cases h2 : 0 < o.b.length <;> simp [stdOps, h1, h2]
      have q1' : f34 stdOps fuel o.n o.i o.b (fs.map fav) 4096 lo n N m.down es row = some (.v0 ((m.on (W.map Sop.pw)).write o.n o.i o.b).1 lo1 n1 N1 es row1) := by rw [← hm]; exact q1
      by_cases hacc : ((m.on (W.map Sop.pw)).write o.n o.i o.b).1 = 0 ∧ 0 < o.b.length
      · have hwe := w1 hacc
        have hst : ((m.on (W.map Sop.pw)).write o.n o.i o.b).2 = m.on ((W ++ [o]).map Sop.pw) := by
          rw [hwe, List.map_append]; rfl
        have hJ2 := jv_write hJ (name := o.n) (i := o.i) ho.b
        rw [hst] at q2 hJ2
        obtain ⟨W1, t1, lo2, n2, N2, row2, i1, i2⟩ := f6_l1_is hl hll hf0 hf1 hm rfl (r43 := r43) (a2 := a2) (a3 := a3) (y98 := y98) (y99 := y99) (y100 := y100) (r51 := r51) (y101 := y101) rest (pre ++ [o]) f (stdOps.padd t [o.av]) (W ++ [o]) lo1 n1 N1 row1 (by simpa using hp) (by simp at hf; omega) (by simp; omega)
          (taken_snoc hT (by rw [hwe]; rfl) (List.length_pos_iff.1 hacc.2) ho) hJ2 q2
        refine ⟨W1, t1, lo2, n2, N2, row2, ?_, i2⟩
        rw [f6_l1, hidx]
        refine ifB_is_t g3 <| req_is g2 <| getA_is g1 ?_
        simp only [Sop.av, sh71]
        refine ifB_is_t (by rw [hw]; rfl) <| bindR_is q1' <| ifB_is_t (by rw [hpick, decide_eq_true hacc]) <| req_is (room_ok (by rw [List.length_map]; simp; omega)) ?_
        have e : stdOps.apnd (W.map Sop.av) [o.av] = (W ++ [o]).map Sop.av := by rw [List.map_append]; rfl
        rw [← e] at i1
        exact i1
      · have hst := w2 hacc
        rw [hst] at q2
        obtain ⟨W1, t1, lo2, n2, N2, row2, i1, i2⟩ := f6_l1_is hl hll hf0 hf1 hm rfl (r43 := r43) (a2 := a2) (a3 := a3) (y98 := y98) (y99 := y99) (y100 := y100) (r51 := r51) (y101 := y101) rest (pre ++ [o]) f t W lo1 n1 N1 row1 (by simpa using hp) (by simp at hf; omega) (by simp; omega) hT hJ q2
        refine ⟨W1, t1, lo2, n2, N2, row2, ?_, i2⟩
        rw [f6_l1, hidx]
        refine ifB_is_t g3 <| req_is g2 <| getA_is g1 ?_
        simp only [Sop.av, sh71]
        exact ifB_is_t (by rw [hw]; rfl) <| bindR_is q1' <| ifB_is_f (by rw [hpick, decide_eq_false hacc]) i1
    · obtain ⟨W1, t1, lo2, n2, N2, row2, i1, i2⟩ := f6_l1_is hl hll hf0 hf1 hm rfl (r43 := r43) (a2 := a2) (a3 := a3) (y98 := y98) (y99 := y99) (y100 := y100) (r51 := r51) (y101 := y101) rest (pre ++ [o]) f t W lo n N row (by simpa using hp) (by simp at hf; omega) (by simp; omega) hT hJ h
      refine ⟨W1, t1, lo2, n2, N2, row2, ?_, i2⟩
      rw [f6_l1, hidx]
      refine ifB_is_t g3 <| req_is g2 <| getA_is g1 ?_
      simp only [Sop.av, sh71]
      exact ifB_is_f (by rw [eql_is, decide_eq_false hw]) i1
end
end Go.Proofs.Ytjdbmfipciadfaa.A
