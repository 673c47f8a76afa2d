/- Stores: an operation done with both; many of them. -/import Derived.Test.YtjdbmfipciadfaaSpI
namespace Go.Proofs.Ytjdbmfipciadfaa.A
open Go Go.Pt
structure Sop where
  d : Int
  n : ByteArray
  to : ByteArray
  i : Int
  k : Int
  b : List AV
def Sop.av (o : Sop) : AV := .agg [.int .i64 o.d, .str o.n, .str o.to, .int .i64 o.i, .int .i64 o.k, .sl 1 o.b .no]
structure Sop.Ok (o : Sop) : Prop where
  i : -9223372036854775808 ≤ o.i ∧ o.i ≤ 9223372036854775807
  k : -9223372036854775808 ≤ o.k ∧ o.k ≤ 9223372036854775807
  b : isB o.b
  len : o.b.length ≤ 2 ^ 47
def doE (m : Mo) (o : Sop) : Int × Mo :=
  if o.d = 0 then m.create o.n else if o.d = 1 then m.write o.n o.i o.b else if o.d = 2 then m.cut o.n o.i else if o.d = 3 then m.sync o.n else if o.d = 4 then m.rename o.n o.to
  else if o.d = 5 then m.remove o.n else if o.d = 6 then m.crash o.i o.k else if o.d = 7 then m.start else (0, m)
def doM (m : Mo) (o : Sop) : Mo := (doE m o).2
section
variable {m : Mo}
theorem create_keep {name : ByteArray} : (m.create name).2.P = m.P ∧ (m.create name).2.most = m.most ∧ (m.create name).2.down = m.down := by
  unfold Mo.create
  split
  · exact ⟨rfl, rfl, rfl⟩
  · split
    · exact ⟨rfl, rfl, rfl⟩
    · split <;> exact ⟨rfl, rfl, rfl⟩
theorem write_keep {name : ByteArray} {i : Int} {b : List AV} : (m.write name i b).2.L = m.L ∧ (m.write name i b).2.most = m.most ∧ (m.write name i b).2.down = m.down ∧ (m.write name i b).2.P.length ≤ m.P.length + 1 := by
  unfold Mo.write
  split
  · exact ⟨rfl, rfl, rfl, by simp⟩
  · split
    · exact ⟨rfl, rfl, rfl, by simp⟩
    · split
      · exact ⟨rfl, rfl, rfl, by simp⟩
      · split
        · exact ⟨rfl, rfl, rfl, by simp⟩
        · exact ⟨rfl, rfl, rfl, by simp⟩
theorem sync_keep {name : ByteArray} : (m.sync name).2.most = m.most ∧ (m.sync name).2.down = m.down ∧ (m.sync name).2.P.length ≤ m.P.length + 1 := by
  unfold Mo.sync
  split
  · exact ⟨rfl, rfl, by simp⟩
  · exact ⟨rfl, rfl, Nat.le_succ_of_le (List.length_filter_le _ _)⟩
theorem cut_keep {name : ByteArray} {i : Int} : (m.cut name i).2.most = m.most ∧ (m.cut name i).2.down = m.down ∧ (m.cut name i).2.P.length ≤ m.P.length + 1 := by
  unfold Mo.cut
  split
  · exact ⟨rfl, rfl, by simp⟩
  · split
    · exact ⟨rfl, rfl, by simp⟩
    · exact ⟨rfl, rfl, Nat.le_succ_of_le (List.length_filter_le _ _)⟩
theorem remove_keep {name : ByteArray} : (m.remove name).2.most = m.most ∧ (m.remove name).2.down = m.down ∧ (m.remove name).2.P.length ≤ m.P.length + 1 := by
  unfold Mo.remove
  split
  · exact ⟨rfl, rfl, by simp⟩
  · exact ⟨rfl, rfl, Nat.le_succ_of_le (List.length_filter_le _ _)⟩
theorem rename_keep {name to : ByteArray} : (m.rename name to).2.most = m.most ∧ (m.rename name to).2.down = m.down ∧ (m.rename name to).2.P.length ≤ m.P.length + 1 := by
  unfold Mo.rename
  split
  · exact ⟨rfl, rfl, by simp⟩
  · split
    · exact ⟨rfl, rfl, by simp⟩
    · split
      · exact ⟨rfl, rfl, by simp⟩
      · refine ⟨rfl, rfl, ?_⟩
        show (renP name to (dropP to m.P)).length ≤ _
        unfold renP
        rw [List.length_map]
        exact Nat.le_succ_of_le (List.length_filter_le _ _)
theorem crash_keep {keep torn : Int} : (m.crash keep torn).2.most = m.most ∧ (m.crash keep torn).2.P.length ≤ m.P.length + 1 := by
  unfold Mo.crash
  split
  · exact ⟨rfl, by simp⟩
  · exact ⟨rfl, by simp⟩
theorem start_keep : m.start.2.most = m.most ∧ m.start.2.L = m.L ∧ m.start.2.P = m.P := by
  unfold Mo.start
  split <;> exact ⟨rfl, rfl, rfl⟩
theorem doM_keep {o : Sop} : (doM m o).most = m.most ∧ (doM m o).P.length ≤ m.P.length + 1 ∧ (o.d ≠ 6 → o.d ≠ 7 → (doM m o).down = m.down) := by
  unfold doM doE
  split
  · have := create_keep (m := m) (name := o.n)
    exact ⟨this.2.1, by rw [this.1]; omega, fun _ _ => this.2.2⟩
  · split
    · have := write_keep (m := m) (name := o.n) (i := o.i) (b := o.b)
      exact ⟨this.2.1, this.2.2.2, fun _ _ => this.2.2.1⟩
    · split
      · have := cut_keep (m := m) (name := o.n) (i := o.i)
        exact ⟨this.1, this.2.2, fun _ _ => this.2.1⟩
      · split
        · have := sync_keep (m := m) (name := o.n)
          exact ⟨this.1, this.2.2, fun _ _ => this.2.1⟩
        · split
          · have := rename_keep (m := m) (name := o.n) (to := o.to)
            exact ⟨this.1, this.2.2, fun _ _ => this.2.1⟩
          · split
            · have := remove_keep (m := m) (name := o.n)
              exact ⟨this.1, this.2.2, fun _ _ => this.2.1⟩
            · split
              · rename_i h6
                have := crash_keep (m := m) (keep := o.i) (torn := o.k)
                exact ⟨this.1, this.2, fun h => absurd h6 h⟩
              · split
                · rename_i h7
                  have := start_keep (m := m)
                  exact ⟨this.1, by rw [this.2.2]; omega, fun _ h => absurd h7 h⟩
                · exact ⟨rfl, by simp, fun _ _ => rfl⟩
theorem jv_do (h : Jv m) {o : Sop} (ho : o.Ok) : Jv (doM m o) := by
  unfold doM doE
  split
  · exact jv_create h
  · split
    · exact jv_write h ho.b
    · split
      · exact jv_cut h
      · split
        · exact jv_sync h
        · split
          · exact jv_rename h
          · split
            · exact jv_remove h
            · split
              · exact jv_crash h
              · split
                · exact jv_start h
                · exact h
end
section
variable {fs : List (List AV)} {κ : ByteArray → Nat} {m : Mo} {lo n N : Int} {es : List (AV × AV)} {row : List AV} {fuel : Nat}
theorem eql_self (e : Int) : stdOps.cmp .eql e e = true := by rw [eql_is]; simp
theorem f51_is (hJ : Jv m) (h : Rs fs κ m lo n N es row) (hP : (m.P.length + 1) * 48 ≤ 2 ^ 47) (hf : 5000 < fuel) (hf2 : m.P.length < fuel) {o : Sop} (ho : o.Ok) :
    ∃ fs' κ' lo' n' N' es' row', f51 stdOps fuel o.d o.n o.to o.i o.k o.b (fs.map fav) m.most lo n N m.down 0 m.L.length m.L.length 0 m.P.length m.P.length m.most m.down es row (m.L.map lav) (m.P.map qav) =
      some (.v0 true (fs'.map fav) lo' n' N' (doM m o).down 0 (doM m o).L.length (doM m o).L.length 0 (doM m o).P.length (doM m o).P.length (doM m o).down es' row' ((doM m o).L.map lav) ((doM m o).P.map qav)) ∧
      Rs fs' κ' (doM m o) lo' n' N' es' row' ∧ Fr fs fs' κ κ' m (doM m o) := by
  have hI := hJ.toIv
  have hP' : m.P.length < 2 ^ 42 := by omega
  have hP4 : (m.P.length + 1) * 40 ≤ 2 ^ 47 := by omega
  unfold f51 doM doE
  rw [eql_is, eql_is, eql_is, eql_is, eql_is, eql_is, eql_is, eql_is]
  by_cases d0 : o.d = 0
  · rw [if_pos d0]
    obtain ⟨fs', κ', es', q1, q2, q3⟩ := f63_is hI h (fuel := fuel) (most := m.most) o.n
    have r := f110_is hI hf (A := fs'.map fav) (name := o.n) (a5 := 0) (a6 := m.P.length) (a7 := m.P.length) (a8 := m.most) (a11 := m.P.map qav)
    obtain ⟨k1, k2, k3⟩ := create_keep (m := m) (name := o.n)
    refine ⟨fs', κ', lo, n, N, es', row, ?_, q2, q3⟩
    rw [k1, k3]
    exact ifB_is_t (decide_eq_true d0) <| bindR_is q1 <| bindR_is r (by simp only [eql_self])
  · rw [if_neg d0, ifB_f (decide_eq_false d0)]
    by_cases d1 : o.d = 1
    · rw [if_pos d1]
      obtain ⟨lo', n', N', row', q1, q2⟩ := f34_is hI h hP4 (name := o.n) (i := o.i) ho.len hf2 hf
      have r := f111_is hI hP hf hf2 (A := fs.map fav) (name := o.n) (i := o.i) ho.len
      obtain ⟨k1, k2, k3, _⟩ := write_keep (m := m) (name := o.n) (i := o.i) (b := o.b)
      refine ⟨fs, κ, lo', n', N', es, row', ?_, q2, .rfl' fun a ha => by unfold Mo.names at *; rwa [k1] at ha⟩
      rw [k1, k3]
      exact ifB_is_t (decide_eq_true d1) <| bindR_is q1 <| bindR_is r (by simp only [eql_self])
    · rw [if_neg d1, ifB_f (decide_eq_false d1)]
      by_cases d2 : o.d = 2
      · rw [if_pos d2]
        obtain ⟨fs', lo', n', N', row', q1, q2, q3⟩ := f64_is hI h hP' (name := o.n) (i := o.i) hf2 (most := m.most)
        have r := f112_is hI hP hf hf2 (A := fs'.map fav) (name := o.n) (i := o.i)
        obtain ⟨k2, k3, _⟩ := cut_keep (m := m) (name := o.n) (i := o.i)
        refine ⟨fs', κ, lo', n', N', es, row', ?_, q2, q3⟩
        have hll : (m.cut o.n o.i).2.L.length = m.L.length := by unfold Mo.cut; split <;> (try split) <;> simp [setL_length]
        rw [k3, hll]
        exact ifB_is_t (decide_eq_true d2) <| bindR_is q1 <| bindR_is r (by simp only [eql_self])
      · rw [if_neg d2, ifB_f (decide_eq_false d2)]
        by_cases d3 : o.d = 3
        · rw [if_pos d3]
          obtain ⟨fs', lo', n', N', row', q1, q2, q3⟩ := f33_is hI h hP' (name := o.n) hf2 (most := m.most)
          have r := f113_is hI hP hf hf2 (A := fs'.map fav) (name := o.n)
          obtain ⟨k2, k3, _⟩ := sync_keep (m := m) (name := o.n)
          have hll : (m.sync o.n).2.L.length = m.L.length := by unfold Mo.sync; split <;> simp [setL_length]
          refine ⟨fs', κ, lo', n', N', es, row', ?_, q2, q3⟩
          rw [k3, hll]
          exact ifB_is_t (decide_eq_true d3) <| bindR_is q1 <| bindR_is r (by simp only [eql_self])
        · rw [if_neg d3, ifB_f (decide_eq_false d3)]
          by_cases d4 : o.d = 4
          · rw [if_pos d4]
            obtain ⟨κ', lo', n', N', es', row', q1, q2, q3⟩ := f65_is hI h hP' (name := o.n) (to := o.to) hf2 (most := m.most)
            have r := f114_is hI hP hf hf2 (A := fs.map fav) (name := o.n) (to := o.to)
            obtain ⟨k2, k3, _⟩ := rename_keep (m := m) (name := o.n) (to := o.to)
            refine ⟨fs, κ', lo', n', N', es', row', ?_, q2, q3⟩
            rw [k3]
            exact ifB_is_t (decide_eq_true d4) <| bindR_is q1 <| bindR_is r (by simp only [eql_self])
          · rw [if_neg d4, ifB_f (decide_eq_false d4)]
            by_cases d5 : o.d = 5
            · rw [if_pos d5]
              obtain ⟨lo', n', N', es', row', q1, q2⟩ := f66_is hI h hP' (name := o.n) hf2 (most := m.most)
              have r := f115_is hI hP hf hf2 (A := fs.map fav) (name := o.n)
              obtain ⟨k2, k3, _⟩ := remove_keep (m := m) (name := o.n)
              refine ⟨fs, κ, lo', n', N', es', row', ?_, q2, .rfl' fun a ha => ?_⟩
              · rw [k3]
                exact ifB_is_t (decide_eq_true d5) <| bindR_is q1 <| bindR_is r (by simp only [eql_self])
              · revert ha
                unfold Mo.remove
                split
                · exact id
                · exact fun ha => (names_outM.1 ha).1
            · rw [if_neg d5, ifB_f (decide_eq_false d5)]
              by_cases d6 : o.d = 6
              · rw [if_pos d6]
                obtain ⟨fs', lo', n', N', row', q1, q2, q3⟩ := f36_is hI h hP' ho.i ho.k hf2 (most := m.most)
                have r := f116_is hI hP' hf hf2 (A := fs'.map fav) ho.i ho.k
                have hll : (m.crash o.i o.k).2.L.length = m.L.length := by unfold Mo.crash; split <;> simp
                refine ⟨fs', κ, lo', n', N', es, row', ?_, q2, q3⟩
                rw [hll]
                exact ifB_is_t (decide_eq_true d6) <| bindR_is q1 <| bindR_is r (by simp only [eql_self])
              · rw [if_neg d6, ifB_f (decide_eq_false d6)]
                by_cases d7 : o.d = 7
                · rw [if_pos d7]
                  obtain ⟨q1, q2, q3⟩ := f37_is h (fuel := fuel) (A := fs.map fav) (most := m.most)
                  have r := f117_is (m := m) (fuel := fuel) (A := fs.map fav) (a1 := 0) (a2 := m.L.length) (a3 := m.L.length) (a4 := 0) (a5 := m.P.length) (a6 := m.P.length) (a7 := m.most) (a9 := m.L.map lav) (a10 := m.P.map qav)
                  obtain ⟨k1, k2, k3⟩ := start_keep (m := m)
                  refine ⟨fs, κ, lo, n, N, es, row, ?_, q2, q3⟩
                  rw [k2, k3]
                  exact ifB_is_t (decide_eq_true d7) <| bindR_is q1 <| bindR_is r (by simp only [eql_self])
                · rw [if_neg d7, ifB_f (decide_eq_false d7)]
                  exact ⟨fs, κ, lo, n, N, es, row, rfl, h, .rfl' fun _ h => h⟩
theorem f48_is {room : Int} (h0 : 0 ≤ room) (h1 : room ≤ 4194304) {A : List AV} : f48 stdOps fuel room A = some (.v1 [] []) := by
  unfold f48
  exact ifB_is_f (by have : ¬ room < 0 := by omega
                     have : ¬ room > 4194304 := by omega
                     simp [stdOps, *]) rfl
theorem f49_is {room : Int} (h0 : 0 ≤ room) (h1 : room ≤ 4194304) {A : List AV} : f49 stdOps fuel room A = some (.v1 [] []) := by
  unfold f49
  exact ifB_is_f (by have : ¬ room < 0 := by omega
                     have : ¬ room > 4194304 := by omega
                     simp [stdOps, *]) rfl
theorem rs_new {room : Int} : Rs fs κ (.new room) 0 0 0 [] [] := ⟨rfl, rfl, Int.le_refl _, ⟨[], rfl⟩, ⟨[], rfl, List.Perm.refl _⟩, fun _a ha => absurd ha List.not_mem_nil, fun _x hx => absurd hx List.not_mem_nil⟩
def stepB (m : Mo) (o : Sop) : Mo := if o.d ≠ 6 ∧ o.d ≠ 7 then doM m o else m
theorem jv_step (h : Jv m) {o : Sop} (ho : o.Ok) : Jv (stepB m o) := by
  unfold stepB
  split
  · exact jv_do h ho
  · exact h
theorem step_keep {o : Sop} : (stepB m o).most = m.most ∧ (stepB m o).P.length ≤ m.P.length + 1 ∧ (stepB m o).down = m.down := by
  unfold stepB
  split
  · rename_i hd
    obtain ⟨h1, h2, h3⟩ := doM_keep (m := m) (o := o)
    exact ⟨h1, h2, h3 hd.1 hd.2⟩
  · exact ⟨rfl, by simp, rfl⟩
theorem gSop {l : List Sop} {i : Nat} {o : Sop} (h : l[i]? = some o) : stdOps.get (l.map Sop.av) (i : Int) = some o.av ∧ stdOps.inb (i : Int) (stdOps.len (l.map Sop.av)) ∧ stdOps.cmp .lss (i : Int) (stdOps.len (l.map Sop.av)) = true := by
  have hl := (List.getElem?_eq_some_iff.1 h).1
  refine ⟨by simp [stdOps, h], ?_, ?_⟩
  · show (0 : Int) ≤ i ∧ (i : Int) < ((l.map Sop.av).length : Int)
    simp; omega
  · rw [len_is, List.length_map]; exact lss_t hl
theorem f31_l0_is {l : List Sop} (hl : ∀ o ∈ l, o.Ok) (hll : (l.length + 1) * 48 ≤ 2 ^ 47) (hf : 5000 + l.length < fuel) : ∀ (rest pre : List Sop) (f : Nat) (fs : List (List AV)) (κ : ByteArray → Nat) (m : Mo) (lo n N : Int) (es : List (AV × AV)) (row : List AV),
    l = pre ++ rest → rest.length < f → Jv m → Rs fs κ m lo n N es row → m.P.length ≤ pre.length →
    ∃ fs' κ' lo' n' N' es' row', f31_l0 stdOps fuel (l.map Sop.av) m.most f pre.length (fs.map fav) lo n N m.down 0 m.L.length m.L.length 0 m.P.length m.P.length m.down es row (m.L.map lav) (m.P.map qav) =
        some (.x0 (fs'.map fav) lo' n' N' (rest.foldl stepB m).down 0 (rest.foldl stepB m).L.length (rest.foldl stepB m).L.length 0 (rest.foldl stepB m).P.length (rest.foldl stepB m).P.length (rest.foldl stepB m).down es' row' ((rest.foldl stepB m).L.map lav) ((rest.foldl stepB m).P.map qav)) ∧
      Rs fs' κ' (rest.foldl stepB m) lo' n' N' es' row' ∧ Fr fs fs' κ κ' m (rest.foldl stepB m) ∧ Jv (rest.foldl stepB m) ∧ (rest.foldl stepB m).P.length ≤ l.length
  | [], pre, f + 1, fs, κ, m, lo, n, N, es, row, hp, hf', hJ, h, hm => by
    rw [List.append_nil] at hp
    refine ⟨fs, κ, lo, n, N, es, row, ?_, h, .rfl' fun _ h => h, hJ, by rw [hp]; exact hm⟩
    rw [f31_l0, len_is, List.length_map]
    exact ifB_is_f (lss_f (by rw [hp]; simp)) rfl
  | o :: rest, pre, f + 1, fs, κ, m, lo, n, N, es, row, hp, hf', hJ, h, hm => by
    have hi : pre.length < l.length := by rw [hp]; simp
    obtain ⟨g1, g2, g3⟩ := gSop (l := l) (i := pre.length) (o := o) (by rw [hp]; simp)
    have ho := hl o (by rw [hp]; simp)
    have hidx : stdOps.ar .add .i64 (pre.length : Int) 1 = ((pre ++ [o]).length : Int) := by rw [add1 (by omega)]; simp
    obtain ⟨k1, k2, k3⟩ := step_keep (m := m) (o := o)
    have hpick : stdOps.pick (stdOps.bnot (stdOps.cmp .eql o.d 6)) (stdOps.bnot (stdOps.cmp .eql o.d 7)) false = decide (o.d ≠ 6 ∧ o.d ≠ 7) := by
      rw [eql_is, eql_is]
      by_cases a : o.d = 6 <;> by_cases b : o.d = 7 <;> simp [stdOps, a, b]
    by_cases hd : o.d ≠ 6 ∧ o.d ≠ 7
    · have hs : stepB m o = doM m o := if_pos hd
      obtain ⟨fs1, κ1, lo1, n1, N1, es1, row1, q1, q2, q3⟩ := f51_is hJ h (by omega) (by omega) (by omega) ho (fuel := fuel)
      rw [← hs] at q1 q2 q3
      obtain ⟨fs2, κ2, lo2, n2, N2, es2, row2, i1, i2, i3, i4, i5⟩ := f31_l0_is hl hll hf rest (pre ++ [o]) f fs1 κ1 (stepB m o) lo1 n1 N1 es1 row1 (by simpa using hp) (by simp at hf'; omega) (jv_step hJ ho) q2 (by simp; omega)
      rw [k1] at i1
      refine ⟨fs2, κ2, lo2, n2, N2, es2, row2, ?_, i2, q3.trans i3, i4, i5⟩
      rw [f31_l0, hidx]
      refine ifB_is_t g3 <| req_is g2 <| getA_is g1 ?_
      simp only [Sop.av, sh71]
      refine ifB_is_t (by rw [hpick, decide_eq_true hd]) <| bindR_is q1 ?_
      exact i1
    · have hs : stepB m o = m := if_neg hd
      obtain ⟨fs2, κ2, lo2, n2, N2, es2, row2, i1, i2, i3, i4, i5⟩ := f31_l0_is hl hll hf rest (pre ++ [o]) f fs κ m lo n N es row (by simpa using hp) (by simp at hf'; omega) hJ h (by simp; omega)
      have hfo : (o :: rest).foldl stepB m = rest.foldl stepB m := by rw [List.foldl_cons, hs]
      rw [hfo]
      refine ⟨fs2, κ2, lo2, n2, N2, es2, row2, ?_, i2, i3, i4, i5⟩
      rw [f31_l0, hidx]
      refine ifB_is_t g3 <| req_is g2 <| getA_is g1 ?_
      simp only [Sop.av, sh71]
      exact ifB_is_f (by rw [hpick, decide_eq_false hd]) i1
def builtM (room : Int) (l : List Sop) : Mo := l.foldl stepB (.new room)
theorem built_keep {l : List Sop} : ∀ {m : Mo}, (l.foldl stepB m).most = m.most ∧ (l.foldl stepB m).down = m.down := by
  induction l with
  | nil => exact ⟨rfl, rfl⟩
  | cons o l ih =>
    intro m
    have h1 := step_keep (m := m) (o := o)
    have h2 := ih (m := stepB m o)
    exact ⟨h2.1.trans h1.1, h2.2.trans h1.2.2⟩
theorem f31_is {l : List Sop} (hl : ∀ o ∈ l, o.Ok) (hll : (l.length + 1) * 48 ≤ 2 ^ 47) (hf : 5000 + l.length < fuel) {room : Int} (h0 : 0 ≤ room) (h1 : room ≤ 4194304) {fs : List (List AV)} :
    ∃ fs' κ' lo' n' N' es' row', f31 stdOps fuel room (l.map Sop.av) (fs.map fav) =
        some (.v1 (fs'.map fav) lo' n' N' (builtM room l).down 0 (builtM room l).L.length (builtM room l).L.length 0 (builtM room l).P.length (builtM room l).P.length (builtM room l).down es' row' ((builtM room l).L.map lav) ((builtM room l).P.map qav)) ∧
      Rs fs' κ' (builtM room l) lo' n' N' es' row' ∧ Fr fs fs' (fun _ => 0) κ' (.new room) (builtM room l) ∧ Jv (builtM room l) ∧ (builtM room l).P.length ≤ l.length := by
  obtain ⟨fs2, κ2, lo2, n2, N2, es2, row2, i1, i2, i3, i4, i5⟩ := f31_l0_is hl hll hf l [] fuel fs (fun _ => 0) (.new room) 0 0 0 [] [] rfl (by omega) (jv_new h0 h1) rs_new (by simp [Mo.new])
  refine ⟨fs2, κ2, lo2, n2, N2, es2, row2, ?_, i2, i3, i4, i5⟩
  unfold f31
  refine bindR_is (f48_is h0 h1) <| bindR_is (f49_is h0 h1) <| ifB_is_f (by rfl) ?_
  exact bindR_is i1 rfl
end
end Go.Proofs.Ytjdbmfipciadfaa.A
