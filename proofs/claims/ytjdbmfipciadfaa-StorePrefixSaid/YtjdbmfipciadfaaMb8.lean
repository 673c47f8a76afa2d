/- Stores: the law StorePrefix: a crash keeps a prefix of the writes; the other store is given that prefix. -/import Derived.Test.YtjdbmfipciadfaaMb7
import Derived.Test.YtjdbmfipciadfaaMa3
import Derived.Test.YtjdbmfipciadfaaProg
import Derived.ProofKit
namespace Go.Proofs.Ytjdbmfipciadfaa.A
open Go Go.Pt
section
variable {fs : List (List AV)} {κ κ' : ByteArray → Nat} {m : Mo} {lo n N lo' n' N' : Int} {es es' : List (AV × AV)} {row row' : List AV} {fuel : Nat}
def bits (T : Nat) (b : List AV) : List AV := b.take (T % (b.length + 1))
def tornP (T : Nat) (o : Sop) : List Pw := if bits T o.b = [] then [] else [⟨o.n, o.i, bits T o.b⟩]
def given (W : List Sop) (K T : Nat) : List Pw := (W.take K).map Sop.pw ++ (match W[K]? with | some o => tornP T o | none => [])
theorem given_le {W : List Sop} {K T : Nat} (h : W.length ≤ K) : given W K T = W.map Sop.pw := by
  unfold given
  rw [List.take_of_length_le h, List.getElem?_eq_none h, List.append_nil]
theorem given_at {W : List Sop} {T : Nat} {o : Sop} : given (W ++ [o]) W.length T = W.map Sop.pw ++ tornP T o := by
  unfold given
  rw [List.take_left, List.getElem?_append_right (Nat.le_refl _), Nat.sub_self]; rfl
theorem given_gt {W : List Sop} {K T : Nat} {o : Sop} (h : K < W.length) : given (W ++ [o]) K T = given W K T := by
  unfold given
  rw [List.take_append_of_le_length (by omega), List.getElem?_append_left h]
theorem given_len {W : List Sop} {K T : Nat} : (given W K T).length ≤ W.length := by
  by_cases h : W.length ≤ K
  · rw [given_le h, List.length_map]; exact Nat.le_refl _
  · unfold given
    rw [List.getElem?_eq_getElem (by omega), List.length_append, List.length_map, List.length_take]
    have : (tornP T W[K]).length ≤ 1 := by unfold tornP; split <;> simp
    show min K W.length + (tornP T W[K]).length ≤ W.length
    omega
theorem bare_nat {n : Nat} : bare (n : Int) = n := by
  unfold bare
  rw [if_neg (by omega), Int.natAbs_natCast]
theorem ov_nil {b : List AV} {i : Nat} : ov b i [] = b := by unfold ov; simp
theorem given_seen {W : List Sop} {K T : Nat} (hK : K ≤ W.length) {a : ByteArray} {b : List AV} : seen (given W K T) a b = seen (kept (W.map Sop.pw) (K : Int) (T : Int)) a b := by
  unfold given kept
  rw [bare_nat, List.length_map, Nat.mod_eq_of_lt (by omega), List.getElem?_map, ← List.map_take, seen_append, seen_append]
  cases h : W[K]? with
  | none => rfl
  | some o =>
    simp only [Option.map_some, bare_nat]
    unfold tornP
    show seen (if bits T o.b = [] then [] else [⟨o.n, o.i, bits T o.b⟩]) a _ = seen [⟨o.n, o.i, bits T o.b⟩] a _
    split
    · rename_i e
      rw [e]
      show _ = seen1 a _ ⟨o.n, o.i, []⟩
      unfold seen1
      rw [ov_nil]
      split <;> rfl
    · rfl
theorem rem_nat {a c : Nat} (ha : a < 256) (hc : c < 2 ^ 60) : stdOps.ar .rem .i64 (stdOps.wrap .i64 (a : Int)) (stdOps.ar .add .i64 (c : Int) 1) = ((a % (c + 1) : Nat) : Int) := by
  rw [add1 hc, show stdOps.wrap .i64 (a : Int) = (a : Int) from wr_i64 (by omega) (by omega)]; rfl
theorem f6_l2_is {W : List Sop} (hW : Taken m W) (hWl : (W.length + 1) * 80 ≤ 2 ^ 47) (hf0 : 5000 < fuel) (hf1 : W.length < fuel) {k T : Nat} (hk : k < 256) (hT : T < 256) (hm : m.most = 4096) {r43 : Bool} (hd : r43 = m.down) {y159 : Nat} {r168 r169 r170 : Int} {r174 : Bool} {y163 : List (AV × AV)} {r172 : List AV} {K : Nat} (hK : K = k % (W.length + 1)) : ∀ (rest pre : List Sop) (f : Nat) (lo n N : Int) (row : List AV), W = pre ++ rest → rest.length < f →
    Jv (m.on (given pre K T)) → Rs fs κ (m.on (given pre K T)) lo n N es row →
    ∃ lo1 n1 N1 row1, f6_l2 stdOps fuel (W.map Sop.av) (k : Int) (T : Int) (fs.map fav) r43 y159 r168 r169 r170 r174 y163 r172 f pre.length lo n N es row = some (.x1 lo1 n1 N1 es row1) ∧
      Jv (m.on (given W K T)) ∧ Rs fs κ (m.on (given W K T)) lo1 n1 N1 es row1
  | [], pre, f + 1, lo, n, N, row, hp, hf, hJ, h => by
    rw [List.append_nil] at hp
    subst hp
    refine ⟨lo, n, N, row, ?_, hJ, h⟩
    rw [f6_l2, len_is, List.length_map]
    exact ifB_is_f (lss_f (by simp)) rfl
  | o :: rest, pre, f + 1, lo, n, N, row, hp, hf, hJ, h => by
    have hi : pre.length < W.length := by rw [hp]; simp
    obtain ⟨g1, g2, g3⟩ := gSop (l := W) (i := pre.length) (o := o) (by rw [hp]; simp)
    obtain ⟨t1, t2, ho⟩ := hW pre o rest hp
    have hidx : stdOps.ar .add .i64 (pre.length : Int) 1 = ((pre ++ [o]).length : Int) := by rw [add1 (by omega)]; simp
    have hPl : (m.on (given pre K T)).P.length ≤ pre.length := by rw [on_P]; exact given_len
    have hrem : stdOps.ar .rem .i64 (stdOps.wrap .i64 (k : Int)) (stdOps.ar .add .i64 (stdOps.len (W.map Sop.av)) 1) = (K : Int) := by
      rw [len_is, List.length_map, rem_nat hk (by omega), hK]
    have hrem2 : stdOps.ar .rem .i64 (stdOps.wrap .i64 (T : Int)) (stdOps.ar .add .i64 (stdOps.len o.b) 1) = ((T % (o.b.length + 1) : Nat) : Int) := by
      rw [len_is, rem_nat hT (by have := ho.len; omega)]
    have hml : T % (o.b.length + 1) < o.b.length + 1 := Nat.mod_lt _ (by omega)
    have hbl : stdOps.ar .add .i64 (stdOps.len o.b) 1 = ((o.b.length + 1 : Nat) : Int) := by rw [len_is, add1 (by have := ho.len; omega)]
    have hsub : stdOps.sub o.b 0 ((T % (o.b.length + 1) : Nat) : Int) = bits T o.b := by
      show (o.b.take ((T % (o.b.length + 1) : Nat) : Int).toNat).drop 0 = _
      rw [List.drop_zero, Int.toNat_natCast]; rfl
    have hbits : (bits T o.b).length ≤ o.b.length := by unfold bits; rw [List.length_take]; omega
    subst hd
    have ih := fun lo n N row => f6_l2_is hW hWl hf0 hf1 hk hT hm (r43 := m.down) rfl (y159 := y159) (r168 := r168) (r169 := r169) (r170 := r170) (r174 := r174) (y163 := y163) (r172 := r172) hK rest (pre ++ [o]) f lo n N row (by simpa using hp) (by simp at hf; omega)
    have hwr : ∀ b : List AV, b.length ≤ 2 ^ 47 → ∃ lo1 n1 N1 row1, f34 stdOps fuel o.n o.i b (fs.map fav) 4096 lo n N m.down es row = some (.v0 ((m.on (given pre K T)).write o.n o.i b).1 lo1 n1 N1 es row1) ∧ Rs fs κ ((m.on (given pre K T)).write o.n o.i b).2 lo1 n1 N1 es row1 := by
      intro b hb
      have := f34_is hJ.toIv h (by omega) (name := o.n) (i := o.i) (b := b) hb (fuel := fuel) (by omega) hf0
      rw [← hm]; exact this
    rcases Nat.lt_trichotomy pre.length K with hlt | heq | hgt
    · have hg0 : given pre K T = pre.map Sop.pw := given_le (by omega)
      have hg1 : given (pre ++ [o]) K T = pre.map Sop.pw ++ [o.pw] := by rw [given_le (by simp; omega), List.map_append]; rfl
      obtain ⟨lo1, n1, N1, row1, q1, q2⟩ := hwr o.b ho.len
      have hJ2 := jv_write hJ (name := o.n) (i := o.i) ho.b
      rw [hg0, t1] at q1 q2 hJ2
      rw [hg1] at ih
      obtain ⟨lo2, n2, N2, row2, i1, i2⟩ := ih lo1 n1 N1 row1 hJ2 q2
      refine ⟨lo2, n2, N2, row2, ?_, i2⟩
      rw [f6_l2, hidx, hrem]
      refine ifB_is_t g3 <| req_is g2 <| getA_is g1 ?_
      simp only [Sop.av, sh71]
      exact ifB_is_f (by rw [eql_is, decide_eq_false_iff_not]; omega) <| ifB_is_t (by simp [stdOps]; omega) <| bindR_is q1 <| ifB_is_f bnot_eq i1
    · have hg0 : given pre K T = pre.map Sop.pw := given_le (by omega)
      have hg1 : given (pre ++ [o]) K T = pre.map Sop.pw ++ tornP T o := by rw [← heq]; exact given_at
      obtain ⟨lo1, n1, N1, row1, q1, q2⟩ := hwr (bits T o.b) (by have := ho.len; omega)
      have hJ2 := jv_write hJ (name := o.n) (i := o.i) (b := bits T o.b) (isB_take ho.b)
      have hle := write_less (m := m.on (pre.map Sop.pw)) (name := o.n) (i := o.i) (b := o.b) (c := bits T o.b) (by rw [t1]) hbits
      have hst : (if bits T o.b = [] then m.on (pre.map Sop.pw) else ⟨(m.on (pre.map Sop.pw)).L, (m.on (pre.map Sop.pw)).P ++ [⟨o.n, o.i, bits T o.b⟩], (m.on (pre.map Sop.pw)).most, (m.on (pre.map Sop.pw)).down⟩) = m.on (given (pre ++ [o]) K T) := by
        rw [hg1]
        unfold tornP
        split
        · rw [List.append_nil]
        · rfl
      rw [hg0, hle, hst] at q1 q2 hJ2
      obtain ⟨lo2, n2, N2, row2, i1, i2⟩ := ih lo1 n1 N1 row1 hJ2 q2
      refine ⟨lo2, n2, N2, row2, ?_, i2⟩
      rw [f6_l2, hidx, hrem]
      refine ifB_is_t g3 <| req_is g2 <| getA_is g1 ?_
      simp only [Sop.av, sh71]
      rw [hrem2, hsub, hbl]
      exact ifB_is_t (by rw [eql_is, decide_eq_true_eq]; omega) <| req_is (show ((o.b.length + 1 : Nat) : Int) ≠ 0 by omega) <| req_is (show (0 : Int) ≤ ((T % (o.b.length + 1) : Nat) : Int) by omega) <| req_is (show ((T % (o.b.length + 1) : Nat) : Int) ≤ (o.b.length : Int) by omega) <|
        ifB_is_t (by simp [stdOps]; omega) <| bindR_is q1 <| ifB_is_f bnot_eq i1
    · have hg1 : given (pre ++ [o]) K T = given pre K T := given_gt hgt
      rw [hg1] at ih
      obtain ⟨lo2, n2, N2, row2, i1, i2⟩ := ih lo n N row hJ h
      refine ⟨lo2, n2, N2, row2, ?_, i2⟩
      rw [f6_l2, hidx, hrem]
      refine ifB_is_t g3 <| req_is g2 <| getA_is g1 ?_
      simp only [Sop.av, sh71]
      exact ifB_is_f (by rw [eql_is, decide_eq_false_iff_not]; omega) <| ifB_is_f (by simp [stdOps]; omega) i1
theorem read_all {a : ByteArray} (hd : m.down = false) (ha : a ∈ m.names) : m.size a = ((m.all a).length : Int) ∧ m.fnd a = 0 ∧ m.readE a 0 (m.size a) = 0 ∧ m.readB a 0 (m.size a) = m.all a := by
  have h0 := (sureR_of hd ha).1
  have hz : ¬ (m.fnd a ≠ 0) := by simp [h0]
  have hs : m.size a = ((m.all a).length : Int) := by unfold Mo.size; rw [if_neg hz]
  have hb : ¬ m.badR a 0 ((m.all a).length : Int) := by unfold Mo.badR; omega
  refine ⟨hs, h0, ?_, ?_⟩
  · rw [hs]; unfold Mo.readE; rw [if_neg hz, if_neg hb]
  · rw [hs]; unfold Mo.readB; rw [if_neg hz, if_neg hb, Int.zero_add, Int.toNat_natCast, List.take_length]; rfl
theorem f6_l3_is {m' : Mo} (hJ : Jv m) (hJ' : Jv m') (h : Rs fs κ m lo n N es row) (h' : Rs fs κ' m' lo' n' N' es' row') (hd : m.down = false) (hd' : m'.down = false) (hP : m.P.length < 2 ^ 42) (hP' : m'.P.length < 2 ^ 42) (hf : m.P.length < fuel) (hf' : m'.P.length < fuel) (hn : m'.names = m.names) (hall : ∀ a ∈ m.names, m'.all a = m.all a) : ∀ (rest pre : List ByteArray) (f : Nat), m.names = pre ++ rest → rest.length < f →
    f6_l3 stdOps fuel (m.names.map nav) (fs.map fav) lo n N false es row lo' n' N' false es' row' f pre.length = some .x1
  | [], pre, f + 1, hp, hf1 => by
    rw [f6_l3, len_is, List.length_map]
    exact ifB_is_f (lss_f (by rw [hp]; simp)) rfl
  | x :: rest, pre, f + 1, hp, hf1 => by
    have hmx : m.names.length ≤ 4096 := by simpa [Mo.names] using hJ.max
    have hi : pre.length < m.names.length := by rw [hp]; simp
    have hx : x ∈ m.names := by rw [hp]; simp
    have hg : stdOps.get (m.names.map nav) (pre.length : Int) = some (nav x) := by simp [stdOps, hp]
    have hidx : stdOps.ar .add .i64 (pre.length : Int) 1 = ((pre ++ [x]).length : Int) := by rw [add1 (by omega)]; simp
    have ih := f6_l3_is hJ hJ' h h' hd hd' hP hP' hf hf' hn hall rest (pre ++ [x]) f (by simpa using hp) (by simp at hf1; omega)
    obtain ⟨s1, s2, s3, s4⟩ := read_all hd hx
    obtain ⟨t1, t2, t3, t4⟩ := read_all hd' (hn ▸ hx)
    have a1 := f38_is hJ.toIv h hP hf (name := x) (most := 4096)
    have a2 := f38_is hJ'.toIv h' hP' hf' (name := x) (most := 4096)
    have a3 := f39_is hJ.toIv h hP hf (name := x) (i := 0) (k := m.size x) (most := 4096)
    have a4 := f39_is hJ'.toIv h' hP' hf' (name := x) (i := 0) (k := m'.size x) (most := 4096)
    rw [s3, s4] at a3
    rw [t3, t4, hall x hx] at a4
    rw [hd] at a1 a3
    rw [hd'] at a2 a4
    have hb : isB (m.all x) := isB_seen hJ.bP (hJ.bL _ (Mo.mem_sure hJ.nodup hx))
    rw [f6_l3, len_is, List.length_map, hidx]
    refine ifB_is_t (lss_t hi) <| req_is (show (0 : Int) ≤ pre.length ∧ (pre.length : Int) < m.names.length by omega) <| getA_is hg ?_
    simp only [nav, sh9]
    exact bindR_is a1 <| bindR_is a2 <| bindR_is a3 <| bindR_is a4 <| ifB_is_f rfl <| bindR_is (f40_is hb) <| ifB_is_f rfl ih
theorem f6_is {l more : List Sop} (hl : ∀ o ∈ l, o.Ok) (hll : (l.length + 1) * 48 ≤ 2 ^ 47) (hm : ∀ o ∈ more, o.Ok) (hml : (more.length + 1) * 80 ≤ 2 ^ 47) (hf : 5000 + l.length < fuel) (hf2 : more.length < fuel) {k T : Nat} (hk : k < 256) (hT : T < 256) : ∃ A, f6 stdOps fuel (l.map Sop.av) (more.map Sop.av) (k : Int) (T : Int) [] = some (.v0 true A) := by
  obtain ⟨fs1, hlive⟩ := f30_is (fuel := fuel) (by omega) []
  obtain ⟨fs2, κ2, lo2, n2, N2, es2, row2, b1, b2, b3, hJ, b5⟩ := f31_is hl hll (by omega) (room := 4096) (by omega) (by omega) (fs := fs1) (fuel := fuel)
  obtain ⟨fs3, κ3, lo3, n3, N3, es3, row3, c1, c2, c3, _, _⟩ := f31_is hl hll (by omega) (room := 4096) (by omega) (by omega) (fs := fs2) (fuel := fuel)
  have b2' : Rs fs3 κ2 (builtM 4096 l) lo2 n2 N2 es2 row2 := b2.frame c3 fun k _ ⟨a, ha, _⟩ => absurd ha List.not_mem_nil
  have hap : Apart κ2 κ3 (builtM 4096 l) := by
    intro k ⟨a, ha, e⟩ h2
    have h1 := b2.lt ha
    rcases c3.new k h2 with ⟨a, ha, _⟩ | h3
    · exact absurd ha List.not_mem_nil
    · omega
  obtain ⟨hmo, hd⟩ := built_keep (l := l) (m := .new 4096)
  have hd : (builtM 4096 l).down = false := hd
  have hmo : (builtM 4096 l).most = 4096 := hmo
  have hmx : (builtM 4096 l).names.length ≤ 4096 := by simpa [Mo.names] using hJ.max
  have g1 := f32_is (fuel := fuel) (most := 4096) hJ.toIv b2' (by omega) (A := fs3.map fav) (down := (builtM 4096 l).down)
  obtain ⟨fs4, m4, lo4, n4, N4, row4, lo5, n5, N5, row5, d1, hJ4, hd4, hn4, hP4, hmo4, r4, r5, ap4⟩ := f6_l0_is (fuel := fuel) (l := (builtM 4096 l).names) (by omega) (a1 := more.map Sop.av) (a2 := k) (a3 := T) (builtM 4096 l).names [] fuel fs3 (builtM 4096 l) lo2 n2 N2 lo3 n3 N3 row2 row3 rfl (by omega)
    hJ hd rfl (fun _ _ => List.not_mem_nil) (by omega) (by omega) b2' c2 hap
  have hmo4 : m4.most = 4096 := hmo4.trans hmo
  have hon : m4.on [] = m4 := by
    obtain ⟨L, P, most, down⟩ := m4
    simp only at hP4
    subst hP4; rfl
  obtain ⟨W, t6, lo6, n6, N6, row6, e1, e2, hW, hJ6, r6⟩ := f6_l1_is (fuel := fuel) hm hml (by omega) hf2 (r27 := (builtM 4096 l).down) (r43 := (builtM 4096 l).down) (a2 := k) (a3 := T) (y98 := lo5) (y99 := n5) (y100 := N5) (r51 := es3) (y101 := row5) hmo4 (hd.trans hd4.symm) more [] fuel 0 [] lo4 n4 N4 row4 rfl (by omega) (Nat.le_refl _)
    (fun A o C e => by simp at e) (by rw [List.map_nil, hon]; exact hJ4) (by rw [List.map_nil, hon]; exact r4)
  have hPW : (m4.on (W.map Sop.pw)).P.length = W.length := by rw [on_P, List.length_map]
  have g2 := f35_is (fuel := fuel) (most := 4096) r6 (A := fs4.map fav) (down := (builtM 4096 l).down)
  rw [hPW] at g2
  obtain ⟨K, hK⟩ : ∃ K, K = k % (W.length + 1) := ⟨_, rfl⟩
  have hKl : K < W.length + 1 := by rw [hK]; exact Nat.mod_lt _ (by omega)
  have hrem : stdOps.ar .rem .i64 (stdOps.wrap .i64 (k : Int)) (stdOps.ar .add .i64 (stdOps.len (W.map Sop.av)) 1) = (K : Int) := by
    rw [len_is, List.length_map, rem_nat hk (by omega), hK]
  have hwT : stdOps.wrap .i64 (T : Int) = (T : Int) := wr_i64 (by omega) (by omega)
  have hd6 : (m4.on (W.map Sop.pw)).down = false := hd4
  obtain ⟨fs7, lo7, n7, N7, row7, s1, s2, s3⟩ := f36_is hJ6.toIv r6 (by omega) (keep := K) (torn := T) (by omega) (by omega) (fuel := fuel) (by omega) (most := 4096)
  obtain ⟨u1, u2, _⟩ := f37_is s2 (fuel := fuel) (A := fs7.map fav) (most := 4096)
  obtain ⟨z0, z1, z2⟩ := again_is hd6 (k := K) (t := T)
  have hJ7 : Jv ((m4.on (W.map Sop.pw)).again K T) := jv_start (jv_crash hJ6)
  have r7 : Rs fs7 κ2 ((m4.on (W.map Sop.pw)).again K T) lo7 n7 N7 es2 row7 := u2
  have hdn7 : ((m4.on (W.map Sop.pw)).again K T).down = false := by rw [z0]
  have hnm7 := again_names hd6 (k := K) (t := T)
  have r5' : Rs fs7 κ3 m4 lo5 n5 N5 es3 row5 := r5.frame s3 fun k h1 ⟨a, ha, h2⟩ => ap4 k ⟨a, ha, h2⟩ h1
  have hg0 : given [] K T = [] := given_le (Nat.zero_le _)
  obtain ⟨lo8, n8, N8, row8, v1, hJ8, r8⟩ := f6_l2_is (fuel := fuel) hW (by omega) (by omega) (by omega) hk hT hmo4 (r43 := (builtM 4096 l).down) (hd.trans hd4.symm) (y159 := t6) (r168 := lo7) (r169 := n7) (r170 := N7) (r174 := ((m4.on (W.map Sop.pw)).crash K T).2.start.2.down) (y163 := es2) (r172 := row7) hK W [] fuel lo5 n5 N5 row5 rfl (by omega)
    (by rw [hg0, hon]; exact hJ4) (by rw [hg0, hon]; exact r5')
  have hP7 : ((m4.on (W.map Sop.pw)).again K T).P.length = 0 := by rw [z0]; rfl
  have hgl := given_len (W := W) (K := K) (T := T)
  have g3 := f32_is (fuel := fuel) (most := 4096) hJ7.toIv r7 (by omega) (A := fs7.map fav) (down := ((m4.on (W.map Sop.pw)).crash K T).2.start.2.down)
  have hdx : ((m4.on (W.map Sop.pw)).crash K T).2.start.2.down = false := hdn7
  have hnl : ((m4.on (W.map Sop.pw)).again K T).names.length ≤ 4096 := by simpa [Mo.names] using hJ7.max
  have g4 := f6_l3_is (fuel := fuel) hJ7 hJ8 r7 r8 hdn7 hd4 (by omega) (by rw [on_P]; omega) (by omega) (by rw [on_P]; omega) hnm7.symm (fun a ha => by
      rw [hnm7] at ha
      show seen (given W K T) a (m4.sure a) = seen ((m4.on (W.map Sop.pw)).again K T).P a (((m4.on (W.map Sop.pw)).again K T).sure a)
      rw [again_sure hJ6.toIv hd6 ha, given_seen (by omega)]
      rw [z0]; rfl) ((m4.on (W.map Sop.pw)).again K T).names [] fuel rfl (by omega)
  rw [z1] at s1
  rw [z2] at u1
  rw [hd6, ← hd] at s1
  refine ⟨fs7.map fav, ?_⟩
  rw [show (([] : List Sop).map Sop.av) = [] from rfl] at e1
  unfold f6
  refine bindR_is hlive <| ifB_is_f rfl <| bindR_is b1 <| bindR_is c1 <| bindR_is g1 <| bindR_is d1 <| bindR_is e1 <| bindR_is g2 <| ifB_is_f (by rw [len_is, List.length_map, eql_is, decide_eq_true rfl]; rfl) <| req_is (show stdOps.ar .add .i64 (stdOps.len (W.map Sop.av)) 1 ≠ 0 by rw [len_is, List.length_map, add1 (by omega)]; omega) ?_
  rw [hrem, hwT]
  refine bindR_is s1 <| ifB_is_f bnot_eq <| bindR_is u1 <| ifB_is_f bnot_eq <| bindR_is v1 <| bindR_is g3 ?_
  rw [hdx, hd]
  exact bindR_is g4 rfl
end
end Go.Proofs.Ytjdbmfipciadfaa.A
namespace Go.Proofs.Ytjdbmfipciadfaa.A
open Go Go.Pt Go.ChangeShapes Go.WideShapes Go.ChangeAt Go.RowKit
theorem wf64 {n : Int} (h : (Lit.int .i64 n).wf = true) : -9223372036854775808 ≤ n ∧ n ≤ 9223372036854775807 := by
  simp only [Lit.wf, Bool.and_eq_true, decide_eq_true_eq] at h
  have h1 : IntKind.i64.min = -9223372036854775808 := by decide
  have h2 : IntKind.i64.max = 9223372036854775807 := by decide
  rw [h1, h2] at h
  exact h
theorem wf8 {n : Int} (h : (Lit.int .u8 n).wf = true) : 0 ≤ n ∧ n < 256 := by
  simp only [Lit.wf, Bool.and_eq_true, decide_eq_true_eq] at h
  have h1 : IntKind.u8.min = 0 := by decide
  have h2 : IntKind.u8.max = 255 := by decide
  rw [h1, h2] at h
  omega
theorem isB_of {l : List Int} (h : ∀ x ∈ l, (Lit.int .u8 x).wf = true) : isB (l.map fun x => AV.int .u8 x) := by
  intro x hx
  obtain ⟨n, hn, rfl⟩ := List.mem_map.1 hx
  have := wf8 (h n hn)
  refine ⟨UInt8.ofNat n.toNat, ?_⟩
  have e : (UInt8.ofNat n.toNat).toNat = n.toNat := by rw [UInt8.toNat_ofNat']; omega
  rw [e, show ((n.toNat : Nat) : Int) = n by omega]
theorem rdBytes : Rd Try.prog 69 (List Int) (fun l => .sl 1 (l.map fun x => AV.int .u8 x) .no) (fun l => (∀ x ∈ l, (Lit.int .u8 x).wf = true) ∧ l.length * Try.prog.bytesOf 5 ≤ reachBytes) := rd_slice Try.underlying69 (by kernel_rfl) (by decide) (rd_int Try.underlying5)
theorem rdSop : Rd Try.prog 71 Sop Sop.av Sop.Ok :=
  rd_conv (rd_struct Try.underlying71 (rdf_cons rfl (rd_int Try.underlying3) (rdf_cons (by kernel_rfl) (rd_str Try.underlying9) (rdf_cons (by kernel_rfl) (rd_str Try.underlying9) (rdf_cons (by kernel_rfl) (rd_int Try.underlying3) (rdf_cons (by kernel_rfl) (rd_int Try.underlying3) (rdf_cons (by kernel_rfl) rdBytes (rdf_end (by kernel_rfl)))))))))
    (fun x => ⟨x.1, x.2.1, x.2.2.1, x.2.2.2.1, x.2.2.2.2.1, x.2.2.2.2.2.1.map fun y => AV.int .u8 y⟩) (fun _ => rfl) (fun x h => ⟨wf64 h.2.2.2.1, wf64 h.2.2.2.2.1, isB_of h.2.2.2.2.2.1.1, by
      have h2 := h.2.2.2.2.2.1.2
      rw [show Try.prog.bytesOf 5 = 1 by kernel_rfl] at h2
      unfold reachBytes at h2
      simp only [List.length_map]
      omega⟩)
theorem rdSops : Rd Try.prog 59 (List Sop) (fun l => .sl 6 (l.map Sop.av) .no) (fun l => (∀ o ∈ l, o.Ok) ∧ l.length * Try.prog.bytesOf 71 ≤ reachBytes) := rd_slice Try.underlying59 (by kernel_rfl) (by decide) rdSop
theorem sops_len {l : List Sop} (h : l.length * Try.prog.bytesOf 71 ≤ reachBytes) : l.length * 80 ≤ 2 ^ 47 := by
  rw [show Try.prog.bytesOf 71 = 80 by kernel_rfl] at h
  unfold reachBytes at h
  omega
theorem own : ownKnob Try.prog.godebug = none := by kernel_rfl
theorem laidOut : laidOutB Try.prog = true := by kernel_rfl
end Go.Proofs.Ytjdbmfipciadfaa.A
