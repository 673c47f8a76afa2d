/- Stores: the bytes that the document fixes; both the same. -/import Derived.Test.YtjdbmfipciadfaaSpJ
namespace Go.Proofs.Ytjdbmfipciadfaa.A
open Go Go.Pt
def u8 (n : Int) : AV := .int .u8 n
def ka : ByteArray := ⟨#[97]⟩
def lm1 : Mo := ⟨[(ka, [])], [], 10, false⟩
def lm2 : Mo := ⟨[(ka, [])], [⟨ka, 0, [u8 1, u8 2, u8 3]⟩], 10, false⟩
def lm3 : Mo := ⟨[(ka, [u8 1, u8 2, u8 3])], [], 10, false⟩
def lm4 : Mo := ⟨[(ka, [u8 1, u8 2, u8 3])], [⟨ka, 1, [u8 9, u8 9]⟩], 10, false⟩
def lm5 : Mo := ⟨[(ka, [u8 1, u8 2, u8 3])], [⟨ka, 1, [u8 9, u8 9]⟩, ⟨ka, 3, [u8 4]⟩], 10, false⟩
theorem le1 : (Mo.new 10).create ka = (0, lm1) := rfl
theorem le2 : lm1.write ka 0 [u8 1, u8 2, u8 3] = (0, lm2) := rfl
theorem le3 : lm2.sync ka = (0, lm3) := rfl
theorem le4 : lm3.write ka 1 [u8 9, u8 9] = (0, lm4) := rfl
theorem le5 : lm4.write ka 3 [u8 4] = (0, lm5) := rfl
theorem u8_isB {n : Nat} (h : n < 256) : ∃ b : UInt8, u8 n = .int .u8 b.toNat := ⟨UInt8.ofNat n, by simp [u8, Nat.mod_eq_of_lt h]⟩
theorem isB_lit {l : List Nat} (h : ∀ n ∈ l, n < 256) : isB (l.map fun n : Nat => u8 (n : Int)) := fun x hx => by
  obtain ⟨n, hn, rfl⟩ := List.mem_map.1 hx
  exact u8_isB (h n hn)
theorem lj1 : Jv lm1 := by have := jv_create (jv_new (room := 10) (by omega) (by omega)) (name := ka); rwa [le1] at this
theorem lj2 : Jv lm2 := by have := jv_write lj1 (name := ka) (i := 0) (b := [u8 1, u8 2, u8 3]) (isB_lit (l := [1, 2, 3]) (by decide)); rwa [le2] at this
theorem lj3 : Jv lm3 := by have := jv_sync lj2 (name := ka); rwa [le3] at this
theorem lj4 : Jv lm4 := by have := jv_write lj3 (name := ka) (i := 1) (b := [u8 9, u8 9]) (isB_lit (l := [9, 9]) (by decide)); rwa [le4] at this
theorem lj5 : Jv lm5 := by have := jv_write lj4 (name := ka) (i := 3) (b := [u8 4]) (isB_lit (l := [4]) (by decide)); rwa [le5] at this
def lwants : List AV := [.sl 1 [.int .u8 1, .int .u8 9, .int .u8 9] .no, .sl 1 [.int .u8 1, .int .u8 9, .int .u8 3] .no, .sl 1 [.int .u8 1, .int .u8 9, .int .u8 9, .int .u8 4] .no]
def lkeeps : List AV := [.int .i64 1, .int .i64 0, .int .i64 2]
def ltorns : List AV := [.int .i64 0, .int .i64 1, .int .i64 0]
def after (keep torn : Int) : Mo := (lm5.crash keep torn).2.start.2
section
variable {fuel : Nat} (hf : 5000 < fuel)
include hf
theorem f30_round {i : Nat} {want : List AV} {keep torn : Int} (h1 : lwants[i]? = some (.sl 1 want .no)) (h2 : lkeeps[i]? = some (.int .i64 keep)) (h3 : ltorns[i]? = some (.int .i64 torn)) (hk : -9223372036854775808 ≤ keep ∧ keep ≤ 9223372036854775807) (ht : -9223372036854775808 ≤ torn ∧ torn ≤ 9223372036854775807)
    (e1 : (lm5.crash keep torn).1 = 0) (e2 : (lm5.crash keep torn).2.down = true) (e3 : (lm5.crash keep torn).2.start.1 = 0) (_e4 : (after keep torn).down = false) (e5 : (after keep torn).fnd ka = 0) (hB : isB want)
    (e6 : (after keep torn).readB ka 0 want.length = want) (e7 : (after keep torn).readE ka 0 want.length = 0) (e8 : (after keep torn).size ka = want.length) (fs : List (List AV)) (f : Nat) :
    ∃ fs' : List (List AV), ∀ r, f30_l0 stdOps fuel f ((i + 1 : Nat) : Int) (fs'.map fav) = some r → f30_l0 stdOps fuel (f + 1) i (fs.map fav) = some r := by
  have hi : i < 3 := by
    have := (List.getElem?_eq_some_iff.1 h1).1
    simpa [lwants] using this
  obtain ⟨fs1, κ1, es1, a1, a2, a3⟩ := f63_is (jv_new (room := 10) (by omega) (by omega)).toIv (rs_new (fs := fs) (κ := fun _ => 0) (room := 10)) (fuel := fuel) (most := 10) ka
  rw [le1] at a1 a2 a3
  obtain ⟨lo2, n2, N2, row2, b1, b2⟩ := f34_is lj1.toIv a2 (by decide) (name := ka) (i := 0) (b := [u8 1, u8 2, u8 3]) (by decide) (fuel := fuel) (by show 0 < fuel; omega) hf
  rw [le2] at b1 b2
  obtain ⟨fs3, lo3, n3, N3, row3, c1, c2, c3⟩ := f33_is lj2.toIv b2 (by decide) (name := ka) (fuel := fuel) (by show 1 < fuel; omega) (most := 10)
  rw [le3] at c1 c2 c3
  obtain ⟨lo4, n4, N4, row4, d1, d2⟩ := f34_is lj3.toIv c2 (by decide) (name := ka) (i := 1) (b := [u8 9, u8 9]) (by decide) (fuel := fuel) (by show 0 < fuel; omega) hf
  rw [le4] at d1 d2
  obtain ⟨lo5, n5, N5, row5, g1, g2⟩ := f34_is lj4.toIv d2 (by decide) (name := ka) (i := 3) (b := [u8 4]) (by decide) (fuel := fuel) (by show 1 < fuel; omega) hf
  rw [le5] at g1 g2
  obtain ⟨fs6, lo6, n6, N6, row6, k1, k2, k3⟩ := f36_is lj5.toIv g2 (by decide) hk ht (fuel := fuel) (by show 2 < fuel; omega) (most := 10)
  rw [e1] at k1
  obtain ⟨s1, s2, s3⟩ := f37_is k2 (fuel := fuel) (A := fs6.map fav) (most := 10)
  rw [e3] at s1
  have hja : Jv (after keep torn) := jv_start (jv_crash lj5)
  have hpa : (after keep torn).P = [] := by
    unfold after
    rw [start_keep.2.2]; rfl
  have r1 := f39_is hja.toIv s2 (by rw [hpa]; decide) (fuel := fuel) (by rw [hpa]; show 0 < fuel; omega) (most := 10) (name := ka) (i := 0) (k := want.length)
  rw [e6, e7] at r1
  have r2 := f38_is hja.toIv s2 (by rw [hpa]; decide) (fuel := fuel) (by rw [hpa]; show 0 < fuel; omega) (most := 10) (name := ka)
  rw [e8, e5] at r2
  refine ⟨fs6, fun r hr => ?_⟩
  rw [f30_l0]
  have hin : ∀ L : List AV, L.length = 3 → stdOps.inb (i : Int) (stdOps.len L) := fun L hL => by
    show (0 : Int) ≤ i ∧ (i : Int) < (L.length : Int)
    omega
  have hget : ∀ (L : List AV) (v : AV), L[i]? = some v → stdOps.get L (i : Int) = some v := fun L v h => by
    show L[((i : Nat) : Int).toNat]? = _
    rw [Int.toNat_natCast]; exact h
  have hidx : stdOps.ar .add .i64 (i : Int) 1 = ((i + 1 : Nat) : Int) := add1 (by omega)
  refine ifB_is_t (lss_t (n := 3) hi) <| req_is (hin lwants rfl) <| getA_is (hget lwants _ h1) ?_
  simp only [sh69]
  refine bindR_is (f48_is (room := 10) (by omega) (by omega)) <| ifB_is_f rfl <| bindR_is a1 <| ifB_is_f rfl <| bindR_is b1 <| ifB_is_f rfl <| bindR_is c1 <| ifB_is_f rfl <| bindR_is d1 <| ifB_is_f rfl <| bindR_is g1 <| ifB_is_f rfl <| bindR_is (f35_is g2) <| ifB_is_f rfl <|
    req_is (hin lkeeps rfl) <| getA_is (hget lkeeps _ h2) ?_
  simp only [sh3]
  refine req_is (hin ltorns rfl) <| getA_is (hget ltorns _ h3) ?_
  refine bindR_is k1 <| ifB_is_f rfl <| bindR_is f67_is <| ifB_is_f (by rw [e2]; rfl) <| bindR_is s1 <| ifB_is_f rfl <| bindR_is r1 <| bindR_is r2 <| ifB_is_f rfl <| bindR_is (f40_is hB) <| ifB_is_f ?_ ?_
  · rw [len_is, eql_self]; rfl
  · rw [hidx]; exact hr
theorem f30_is (fs : List (List AV)) : ∃ fs' : List (List AV), f30 stdOps fuel (fs.map fav) = some (.v0 true (fs'.map fav)) := by
  obtain ⟨g, rfl⟩ : ∃ g, fuel = g + 4 := ⟨fuel - 4, by omega⟩
  have w1 : isB [.int .u8 1, .int .u8 9, .int .u8 9] := isB_lit (l := [1, 9, 9]) (by decide)
  have w2 : isB [.int .u8 1, .int .u8 9, .int .u8 3] := isB_lit (l := [1, 9, 3]) (by decide)
  have w3 : isB [.int .u8 1, .int .u8 9, .int .u8 9, .int .u8 4] := isB_lit (l := [1, 9, 9, 4]) (by decide)
  obtain ⟨fs1, h1⟩ := f30_round hf (i := 0) (want := [.int .u8 1, .int .u8 9, .int .u8 9]) (keep := 1) (torn := 0) rfl rfl rfl (by decide) (by decide) rfl rfl rfl rfl rfl w1 rfl rfl rfl fs (g + 3)
  obtain ⟨fs2, h2⟩ := f30_round hf (i := 1) (want := [.int .u8 1, .int .u8 9, .int .u8 3]) (keep := 0) (torn := 1) rfl rfl rfl (by decide) (by decide) rfl rfl rfl rfl rfl w2 rfl rfl rfl fs1 (g + 2)
  obtain ⟨fs3, h3⟩ := f30_round hf (i := 2) (want := [.int .u8 1, .int .u8 9, .int .u8 9, .int .u8 4]) (keep := 2) (torn := 0) rfl rfl rfl (by decide) (by decide) rfl rfl rfl rfl rfl w3 rfl rfl rfl fs2 (g + 1)
  have h4 : f30_l0 stdOps (g + 4) (g + 1) ((2 + 1 : Nat) : Int) (fs3.map fav) = some (.x6 (fs3.map fav)) := by
    rw [f30_l0]
    exact ifB_is_f rfl rfl
  refine ⟨fs3, ?_⟩
  unfold f30
  exact bindR_is (h1 _ (h2 _ (h3 _ h4))) rfl
end
section
variable {fs : List (List AV)} {κ : ByteArray → Nat} {m : Mo} {lo n N : Int} {es : List (AV × AV)} {row : List AV} {fuel : Nat}
theorem isB_readB (hJ : Jv m) {name : ByteArray} {i k : Int} : isB (m.readB name i k) := by
  unfold Mo.readB
  split
  · exact isB_nil
  · rename_i h0
    have hm := (fnd0.1 (by simpa using h0)).2
    split
    · exact isB_nil
    · exact isB_drop (isB_take (hJ.all_isB hm))
theorem isB_sureR (hJ : Jv m) {name : ByteArray} : isB (m.sureR name) := by
  unfold Mo.sureR
  split
  · exact isB_nil
  · rename_i h0
    have hm := (fnd0.1 (by simpa using h0)).2
    exact hJ.bL _ (Mo.mem_sure hJ.nodup hm)
theorem f54_l0_is (hJ : Jv m) (h : Rs fs κ m lo n N es row) (hP : m.P.length < 2 ^ 42) (hf : 5000 < fuel) (hf2 : m.P.length < fuel) {a1 a2 : ByteArray} {a3 a4 a0 a18 : Int} {a5 : List AV} : ∀ (d i f : Nat), i + d = 1 + m.names.length → d < f →
    f54_l0 stdOps fuel a1 (m.names.map nav) (fs.map fav) m.most lo n N m.down es row 0 m.L.length m.L.length 0 m.P.length m.P.length a18 m.down (m.L.map lav) (m.P.map qav) a3 a4 a0 a2 a5 f i = some .x1
  | 0, i, f + 1, hi, hf' => by
    have hl : stdOps.len (stdOps.apnd [.str a1] (m.names.map nav)) = ((1 + m.names.length : Nat) : Int) := by
      show (([AV.str a1] ++ m.names.map nav).length : Int) = _
      simp; omega
    rw [f54_l0, hl]
    exact ifB_is_f (lss_f (by omega)) rfl
  | d + 1, i, f + 1, hi, hf' => by
    have hI := hJ.toIv
    have hl : stdOps.len (stdOps.apnd [.str a1] (m.names.map nav)) = ((1 + m.names.length : Nat) : Int) := by
      show (([AV.str a1] ++ m.names.map nav).length : Int) = _
      simp; omega
    have hmx := hI.max
    have hnl : m.names.length ≤ 4096 := by simpa [Mo.names] using hmx
    obtain ⟨name, hn⟩ : ∃ name : ByteArray, stdOps.get (stdOps.apnd [.str a1] (m.names.map nav)) (i : Int) = some (.str name) := by
      have hlt : i < (a1 :: m.names).length := by simp; omega
      refine ⟨(a1 :: m.names)[i], ?_⟩
      show ([AV.str a1] ++ m.names.map nav)[((i : Nat) : Int).toNat]? = _
      rw [Int.toNat_natCast, show [AV.str a1] ++ m.names.map nav = (a1 :: m.names).map nav from rfl, List.getElem?_map, List.getElem?_eq_getElem hlt]; rfl
    have hidx : stdOps.ar .add .i64 (i : Int) 1 = ((i + 1 : Nat) : Int) := add1 (by omega)
    have ih := f54_l0_is hJ h hP hf hf2 (a1 := a1) (a2 := a2) (a3 := a3) (a4 := a4) (a0 := a0) (a18 := a18) (a5 := a5) d (i + 1) f (by omega) (by omega)
    rw [f54_l0, hl, hidx]
    refine ifB_is_t (lss_t (by omega)) <| req_is (show (0 : Int) ≤ i ∧ (i : Int) < ((1 + m.names.length : Nat) : Int) by omega) <| getA_is hn ?_
    simp only [sh9]
    refine bindR_is (f38_is hI h hP hf2) <| bindR_is (f121_is hI hP hf hf2) <| bindR_is (f39_is hI h hP hf2) <| bindR_is (f122_is hI hP hf hf2) <| bindR_is (f41_is hI h) <| bindR_is (f123_is hI hf) <| bindR_is (f39_is hI h hP hf2) <| bindR_is (f122_is hI hP hf hf2) <|
      ifB_is_f (by rw [eql_self, eql_self]; rfl) <| bindR_is (f40_is (isB_readB hJ)) <| ifB_is_f (by rw [eql_self]; rfl) <| bindR_is (f40_is (isB_sureR hJ)) <| ifB_is_f (by rw [eql_self]; rfl) <| bindR_is (f40_is (isB_readB hJ)) <| ifB_is_f (by rw [eql_self]; rfl) ih
theorem f54_is (hJ : Jv m) (h : Rs fs κ m lo n N es row) (hP : m.P.length < 2 ^ 42) (hf : 5000 < fuel) (hf2 : m.P.length < fuel) {o : Sop} :
    f54 stdOps fuel o.d o.n o.to o.i o.k o.b (fs.map fav) m.most lo n N m.down 0 m.L.length m.L.length 0 m.P.length m.P.length m.most m.down es row (m.L.map lav) (m.P.map qav) = some (.v0 true es) := by
  have hI := hJ.toIv
  have hmx := hI.max
  have hnl : m.names.length ≤ 4096 := by simpa [Mo.names] using hmx
  unfold f54
  refine bindR_is (f32_is hI h hf) <| bindR_is (f119_is hI hf) <| bindR_is (f118_is hnl hf) <| ifB_is_t rfl <| bindR_is (f35_is h) <| ifB_is_t (by rw [eql_self]; rfl) <| bindR_is (f52_is hI h hP hf2 hf) <| bindR_is (f120_is hI hP hf hf2) <| ifB_is_t (by rw [eql_self, eql_self]; rfl) <|
    bindR_is f67_is <| ifB_is_f (by rw [eql_self, eql_self]; cases m.down <;> rfl) <| bindR_is (f119_is hI hf) <| req_is (room_ok (by simp; omega)) <| bindR_is (f54_l0_is hJ h hP hf hf2 (1 + m.names.length) 0 fuel (by omega) (by omega)) rfl
end
end Go.Proofs.Ytjdbmfipciadfaa.A
