/- Stores: what is told of a store by both; clones; lists compared. -/import Derived.Test.YtjdbmfipciadfaaSpG
namespace Go.Proofs.Ytjdbmfipciadfaa.A
open Go Go.Pt
def Mo.size (m : Mo) (name : ByteArray) : Int := if m.fnd name ≠ 0 then 0 else ((m.all name).length : Int)
def Mo.sureR (m : Mo) (name : ByteArray) : List AV := if m.fnd name ≠ 0 then [] else m.sure name
def Mo.badR (m : Mo) (name : ByteArray) (i k : Int) : Prop := k < 0 ∨ i < 0 ∨ ((m.all name).length : Int) < i ∨ ((m.all name).length : Int) - i < k
instance (m : Mo) (name : ByteArray) (i k : Int) : Decidable (m.badR name i k) := by unfold Mo.badR; infer_instance
def Mo.readE (m : Mo) (name : ByteArray) (i k : Int) : Int := if m.fnd name ≠ 0 then m.fnd name else if m.badR name i k then 33 else 0
def Mo.readB (m : Mo) (name : ByteArray) (i k : Int) : List AV := if m.fnd name ≠ 0 then [] else if m.badR name i k then [] else ((m.all name).take (i + k).toNat).drop i.toNat
theorem pick_bad {b : List AV} {i k : Int} (hb : b.length ≤ 2 ^ 40) : stdOps.pick (stdOps.pick (stdOps.pick (stdOps.cmp .lss k 0) true (stdOps.cmp .lss i 0)) true (stdOps.cmp .gtr i (stdOps.len b))) true (stdOps.cmp .gtr k (stdOps.ar .sub .i64 (stdOps.len b) i)) =
    decide (k < 0 ∨ i < 0 ∨ (b.length : Int) < i ∨ (b.length : Int) - i < k) := by
  by_cases h1 : k < 0
  · simp [stdOps, h1]
  · by_cases h2 : i < 0
    · simp [stdOps, h1, h2]
    · by_cases h3 : (b.length : Int) < i
      · simp [stdOps, h1, h2, h3]
      · have hs : stdOps.ar .sub .i64 (stdOps.len b) i = (b.length : Int) - i := wr_i64 (by rw [len_is]; omega) (by rw [len_is]; omega)
        rw [hs]
        simp [stdOps, h1, h2, h3]
section
variable {fs : List (List AV)} {κ : ByteArray → Nat} {m : Mo} {lo n N : Int} {es : List (AV × AV)} {row : List AV} {fuel : Nat} {most : Int}
theorem f35_is (h : Rs fs κ m lo n N es row) {A : List AV} {down : Bool} : f35 stdOps fuel A most lo n N down es row = some (.v0 (m.P.length : Int)) := by
  unfold f35
  rw [bindR_eq f96_is, h.len]; rfl
theorem f67_is {A : List AV} {down : Bool} : f67 stdOps fuel A most lo n N down es row = some (.v0 (!down)) := by
  unfold f67
  rw [bindR_eq f96_is]; cases down <;> rfl
theorem f38_is (hI : Iv m) (h : Rs fs κ m lo n N es row) (hP : m.P.length < 2 ^ 42) (hf : m.P.length < fuel) {name : ByteArray} :
    f38 stdOps fuel name (fs.map fav) most lo n N m.down es row = some (.v0 (m.size name) (m.fnd name)) := by
  unfold f38 Mo.size
  rw [bindR_eq (f92_is h)]
  rcases fnd_find (κ := κ) (m := m) name with ⟨h0, hd, hm, hv⟩ | ⟨h0, hv⟩
  · rw [hv, if_neg (by simpa using h0)]
    simp only
    rw [ifB_f bnot_eq, bindR_eq (f93_at hI h hP hm hf), h0]; rfl
  · rw [hv, if_pos h0]
    exact ifB_is_t (bnot_ne h0) rfl
theorem f41_is (hI : Iv m) (h : Rs fs κ m lo n N es row) {name : ByteArray} :
    f41 stdOps fuel name (fs.map fav) most lo n N m.down es row = some (.v0 (m.sureR name) (m.fnd name)) := by
  unfold f41 Mo.sureR
  rw [bindR_eq (f92_is h)]
  rcases fnd_find (κ := κ) (m := m) name with ⟨h0, hd, hm, hv⟩ | ⟨h0, hv⟩
  · rw [hv, if_neg (by simpa using h0)]
    simp only
    obtain ⟨g1, g2⟩ := h.fget (Mo.mem_sure hI.nodup hm)
    rw [ifB_f bnot_eq, h0]
    refine req_is g2 <| getA_is g1 ?_
    simp only [fav, sh147]
    have := hI.sure_le hm
    exact bindR_is (f95_is (by omega)) rfl
  · rw [hv, if_pos h0]
    exact ifB_is_t (bnot_ne h0) rfl
theorem f39_is (hI : Iv m) (h : Rs fs κ m lo n N es row) (hP : m.P.length < 2 ^ 42) (hf : m.P.length < fuel) {name : ByteArray} {i k : Int} :
    f39 stdOps fuel name i k (fs.map fav) most lo n N m.down es row = some (.v0 (m.readB name i k) (m.readE name i k)) := by
  unfold f39 Mo.readB Mo.readE
  rw [bindR_eq (f92_is h)]
  rcases fnd_find (κ := κ) (m := m) name with ⟨h0, hd, hm, hv⟩ | ⟨h0, hv⟩
  · have hz : ¬ (m.fnd name ≠ 0) := by simpa using h0
    rw [hv, if_neg hz, if_neg hz]
    have hal := hI.all_le hm
    simp only
    rw [ifB_f bnot_eq, bindR_eq (f93_at hI h hP hm hf)]
    simp only
    rw [pick_bad (by omega)]
    by_cases hb : m.badR name i k
    · rw [if_pos hb, if_pos hb]
      exact ifB_is_t (by rw [decide_eq_true_eq]; exact hb) rfl
    · rw [if_neg hb, if_neg hb, ifB_f (by rw [decide_eq_false_iff_not]; exact hb)]
      unfold Mo.badR at hb
      have hs : stdOps.ar .add .i64 i k = i + k := wr_i64 (by omega) (by omega)
      rw [hs]
      exact req_is (show (0 : Int) ≤ i by omega) <| req_is (show i ≤ i + k by omega) <| req_is (Int.le_refl _) <| req_is (show i + k ≤ ((m.all name).length : Int) by omega) rfl
  · rw [hv, if_pos h0, if_pos h0]
    exact ifB_is_t (bnot_ne h0) rfl
theorem f32_l0_is (_hI : Iv m) {l : List ByteArray} (hl : l.length ≤ 4096) {A : List AV} {a1 a2 a3 a4 : Int} {a5 : Bool} {r10 : List (AV × AV)} {a7 : List AV} : ∀ (rest pre : List ByteArray) (f t : Nat), l = pre ++ rest → rest.length < f →
    ∃ t', f32_l0 stdOps fuel (l.map nav) A a1 a2 a3 a4 a5 r10 a7 f t pre.length (pre.map nav) = some (.x0 (l.map nav) t')
  | [], pre, f + 1, t, hp, hf => by
    rw [List.append_nil] at hp
    refine ⟨t, ?_⟩
    rw [f32_l0, len_is, List.length_map]
    refine ifB_is_f (lss_f (by rw [hp]; simp)) ?_
    rw [hp]
  | x :: rest, pre, f + 1, t, hp, hf => by
    have hi : pre.length < l.length := by rw [hp]; simp
    have hg : stdOps.get (l.map nav) (pre.length : Int) = some (nav x) := by simp [stdOps, hp]
    have hidx : stdOps.ar .add .i64 (pre.length : Int) 1 = ((pre ++ [x]).length : Int) := by rw [add1 (by omega)]; simp
    obtain ⟨t', ih⟩ := f32_l0_is _hI hl (A := A) (a1 := a1) (a2 := a2) (a3 := a3) (a4 := a4) (a5 := a5) (r10 := r10) (a7 := a7) rest (pre ++ [x]) f (stdOps.padd t [.str x]) (by simpa using hp) (by simp at hf; omega)
    refine ⟨t', ?_⟩
    rw [f32_l0, len_is, List.length_map, hidx]
    refine ifB_is_t (lss_t hi) <| req_is (show (0 : Int) ≤ pre.length ∧ (pre.length : Int) < l.length by omega) <| getA_is hg ?_
    simp only [nav, sh9]
    have e : stdOps.apnd (pre.map nav) [.str x] = (pre ++ [x]).map nav := by rw [List.map_append]; rfl
    rw [e]
    exact req_is (room_ok (by rw [List.length_map]; simp; omega)) ih
theorem f32_is (hI : Iv m) (h : Rs fs κ m lo n N es row) (hf : 5000 < fuel) {A : List AV} {down : Bool} : f32 stdOps fuel A most lo n N down es row = some (.v0 (m.names.map nav) es) := by
  have hl : m.names.length ≤ 4096 := by simp only [Mo.names, List.length_map]; exact hI.max
  obtain ⟨t', hl0⟩ := f32_l0_is hI hl (fuel := fuel) (A := A) (a1 := most) (a2 := lo) (a3 := n) (a4 := N) (a5 := down) (r10 := es) (a7 := row) m.names [] fuel 0 rfl (by omega)
  unfold f32
  exact bindR_is (v := .v0) rfl <| bindR_is f96_is <| ifB_is_f rfl <| bindR_is (v := .v0) rfl <| bindR_is (names_is hI h) <| bindR_is hl0 rfl
theorem f121_is (hI : Iv m) (hP : m.P.length < 2 ^ 42) (hf : 5000 < fuel) (hf2 : m.P.length < fuel) {A : List AV} {name : ByteArray} {a4 a7 a8 : Int} :
    f121 stdOps fuel name A 0 m.L.length a4 0 m.P.length a7 a8 m.down (m.L.map lav) (m.P.map qav) = some (.v0 (m.size name) (m.fnd name)) := by
  unfold f121 Mo.size
  rw [bindR_eq (f144_is hI hf)]
  simp only
  by_cases h0 : m.fnd name = 0
  · have hm := (fnd0.1 h0).2
    rw [if_neg (by simpa using h0), h0, ifB_f bnot_eq]
    exact bindR_is (f145_is hI hP hm hf hf2) rfl
  · rw [if_pos h0]
    exact ifB_is_t (bnot_ne h0) rfl
theorem f123_is (hI : Iv m) (hf : 5000 < fuel) {A : List AV} {name : ByteArray} {a4 a5 a6 a7 a8 : Int} {a11 : List AV} :
    f123 stdOps fuel name A 0 m.L.length a4 a5 a6 a7 a8 m.down (m.L.map lav) a11 = some (.v0 (m.sureR name) (m.fnd name)) := by
  have hmx := hI.max
  unfold f123 Mo.sureR
  rw [bindR_eq (f144_is hI hf)]
  simp only
  by_cases h0 : m.fnd name = 0
  · have hm := (fnd0.1 h0).2
    rw [if_neg (by simpa using h0), h0, ifB_f bnot_eq]
    obtain ⟨B, C, q1, q2, q3⟩ := split_name hI hm
    obtain ⟨g1, g2, g3⟩ := get0 (f := lav) (l := m.L) (i := B.length) (v := (name, m.sure name)) (by rw [q1]; simp)
    have := hI.sure_le hm
    refine bindR_is (f142_at (by omega) (by omega) q1 q2) <| req_is g3 <| req_is g2 <| getA_is g1 ?_
    simp only [lav, sh164]
    exact req_is (room_ok (by simp; omega)) rfl
  · rw [if_pos h0]
    exact ifB_is_t (bnot_ne h0) rfl
theorem f122_is (hI : Iv m) (hP : m.P.length < 2 ^ 42) (hf : 5000 < fuel) (hf2 : m.P.length < fuel) {A : List AV} {name : ByteArray} {i k : Int} {a4 a7 a8 : Int} :
    f122 stdOps fuel name i k A 0 m.L.length a4 0 m.P.length a7 a8 m.down (m.L.map lav) (m.P.map qav) = some (.v0 (m.readB name i k) (m.readE name i k)) := by
  unfold f122 Mo.readB Mo.readE
  rw [bindR_eq (f144_is hI hf)]
  simp only
  by_cases h0 : m.fnd name = 0
  · have hm := (fnd0.1 h0).2
    have hal := hI.all_le hm
    have hz : ¬ (m.fnd name ≠ 0) := by simpa using h0
    rw [if_neg hz, if_neg hz, h0, ifB_f bnot_eq, bindR_eq (f145_is hI hP hm hf hf2)]
    simp only
    rw [pick_bad (by omega)]
    by_cases hb : m.badR name i k
    · rw [if_pos hb, if_pos hb]
      exact ifB_is_t (by rw [decide_eq_true_eq]; exact hb) rfl
    · rw [if_neg hb, if_neg hb, ifB_f (by rw [decide_eq_false_iff_not]; exact hb)]
      unfold Mo.badR at hb
      have hs : stdOps.ar .add .i64 i k = i + k := wr_i64 (by omega) (by omega)
      rw [hs]
      refine req_is (show (0 : Int) ≤ i by omega) <| req_is (show i ≤ i + k by omega) <| req_is (show i + k ≤ ((m.all name).length : Int) by omega) <| req_is (room_ok ?_) rfl
      show (0 + (((m.all name).take (i + k).toNat).drop i.toNat).length) * 1 ≤ 2 ^ 47
      rw [List.length_drop, List.length_take]; omega
  · rw [if_pos h0, if_pos h0]
    exact ifB_is_t (bnot_ne h0) rfl
theorem f119_l0_is {L : List (ByteArray × List AV)} (hl : L.length ≤ 4096) {A : List AV} {a3 a4 a5 a6 a7 : Int} {a8 : Bool} {a10 : List AV} : ∀ (rest pre : List (ByteArray × List AV)) (f t : Nat), L = pre ++ rest → rest.length < f →
    ∃ t', f119_l0 stdOps fuel L.length 0 (L.map lav) A a3 a4 a5 a6 a7 a8 a10 f t ((pre.map Prod.fst).map nav) pre.length = some (.x0 ((L.map Prod.fst).map nav) t')
  | [], pre, f + 1, t, hp, hf => by
    rw [List.append_nil] at hp
    refine ⟨t, ?_⟩
    rw [f119_l0]
    refine ifB_is_f (lss_f (by rw [hp]; simp)) ?_
    rw [hp]
  | x :: rest, pre, f + 1, t, hp, hf => by
    have hi : pre.length < L.length := by rw [hp]; simp
    obtain ⟨g1, g2, g3⟩ := get0 (f := lav) (l := L) (i := pre.length) (v := x) (by rw [hp]; simp)
    have hidx : stdOps.ar .add .i64 (pre.length : Int) 1 = ((pre ++ [x]).length : Int) := by rw [add1 (by omega)]; simp
    obtain ⟨t', ih⟩ := f119_l0_is hl (A := A) (a3 := a3) (a4 := a4) (a5 := a5) (a6 := a6) (a7 := a7) (a8 := a8) (a10 := a10) rest (pre ++ [x]) f (stdOps.padd t [.str x.1]) (by simpa using hp) (by simp at hf; omega)
    refine ⟨t', ?_⟩
    rw [f119_l0, hidx]
    refine ifB_is_t (lss_t hi) <| req_is g3 <| req_is g2 <| getA_is g1 ?_
    simp only [lav, sh164]
    have e : stdOps.apnd ((pre.map Prod.fst).map nav) [.str x.1] = ((pre ++ [x]).map Prod.fst).map nav := by rw [List.map_append, List.map_append]; rfl
    rw [e]
    exact req_is (room_ok (by simp; omega)) ih
theorem f119_is (hI : Iv m) (hf : 5000 < fuel) {A : List AV} {a3 a4 a5 a6 a7 : Int} {a8 : Bool} {a10 : List AV} :
    f119 stdOps fuel A 0 m.L.length a3 a4 a5 a6 a7 a8 (m.L.map lav) a10 = some (.v0 (m.names.map nav)) := by
  have hmx := hI.max
  obtain ⟨t', hl⟩ := f119_l0_is hmx (fuel := fuel) (A := A) (a3 := a3) (a4 := a4) (a5 := a5) (a6 := a6) (a7 := a7) (a8 := a8) (a10 := a10) m.L [] fuel 0 rfl (by omega)
  unfold f119
  exact bindR_is hl rfl
theorem f118_l0_is {A : List AV} {l : List ByteArray} (hl : l.length ≤ 4096) : ∀ (d i f : Nat), i + d = l.length → d < f → f118_l0 stdOps fuel (l.map nav) (l.map nav) A f i = some .x1
  | 0, i, f + 1, hi, hf => by
    rw [f118_l0, len_is, List.length_map]
    exact ifB_is_f (lss_f (by omega)) rfl
  | d + 1, i, f + 1, hi, hf => by
    have hlt : i < l.length := by omega
    have hg : stdOps.get (l.map nav) (i : Int) = some (nav l[i]) := by simp [stdOps, hlt]
    have ih := f118_l0_is (A := A) hl d (i + 1) f (by omega) (by omega)
    rw [f118_l0, len_is, List.length_map, add1 (by omega)]
    have hin : stdOps.inb (i : Int) (l.length : Int) := show (0 : Int) ≤ i ∧ (i : Int) < l.length by omega
    refine ifB_is_t (lss_t hlt) <| req_is hin <| getA_is hg ?_
    simp only [nav, sh9]
    refine req_is hin <| getA_is hg ?_
    exact ifB_is_f (by rw [seq_is, decide_eq_true rfl]; rfl) ih
theorem f118_is {A : List AV} {l : List ByteArray} (hl : l.length ≤ 4096) (hf : 5000 < fuel) : f118 stdOps fuel (l.map nav) (l.map nav) A = some (.v0 true) := by
  unfold f118
  refine ifB_is_f (by rw [eql_is, decide_eq_true rfl]; rfl) ?_
  exact bindR_is (f118_l0_is hl l.length 0 fuel (by omega) (by omega)) rfl
def isB (l : List AV) : Prop := ∀ x ∈ l, ∃ b : UInt8, x = .int .u8 b.toNat
theorem f40_is {A l : List AV} (h : isB l) : f40 stdOps fuel l l A = some (.v0 true) := by
  unfold f40
  exact req_is h <| req_is h (by rw [seq_is, decide_eq_true rfl])
theorem f50_l0_is (hI : Iv m) {A : List AV} {a3 a4 a5 a6 a7 : Int} {a8 : Bool} {a10 : List AV} : ∀ (rest pre : List (ByteArray × List AV)) (f : Nat), m.L = pre ++ rest → rest.length < f →
    f50_1_l0 stdOps fuel m.L.length 0 (m.L.map lav) A a3 a4 a5 a6 a7 a8 a10 f pre.length pre.length pre.length (pre.map lav) = some (.x0 m.L.length m.L.length (m.L.map lav))
  | [], pre, f + 1, hp, hf => by
    rw [List.append_nil] at hp
    rw [f50_1_l0]
    refine ifB_is_f (lss_f (by rw [hp]; simp)) ?_
    rw [hp]
  | x :: rest, pre, f + 1, hp, hf => by
    have hi : pre.length < m.L.length := by rw [hp]; simp
    have hx : x ∈ m.L := by rw [hp]; simp
    have hmx := hI.max
    obtain ⟨g1, g2, g3⟩ := get0 (f := lav) (l := m.L) (i := pre.length) (v := x) (by rw [hp]; simp)
    have hidx : stdOps.ar .add .i64 (pre.length : Int) 1 = ((pre ++ [x]).length : Int) := by rw [add1 (by omega)]; simp
    have hsl := hI.sure_le (List.mem_map_of_mem hx : x.1 ∈ m.names)
    rw [Mo.sure_of hI.nodup (show (x.1, x.2) ∈ m.L from hx)] at hsl
    have ih := f50_l0_is hI (A := A) (a3 := a3) (a4 := a4) (a5 := a5) (a6 := a6) (a7 := a7) (a8 := a8) (a10 := a10) rest (pre ++ [x]) f (by simpa using hp) (by simp at hf; omega)
    have e1 : stdOps.sub (pre.map lav) 0 (pre.length : Int) = pre.map lav := by
      have := sub_all (A := pre.map lav)
      rwa [len_is, List.length_map] at this
    have e2 : stdOps.apnd (pre.map lav) [.agg [.str x.1, .sl 1 (stdOps.apnd [] x.2) .no]] = (pre ++ [x]).map lav := by rw [List.map_append]; rfl
    have e3 : stdOps.len ((pre ++ [x]).map lav) = ((pre ++ [x]).length : Int) := by rw [len_is, List.length_map]
    rw [f50_1_l0, hidx]
    refine ifB_is_t (lss_t hi) <| req_is g3 <| req_is g2 <| getA_is g1 ?_
    simp only [lav, sh164]
    refine req_is g3 <| req_is g2 <| getA_is g1 ?_
    simp only [lav]
    rw [e1, e2, e3]
    exact req_is (room_ok (by simp; omega)) <| req_is rfl <| req_is (show (0 : Int) ≤ pre.length by omega) <| req_is (show (pre.length : Int) ≤ ((pre.map lav).length : Int) by simp) <| req_is (room_ok (by simp; omega)) ih
theorem f50_is (hI : Iv m) (hP : (m.P.length + 1) * 48 ≤ 2 ^ 47) (hf : 5000 < fuel) {A : List AV} {a3 a6 : Int} {a7 : Int} {a8 : Bool} :
    f50_1 stdOps fuel A 0 m.L.length a3 0 m.P.length a6 a7 a8 (m.L.map lav) (m.P.map qav) = some (.v0 0 m.L.length m.L.length 0 m.P.length m.P.length (m.L.map lav) (m.P.map qav)) := by
  have hmx := hI.max
  unfold f50_1
  refine bindR_is (f50_l0_is hI m.L [] fuel rfl (by omega)) ?_
  have e : stdOps.sub (m.P.map qav) 0 (stdOps.sum 0 (m.P.length : Int)) = m.P.map qav := by
    have := sub_all0 (A := m.P.map qav)
    rwa [len_is, List.length_map] at this
  simp only
  rw [e, len_is, List.length_map]
  exact req_is (show (0 : Int) ≤ 0 by omega) <| req_is (show (0 : Int) ≤ m.P.length by omega) <| req_is (show (0 : Int) + (m.P.length : Int) ≤ (m.P.length : Int) by omega) <| req_is rfl <| req_is (room_ok (by simp; omega)) rfl
end
end Go.Proofs.Ytjdbmfipciadfaa.A
